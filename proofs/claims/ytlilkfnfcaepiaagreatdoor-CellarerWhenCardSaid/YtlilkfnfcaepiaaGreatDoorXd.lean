/- The disk in plain words; New, Read, Name, Sync. -/
import Derived.Test.YtlilkfnfcaepiaaGreatDoorXh
import Derived.Maps.OwnOps
import Derived.Maps.RangeWalk
import Derived.Maps.OwnSet
import Derived.Maps.Ext
import Derived.StringKeys
set_option linter.unusedSimpArgs false
set_option linter.unusedVariables false
namespace Go.Proofs.YtlilkfnfcaepiaaGreatDoor.D
open Go.RowKit Go.Proofs.YtlilkfnfcaepiaaGreatDoorW.PrintWords

/-- The disk's own block. -/
def DB (w : World) (d : Nat) (room : Int) (mf ms : Nat) (sv : Value) (arm : Int) (dead : Bool) : Prop :=
  w.heap[d]? = some (.cells #[.int .i64 room, .map (some mf), .map (some ms), sv, .int .i64 arm, .bool dead] 72 (0, 0))
section
variable {w : World} {d : Nat} {room : Int} {mf ms : Nat} {sv : Value} {arm : Int} {dead : Bool}
theorem DB.c0 (h : DB w d room mf ms sv arm dead) : w.cell? ⟨d, 0, none⟩ = some (.int .i64 room) := by unfold DB at h; simp [World.cell?, h]
theorem DB.c1 (h : DB w d room mf ms sv arm dead) : w.cell? ⟨d, 1, none⟩ = some (.map (some mf)) := by unfold DB at h; simp [World.cell?, h]
theorem DB.c2 (h : DB w d room mf ms sv arm dead) : w.cell? ⟨d, 2, none⟩ = some (.map (some ms)) := by unfold DB at h; simp [World.cell?, h]
theorem DB.c3 (h : DB w d room mf ms sv arm dead) : w.cell? ⟨d, 3, none⟩ = some sv := by unfold DB at h; simp [World.cell?, h]
theorem DB.c4 (h : DB w d room mf ms sv arm dead) : w.cell? ⟨d, 4, none⟩ = some (.int .i64 arm) := by unfold DB at h; simp [World.cell?, h]
theorem DB.c5 (h : DB w d room mf ms sv arm dead) : w.cell? ⟨d, 5, none⟩ = some (.bool dead) := by unfold DB at h; simp [World.cell?, h]
theorem DB.free (h : DB w d room mf ms sv arm dead) (k : Nat) : w.frozen? ⟨d, k, none⟩ = false := by unfold DB at h; simp [World.frozen?, h]
theorem DB.lt (h : DB w d room mf ms sv arm dead) : d < w.heap.size := (Array.getElem?_eq_some_iff.1 h).1
theorem set_at {w : World} {b : Nat} {cs : Array Value} {e : Nat} {f : Nat × Nat} (h : w.heap[b]? = some (.cells cs e f)) (k : Nat) (v : Value) : (w.setCell ⟨b, k, none⟩ v).heap[b]? = some (.cells (cs.setIfInBounds k v) e f) := by
  simp [World.setCell, Array.getElem?_modify, h]
theorem DB.setArm (h : DB w d room mf ms sv arm dead) (n : Int) : DB (w.setCell ⟨d, 4, none⟩ (.int .i64 n)) d room mf ms sv n dead := set_at h 4 _
theorem DB.setDead (h : DB w d room mf ms sv arm dead) (n : Bool) : DB (w.setCell ⟨d, 5, none⟩ (.bool n)) d room mf ms sv arm n := set_at h 5 _
theorem DB.setSteps (h : DB w d room mf ms sv arm dead) (n : Value) : DB (w.setCell ⟨d, 3, none⟩ n) d room mf ms n arm dead := set_at h 3 _
theorem DB.setSafe (h : DB w d room mf ms sv arm dead) (n : Nat) : DB (w.setCell ⟨d, 2, none⟩ (.map (some n))) d room mf n sv arm dead := set_at h 2 _
theorem DB.setFiles (h : DB w d room mf ms sv arm dead) (n : Nat) : DB (w.setCell ⟨d, 1, none⟩ (.map (some n))) d room n ms sv arm dead := set_at h 1 _
theorem DB.move (h : DB w d room mf ms sv arm dead) {w1 : World} (hm : w1.heap[d]? = w.heap[d]?) : DB w1 d room mf ms sv arm dead := hm.trans h
end

/-- Only blocks of F, or new ones, may differ. -/
structure Chg (F : Nat → Prop) (w w' : World) : Prop where
  os : w'.os = w.os
  tape : w'.tape = w.tape
  output : w'.output = w.output
  size : w.heap.size ≤ w'.heap.size
  block : ∀ b, b < w.heap.size → ¬ F b → w'.heap[b]? = w.heap[b]?
theorem Chg.refl (F : Nat → Prop) (w : World) : Chg F w w := ⟨rfl, rfl, rfl, Nat.le_refl _, fun _ _ _ => rfl⟩
theorem Chg.trans {F : Nat → Prop} {a b c : World} (h : Chg F a b) (k : Chg F b c) : Chg F a c :=
  ⟨k.os.trans h.os, k.tape.trans h.tape, k.output.trans h.output, Nat.le_trans h.size k.size, fun i hi hf => (k.block i (Nat.lt_of_lt_of_le hi h.size) hf).trans (h.block i hi hf)⟩
theorem Chg.mono {F F' : Nat → Prop} {a b : World} (h : Chg F a b) (hf : ∀ k, k < a.heap.size → F k → F' k) : Chg F' a b := ⟨h.os, h.tape, h.output, h.size, fun i hi hn => h.block i hi (fun x => hn (hf i hi x))⟩
theorem Chg.of_below {F : Nat → Prop} {a b : World} (h : Below a.heap.size a b) : Chg F a b := ⟨h.os, h.tape, h.output, h.size, fun i hi _ => h.block i hi⟩
theorem Chg.setCell {F : Nat → Prop} {a w : World} (h : Chg F a w) {p : Addr} (hp : F p.block) (u : Value) : Chg F a (w.setCell p u) :=
  h.trans ⟨rfl, rfl, rfl, by simp [World.setCell], fun k _ hf => Below.heap_setCell _ _ _ _ (fun e => hf (e ▸ hp))⟩
theorem Chg.below {F : Nat → Prop} {a w w' : World} (h : Chg F a w) (k : Below w.heap.size w w') : Chg F a w' := h.trans (Chg.of_below k)
/-- A store into a block that is new to a. -/
theorem Chg.setNew {F : Nat → Prop} {a w : World} (h : Chg F a w) {p : Addr} (hp : a.heap.size ≤ p.block) (u : Value) : Chg F a (w.setCell p u) :=
  ⟨h.os, h.tape, h.output, by simpa [World.setCell] using h.size, fun k hk hf => (Below.heap_setCell _ _ _ _ (by omega)).trans (h.block k hk hf)⟩
theorem Chg.toBelow {F : Nat → Prop} {a w : World} (h : Chg F a w) {B : Nat} (hB : B ≤ a.heap.size) (hF : ∀ k, k < B → ¬ F k) : Below B a w := ⟨h.os, h.tape, h.output, h.size, fun k hk => h.block k (by omega) (hF k hk)⟩

/-- What alive does to the arm and to the disk's death. -/
def aliveArm (arm : Int) : Int := if arm = 0 then -1 else if 0 < arm then arm - 1 else arm
def aliveDead (arm : Int) (dead : Bool) : Bool := if arm = 0 then true else dead

set_option maxHeartbeats 400000 in
theorem alive_any {w : World} {d : Nat} {room : Int} {mf ms : Nat} {sv : Value} {arm : Int} {dead : Bool} (h : DB w d room mf ms sv arm dead) (ha : -1 ≤ arm) (ha2 : arm ≤ 9223372036854775807) :
    Calls Tryz.prog 86 #[.pointer (some ⟨d, 0, none⟩)] w fun e w' => e = .returned (.bool (!aliveDead arm dead)) ∧ DB w' d room mf ms sv (aliveArm arm) (aliveDead arm dead) ∧ Chg (fun b => b = d) w w' := by
  have h4 := h.c4
  have h5 := h.c5
  have f4 := h.free 4
  have f5 := h.free 5
  have H := Lib.hid h
  clear h
  by_cases h0 : arm = 0
  · subst h0
    go_enter Tryz.func86, Tryz.ntmps86
    go_wp2
    go_ret
    exact ⟨rfl, (H.out.setDead true).setArm (-1), ((Chg.refl (fun b => b = d) _).setCell (p := ⟨d, 5, none⟩) rfl _).setCell (p := ⟨d, 4, none⟩) rfl _⟩
  · have hb0 : (arm == 0) = false := by simpa using h0
    have hD : aliveDead arm dead = dead := if_neg h0
    by_cases h1 : 0 < arm
    · have hA : aliveArm arm = arm - 1 := by unfold aliveArm; rw [if_neg h0, if_pos h1]
      rw [hA, hD]
      clear hA hD h0
      go_enter Tryz.func86, Tryz.ntmps86
      go_wp2
      go_ret
      exact ⟨rfl, H.out.setArm (arm - 1), (Chg.refl (fun b => b = d) _).setCell (p := ⟨d, 4, none⟩) rfl _⟩
    · have hA : aliveArm arm = arm := by unfold aliveArm; rw [if_neg h0, if_neg h1]
      rw [hA, hD]
      clear hA hD h0
      have h1b : decide (0 < arm) = false := decide_eq_false h1
      go_enter Tryz.func86, Tryz.ntmps86
      go_wp2
      go_ret
      exact ⟨rfl, H.out, Chg.refl _ _⟩
end Go.Proofs.YtlilkfnfcaepiaaGreatDoor.D
set_option linter.unusedSimpArgs false
set_option linter.unusedVariables false
namespace Go.Proofs.YtlilkfnfcaepiaaGreatDoor.D
open Go.RowKit Go.Proofs.YtlilkfnfcaepiaaGreatDoorW.PrintWords
open Go.ChangeMaps Go.MapKept
open Go.WideElems (Fit rd rg pl rd_val rd_key rg_of)

/-- How a pointer to a file reads: by its block's number. -/
def Rf (v : Value) : Option (DataW Unit × List MemPlace) :=
  match v with
  | .pointer (some ⟨b, 0, none⟩) => some (.lit (.int .i64 b), [])
  | _ => none
theorem Rf_mk (b : Nat) : Rf (.pointer (some ⟨b, 0, none⟩)) = some (.lit (.int .i64 b), []) := rfl
theorem Rf_inv {v : Value} {z : DataW Unit × List MemPlace} (h : Rf v = some z) : ∃ b : Nat, v = .pointer (some ⟨b, 0, none⟩) ∧ z = (.lit (.int .i64 b), []) := by
  unfold Rf at h
  split at h
  · rename_i b; cases h; exact ⟨b, rfl, rfl⟩
  · cases h

def nameKey (s : ByteArray) : Lit := .string s.data.toList
theorem nameKey_inj {s t : ByteArray} (h : nameKey s = nameKey t) : s = t := by
  unfold nameKey at h; injection h with h
  cases s; cases t; simp at h; simp [h]
theorem nameKey_is (s : ByteArray) : WideAt.IsKeyLit (nameKey s) := trivial
theorem key9 {s : ByteArray} (hs : s.size ≤ maxLen) : keyOf Tryz.prog 9 (.string s) = some (nameKey s) := Go.WideMaps.keyOf_string_mk Tryz.underlying9 hs
theorem keyed9 : Maps.Keyed Tryz.prog 9 := Maps.string_keyed Tryz.underlying9

/-- The block of a name's file. -/
def fid (D : DataW Unit) (name : ByteArray) : Option Nat :=
  match D.atKey (nameKey name) .nil with
  | .lit (.int _ b) => some b.toNat
  | _ => none

abbrev FMap (w : World) (m n : Nat) (D : DataW Unit) : Prop := w.ownsMap Tryz.prog 9 Rf m n D

theorem fid_put_same (D : DataW Unit) (hD : Maps.IsMap D) (s : ByteArray) (b : Nat) : fid (D.put (nameKey s) (.lit (.int .i64 b))) s = some b := by
  unfold fid; rw [Maps.atKey_put_same hD (nameKey_is s)]; simp
theorem fid_put_other (D : DataW Unit) {s t : ByteArray} (h : t ≠ s) (x : DataW Unit) : fid (D.put (nameKey s) x) t = fid D t := by
  unfold fid; rw [Maps.atKey_put_other (fun e => h (nameKey_inj e))]
theorem fid_del_same (D : DataW Unit) (s : ByteArray) : fid (D.del (nameKey s)) s = none := by
  unfold fid; rw [Maps.atKey_del_same]
theorem fid_del_other (D : DataW Unit) {s t : ByteArray} (h : t ≠ s) : fid (D.del (nameKey s)) t = fid D t := by
  unfold fid; rw [Maps.atKey_del_other (fun e => h (nameKey_inj e))]
theorem fid_empty (s : ByteArray) : fid (.map []) s = none := by
  simp [fid, DataW.atKey]

theorem zero91 (w : World) : (zeroValue 91).run Tryz.prog w = .ok (.pointer none) w := by kernel_rfl

/-- 'f, ok := m[name]'. -/
theorem look_ok {w : World} {m n : Nat} {D : DataW Unit} (h : FMap w m n D) (s : ByteArray) (hs : s.size ≤ maxLen) :
    (Instr.lookup 69 (.map (some m)) (.string s) true).run Tryz.prog w = .ok (.tuple #[.pointer ((fid D s).map fun b => ⟨b, 0, none⟩), .bool (fid D s).isSome]) w ∧ Maps.has D (nameKey s) = (fid D s).isSome := by
  obtain ⟨es, clock, hb, F, _, rfl⟩ := h
  rcases Maps.fit_look true keyed9 Tryz.underlying69 (zero91 w) hb F (key9 hs) with ⟨hrun, _, hat⟩ | ⟨e0, y, _, _, hrun, hRv, hat, _⟩
  · have hf : fid (.map ((es.toList.map (rg Tryz.prog 9 Rf)).foldr DataW.insert [])) s = none := by unfold fid; rw [hat]
    rw [hf]
    exact ⟨hrun, Maps.has_false_of_atKey hat⟩
  · obtain ⟨b, hv, rfl⟩ := Rf_inv hRv
    have hf : fid (.map ((es.toList.map (rg Tryz.prog 9 Rf)).foldr DataW.insert [])) s = some b := by unfold fid; rw [hat]; simp
    rw [hf]
    rw [hv] at hrun
    exact ⟨hrun, Maps.has_true_of_atKey hat⟩

theorem FMap.isMap {w : World} {m n : Nat} {D : DataW Unit} (h : FMap w m n D) : Maps.IsMap D := by
  obtain ⟨es, clock, _, _, _, rfl⟩ := h; exact ⟨_, rfl⟩
theorem FMap.at {w : World} {m n : Nat} {D : DataW Unit} (h : FMap w m n D) : ∃ es clock, w.heap[m]? = some (.map es clock) := by
  obtain ⟨es, clock, hb, _⟩ := h; exact ⟨es, clock, hb⟩
theorem FMap.move {w w1 : World} {m n : Nat} {D : DataW Unit} (h : FMap w m n D) (hm : w1.heap[m]? = w.heap[m]?) : FMap w1 m n D := by
  obtain ⟨es, clock, hb, r⟩ := h; exact ⟨es, clock, hm.trans hb, r⟩

/-- 'm[name] = f'. -/
theorem map_put {w : World} {m n : Nat} {D : DataW Unit} (h : FMap w m n D) (hn : n < maxLen) (s : ByteArray) (hs : s.size ≤ maxLen) (b : Nat) :
    ∃ w', (Instr.mapUpdate 69 (.map (some m)) (.string s) (.pointer (some ⟨b, 0, none⟩))).run Tryz.prog w = .ok () w' ∧ FMap w' m (n + 1) (D.put (nameKey s) (.lit (.int .i64 b))) ∧ w.grownBy w' (some m) ∧ w'.heap.size = w.heap.size := by
  obtain ⟨es, clock, hb, F, hsz, rfl⟩ := h
  obtain ⟨es', clock', hrun, F', hput, _⟩ := Maps.fit_store (R' := Rf) keyed9 Tryz.underlying69 hb F (Nat.lt_of_le_of_lt hsz hn) (fun _ _ _ _ hz => hz) (key9 hs) (Rf_mk b)
  refine ⟨_, hrun, ⟨es', clock', heap_setBlock_same hb _, F', ?_, ?_⟩, ⟨rfl, rfl, rfl, by simp [setBlock], fun i _ hi => heap_setBlock_other hb _ (fun e => hi (by rw [e]))⟩, by simp [setBlock]⟩
  · have e1 : es'.size = ((es'.toList.map (rg Tryz.prog 9 Rf)).foldr DataW.insert []).length := by rw [length_sorted]; simp
    rw [e1, hput]
    unfold putKey
    rw [length_insert]
    have e2 := List.length_filter_le (notKey (nameKey s)) ((es.toList.map (rg Tryz.prog 9 Rf)).foldr DataW.insert [])
    rw [length_sorted] at e2
    simp at e2
    omega
  · rw [DataW.put_eq, hput]

/-- 'delete(m, name)'. -/
theorem map_del {w : World} {m n : Nat} {D : DataW Unit} (h : FMap w m n D) (s : ByteArray) (hs : s.size ≤ maxLen) (ty : TypeId) :
    ∃ w', (Builtin.delete_ #[69, 9] ty #[.map (some m), .string s]).run Tryz.prog w = .ok (.tuple #[]) w' ∧ FMap w' m n (D.del (nameKey s)) ∧ w.grownBy w' (some m) ∧ w'.heap.size = w.heap.size := by
  obtain ⟨w', hrun, h1, h2⟩ := h.drop keyed9 Tryz.underlying69 (key9 hs) ty
  refine ⟨w', hrun, h1, h2.grown, ?_⟩
  obtain ⟨es, clock, es', clock', _, rfl⟩ := h2
  simp [setBlock]
end Go.Proofs.YtlilkfnfcaepiaaGreatDoor.D
set_option linter.unusedSimpArgs false
set_option linter.unusedVariables false
namespace Go.Proofs.YtlilkfnfcaepiaaGreatDoor.D
open Go.RowKit Go.Proofs.YtlilkfnfcaepiaaGreatDoorW.PrintWords
open Go.ChangeMaps Go.MapKept

structure Stp where
  kind : Int
  frm : ByteArray
  tgt : ByteArray
  id : Nat
def Stp.enc (s : Stp) : List Value := [.int .i64 s.kind, .string s.frm, .string s.tgt, .pointer (some ⟨s.id, 0, none⟩)]

/-- A disk: its room, its folder, what of it is safe, what has been done since, and the files (bytes; how many are safe); held: files that a call has in hand. -/
structure AD where
  room : Int
  fm : DataW Unit
  sm : DataW Unit
  st : List Stp
  arm : Int
  dead : Bool
  ob : Nat → ByteArray × Nat
  held : List Nat
def AD.Live (a : AD) (id : Nat) : Prop := (∃ s, fid a.fm s = some id) ∨ (∃ s, fid a.sm s = some id) ∨ (∃ s ∈ a.st, s.id = id) ∨ id ∈ a.held
def FileAt (w : World) (b : Nat) (x : ByteArray × Nat) : Prop := w.heap[b]? = some (.cells #[.string x.1, .int .i64 x.2] 101 (0, 0))
theorem FileAt.c0 {w : World} {b : Nat} {x : ByteArray × Nat} (h : FileAt w b x) : w.cell? ⟨b, 0, none⟩ = some (.string x.1) := by unfold FileAt at h; simp [World.cell?, h]
theorem FileAt.c1 {w : World} {b : Nat} {x : ByteArray × Nat} (h : FileAt w b x) : w.cell? ⟨b, 1, none⟩ = some (.int .i64 x.2) := by unfold FileAt at h; simp [World.cell?, h]
theorem FileAt.free {w : World} {b : Nat} {x : ByteArray × Nat} (h : FileAt w b x) (k : Nat) : w.frozen? ⟨b, k, none⟩ = false := by unfold FileAt at h; simp [World.frozen?, h]
theorem FileAt.lt {w : World} {b : Nat} {x : ByteArray × Nat} (h : FileAt w b x) : b < w.heap.size := (Array.getElem?_eq_some_iff.1 h).1
theorem FileAt.set0 {w : World} {b : Nat} {x : ByteArray × Nat} (h : FileAt w b x) (s : ByteArray) : FileAt (w.setCell ⟨b, 0, none⟩ (.string s)) b (s, x.2) := set_at h 0 _
theorem FileAt.set1 {w : World} {b : Nat} {x : ByteArray × Nat} (h : FileAt w b x) (n : Nat) : FileAt (w.setCell ⟨b, 1, none⟩ (.int .i64 n)) b (x.1, n) := set_at h 1 _

structure Parts (w : World) (F : Nat → Prop) (base d n : Nat) (a : AD) (mf ms : Nat) (sv : Value) : Prop where
  blk : DB w d a.room mf ms sv a.arm a.dead
  files : FMap w mf n a.fm
  safe : FMap w ms n a.sm
  ne : mf ≠ ms
  steps : w.ownsRow base 93 4 sv a.st.length (a.st.flatMap Stp.enc)
  len : a.st.length ≤ n
  obj : ∀ id, a.Live id → FileAt w id (a.ob id)
  big : ∀ id, a.Live id → (a.ob id).1.size ≤ 1073741824 ∧ (a.ob id).2 ≤ (a.ob id).1.size
  fd : F d
  ff : F mf
  fs : F ms
  ft : ∀ k, sv.ownBlock = some k → F k
  fo : ∀ id, a.Live id → F id
  low : ∀ b, F b → base ≤ b
  high : ∀ b, F b → b < w.heap.size
  room : 0 ≤ a.room ∧ a.room ≤ 1073741824
  arm : -1 ≤ a.arm ∧ a.arm ≤ 9223372036854775807
def DiskAt (w : World) (F : Nat → Prop) (base d n : Nat) (a : AD) : Prop := ∃ mf ms sv, Parts w F base d n a mf ms sv

theorem lt_of_same {w w1 : World} {b : Nat} (h : b < w.heap.size) (hm : w1.heap[b]? = w.heap[b]?) : b < w1.heap.size := by
  rw [Array.getElem?_eq_getElem h] at hm; exact (Array.getElem?_eq_some_iff.1 hm).1
theorem ne_obj {w : World} {a b : Nat} {x y : Obj} (ha : w.heap[a]? = some x) (hb : w.heap[b]? = some y) (h : x ≠ y) : a ≠ b := by
  rintro rfl; rw [ha] at hb; exact h (Option.some.inj hb)
theorem own_at {w : World} {base e size n : Nat} {v : Value} {xs : List Value} (h : w.ownsRow base e size v n xs) (k : Nat) (hk : v.ownBlock = some k) : ∃ c, w.heap[k]? = some (.cells c e (0, 0)) := own_typed h k hk

/-- What is told of a disk stands in a world in which its blocks are as they were. -/
theorem Parts.move {w w1 : World} {F : Nat → Prop} {base d n : Nat} {a : AD} {mf ms : Nat} {sv : Value} (h : Parts w F base d n a mf ms sv) (hm : ∀ b, F b → w1.heap[b]? = w.heap[b]?) : Parts w1 F base d n a mf ms sv :=
  { h with blk := h.blk.move (hm d h.fd), files := h.files.move (hm mf h.ff), safe := h.safe.move (hm ms h.fs), steps := own_move h.steps (fun k hk => hm k (h.ft k hk)), obj := fun id hl => (hm id (h.fo id hl)).trans (h.obj id hl), high := fun b hb => lt_of_same (h.high b hb) (hm b hb) }
theorem DiskAt.move {w w1 : World} {F : Nat → Prop} {base d n : Nat} {a : AD} (h : DiskAt w F base d n a) (hm : ∀ b, F b → w1.heap[b]? = w.heap[b]?) : DiskAt w1 F base d n a := by
  obtain ⟨mf, ms, sv, p⟩ := h; exact ⟨mf, ms, sv, p.move hm⟩
theorem Parts.widen {w : World} {F F' : Nat → Prop} {base d n : Nat} {a : AD} {mf ms : Nat} {sv : Value} (h : Parts w F base d n a mf ms sv) (hf : ∀ b, F b → F' b) (hl : ∀ b, F' b → base ≤ b ∧ b < w.heap.size) : Parts w F' base d n a mf ms sv :=
  { h with fd := hf _ h.fd, ff := hf _ h.ff, fs := hf _ h.fs, ft := fun k hk => hf _ (h.ft k hk), fo := fun id hl => hf _ (h.fo id hl), low := fun b hb => (hl b hb).1, high := fun b hb => (hl b hb).2 }
theorem Parts.more {w : World} {F : Nat → Prop} {base d n n' : Nat} {a : AD} {mf ms : Nat} {sv : Value} (h : Parts w F base d n a mf ms sv) (hn : n ≤ n') : Parts w F base d n' a mf ms sv :=
  { h with files := h.files.mono hn, safe := h.safe.mono hn, len := Nat.le_trans h.len hn }

theorem Parts.fewer {w : World} {F : Nat → Prop} {base d n : Nat} {a : AD} {mf ms : Nat} {sv : Value} (h : Parts w F base d n a mf ms sv) {l : List Nat} (hl : ∀ i ∈ l, i ∈ a.held) : Parts w F base d n { a with held := l } mf ms sv := by
  have live : ∀ id, ({ a with held := l } : AD).Live id → a.Live id := by
    rintro id (x | x | x | x)
    · exact .inl x
    · exact .inr (.inl x)
    · exact .inr (.inr (.inl x))
    · exact .inr (.inr (.inr (hl _ x)))
  exact { h with obj := fun id x => h.obj id (live id x), big := fun id x => h.big id (live id x), fo := fun id x => h.fo id (live id x) }
theorem Parts.hold {w : World} {F : Nat → Prop} {base d n : Nat} {a : AD} {mf ms : Nat} {sv : Value} (h : Parts w F base d n a mf ms sv) {i : Nat} (hi : a.Live i) : Parts w F base d n { a with held := i :: a.held } mf ms sv := by
  have live : ∀ id, ({ a with held := i :: a.held } : AD).Live id → a.Live id := by
    rintro id (x | x | x | x)
    · exact .inl x
    · exact .inr (.inl x)
    · exact .inr (.inr (.inl x))
    · rcases List.mem_cons.1 x with rfl | x
      · exact hi
      · exact .inr (.inr (.inr x))
  exact { h with obj := fun id x => h.obj id (live id x), big := fun id x => h.big id (live id x), fo := fun id x => h.fo id (live id x) }
def AD.alive (a : AD) : AD := { a with arm := aliveArm a.arm, dead := aliveDead a.arm a.dead }
theorem aliveArm_bd {x : Int} (h : -1 ≤ x ∧ x ≤ 9223372036854775807) : -1 ≤ aliveArm x ∧ aliveArm x ≤ 9223372036854775807 := by unfold aliveArm; split <;> (try split) <;> omega

/-- alive, of a disk. -/
theorem alive_disk {w : World} {F : Nat → Prop} {base d n : Nat} {a : AD} {mf ms : Nat} {sv : Value} (h : Parts w F base d n a mf ms sv) :
    Calls Tryz.prog 86 #[.pointer (some ⟨d, 0, none⟩)] w fun e w' => e = .returned (.bool (!a.alive.dead)) ∧ Parts w' F base d n a.alive mf ms sv ∧ Chg F w w' := by
  refine (alive_any h.blk h.arm.1 h.arm.2).mono ?_
  rintro e w' ⟨rfl, hb, hc⟩
  have hne : ∀ b x, w.heap[b]? = some x → (∀ c f, x ≠ Obj.cells c 72 f) → w'.heap[b]? = w.heap[b]? := fun b x hx ht =>
    hc.block b (Array.getElem?_eq_some_iff.1 hx).1 (ne_obj hx h.blk (ht _ _))
  refine ⟨rfl, { h with blk := hb, files := ?_, safe := ?_, steps := ?_, obj := ?_, arm := aliveArm_bd h.arm, high := fun b hb => Nat.lt_of_lt_of_le (h.high b hb) hc.size }, hc.mono (fun k _ hk => hk ▸ h.fd)⟩
  · obtain ⟨es, cl, hx⟩ := h.files.at; exact h.files.move (hne _ _ hx (by simp))
  · obtain ⟨es, cl, hx⟩ := h.safe.at; exact h.safe.move (hne _ _ hx (by simp))
  · exact own_move h.steps (fun k hk => by obtain ⟨c, hx⟩ := own_at h.steps k hk; exact hne _ _ hx (by simp))
  · exact fun id hl => (hne _ _ (h.obj id hl) (by simp)).trans (h.obj id hl)

/-- Read: the bytes, the error's number. -/
def AD.read (a : AD) (name : ByteArray) : ByteArray × Int := if a.dead then (⟨#[]⟩, 10) else match fid a.fm name with | none => (⟨#[]⟩, 7) | some b => ((a.ob b).1, 0)

set_option maxHeartbeats 400000 in
theorem Read_any {w : World} {F : Nat → Prop} {base d n : Nat} {a : AD} (h : DiskAt w F base d n a) (name : ByteArray) (hs : name.size ≤ maxLen) :
    Calls Tryz.prog 24 #[.pointer (some ⟨d, 0, none⟩), .string name] w fun e w' => e = .returned (.tuple #[.string (a.read name).1, .int .i64 (a.read name).2]) ∧ w = w' := by
  obtain ⟨mf, ms, sv, p⟩ := h
  have h5 := p.blk.c5
  have h1 := p.blk.c1
  obtain ⟨hl, _⟩ := look_ok p.files name hs
  cases hd : a.dead with
  | true =>
    have hr : a.read name = (⟨#[]⟩, 10) := by unfold AD.read; rw [hd]; rfl
    rw [hr]; rw [hd] at h5; clear hd hr hl h1
    go_enter Tryz.func24, Tryz.ntmps24
    go_wp2
    go_ret2
    exact ⟨rfl, rfl⟩
  | false =>
    rw [hd] at h5
    cases hf : fid a.fm name with
    | none =>
      have hr : a.read name = (⟨#[]⟩, 7) := by unfold AD.read; rw [hd, hf]; rfl
      rw [hr]; rw [hf] at hl; clear hd hr hf
      simp only [Option.map_none, Option.isSome_none] at hl
      go_enter Tryz.func24, Tryz.ntmps24
      go_wp2
      go_ret2
      exact ⟨rfl, rfl⟩
    | some b =>
      have hr : a.read name = ((a.ob b).1, 0) := by unfold AD.read; rw [hd, hf]; rfl
      have hc := (p.obj b (.inl ⟨name, hf⟩)).c0
      rw [hr]; rw [hf] at hl; clear hd hr hf
      simp only [Option.map_some, Option.isSome_some] at hl
      go_enter Tryz.func24, Tryz.ntmps24
      go_wp2
      go_ret2
      exact ⟨rfl, rfl⟩
end Go.Proofs.YtlilkfnfcaepiaaGreatDoor.D
set_option linter.unusedSimpArgs false
set_option linter.unusedVariables false
namespace Go.Proofs.YtlilkfnfcaepiaaGreatDoor.D
open Go.RowKit Go.Proofs.YtlilkfnfcaepiaaGreatDoorW.PrintWords H

def okByte (b : UInt8) : Bool := decide (32 < b.toNat) && decide (b.toNat ≤ 126) && !(b.toNat == 47)
/-- May a file be called so? -/
def nameOk (s : ByteArray) : Bool := s.data.toList.all okByte && !(s.size == 0) && decide (s.size ≤ 80)

theorem ret_bool {a b : Bool} (h : a = b) : Ending.returned (.bool a) = .returned (.bool b) := by rw [h]
theorem bytes_list (s : ByteArray) : s.toList = s.data.toList := ByteArray.toList_eq s
theorem all_snoc (s : ByteArray) (k : Nat) (h : k < s.size) : (s.data.toList.take (k + 1)).all okByte = ((s.data.toList.take k).all okByte && okByte s[k]) := by
  rw [List.take_succ_eq_append_getElem (by simpa using h), List.all_append]; simp; rfl
theorem all_not (s : ByteArray) (k : Nat) (h : k < s.size) (hb : okByte s[k] = false) : nameOk s = false := by
  unfold nameOk
  have : s.data.toList.all okByte = false := by
    rw [List.all_eq_false]
    exact ⟨s[k], by show s.data[k] ∈ s.data.toList; exact Array.getElem_mem_toList _, by simp [hb]⟩
  rw [this]; rfl

set_option maxRecDepth 100000 in
set_option maxHeartbeats 1000000 in
theorem Name_any (s : ByteArray) (hs : s.size ≤ 140737488351232) (w : World) : Calls Tryz.prog 93 #[.string s] w (fun e w' => e = .returned (.bool (nameOk s)) ∧ Below w.heap.size w w') := by
  obtain ⟨w1, c, hcv, hB1, hb1, hz1, hc1⟩ := conv_bytes w s
  have HY := Aside0.mk hB1
  have HB := Aside0.mk hb1
  clear hb1 hB1 hz1
  go_enter Tryz.func93, Tryz.ntmps93
  go_wp2
  go_loop [8] (fun v8 => ∃ k : Nat, k ≤ s.size ∧ v8 = .int .i64 k ∧ Hid ((s.data.toList.take k).all okByte = true)) (fun v8 => s.size - (intOf v8).toNat)
  case atStart => exact ⟨0, Nat.zero_le _, rfl, rfl⟩
  case round =>
    obtain ⟨k, hk, rfl, HA⟩ := hrel
    by_cases hlt : k < s.size
    · have hx := HY.out.cell k hlt
      obtain ⟨x, hxe⟩ : ∃ x : Nat, x = s[k].toNat := ⟨_, rfl⟩
      rw [← hxe] at hx
      have hx1 : x < 256 := hxe ▸ s[k].toNat_lt
      have HX := Lib.hid hxe
      clear hxe
      by_cases g1 : x ≤ 32
      · have HN := Lib.hid (all_not s k hlt (by unfold okByte; rw [← HX.out]; simp; omega))
        have d1 : decide ((x : Int) ≤ 32) = true := decide_eq_true (by omega)
        go_wp2
        go_ret
        exact ⟨ret_bool HN.out.symm, HB.out⟩
      · by_cases g2 : 126 < x
        · have HN := Lib.hid (all_not s k hlt (by unfold okByte; rw [← HX.out]; simp; omega))
          have d1 : decide ((x : Int) ≤ 32) = false := decide_eq_false (by omega)
          have d2 : decide ((126 : Int) < x) = true := decide_eq_true (by omega)
          go_wp2
          go_ret
          exact ⟨ret_bool HN.out.symm, HB.out⟩
        · by_cases g3 : x = 47
          · have HN := Lib.hid (all_not s k hlt (by unfold okByte; rw [← HX.out]; simp; omega))
            have d1 : decide ((x : Int) ≤ 32) = false := decide_eq_false (by omega)
            have d2 : decide ((126 : Int) < x) = false := decide_eq_false (by omega)
            have d3 : ((x : Int) == 47) = true := by simp; omega
            clear g3
            go_wp2
            go_ret
            exact ⟨ret_bool HN.out.symm, HB.out⟩
          · have HN := Lib.hid (show (s.data.toList.take (k + 1)).all okByte = true by rw [all_snoc s k hlt, HA.out]; unfold okByte; rw [← HX.out]; simp; omega)
            have d1 : decide ((x : Int) ≤ 32) = false := decide_eq_false (by omega)
            have d2 : decide ((126 : Int) < x) = false := decide_eq_false (by omega)
            have d3 : ((x : Int) == 47) = false := by simp; omega
            clear g3
            go_wp2
            go_round
            case rel => exact ⟨k + 1, by omega, by go_num, HN.out⟩
            case measure => simp [intOf]; omega
    · have HE := Lib.hid (show nameOk s = (!(s.size == 0) && decide (s.size ≤ 80)) by unfold nameOk; rw [List.take_of_length_le (by simp; omega)] at HA; rw [HA.out, Bool.true_and])
      by_cases g0 : s.size = 0
      · have HR := Lib.hid (show nameOk s = false by rw [HE.out, g0]; rfl)
        have d0 : s.toList.isEmpty = true := by rw [bytes_list]; simpa using Array.eq_empty_of_size_eq_zero g0
        clear HE g0
        go_wp2
        go_ret
        exact ⟨ret_bool HR.out.symm, HB.out⟩
      · have d0 : s.toList.isEmpty = false := by rw [bytes_list]; simp; intro e; apply g0; rw [← ByteArray.size_data, e]; rfl
        by_cases g1 : s.size ≤ 80
        · have HR := Lib.hid (show nameOk s = true by rw [HE.out]; simp [g0, g1])
          have d1 : decide ((s.size : Int) ≤ 80) = true := decide_eq_true (by omega)
          clear HE
          go_wp2
          go_ret
          exact ⟨ret_bool HR.out.symm, HB.out⟩
        · have HR := Lib.hid (show nameOk s = false by rw [HE.out]; simp [g1])
          have d1 : decide ((s.size : Int) ≤ 80) = false := decide_eq_false (by omega)
          clear HE
          go_wp2
          go_ret
          exact ⟨ret_bool HR.out.symm, HB.out⟩
end Go.Proofs.YtlilkfnfcaepiaaGreatDoor.D
set_option linter.unusedSimpArgs false
set_option linter.unusedVariables false
namespace Go.Proofs.YtlilkfnfcaepiaaGreatDoor.D
open Go.RowKit Go.Proofs.YtlilkfnfcaepiaaGreatDoorW.PrintWords
open Go.ChangeMaps Go.MapKept

def AD.empty (room : Int) : AD := ⟨room, .map [], .map [], [], -1, false, fun _ => (⟨#[]⟩, 0), []⟩
theorem AD.empty_live (room : Int) (id : Nat) : ¬ (AD.empty room).Live id := by
  rintro (⟨s, h⟩ | ⟨s, h⟩ | ⟨s, h, _⟩ | h)
  · rw [show (AD.empty room).fm = .map [] from rfl, fid_empty] at h; cases h
  · rw [show (AD.empty room).sm = .map [] from rfl, fid_empty] at h; cases h
  · cases h
  · cases h

theorem new_fmap (w : World) (n : Nat) : FMap (w.alloc (.map #[] 0)) w.heap.size n (.map []) := (World.ownsMap_made w Tryz.prog 9 Rf).mono (Nat.zero_le _)

set_option maxHeartbeats 400000 in
theorem New_any (room : Int) (h0 : 0 ≤ room) (h1 : room ≤ 1073741824) (w : World) :
    Calls Tryz.prog 7 #[.int .i64 room] w fun e w' => ∃ d, e = .returned (.tuple #[.pointer (some ⟨d, 0, none⟩), .int .i64 0]) ∧ DiskAt w' (fun b => w.heap.size ≤ b ∧ b < w'.heap.size) w.heap.size d 0 (AD.empty room) ∧ Below w.heap.size w w' := by
  have d0 : decide (room < 0) = false := decide_eq_false (by omega)
  have d1 : decide (1073741824 < room) = false := decide_eq_false (by omega)
  have hmm := @run_makeMap Tryz.prog
  go_enter Tryz.func7, Tryz.ntmps7
  go_wp2
  go_ret2
  refine ⟨w.heap.size + 1 + 1, rfl, ?_, (((Below.refl _ _).alloc (Nat.le_refl _) _).alloc (by simp) _).alloc (by simp; omega) _⟩
  generalize hw1 : w.alloc (.map #[] 0) = w1
  have hz1 : w1.heap.size = w.heap.size + 1 := by rw [← hw1]; simp
  have hf1 : FMap w1 w.heap.size 0 (.map []) := hw1 ▸ new_fmap w 0
  generalize hw2 : w1.alloc (.map #[] 0) = w2
  have hz2 : w2.heap.size = w.heap.size + 1 + 1 := by rw [← hw2]; simp [hz1]
  have hf2 : FMap w2 w.heap.size 0 (.map []) := hf1.move (by rw [← hw2]; exact Below.heap_alloc _ _ _ (by omega))
  have hs2 : FMap w2 (w.heap.size + 1) 0 (.map []) := by have := new_fmap w1 0; rw [hw2, hz1] at this; exact this
  have hk : ∀ o k, k < w2.heap.size → (w2.alloc o).heap[k]? = w2.heap[k]? := fun o k h => Below.heap_alloc _ _ _ h
  refine ⟨w.heap.size, w.heap.size + 1, .slice none 0 0, { blk := ?_, files := hf2.move (hk _ _ (by omega)), safe := hs2.move (hk _ _ (by omega)), ne := by omega, steps := World.ownsRow_nil _ _ _ _, len := Nat.le_refl _, obj := fun id hl => absurd hl (AD.empty_live _ _), big := fun id hl => absurd hl (AD.empty_live _ _), fd := ?_, ff := ?_, fs := ?_, ft := fun k hk => by simp [Value.ownBlock] at hk, fo := fun id hl => absurd hl (AD.empty_live _ _), low := fun b hb => hb.1, high := fun b hb => hb.2, room := ⟨h0, h1⟩, arm := by show (-1 : Int) ≤ -1 ∧ (-1 : Int) ≤ 9223372036854775807; decide }⟩
  · unfold DB
    rw [← hz2]
    exact (MapKept.heap_alloc _ _).1
  · simp [hz2]; omega
  · simp [hz2]
    omega
  · simp [hz2]

theorem New_bad (room : Int) (h : room < 0 ∨ 1073741824 < room) (w : World) :
    Calls Tryz.prog 7 #[.int .i64 room] w fun e w' => e = .returned (.tuple #[.pointer none, .int .i64 1]) ∧ w = w' := by
  rcases h with h | h
  · have d0 : decide (room < 0) = true := decide_eq_true h
    go_enter Tryz.func7, Tryz.ntmps7
    go_wp2
    go_ret2
    exact ⟨rfl, rfl⟩
  · have d0 : decide (room < 0) = false := decide_eq_false (by omega)
    have d1 : decide (1073741824 < room) = true := decide_eq_true h
    go_enter Tryz.func7, Tryz.ntmps7
    go_wp2
    go_ret2
    exact ⟨rfl, rfl⟩

theorem Parts.blkOnly {w w' : World} {F : Nat → Prop} {base d n : Nat} {a : AD} {mf ms : Nat} {sv : Value} (h : Parts w F base d n a mf ms sv) {arm : Int} {dead : Bool}
    (hc : ∀ b, b < w.heap.size → b ≠ d → w'.heap[b]? = w.heap[b]?) (hb : DB w' d a.room mf ms sv arm dead) (hz : w.heap.size ≤ w'.heap.size) (ha : -1 ≤ arm ∧ arm ≤ 9223372036854775807) : Parts w' F base d n { a with arm := arm, dead := dead } mf ms sv := by
  have hne : ∀ b x, w.heap[b]? = some x → (∀ c f, x ≠ Obj.cells c 72 f) → w'.heap[b]? = w.heap[b]? := fun b x hx ht =>
    hc b (Array.getElem?_eq_some_iff.1 hx).1 (ne_obj hx h.blk (ht _ _))
  refine { h with blk := hb, files := ?_, safe := ?_, steps := ?_, obj := ?_, arm := ha, high := fun b hb => Nat.lt_of_lt_of_le (h.high b hb) hz }
  · obtain ⟨es, cl, hx⟩ := h.files.at; exact h.files.move (hne _ _ hx (by simp))
  · obtain ⟨es, cl, hx⟩ := h.safe.at; exact h.safe.move (hne _ _ hx (by simp))
  · exact own_move h.steps (fun k hk => by obtain ⟨c, hx⟩ := own_at h.steps k hk; exact hne _ _ hx (by simp))
  · exact fun id hl => (hne _ _ (h.obj id hl) (by simp)).trans (h.obj id hl)

/-- Arm. -/
theorem Arm_any {w : World} {F : Nat → Prop} {base d n : Nat} {a : AD} (h : DiskAt w F base d n a) (x : Int) (hx : x ≤ 9223372036854775807) :
    Calls Tryz.prog 58 #[.pointer (some ⟨d, 0, none⟩), .int .i64 x] w fun e w' => e = .returned (.tuple #[]) ∧ DiskAt w' F base d n { a with arm := max x (-1) } ∧ Chg F w w' := by
  obtain ⟨mf, ms, sv, p⟩ := h
  have f4 := p.blk.free 4
  have c4 := p.blk.c4
  have key : ∀ y : Int, y = max x (-1) → DiskAt (w.setCell ⟨d, 4, none⟩ (.int .i64 y)) F base d n { a with arm := max x (-1) } ∧ Chg F w (w.setCell ⟨d, 4, none⟩ (.int .i64 y)) := fun y hy => by
    subst hy
    exact ⟨⟨mf, ms, sv, p.blkOnly (fun b _ hb => Below.heap_setCell _ _ _ _ hb) (p.blk.setArm _) (by simp [World.setCell]) (by omega)⟩, (Chg.refl F _).setCell (p := ⟨d, 4, none⟩) p.fd _⟩
  by_cases hlt : x < -1
  · have k1 := key (-1) (by omega)
    have K := Lib.hid k1
    clear k1 key
    go_enter Tryz.func58, Tryz.ntmps58
    go_wp2
    go_end0
    exact ⟨rfl, K.out⟩
  · have k1 := key x (by omega)
    have K := Lib.hid k1
    clear k1 key
    go_enter Tryz.func58, Tryz.ntmps58
    go_wp2
    go_end0
    exact ⟨rfl, K.out⟩
end Go.Proofs.YtlilkfnfcaepiaaGreatDoor.D
set_option linter.unusedSimpArgs false
set_option linter.unusedVariables false
namespace Go.Proofs.YtlilkfnfcaepiaaGreatDoor.D
open Go.RowKit Go.Proofs.YtlilkfnfcaepiaaGreatDoorW.PrintWords
open Go.ChangeMaps Go.MapKept

def AD.setOb (a : AD) (b : Nat) (x : ByteArray × Nat) : AD := { a with ob := fun i => if i = b then x else a.ob i }
/-- A file's cells have been written. -/
theorem Parts.setOb {w w' : World} {F : Nat → Prop} {base d n : Nat} {a : AD} {mf ms : Nat} {sv : Value} (p : Parts w F base d n a mf ms sv) {b : Nat} {x : ByteArray × Nat} (hl : a.Live b)
    (hx : FileAt w' b x) (hm : ∀ k, k ≠ b → w'.heap[k]? = w.heap[k]?) (hz : w.heap.size ≤ w'.heap.size) (hb : x.1.size ≤ 1073741824 ∧ x.2 ≤ x.1.size) : Parts w' F base d n (a.setOb b x) mf ms sv := by
  have hfb := p.obj b hl
  have hne : ∀ k y, w.heap[k]? = some y → (∀ c f, y ≠ Obj.cells c 101 f) → w'.heap[k]? = w.heap[k]? := fun k y hy ht => hm k (ne_obj hy hfb (ht _ _))
  refine { p with blk := p.blk.move (hne _ _ p.blk (by simp)), files := ?_, safe := ?_, steps := ?_, obj := ?_, big := ?_, high := fun b hb => Nat.lt_of_lt_of_le (p.high b hb) hz }
  · obtain ⟨es, cl, hx⟩ := p.files.at; exact p.files.move (hne _ _ hx (by simp))
  · obtain ⟨es, cl, hx⟩ := p.safe.at; exact p.safe.move (hne _ _ hx (by simp))
  · exact own_move p.steps (fun k hk => by obtain ⟨c, hx⟩ := own_at p.steps k hk; exact hne _ _ hx (by simp))
  · intro id hl2
    show FileAt w' id (if id = b then x else a.ob id)
    by_cases e : id = b
    · rw [if_pos e, e]; exact hx
    · rw [if_neg e]; exact (hm id e).trans (p.obj id hl2)
  · intro id hl2
    show (if id = b then x else a.ob id).1.size ≤ _ ∧ (if id = b then x else a.ob id).2 ≤ (if id = b then x else a.ob id).1.size
    by_cases e : id = b
    · rw [if_pos e]; exact hb
    · rw [if_neg e]; exact p.big id hl2

/-- Sync: the error's number, the disk behind it. -/
def AD.syncB (b : AD) (name : ByteArray) : Int × AD :=
  if b.dead then (10, b) else match fid b.fm name with
  | none => (7, b)
  | some id => (0, b.setOb id ((b.ob id).1, (b.ob id).1.size))
def AD.sync (a : AD) (name : ByteArray) : Int × AD := a.alive.syncB name
theorem ret_i {k : IntKind} {a b : Int} (h : a = b) : Ending.returned (.int k a) = .returned (.int k b) := by rw [h]

def OpPost (F : Nat → Prop) (base d n : Nat) (w : World) (r : Int × AD) (e : Ending) (w' : World) : Prop := e = .returned (.int .i64 r.1) ∧ DiskAt w' F base d n r.2 ∧ Chg F w w'

set_option maxHeartbeats 400000 in
theorem Sync_any {w : World} {F : Nat → Prop} {base d n : Nat} {a : AD} (h : DiskAt w F base d n a) (name : ByteArray) (hs : name.size ≤ maxLen) :
    Calls Tryz.prog 56 #[.pointer (some ⟨d, 0, none⟩), .string name] w (OpPost F base d n w (a.sync name)) := by
  obtain ⟨mf, ms, sv, p⟩ := h
  have hS : a.sync name = a.alive.syncB name := rfl
  have HA := Lib.hid (alive_disk p)
  clear p
  generalize a.alive = b at HA hS
  have HS := Lib.hid hS
  clear hS
  go_enter Tryz.func56, Tryz.ntmps56
  go_wp2_with fail
  refine HA.out.mono ?_
  rintro e w1 ⟨rfl, p1, hc1⟩
  have h1 := p1.blk.c1
  obtain ⟨hl, _⟩ := look_ok p1.files name hs
  have P1 := Lib.hid p1
  have HC := Lib.hid hc1
  clear HA p1 hc1
  cases hd : b.dead with
  | true =>
    have HR := Lib.hid (show a.sync name = (10, b) by rw [HS.out, AD.syncB, hd]; rfl)
    clear hd HS
    go_wp2
    go_ret
    exact ⟨ret_i (by rw [HR.out]), by rw [HR.out]; exact ⟨mf, ms, sv, P1.out⟩, HC.out⟩
  | false =>
    cases hf : fid b.fm name with
    | none =>
      have HR := Lib.hid (show a.sync name = (7, b) by rw [HS.out, AD.syncB, hd, hf]; rfl)
      rw [hf] at hl
      simp only [Option.map_none, Option.isSome_none] at hl
      clear hd HS hf
      go_wp2
      go_ret
      exact ⟨ret_i (by rw [HR.out]), by rw [HR.out]; exact ⟨mf, ms, sv, P1.out⟩, HC.out⟩
    | some id =>
      have HR := Lib.hid (show a.sync name = (0, b.setOb id ((b.ob id).1, (b.ob id).1.size)) by rw [HS.out, AD.syncB, hd, hf]; rfl)
      have hli : b.Live id := .inl ⟨name, hf⟩
      rw [hf] at hl
      simp only [Option.map_some, Option.isSome_some] at hl
      have hfa := P1.out.obj id hli
      have hc := hfa.c0
      have hc' := hfa.c1
      have hfr := hfa.free 1
      have HF := Lib.hid (P1.out.setOb hli (hfa.set1 (b.ob id).1.size) (fun k hk => Below.heap_setCell _ _ _ _ hk) (by simp [World.setCell]) ⟨(P1.out.big id hli).1, Nat.le_refl _⟩)
      have HC2 := Lib.hid (HC.out.setCell (p := ⟨id, 1, none⟩) (P1.out.fo id hli) (.int .i64 ((b.ob id).1.size : Int)))
      clear hd HS hf hfa hli
      go_wp2
      go_ret
      exact ⟨ret_i (by rw [HR.out]), by rw [HR.out]; exact ⟨mf, ms, sv, HF.out⟩, HC2.out⟩
end Go.Proofs.YtlilkfnfcaepiaaGreatDoor.D
