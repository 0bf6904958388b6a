/- The disk: Remove, Used, Rename, Append. -/
import Derived.Test.YtlilkfnfcaepiaaGreatDoorXd
import Derived.Sort.MapsRangeIn
import Derived.Deep.RegionWith
set_option linter.unusedSimpArgs false
set_option linter.unusedVariables false
namespace Go.Proofs.YtlilkfnfcaepiaaGreatDoor.D
open Go.RowKit Go.Proofs.YtlilkfnfcaepiaaGreatDoorW.PrintWords
open Go.ChangeMaps Go.MapKept

theorem info93 : (Tryz.prog.info? 93).map (fun i => (i.zero, i.size, i.bytes)) = some (some (.agg #[.int .i64 0, .string ⟨#[]⟩, .string ⟨#[]⟩, .pointer none]), 4, 48) := by kernel_rfl

theorem enc_one (s : Stp) : ∀ u ∈ s.enc, u.oneCell' = true := by
  intro u hu
  simp only [Stp.enc, List.mem_cons, List.not_mem_nil, or_false] at hu
  rcases hu with rfl | rfl | rfl | rfl <;> rfl

/-- The set of a disk's blocks, and what is new since w. -/
def Grow (F : Nat → Prop) (w w' : World) (b : Nat) : Prop := F b ∨ (w.heap.size ≤ b ∧ b < w'.heap.size)

/-- A folder's entries have changed. -/
theorem Parts.setFiles {w w' : World} {F : Nat → Prop} {base d n n' : Nat} {a : AD} {mf ms : Nat} {sv : Value} {fm' : DataW Unit} (p : Parts w F base d n a mf ms sv)
    (hf : FMap w' mf n' fm') (hg : w.grownBy w' (some mf)) (hn : n ≤ n') (hl : ∀ id, (∃ s, fid fm' s = some id) → a.Live id) : Parts w' F base d n' { a with fm := fm' } mf ms sv := by
  obtain ⟨es, cl, hm⟩ := p.files.at
  have hne : ∀ k y, w.heap[k]? = some y → (∀ es cl, y ≠ Obj.map es cl) → w'.heap[k]? = w.heap[k]? := fun k y hy ht => hg.block k (Array.getElem?_eq_some_iff.1 hy).1 (fun e => ne_obj hy hm (ht _ _) (Option.some.inj e))
  have live : ∀ id, ({ a with fm := fm' } : AD).Live id → a.Live id := by
    rintro id (h | h)
    · exact hl id h
    · exact .inr h
  refine { p with blk := p.blk.move (hne _ _ p.blk (by simp)), files := hf, safe := ?_, steps := ?_, len := Nat.le_trans p.len hn, obj := fun id h => ?_, big := fun id h => p.big id (live id h), fo := fun id h => p.fo id (live id h), high := fun b hb => Nat.lt_of_lt_of_le (p.high b hb) hg.size }
  · obtain ⟨es2, cl2, hx⟩ := p.safe.at
    exact (p.safe.move (hg.block ms (Array.getElem?_eq_some_iff.1 hx).1 (fun e => p.ne (Option.some.inj e).symm))).mono hn
  · exact own_move p.steps (fun k hk => by obtain ⟨c, hx⟩ := own_at p.steps k hk; exact hne _ _ hx (by simp))
  · exact (hne _ _ (p.obj id (live id h)) (by simp)).trans (p.obj id (live id h))

/-- A step more. -/
theorem Parts.addStep {w w1 : World} {F : Nat → Prop} {base d n n' : Nat} {a : AD} {mf ms : Nat} {sv v1 : Value} (p : Parts w F base d n a mf ms sv) (s : Stp) (hs : a.Live s.id)
    (ho : w1.ownsRow base 93 4 v1 (a.st.length + 1) (a.st.flatMap Stp.enc ++ s.enc)) (hg : w.grownBy w1 sv.ownBlock)
    (hat : v1.ownBlock = sv.ownBlock ∨ ∃ b, v1.ownBlock = some b ∧ w.heap.size ≤ b) (hn : n + 1 ≤ n') :
    Parts (w1.setCell ⟨d, 3, none⟩ v1) (Grow F w (w1.setCell ⟨d, 3, none⟩ v1)) base d n' { a with st := a.st ++ [s] } mf ms v1 ∧ Chg F w (w1.setCell ⟨d, 3, none⟩ v1) := by
  have hz1 : w.heap.size ≤ w1.heap.size := hg.size
  have hz2 : (w1.setCell ⟨d, 3, none⟩ v1).heap.size = w1.heap.size := by simp [World.setCell]
  have hdl := p.high d p.fd
  -- a block of w's that is no row of steps is as it was ahead of the store
  have h1 : ∀ k y, w.heap[k]? = some y → (∀ c f, y ≠ Obj.cells c 93 f) → w1.heap[k]? = some y := fun k y hy ht => by
    have hlt := (Array.getElem?_eq_some_iff.1 hy).1
    rw [hg.block k hlt (fun e => by obtain ⟨c, hc⟩ := own_at p.steps k e.symm; rw [hy] at hc; exact ht _ _ (Option.some.inj hc))]
    exact hy
  have h2 : ∀ k y, w.heap[k]? = some y → (∀ c f, y ≠ Obj.cells c 93 f) → (∀ c f, y ≠ Obj.cells c 72 f) → (w1.setCell ⟨d, 3, none⟩ v1).heap[k]? = some y := fun k y hy ht ht2 => by
    rw [Below.heap_setCell _ _ _ _ (show k ≠ d from ne_obj hy p.blk (ht2 _ _))]; exact h1 k y hy ht
  have live : ∀ id, ({ a with st := a.st ++ [s] } : AD).Live id → a.Live id := by
    rintro id (h | h | ⟨t, ht, rfl⟩ | h)
    · exact .inl h
    · exact .inr (.inl h)
    · rcases List.mem_append.1 ht with ht | ht
      · exact .inr (.inr (.inl ⟨t, ht, rfl⟩))
      · rw [List.mem_singleton.1 ht]; exact hs
    · exact .inr (.inr (.inr h))
  have hd1 : DB w1 d a.room mf ms sv a.arm a.dead := h1 d _ p.blk (by simp)
  have hv1 : ∀ k, v1.ownBlock = some k → ∃ c, w1.heap[k]? = some (.cells c 93 (0, 0)) := fun k hk => own_at ho k hk
  refine ⟨{ p with blk := hd1.setSteps v1, files := ?_, safe := ?_, steps := ?_, len := ?_, obj := fun id h => h2 _ _ (p.obj id (live id h)) (by simp) (by simp), big := fun id h => p.big id (live id h), fd := .inl p.fd, ff := .inl p.ff, fs := .inl p.fs, ft := ?_, fo := fun id h => .inl (p.fo id (live id h)), low := ?_, high := ?_ }, ?_⟩
  · obtain ⟨es, cl, hx⟩ := p.files.at
    exact (p.files.move ((h2 _ _ hx (by simp) (by simp)).trans hx.symm)).mono (by omega)
  · obtain ⟨es, cl, hx⟩ := p.safe.at
    exact (p.safe.move ((h2 _ _ hx (by simp) (by simp)).trans hx.symm)).mono (by omega)
  · have e1 : ({ a with st := a.st ++ [s] } : AD).st.length = a.st.length + 1 := by simp
    have e2 : ({ a with st := a.st ++ [s] } : AD).st.flatMap Stp.enc = a.st.flatMap Stp.enc ++ s.enc := by simp
    rw [e1, e2]
    exact own_move ho (fun k hk => Below.heap_setCell _ _ _ _ (by
      obtain ⟨c, hc⟩ := hv1 k hk
      exact (show k ≠ d from ne_obj hc hd1 (by simp))))
  · simp; have := p.len; omega
  · intro k hk
    rcases hat with h | ⟨b, hb, hb2⟩
    · exact .inl (p.ft k (h ▸ hk))
    · obtain ⟨c, hc⟩ := hv1 b hb
      rw [hb] at hk
      obtain rfl := Option.some.inj hk
      exact .inr ⟨by omega, by rw [hz2]; exact (Array.getElem?_eq_some_iff.1 hc).1⟩
  · intro b hb
    rcases hb with hb | ⟨hb, _⟩
    · exact p.low b hb
    · exact Nat.le_trans (Nat.le_of_lt (Nat.lt_of_le_of_lt (p.low d p.fd) hdl)) hb
  · intro b hb
    rcases hb with hb | ⟨_, hb⟩
    · have := p.high b hb; omega
    · exact hb
  · have c2 : Chg F w w1 := ⟨hg.os, hg.tape, hg.output, hz1, fun b hb hf => hg.block b hb (fun e => hf (p.ft b e.symm))⟩
    exact c2.setCell (p := ⟨d, 3, none⟩) p.fd _

/-- The disk's own block behind an append to its steps. -/
theorem Parts.blkBehind {w w1 : World} {F : Nat → Prop} {base d n : Nat} {a : AD} {mf ms : Nat} {sv : Value} (p : Parts w F base d n a mf ms sv)
    (hg : w.grownBy w1 sv.ownBlock) : DB w1 d a.room mf ms sv a.arm a.dead := by
  have hdl := p.high d p.fd
  have e : w1.heap[d]? = w.heap[d]? := by
    rw [hg.block d hdl (fun e => by obtain ⟨c, hc⟩ := own_at p.steps d e.symm; rw [show w.heap[d]? = some _ from p.blk] at hc; simp at hc)]
  exact p.blk.move e

/-- What a call that changes the folder leaves. -/
def OpPost2 (F : Nat → Prop) (base d n : Nat) (w : World) (r : Int × AD) (e : Ending) (w' : World) : Prop := e = .returned (.int .i64 r.1) ∧ DiskAt w' (Grow F w w') base d n r.2 ∧ Chg F w w'

theorem DiskAt.grow {w w' : World} {F : Nat → Prop} {base d n n' : Nat} {a : AD} {mf ms : Nat} {sv : Value} (h : Parts w' F base d n a mf ms sv) (hn : n ≤ n') (hz : w.heap.size ≤ w'.heap.size) (hb : base ≤ w.heap.size) : DiskAt w' (Grow F w w') base d n' a :=
  ⟨mf, ms, sv, (h.more hn).widen (fun b hb => .inl hb) (fun b hb' => hb'.elim (fun x => ⟨h.low b x, h.high b x⟩) (fun x => ⟨Nat.le_trans hb x.1, x.2⟩))⟩

/-- Remove: the error's number, the disk behind it. -/
def AD.removeB (b : AD) (name : ByteArray) : Int × AD :=
  if b.dead then (10, b) else match fid b.fm name with
  | none => (7, b)
  | some id => (0, { b with fm := b.fm.del (nameKey name), st := b.st ++ [⟨3, name, name, id⟩] })
def AD.remove (a : AD) (name : ByteArray) : Int × AD := a.alive.removeB name

theorem fid_del_live (D : DataW Unit) (name : ByteArray) (id : Nat) (h : ∃ s, fid (D.del (nameKey name)) s = some id) : ∃ s, fid D s = some id := by
  obtain ⟨s, hs⟩ := h
  by_cases e : s = name
  · subst e; rw [fid_del_same] at hs; cases hs
  · rw [fid_del_other _ e] at hs; exact ⟨s, hs⟩

set_option maxRecDepth 100000 in
set_option maxHeartbeats 1000000 in
theorem Remove_any {w : World} {F : Nat → Prop} {base d n : Nat} {a : AD} (h : DiskAt w F base d n a) (hn : n ≤ 1000000) (name : ByteArray) (hs : name.size ≤ maxLen) :
    Calls Tryz.prog 45 #[.pointer (some ⟨d, 0, none⟩), .string name] w (OpPost2 F base d (n + 1) w (a.remove name)) := by
  obtain ⟨mf, ms, sv, p⟩ := h
  have hbase : base ≤ w.heap.size := Nat.le_of_lt (Nat.lt_of_le_of_lt (p.low d p.fd) (p.high d p.fd))
  have hS : a.remove name = a.alive.removeB name := rfl
  have HA := Lib.hid (alive_disk p)
  clear p
  generalize a.alive = b at HA hS
  have HS := Lib.hid hS
  clear hS
  go_enter Tryz.func45, Tryz.ntmps45
  go_wp2_with fail
  refine HA.out.mono ?_
  rintro e w1 ⟨rfl, p1, hc1⟩
  have h1 := p1.blk.c1
  obtain ⟨hl, _⟩ := look_ok p1.files name hs
  have P1 := Lib.hid p1
  have HC := Lib.hid hc1
  clear HA p1 hc1
  cases hd : b.dead with
  | true =>
    have HR := Lib.hid (show a.remove name = (10, b) by rw [HS.out, AD.removeB, hd]; rfl)
    clear hd HS
    go_wp2
    go_ret
    exact ⟨ret_i (by rw [HR.out]), by rw [HR.out]; exact DiskAt.grow P1.out (by omega) HC.out.size hbase, HC.out⟩
  | false =>
    cases hf : fid b.fm name with
    | none =>
      have HR := Lib.hid (show a.remove name = (7, b) by rw [HS.out, AD.removeB, hd, hf]; rfl)
      rw [hf] at hl
      simp only [Option.map_none, Option.isSome_none] at hl
      clear hd HS hf
      go_wp2
      go_ret
      exact ⟨ret_i (by rw [HR.out]), by rw [HR.out]; exact DiskAt.grow P1.out (by omega) HC.out.size hbase, HC.out⟩
    | some id =>
      have HR := Lib.hid (show a.remove name = (0, { b with fm := b.fm.del (nameKey name), st := b.st ++ [⟨3, name, name, id⟩] }) by rw [HS.out, AD.removeB, hd, hf]; rfl)
      have hli : b.Live id := .inl ⟨name, hf⟩
      rw [hf] at hl
      simp only [Option.map_some, Option.isSome_some] at hl
      obtain ⟨w2, hrun, hm2, hg2, hz2⟩ := map_del P1.out.files name hs 0
      have p2 := (P1.out.hold hli).setFiles hm2 hg2 (Nat.le_refl _) (fun i hi => .inl (fid_del_live _ _ _ hi))
      have h3 := p2.blk.c3
      have f3 := p2.blk.free 3
      have HC2 := Lib.hid (show Chg F w w2 from HC.out.trans ⟨hg2.os, hg2.tape, hg2.output, hg2.size, fun k hk hf => hg2.block k hk (fun e => hf ((Option.some.inj e) ▸ P1.out.ff))⟩)
      have P2 := Lib.hid p2
      clear p2 hm2 hg2 hz2 hd hf HS hli
      have HL := Lib.hid (show (b.st.length + 1) * 48 ≤ 140737488355328 by have := P1.out.len; omega)
      have HZ := Lib.hid (show base ≤ w2.heap.size by have := HC2.out.size; omega)
      go_wp2_with (first | ((with_reducible refine gate_builtin (b := .append) (xs := #[.tmp 30, .tmp 35]) rfl ?_); at_builtin; go_loud (refine print_append_cells (w0 := w2) base rfl (.tmp 30) (.tmp 35) 70 93 _ 4 48 rfl Tryz.underlying70 info93 rfl (by decide) (by decide) sv b.st.length (b.st.flatMap Stp.enc) (Stp.enc ⟨3, name, name, id⟩) rfl rfl rfl ?h1 P2.out.steps (Below.refl _ _) HZ.out HL.out ?_); (case h1 => exact enc_one _); intro v1 w3 ho _ hg hat; obtain ⟨A1, c1, hv1⟩ := own_slice ho; subst hv1; have hb3 := P2.out.blkBehind hg; have h3' := hb3.c3; have f3' := hb3.free 3; have HS3 := Lib.hid (P2.out.addStep ⟨3, name, name, id⟩ (.inr (.inr (.inr (List.mem_cons_self)))) ho hg hat (Nat.le_refl _)); clear ho hg hat hb3 h3 f3))
      go_ret
      have p4 := (HS3.out.1).fewer (l := b.held) (fun i hi => List.mem_cons_of_mem _ hi)
      exact ⟨ret_i (by rw [HR.out]), by rw [HR.out]; exact ⟨mf, ms, _, p4.widen (fun k hk => hk.elim .inl (fun x => .inr ⟨Nat.le_trans HC2.out.size x.1, x.2⟩)) (fun k hk => hk.elim (fun x => ⟨p4.low k (.inl x), p4.high k (.inl x)⟩) (fun x => ⟨Nat.le_trans hbase x.1, x.2⟩))⟩, HC2.out.trans HS3.out.2⟩
end Go.Proofs.YtlilkfnfcaepiaaGreatDoor.D
set_option linter.unusedSimpArgs false
set_option linter.unusedVariables false
namespace Go.Proofs.YtlilkfnfcaepiaaGreatDoor.D
open Go.RowKit Go.Proofs.YtlilkfnfcaepiaaGreatDoorW.PrintWords
open Go.ChangeMaps Go.MapKept

def entSize (ob : Nat → ByteArray × Nat) (p : Lit × DataW Unit) : Nat := match p.2 with | .lit (.int _ b) => (ob b.toNat).1.size | _ => 0
def sumOf (ob : Nat → ByteArray × Nat) (es : List (Lit × DataW Unit)) : Nat := (es.map (entSize ob)).foldr (· + ·) 0
def usedOf (D : DataW Unit) (ob : Nat → ByteArray × Nat) : Nat := match D with | .map es => sumOf ob es | _ => 0

theorem sumOf_cons (ob : Nat → ByteArray × Nat) (p : Lit × DataW Unit) (es : List (Lit × DataW Unit)) : sumOf ob (p :: es) = entSize ob p + sumOf ob es := rfl
theorem sum_filter_le (ob : Nat → ByteArray × Nat) (f : Lit × DataW Unit → Bool) : ∀ es, sumOf ob (es.filter f) ≤ sumOf ob es
  | [] => Nat.le_refl _
  | p :: es => by
    have ih := sum_filter_le ob f es
    by_cases h : f p = true
    · rw [List.filter_cons_of_pos h, sumOf_cons, sumOf_cons]; omega
    · rw [List.filter_cons_of_neg h, sumOf_cons]; omega
theorem sum_filter_all (ob : Nat → ByteArray × Nat) (f : Lit × DataW Unit → Bool) (es : List (Lit × DataW Unit)) (h : ∀ p ∈ es, f p = true) : es.filter f = es := List.filter_eq_self.2 h
theorem sum_filter_none (ob : Nat → ByteArray × Nat) (f : Lit × DataW Unit → Bool) (es : List (Lit × DataW Unit)) (h : ∀ p ∈ es, f p = false) : sumOf ob (es.filter f) = 0 := by
  rw [List.filter_eq_nil_iff.2 (fun p hp => by rw [h p hp]; decide)]; rfl
theorem sum_filter_same (ob : Nat → ByteArray × Nat) {f g : Lit × DataW Unit → Bool} : ∀ es : List (Lit × DataW Unit), (∀ p ∈ es, f p = g p) → sumOf ob (es.filter f) = sumOf ob (es.filter g)
  | [], _ => rfl
  | p :: es, h => by
    have ih := sum_filter_same ob es (fun q hq => h q (List.mem_cons_of_mem _ hq))
    have e := h p List.mem_cons_self
    cases hp : g p with
    | true => rw [List.filter_cons_of_pos (e.trans hp), List.filter_cons_of_pos hp, sumOf_cons, sumOf_cons, ih]
    | false => rw [List.filter_cons_of_neg (by rw [e, hp]; decide), List.filter_cons_of_neg (by rw [hp]; decide), ih]

/-- One key more has come. -/
theorem sum_step (ob : Nat → ByteArray × Nat) (left : Lit → Bool) (kl : Lit) (hk : WideAt.IsKeyLit kl) (hl : left kl = true) (x : DataW Unit) : ∀ es : List (Lit × DataW Unit), es.Pairwise (fun p q => p.1 ≠ q.1) → (kl, x) ∈ es →
    sumOf ob (es.filter fun p => !(left p.1 && !p.1.sameKey kl)) = sumOf ob (es.filter fun p => !left p.1) + entSize ob (kl, x)
  | [], _, h => by cases h
  | p :: es, hp, h => by
    rcases List.mem_cons.1 h with rfl | h
    · have hne : ∀ q ∈ es, q.1 ≠ kl := fun q hq e => (List.pairwise_cons.1 hp).1 q hq e.symm
      have hs : sumOf ob (es.filter fun p => !(left p.1 && !p.1.sameKey kl)) = sumOf ob (es.filter fun p => !left p.1) := sum_filter_same ob es (fun q hq => by
        have : q.1.sameKey kl = false := by
          cases hh : q.1.sameKey kl with
          | false => rfl
          | true => exact absurd (WideAt.sameKey_eq hh) (hne q hq)
        rw [this]; simp)
      rw [List.filter_cons_of_pos (by simp [WideAt.sameKey_self hk]), List.filter_cons_of_neg (by simp [hl]), sumOf_cons, hs]
      omega
    · have hne : p.1 ≠ kl := (List.pairwise_cons.1 hp).1 (kl, x) h
      have hsk : p.1.sameKey kl = false := by
        cases hh : p.1.sameKey kl with
        | false => rfl
        | true => exact absurd (WideAt.sameKey_eq hh) hne
      have ih := sum_step ob left kl hk hl x es (List.pairwise_cons.1 hp).2 h
      cases hlp : left p.1 with
      | true => rw [List.filter_cons_of_neg (by simp [hlp, hsk]), List.filter_cons_of_neg (by simp [hlp]), ih]
      | false => rw [List.filter_cons_of_pos (by simp [hlp]), List.filter_cons_of_pos (by simp [hlp]), sumOf_cons, sumOf_cons, ih]; omega

theorem sum_bound (ob : Nat → ByteArray × Nat) (B : Nat) : ∀ es : List (Lit × DataW Unit), (∀ p ∈ es, entSize ob p ≤ B) → sumOf ob es ≤ es.length * B
  | [], _ => by simp [sumOf]
  | p :: es, h => by
    have := sum_bound ob B es (fun q hq => h q (List.mem_cons_of_mem _ hq))
    have := h p List.mem_cons_self
    rw [sumOf_cons, List.length_cons, Nat.succ_mul]; omega

def partUsed (D : DataW Unit) (ob : Nat → ByteArray × Nat) (left : Lit → Bool) : Nat := match D with | .map es => sumOf ob (es.filter fun p => !left p.1) | _ => 0

theorem find_key {x : DataW Unit} {kl : Lit} (hk : WideAt.IsKeyLit kl) : ∀ es : List (Lit × DataW Unit), es.Pairwise (fun p q => p.1 ≠ q.1) → (kl, x) ∈ es → es.find? (fun p => p.1.sameKey kl) = some (kl, x)
  | [], _, h => by cases h
  | p :: es, hp, h => by
    rcases List.mem_cons.1 h with rfl | h
    · simp [List.find?_cons, WideAt.sameKey_self hk]
    · have hne : p.1 ≠ kl := (List.pairwise_cons.1 hp).1 (kl, x) h
      have hsk : p.1.sameKey kl = false := by
        cases hh : p.1.sameKey kl with
        | false => rfl
        | true => exact absurd (WideAt.sameKey_eq hh) hne
      rw [List.find?_cons, hsk]
      exact find_key hk es (List.pairwise_cons.1 hp).2 h
theorem key_inv {v : Value} {kl : Lit} (h : keyOf Tryz.prog 9 v = some kl) : ∃ s : ByteArray, v = .string s ∧ kl = nameKey s ∧ s.size ≤ maxLen := by
  obtain ⟨s, rfl⟩ := Maps.keyOf_string_inv Tryz.underlying9 h
  refine ⟨s, rfl, ?_⟩
  rw [keyOf_string Tryz.underlying9] at h
  simp only [mapKey, Tryz.underlying9] at h
  split at h
  · rename_i hs
    exact ⟨(Option.some.inj h).symm, hs⟩
  · cases h

section
open Go.WideElems (Fit rd rg pl rd_val rd_key rg_of)
open Go.WideShapes (sorted_perm)
variable {H : Type} {P : Program} {k : TypeId} {R : Value → Option (DataW H × List MemPlace)} {w : World} {b n : Nat} {D : DataW H}
theorem owns_ents (h : w.ownsMap P k R b n D) (K : Maps.Keyed P k) : ∃ es, D = .map es ∧ es.Pairwise (fun p q => p.1 ≠ q.1) ∧ (∀ p ∈ es, WideAt.IsKeyLit p.1) ∧ es.length ≤ n ∧ ∀ p ∈ es, ∃ v x z, keyOf P k v = some p.1 ∧ R x = some z ∧ p.2 = z.1 := by
  obtain ⟨es, clock, _, F, hs, rfl⟩ := h
  refine ⟨_, rfl, ((sorted_perm _).pairwise_iff (fun {_ _} hne => Ne.symm hne)).2 (Maps.fit_apart K F), fun p hp => ?_, ?_, fun p hp => ?_⟩
  · obtain ⟨x, hx, rfl⟩ := List.mem_map.1 (mem_sorted.1 hp)
    obtain ⟨y, hy⟩ := F.reads x hx
    rw [rg_of hy]
    exact K.key (rd_key hy)
  · rw [length_sorted, List.length_map, Array.length_toList]; exact hs
  · obtain ⟨x, hx, rfl⟩ := List.mem_map.1 (mem_sorted.1 hp)
    obtain ⟨y, hy⟩ := F.reads x hx
    rw [rg_of hy]
    obtain ⟨z, hz, hz2⟩ := rd_val hy
    exact ⟨x.key, x.val, z, rd_key hy, hz, hz2⟩
end
/-- What the folder's entries are. -/
theorem FMap.ents {w : World} {m n : Nat} {D : DataW Unit} (h : FMap w m n D) : ∃ es, D = .map es ∧ es.Pairwise (fun p q => p.1 ≠ q.1) ∧ (∀ p ∈ es, WideAt.IsKeyLit p.1) ∧ es.length ≤ n ∧ ∀ p ∈ es, ∃ (s : ByteArray) (b : Nat), p = (nameKey s, .lit (.int .i64 b)) ∧ fid D s = some b ∧ s.size ≤ maxLen := by
  obtain ⟨es, hD, hpw, hkl, hn, hen⟩ := owns_ents h keyed9
  refine ⟨es, hD, hpw, hkl, hn, fun p hp => ?_⟩
  obtain ⟨v, x, z, hk, hz, h2⟩ := hen p hp
  obtain ⟨s, _, hs, hsm⟩ := key_inv hk
  obtain ⟨b, _, rfl⟩ := Rf_inv hz
  have hp2 : p = (nameKey s, .lit (.int .i64 b)) := Prod.ext hs h2
  refine ⟨s, b, hp2, ?_, hsm⟩
  rw [hp2] at hp
  unfold fid
  rw [hD]
  simp only [DataW.atKey, find_key (nameKey_is s) es hpw hp]
  simp

theorem part_start {w : World} {m n : Nat} {D : DataW Unit} (h : FMap w m n D) (ob : Nat → ByteArray × Nat) : partUsed D ob (Maps.has D) = 0 := by
  obtain ⟨es, rfl, hpw, hkl, _⟩ := h.ents
  exact sum_filter_none ob _ es (fun p hp => by
    have : Maps.has (.map es) p.1 = true := by rw [Maps.has_eq, List.any_eq_true]; exact ⟨p, hp, WideAt.sameKey_self (hkl p hp)⟩
    simp [this])
theorem part_end (D : DataW Unit) (ob : Nat → ByteArray × Nat) (left : Lit → Bool) (hl : ∀ k, left k = false) : partUsed D ob left = usedOf D ob := by
  unfold partUsed usedOf
  split
  · rw [sum_filter_all ob _ _ (fun p _ => by simp [hl])]
  · rfl
theorem part_step {w : World} {m n : Nat} {D : DataW Unit} (h : FMap w m n D) (ob : Nat → ByteArray × Nat) (left : Lit → Bool) (s : ByteArray) (b : Nat) (hl : left (nameKey s) = true) (hf : fid D s = some b) :
    partUsed D ob (fun z => left z && !z.sameKey (nameKey s)) = partUsed D ob left + (ob b).1.size := by
  obtain ⟨es, rfl, hpw, hkl, _, hen⟩ := h.ents
  have hm : (nameKey s, (.lit (.int .i64 b) : DataW Unit)) ∈ es := by
    unfold fid at hf
    simp only [DataW.atKey] at hf
    split at hf
    · rename_i k b' heq
      split at heq
      · rename_i p hp
        have h1 := List.mem_of_find?_eq_some hp
        have h2 := List.find?_some hp
        obtain ⟨s', b2, rfl, _⟩ := hen p h1
        have e1 := nameKey_inj (WideAt.sameKey_eq h2)
        subst e1
        simp only at heq
        injection heq with heq
        injection heq with e1 e2
        simp only [Option.some.injEq] at hf
        have : b2 = b := by omega
        rw [← this]; exact h1
      · cases heq
    · cases hf
  have := sum_step ob left (nameKey s) (nameKey_is s) hl _ es hpw hm
  show sumOf ob _ = sumOf ob _ + _
  rw [this]
  simp [entSize]
theorem part_le (D : DataW Unit) (ob : Nat → ByteArray × Nat) (left : Lit → Bool) : partUsed D ob left ≤ usedOf D ob := by
  unfold partUsed usedOf
  split
  · exact sum_filter_le _ _ _
  · exact Nat.le_refl _
theorem used_bound {w : World} {m n : Nat} {D : DataW Unit} (h : FMap w m n D) (ob : Nat → ByteArray × Nat) (B : Nat) (hB : ∀ s b, fid D s = some b → (ob b).1.size ≤ B) : usedOf D ob ≤ n * B := by
  obtain ⟨es, rfl, _, _, hn, hen⟩ := h.ents
  refine Nat.le_trans (sum_bound ob B es (fun p hp => ?_)) (Nat.mul_le_mul_right _ hn)
  obtain ⟨s, b, rfl, hf, _⟩ := hen p hp
  simpa [entSize] using hB s b hf
end Go.Proofs.YtlilkfnfcaepiaaGreatDoor.D
set_option linter.unusedSimpArgs false
set_option linter.unusedVariables false
namespace Go.Proofs.YtlilkfnfcaepiaaGreatDoor.D
open Go.RowKit Go.Proofs.YtlilkfnfcaepiaaGreatDoorW.PrintWords
open Go.ChangeMaps Go.MapKept

set_option maxRecDepth 100000 in
set_option maxHeartbeats 1000000 in
theorem Used_any {w : World} {F : Nat → Prop} {base d n : Nat} {a : AD} (h : DiskAt w F base d n a) (hn : n ≤ 1000000) :
    Calls Tryz.prog 94 #[.pointer (some ⟨d, 0, none⟩)] w fun e w' => e = .returned (.int .i64 (usedOf a.fm a.ob : Nat)) ∧ Below w.heap.size w w' := by
  obtain ⟨mf, ms, sv, p⟩ := h
  have h1 := p.blk.c1
  have hown := p.files
  have HP := Lib.hid p
  have hub := used_bound p.files a.ob 1073741824 (fun s b hf => (p.big b (.inl ⟨s, hf⟩)).1)
  have HU := Lib.hid (show usedOf a.fm a.ob ≤ 1073741824000000 by have := Nat.mul_le_mul_right 1073741824 hn; omega)
  clear p hub
  go_enter Tryz.func94, Tryz.ntmps94
  go_wp2_with (first | (at_range; refine wpList_range_own _ rfl _ 69 rfl 9 91 keyed9 Tryz.underlying69 Rf mf n a.fm rfl hown ?_; intro w0 hrg0 hg0 hs0))
  go_frame
  have HB0 := Lib.hid (show Below w.heap.size w w0 from ⟨hg0.os, hg0.tape, hg0.output, hg0.size, fun k hk => hg0.block k hk (by simp)⟩)
  have HS := Lib.hid (part_start hown a.ob)
  have HL0 := Lib.hid (show w.heap.size < w0.heap.size by omega)
  clear hg0 hs0 hown
  go_loopw [3] (fun v3 wr => ∃ (left : Lit → Bool) (cnt : Nat), Aside0 (wr.ranges Tryz.prog 9 Rf mf w.heap.size n a.fm left cnt) ∧ v3 = .int .i64 (partUsed a.fm a.ob left : Nat) ∧ Aside0 (Below w.heap.size w wr)) (fun _ wr => wr.rangeLeft mf w.heap.size)
  case atStart => exact ⟨Maps.has a.fm, Maps.size a.fm, ⟨hrg0⟩, by rw [HS.out]; rfl, ⟨HB0.out⟩⟩
  case round =>
    obtain ⟨left, cnt, HR, rfl, HB⟩ := hrel
    clear hrg0
    have HC := Lib.hid HR.out.left_eq
    have hpl := Nat.le_trans (part_le a.fm a.ob left) HU.out
    go_wp2_with (first | (at_next; refine wpList_next_ranges _ rfl _ rfl 9 keyed9 Rf Value.string (fun b : Nat => Value.pointer (some ⟨b, 0, none⟩)) (fun v kl hk => by obtain ⟨s, h, _⟩ := key_inv hk; exact ⟨s, h⟩) (fun v y hy => by obtain ⟨b, h, _⟩ := Rf_inv hy; exact ⟨b, h⟩) mf w.heap.size n a.fm left cnt rfl HR.out ?_ ?_))
    · intro hc0 hl0
      have HE := Lib.hid (part_end a.fm a.ob left hl0)
      clear hc0 hl0
      go_wp2
      go_ret
      exact ⟨ret_i (by rw [HE.out]), HB.out⟩
    · intro x c kl y ps w1 cnt1 hk hlk hy hat hrg1 hlt hg1 hs1 hen
      obtain ⟨s, hxs, hkl, _⟩ := key_inv hk
      obtain rfl : x = s := by injection hxs
      obtain ⟨b, hbv, hyb⟩ := Rf_inv hy
      obtain rfl : c = b := by injection hbv with e; injection e with e; injection e
      obtain ⟨rfl, rfl⟩ := Prod.mk.inj hyb; subst hkl
      have hf : fid a.fm x = some c := by unfold fid; rw [hat]; simp
      have hfa := HP.out.obj c (.inl ⟨x, hf⟩)
      have hc0 : w1.cell? ⟨c, 0, none⟩ = some (.string (a.ob c).1) := by
        have e1 : wr.heap[c]? = w.heap[c]? := HB.out.block c hfa.lt
        have e2 : w1.heap[c]? = wr.heap[c]? := hg1.block c (lt_of_same hfa.lt e1) (fun e => by have := hfa.lt; injection e with e; omega)
        exact FileAt.c0 ((e2.trans e1).trans hfa)
      have HST := Lib.hid (part_step HP.out.files a.ob left x c hlk hf)
      have hle := Nat.le_trans (part_le a.fm a.ob (fun z => left z && !z.sameKey (nameKey x))) HU.out
      rw [HST.out] at hle
      have HR1 := Aside0.mk hrg1
      have HB1 := Aside0.mk (show Below w.heap.size w w1 from HB.out.grown hg1 (by have := HL0.out; exact HB.out.size) (fun k hk => by injection hk with hk; omega))
      have HC1 := Lib.hid hrg1.left_eq
      have HLT := Lib.hid hlt
      obtain ⟨S1, hS1⟩ : ∃ z, z = (a.ob c).1.size := ⟨_, rfl⟩
      clear hk hlk hy hat hrg1 hlt hg1 hs1 hxs hbv hf hfa HB HR
      rw [← hS1] at hle
      go_wp2
      refine ⟨⟨_, cnt1, HR1, ?_, HB1⟩, by rw [HC1.out, HC.out]; exact HLT.out⟩
      rw [HST.out, Int.natCast_add]
end Go.Proofs.YtlilkfnfcaepiaaGreatDoor.D
set_option linter.unusedSimpArgs false
set_option linter.unusedVariables false
namespace Go.Proofs.YtlilkfnfcaepiaaGreatDoor.D
open Go.RowKit Go.Proofs.YtlilkfnfcaepiaaGreatDoorW.PrintWords
open Go.ChangeMaps Go.MapKept

/-- Rename: the error's number, the disk behind it. -/
def AD.renameB (b : AD) (frm tgt : ByteArray) : Int × AD :=
  if b.dead then (10, b) else match fid b.fm frm with
  | none => (7, b)
  | some id => if nameOk tgt then (0, { b with fm := (b.fm.del (nameKey frm)).put (nameKey tgt) (.lit (.int .i64 id)), st := b.st ++ [⟨2, frm, tgt, id⟩] }) else (11, b)
def AD.rename (a : AD) (frm tgt : ByteArray) : Int × AD := a.alive.renameB frm tgt

theorem fid_put_live (D : DataW Unit) (hD : Maps.IsMap D) (name : ByteArray) (b id : Nat) (h : ∃ s, fid (D.put (nameKey name) (.lit (.int .i64 b))) s = some id) : id = b ∨ ∃ s, fid D s = some id := by
  obtain ⟨s, hs⟩ := h
  by_cases e : s = name
  · subst e; rw [fid_put_same D hD] at hs; exact .inl (Option.some.inj hs).symm
  · rw [fid_put_other _ e] at hs; exact .inr ⟨s, hs⟩

set_option maxRecDepth 100000 in
set_option maxHeartbeats 2000000 in
theorem Rename_any {w : World} {F : Nat → Prop} {base d n : Nat} {a : AD} (h : DiskAt w F base d n a) (hn : n ≤ 1000000) (frm tgt : ByteArray) (hs : frm.size ≤ maxLen) (ht : tgt.size ≤ 140737488351232) :
    Calls Tryz.prog 57 #[.pointer (some ⟨d, 0, none⟩), .string frm, .string tgt] w (OpPost2 F base d (n + 2) w (a.rename frm tgt)) := by
  obtain ⟨mf, ms, sv, p⟩ := h
  have hbase : base ≤ w.heap.size := Nat.le_of_lt (Nat.lt_of_le_of_lt (p.low d p.fd) (p.high d p.fd))
  have hS : a.rename frm tgt = a.alive.renameB frm tgt := rfl
  have HA := Lib.hid (alive_disk p)
  clear p
  generalize a.alive = b at HA hS
  have HS := Lib.hid hS
  clear hS
  go_enter Tryz.func57, Tryz.ntmps57
  go_wp2_with fail
  refine HA.out.mono ?_
  rintro e w1 ⟨rfl, p1, hc1⟩
  have h1 := p1.blk.c1
  obtain ⟨hl, _⟩ := look_ok p1.files frm hs
  have P1 := Lib.hid p1
  have HC := Lib.hid hc1
  clear HA p1 hc1
  cases hd : b.dead with
  | true =>
    have HR := Lib.hid (show a.rename frm tgt = (10, b) by rw [HS.out, AD.renameB, hd]; rfl)
    clear hd HS
    go_wp2
    go_ret
    exact ⟨ret_i (by rw [HR.out]), by rw [HR.out]; exact DiskAt.grow P1.out (by omega) HC.out.size hbase, HC.out⟩
  | false =>
    cases hf : fid b.fm frm with
    | none =>
      have HR := Lib.hid (show a.rename frm tgt = (7, b) by rw [HS.out, AD.renameB, hd, hf]; rfl)
      rw [hf] at hl
      simp only [Option.map_none, Option.isSome_none] at hl
      clear hd HS hf
      go_wp2
      go_ret
      exact ⟨ret_i (by rw [HR.out]), by rw [HR.out]; exact DiskAt.grow P1.out (by omega) HC.out.size hbase, HC.out⟩
    | some id =>
      have hli : b.Live id := .inl ⟨frm, hf⟩
      have HLI := Lib.hid hli
      have HS2 := Lib.hid (show a.rename frm tgt = if nameOk tgt then (0, { b with fm := (b.fm.del (nameKey frm)).put (nameKey tgt) (.lit (.int .i64 id)), st := b.st ++ [⟨2, frm, tgt, id⟩] }) else (11, b) by rw [HS.out, AD.renameB, hd, hf]; rfl)
      rw [hf] at hl
      simp only [Option.map_some, Option.isSome_some] at hl
      clear hd HS hf hli
      go_wp2_with fail
      refine (Name_any tgt ht w1).mono ?_
      rintro e w2 ⟨rfl, hb2⟩
      have P2 := Lib.hid (P1.out.move (w1 := w2) (fun k hk => hb2.block k (P1.out.high k hk)))
      have HC2 := Lib.hid (HC.out.below hb2)
      clear hb2 hl h1
      cases hok : nameOk tgt with
      | false =>
        have HR := Lib.hid (show a.rename frm tgt = (11, b) by rw [HS2.out, hok]; rfl)
        clear hok HS2
        go_wp2
        go_ret
        exact ⟨ret_i (by rw [HR.out]), by rw [HR.out]; exact DiskAt.grow P2.out (by omega) HC2.out.size hbase, HC2.out⟩
      | true =>
        have HR := Lib.hid (show a.rename frm tgt = (0, { b with fm := (b.fm.del (nameKey frm)).put (nameKey tgt) (.lit (.int .i64 id)), st := b.st ++ [⟨2, frm, tgt, id⟩] }) by rw [HS2.out, hok]; rfl)
        clear hok HS2
        obtain ⟨w3, hrun, hm3, hg3, hz3⟩ := map_del P2.out.files frm hs 0
        have p3 := (P2.out.hold HLI.out).setFiles hm3 hg3 (Nat.le_refl _) (fun i hi => .inl (fid_del_live _ _ _ hi))
        have HC3 := Lib.hid (show Chg F w w3 from HC2.out.trans ⟨hg3.os, hg3.tape, hg3.output, hg3.size, fun k hk hf => hg3.block k hk (fun e => hf ((Option.some.inj e) ▸ P2.out.ff))⟩)
        obtain ⟨w4, hrun4, hm4, hg4, hz4⟩ := map_put p3.files (by unfold maxLen; omega) tgt (by unfold maxLen; omega) id
        have p4 := p3.setFiles hm4 hg4 (Nat.le_succ _) (fun i hi => by
          rcases fid_put_live _ p3.files.isMap _ _ _ hi with rfl | h
          · exact .inr (.inr (.inr List.mem_cons_self))
          · exact .inl h)
        have HC4 := Lib.hid (show Chg F w w4 from HC3.out.trans ⟨hg4.os, hg4.tape, hg4.output, hg4.size, fun k hk hf => hg4.block k hk (fun e => hf ((Option.some.inj e) ▸ P2.out.ff))⟩)
        have h1 := P2.out.blk.c1
        have h13 := p3.blk.c1
        have h3 := p4.blk.c3
        have f3 := p4.blk.free 3
        have P4 := Lib.hid p4
        clear p3 p4 hm3 hg3 hz3 hm4 hg4 hz4
        have HL := Lib.hid (show (b.st.length + 1) * 48 ≤ 140737488355328 by have := P2.out.len; omega)
        have HZ := Lib.hid (show base ≤ w4.heap.size by have := HC4.out.size; omega)
        go_wp2_with (first | ((with_reducible refine gate_builtin (b := .append) (xs := #[.tmp 41, .tmp 46]) rfl ?_); at_builtin; refine print_append_cells (w0 := w4) base rfl (.tmp 41) (.tmp 46) 70 93 _ 4 48 rfl Tryz.underlying70 info93 rfl (by decide) (by decide) sv b.st.length (b.st.flatMap Stp.enc) (Stp.enc ⟨2, frm, tgt, id⟩) rfl rfl rfl ?h1 P4.out.steps (Below.refl _ _) HZ.out HL.out ?_; (case h1 => exact enc_one _); intro v1 w5 ho _ hg hat; obtain ⟨A1, c1, hv1⟩ := own_slice ho; subst hv1; have hb5 := P4.out.blkBehind hg; have h3' := hb5.c3; have f3' := hb5.free 3; have HS5 := Lib.hid (P4.out.addStep ⟨2, frm, tgt, id⟩ (.inr (.inr (.inr (List.mem_cons_self)))) ho hg hat (Nat.le_refl _)); clear ho hg hat hb5 h3 f3))
        go_ret
        have p6 := (HS5.out.1).fewer (l := b.held) (fun i hi => List.mem_cons_of_mem _ hi)
        exact ⟨ret_i (by rw [HR.out]), by rw [HR.out]; exact ⟨mf, ms, _, p6.widen (fun k hk => hk.elim .inl (fun x => .inr ⟨Nat.le_trans HC4.out.size x.1, x.2⟩)) (fun k hk => hk.elim (fun x => ⟨p6.low k (.inl x), p6.high k (.inl x)⟩) (fun x => ⟨Nat.le_trans hbase x.1, x.2⟩))⟩, HC4.out.trans HS5.out.2⟩
end Go.Proofs.YtlilkfnfcaepiaaGreatDoor.D
set_option linter.unusedSimpArgs false
set_option linter.unusedVariables false
namespace Go.Proofs.YtlilkfnfcaepiaaGreatDoor.D
open Go.RowKit Go.Proofs.YtlilkfnfcaepiaaGreatDoorW.PrintWords
open Go.ChangeMaps Go.MapKept

def AD.used (b : AD) : Nat := usedOf b.fm b.ob
/-- Append: the error's number, the disk behind it; id: the block of a new file. -/
def AD.appendB (b : AD) (name data : ByteArray) (id : Nat) : Int × AD :=
  if b.dead then (10, b) else if nameOk name then
    if b.room - b.used < data.size then (9, b) else
    match fid b.fm name with
    | some i => (0, b.setOb i ((b.ob i).1 ++ data, (b.ob i).2))
    | none => (0, { b with fm := b.fm.put (nameKey name) (.lit (.int .i64 id)), st := b.st ++ [⟨1, name, name, id⟩], ob := fun i => if i = id then (⟨#[]⟩ ++ data, 0) else b.ob i })
  else (11, b)
def AD.append (a : AD) (name data : ByteArray) (id : Nat) : Int × AD := a.alive.appendB name data id

theorem size_le_used {w : World} {m n : Nat} {D : DataW Unit} (h : FMap w m n D) (ob : Nat → ByteArray × Nat) (s : ByteArray) (b : Nat) (hf : fid D s = some b) : (ob b).1.size ≤ usedOf D ob := by
  have h1 := part_step h ob (fun z => z.sameKey (nameKey s)) s b (WideAt.sameKey_self (nameKey_is s)) hf
  have h2 := part_le D ob (fun z => z.sameKey (nameKey s) && !z.sameKey (nameKey s))
  omega

/-- A new file under a new name. -/
theorem Parts.putNew {w w1 : World} {F : Nat → Prop} {base d n : Nat} {a : AD} {mf ms : Nat} {sv : Value} (p : Parts w F base d n a mf ms sv) (name : ByteArray) (x : ByteArray × Nat) {fm' : DataW Unit}
    (hfm : fm' = a.fm.put (nameKey name) (.lit (.int .i64 w.heap.size)))
    (hf : FMap w1 mf (n + 1) fm') (hg : (w.alloc (.cells #[.string x.1, .int .i64 x.2] 101)).grownBy w1 (some mf)) (hx : x.1.size ≤ 1073741824 ∧ x.2 ≤ x.1.size) :
    Parts w1 (Grow F w w1) base d (n + 1) { a with fm := fm', ob := fun i => if i = w.heap.size then x else a.ob i, held := w.heap.size :: a.held } mf ms sv ∧ Chg F w w1 := by
  have hz0 : (w.alloc (.cells #[.string x.1, .int .i64 x.2] 101)).heap.size = w.heap.size + 1 := by simp
  have hz1 : w.heap.size + 1 ≤ w1.heap.size := hz0 ▸ hg.size
  have hdl := p.high d p.fd
  obtain ⟨es, cl, hm⟩ := p.files.at
  have hne : ∀ k y, w.heap[k]? = some y → k ≠ mf → w1.heap[k]? = some y := fun k y hy ht => by
    have hlt := (Array.getElem?_eq_some_iff.1 hy).1
    rw [hg.block k (by omega) (fun e => ht (Option.some.inj e)), Below.heap_alloc _ _ _ hlt]; exact hy
  have hnt : ∀ k y, w.heap[k]? = some y → (∀ es cl, y ≠ Obj.map es cl) → w1.heap[k]? = some y := fun k y hy ht => hne k y hy (ne_obj hy hm (ht _ _))
  have hold : ∀ id, a.Live id → id ≠ w.heap.size := fun id hl e => by have := p.high id (p.fo id hl); omega
  have hnew : FileAt w1 w.heap.size x := by
    have hmlt := p.high mf p.ff
    unfold FileAt
    rw [hg.block w.heap.size (by omega) (fun e => by have := Option.some.inj e; omega)]
    exact (MapKept.heap_alloc _ _).1
  have live : ∀ id, ({ a with fm := fm', ob := fun i => if i = w.heap.size then x else a.ob i, held := w.heap.size :: a.held } : AD).Live id → id = w.heap.size ∨ a.Live id := by
    rintro id (h | h | h | h)
    · subst hfm
      rcases fid_put_live _ p.files.isMap _ _ _ h with h | h
      · exact .inl h
      · exact .inr (.inl h)
    · exact .inr (.inr (.inl h))
    · exact .inr (.inr (.inr (.inl h)))
    · rcases List.mem_cons.1 h with h | h
      · exact .inl h
      · exact .inr (.inr (.inr (.inr h)))
  refine ⟨{ p with blk := hnt _ _ p.blk (by simp), files := hf, safe := ?_, steps := ?_, len := Nat.le_succ_of_le p.len, obj := ?_, big := ?_, fd := .inl p.fd, ff := .inl p.ff, fs := .inl p.fs, ft := fun k hk => .inl (p.ft k hk), fo := ?_, low := ?_, high := ?_ }, ?_⟩
  · obtain ⟨es2, cl2, hx2⟩ := p.safe.at
    exact (p.safe.move ((hne _ _ hx2 (fun e => p.ne e.symm)).trans hx2.symm)).mono (Nat.le_succ _)
  · exact own_move p.steps (fun k hk => by obtain ⟨c, hc⟩ := own_at p.steps k hk; exact (hnt _ _ hc (by simp)).trans hc.symm)
  · intro id h
    show FileAt w1 id (if id = w.heap.size then x else a.ob id)
    rcases live id h with rfl | h
    · rw [if_pos rfl]; exact hnew
    · rw [if_neg (hold id h)]; exact hnt _ _ (p.obj id h) (by simp)
  · intro id h
    show (if id = w.heap.size then x else a.ob id).1.size ≤ _ ∧ (if id = w.heap.size then x else a.ob id).2 ≤ (if id = w.heap.size then x else a.ob id).1.size
    rcases live id h with rfl | h
    · rw [if_pos rfl]; exact hx
    · rw [if_neg (hold id h)]; exact p.big id h
  · intro id h
    rcases live id h with rfl | h
    · exact .inr ⟨Nat.le_refl _, by omega⟩
    · exact .inl (p.fo id h)
  · intro b hb
    rcases hb with hb | ⟨hb, _⟩
    · exact p.low b hb
    · exact Nat.le_trans (Nat.le_of_lt (Nat.lt_of_le_of_lt (p.low d p.fd) hdl)) hb
  · intro b hb
    rcases hb with hb | ⟨_, hb⟩
    · have := p.high b hb; omega
    · exact hb
  · have c1 : Chg F w (w.alloc (.cells #[.string x.1, .int .i64 x.2] 101)) := Chg.of_below ((Below.refl _ _).alloc (Nat.le_refl _) _)
    exact c1.trans ⟨hg.os, hg.tape, hg.output, hg.size, fun b hb hf => hg.block b hb (fun e => hf ((Option.some.inj e) ▸ p.ff))⟩

def AppPost (F : Nat → Prop) (base d n : Nat) (w : World) (f : Nat → Int × AD) (e : Ending) (w' : World) : Prop := ∃ id, w.heap.size ≤ id ∧ e = .returned (.int .i64 (f id).1) ∧ DiskAt w' (Grow F w w') base d n (f id).2 ∧ Chg F w w'

/-- The end of the way on which a file is made. -/
theorem app_new {w w3 w5 W : World} {F : Nat → Prop} {base d n : Nat} {b : AD} {mf ms : Nat} {sv : Value} {name data : ByteArray} {f : Nat → Int × AD}
    (hR : ∀ i, f i = (0, { b with fm := b.fm.put (nameKey name) (.lit (.int .i64 i)), st := b.st ++ [⟨1, name, name, i⟩], ob := fun j => if j = i then (⟨#[]⟩ ++ data, 0) else b.ob j }))
    (hbase : base ≤ w.heap.size) (hid : w.heap.size ≤ w3.heap.size) (hc3 : Chg F w w3) (hc5 : Chg F w w5)
    (h : Parts W (Grow (Grow F w3 w5) w5 W) base d (n + 1 + 1) { b with fm := b.fm.put (nameKey name) (.lit (.int .i64 w3.heap.size)), st := b.st ++ [⟨1, name, name, w3.heap.size⟩], ob := fun i => if i = w3.heap.size then (⟨#[]⟩, 0) else b.ob i, held := w3.heap.size :: b.held } mf ms sv ∧ Chg (Grow F w3 w5) w5 W) (hds : data.size ≤ 1073741824) :
    AppPost F base d (n + 2) w f (.returned (.int .i64 0)) (W.setCell ⟨w3.heap.size, 0, none⟩ (.string (⟨#[]⟩ ++ data))) := by
  obtain ⟨p, hc⟩ := h
  have hl : ({ b with fm := b.fm.put (nameKey name) (.lit (.int .i64 w3.heap.size)), st := b.st ++ [⟨1, name, name, w3.heap.size⟩], ob := fun i => if i = w3.heap.size then (⟨#[]⟩, 0) else b.ob i, held := w3.heap.size :: b.held } : AD).Live w3.heap.size := .inr (.inr (.inr List.mem_cons_self))
  have hfa := p.obj _ hl
  simp only [if_true] at hfa
  have p2 := (p.setOb hl (hfa.set0 (⟨#[]⟩ ++ data)) (fun k hk => Below.heap_setCell _ _ _ _ hk) (by simp [World.setCell]) ⟨by show (⟨#[]⟩ ++ data : ByteArray).size ≤ _; rw [ByteArray.size_append]; show 0 + data.size ≤ _; omega, Nat.zero_le _⟩).fewer (l := b.held) (fun i hi => List.mem_cons_of_mem _ hi)
  have hz : (W.setCell ⟨w3.heap.size, 0, none⟩ (.string (⟨#[]⟩ ++ data))).heap.size = W.heap.size := by simp [World.setCell]
  refine ⟨w3.heap.size, hid, by rw [hR], ?_, ?_⟩
  · rw [hR]
    have hob : (fun j => if j = w3.heap.size then ((⟨#[]⟩ ++ data : ByteArray), (0 : Nat)) else if j = w3.heap.size then (⟨#[]⟩, 0) else b.ob j) = fun j => if j = w3.heap.size then (⟨#[]⟩ ++ data, 0) else b.ob j := by
      funext j; split <;> rfl
    simp only [AD.setOb] at p2
    rw [hob] at p2
    refine ⟨mf, ms, sv, p2.widen (fun k hk => ?_) (fun k hk => ?_)⟩
    · rcases hk with (hk | hk) | hk
      · exact .inl hk
      · exact .inr ⟨by omega, by have := hc.size; omega⟩
      · exact .inr ⟨by have := hc5.size; omega, by omega⟩
    · rcases hk with hk | hk
      · exact ⟨p2.low k (.inl (.inl hk)), p2.high k (.inl (.inl hk))⟩
      · exact ⟨by omega, hk.2⟩
  · have c1 : Chg F w W := ⟨hc.os.trans hc5.os, hc.tape.trans hc5.tape, hc.output.trans hc5.output, Nat.le_trans hc5.size hc.size, fun k hk hf => by
      rw [hc.block k (by have := hc5.size; omega) (fun x => x.elim hf (fun y => by omega))]; exact hc5.block k hk hf⟩
    exact c1.setNew (p := ⟨w3.heap.size, 0, none⟩) hid _

set_option maxRecDepth 100000 in
set_option maxHeartbeats 2000000 in
theorem Append_any {w : World} {F : Nat → Prop} {base d n : Nat} {a : AD} (h : DiskAt w F base d n a) (hn : n ≤ 1000000) (name data : ByteArray) (hs : name.size ≤ 140737488351232) (ht : data.size ≤ 140737488351232) :
    Calls Tryz.prog 54 #[.pointer (some ⟨d, 0, none⟩), .string name, .string data] w (AppPost F base d (n + 2) w (a.append name data)) := by
  obtain ⟨mf, ms, sv, p⟩ := h
  have hbase : base ≤ w.heap.size := Nat.le_of_lt (Nat.lt_of_le_of_lt (p.low d p.fd) (p.high d p.fd))
  have hS : ∀ id, a.append name data id = a.alive.appendB name data id := fun _ => rfl
  have HA := Lib.hid (alive_disk p)
  clear p
  generalize a.alive = b at HA hS
  have HS := Lib.hid hS
  clear hS
  go_enter Tryz.func54, Tryz.ntmps54
  go_wp2_with fail
  refine HA.out.mono ?_
  rintro e w1 ⟨rfl, p1, hc1⟩
  have P1 := Lib.hid p1
  have HC := Lib.hid hc1
  clear HA p1 hc1
  cases hd : b.dead with
  | true =>
    have HR := Lib.hid (show ∀ id, a.append name data id = (10, b) from fun id => by rw [HS.out, AD.appendB, hd]; rfl)
    clear hd HS
    go_wp2
    go_ret
    exact ⟨w.heap.size, Nat.le_refl _, ret_i (by rw [HR.out]), by rw [HR.out]; exact DiskAt.grow P1.out (by omega) HC.out.size hbase, HC.out⟩
  | false =>
    have HD := Lib.hid hd
    go_wp2_with fail
    refine (Name_any name hs w1).mono ?_
    rintro e w2 ⟨rfl, hb2⟩
    have P2 := Lib.hid (P1.out.move (w1 := w2) (fun k hk => hb2.block k (P1.out.high k hk)))
    have HC2 := Lib.hid (HC.out.below hb2)
    clear hb2
    cases hok : nameOk name with
    | false =>
      have HR := Lib.hid (show ∀ id, a.append name data id = (11, b) from fun id => by rw [HS.out, AD.appendB, HD.out, hok]; rfl)
      clear hok hd HS
      go_wp2
      go_ret
      exact ⟨w.heap.size, Nat.le_refl _, ret_i (by rw [HR.out]), by rw [HR.out]; exact DiskAt.grow P2.out (by omega) HC2.out.size hbase, HC2.out⟩
    | true =>
      have HOK := Lib.hid hok
      clear hd
      have c0 := P2.out.blk.c0
      have hroom := P2.out.room
      have hlt := P2.out.high d P2.out.fd
      obtain ⟨U, hU⟩ : ∃ U, U = b.used := ⟨_, rfl⟩
      have HUU := Lib.hid hU
      have hub := Nat.le_trans (used_bound P2.out.files b.ob 1073741824 (fun s i hf => (P2.out.big i (.inl ⟨s, hf⟩)).1)) (Nat.mul_le_mul_right _ hn)
      have hub2 : U ≤ 1073741824000000 := by rw [hU]; exact hub
      have HU := Lib.hid (show Calls Tryz.prog 94 #[.pointer (some ⟨d, 0, none⟩)] w2.drew (fun e w' => e = .returned (.int .i64 (U : Nat)) ∧ Below w2.drew.heap.size w2.drew w') by rw [hU]; exact Used_any (w := w2.drew) ⟨mf, ms, sv, P2.out.move (w1 := w2.drew) (fun k hk => rfl)⟩ hn)
      clear hub hU
      go_wp2
      go_region_with (go_at_call 94; refine HU.out.mono ?_; rintro e w3 ⟨rfl, hb3⟩; have c0' := (hb3.cell (p := ⟨d, 0, none⟩) hlt).trans c0)
      all_goals
        have P3 := Lib.hid (P2.out.move (w1 := w3) (fun k hk => (hb3.block k (P2.out.high k hk)).trans rfl))
        have HC3 := Lib.hid (show Chg F w w3 from (HC2.out.trans (show Chg F w2 w2.drew from ⟨rfl, rfl, rfl, Nat.le_refl _, fun _ _ _ => rfl⟩)).below hb3)
        clear hb3 c0 c0' hlt HU
        have HWR := Lib.hid (show IntKind.i64.wrap (b.room - (U : Int)) = b.room - (U : Int) from IntWalk.i64_in _ (by omega))
        by_cases hgt : b.room - U < data.size
        · have HR := Lib.hid (show ∀ id, a.append name data id = (9, b) from fun id => by rw [HS.out, AD.appendB, HD.out, HOK.out, ← HUU.out, if_pos rfl, if_pos hgt]; rfl)
          have dgt : decide (IntKind.i64.wrap (b.room - (U : Int)) < (data.size : Int)) = true := by rw [HWR.out]; exact decide_eq_true hgt
          clear hgt HS HUU
          rw [dgt]
          clear dgt
          go_wp2
          go_ret
          exact ⟨w.heap.size, Nat.le_refl _, ret_i (by rw [HR.out]), by rw [HR.out]; exact DiskAt.grow P3.out (by omega) HC3.out.size hbase, HC3.out⟩
        · have dgt : decide (IntKind.i64.wrap (b.room - (U : Int)) < (data.size : Int)) = false := by rw [HWR.out]; exact decide_eq_false hgt
          have HGT := Lib.hid hgt
          have h1 := P3.out.blk.c1
          obtain ⟨hl, _⟩ := look_ok P3.out.files name (by unfold maxLen; omega)
          rw [dgt]
          clear dgt hgt
          cases hf : fid b.fm name with
          | some id =>
            have hli : b.Live id := .inl ⟨name, hf⟩
            have HR := Lib.hid (show ∀ i, a.append name data i = (0, b.setOb id ((b.ob id).1 ++ data, (b.ob id).2)) from fun i => by rw [HS.out, AD.appendB, HD.out, HOK.out, ← HUU.out, if_pos rfl, if_neg HGT.out, hf]; rfl)
            rw [hf] at hl
            simp only [Option.map_some, Option.isSome_some] at hl
            have hfa := P3.out.obj id hli
            have hc := hfa.c0
            have hfr := hfa.free 0
            have hsz := size_le_used P3.out.files b.ob name id hf
            have hsz2 : ((b.ob id).1 ++ data).size ≤ 1073741824 := by
              have e : ((b.ob id).1 ++ data).size = (b.ob id).1.size + data.size := by simp
              have := HGT.out; have := HUU.out; unfold AD.used at this; omega
            have hadd : (b.ob id).1.size + data.size ≤ 1073741824 := by
              have := HGT.out; have := HUU.out; unfold AD.used at this; omega
            have hsf : (b.ob id).2 ≤ ((b.ob id).1 ++ data).size := by
              have := (P3.out.big id hli).2
              have e : ((b.ob id).1 ++ data).size = (b.ob id).1.size + data.size := by simp
              omega
            have HF := Lib.hid (P3.out.setOb hli (hfa.set0 ((b.ob id).1 ++ data)) (fun k hk => Below.heap_setCell _ _ _ _ hk) (by simp [World.setCell]) ⟨hsz2, hsf⟩)
            have HC4 := Lib.hid (HC3.out.setCell (p := ⟨id, 0, none⟩) (P3.out.fo id hli) (.string ((b.ob id).1 ++ data)))
            clear hf hfa hli HS HUU hsz hsz2
            go_wp2
            go_ret
            exact ⟨w.heap.size, Nat.le_refl _, ret_i (by rw [HR.out]), by rw [HR.out]; exact DiskAt.grow HF.out (by omega) HC4.out.size hbase, HC4.out⟩
          | none =>
            have HR := Lib.hid (show ∀ i, a.append name data i = (0, { b with fm := b.fm.put (nameKey name) (.lit (.int .i64 i)), st := b.st ++ [⟨1, name, name, i⟩], ob := fun j => if j = i then (⟨#[]⟩ ++ data, 0) else b.ob j }) from fun i => by rw [HS.out, AD.appendB, HD.out, HOK.out, ← HUU.out, if_pos rfl, if_neg HGT.out, hf]; rfl)
            rw [hf] at hl
            simp only [Option.map_none, Option.isSome_none] at hl
            have hds : data.size ≤ 1073741824 := by have := HGT.out; omega
            have HZ3 := Lib.hid (show base ≤ w3.heap.size by have := HC3.out.size; omega)
            obtain ⟨w4, hW4⟩ : ∃ w4, w4 = w3.alloc (.cells #[.string ⟨#[]⟩, .int .i64 0] 101) := ⟨_, rfl⟩
            have hz4 : w4.heap.size = w3.heap.size + 1 := by rw [hW4]; simp
            have hm4 : FMap w4 mf n b.fm := P3.out.files.move (by rw [hW4]; exact Below.heap_alloc _ _ _ (P3.out.high mf P3.out.ff))
            obtain ⟨w5, hrun5, hm5, hg5, hz5⟩ := map_put hm4 (by unfold maxLen; omega) name (by unfold maxLen; omega) w3.heap.size
            rw [hW4] at hrun5 hg5
            have hpn := P3.out.putNew name (⟨#[]⟩, 0) rfl hm5 hg5 (by decide)
            have h1' : w4.cell? ⟨d, 1, none⟩ = some (.map (some mf)) := by rw [hW4]; exact DB.c1 (P3.out.blk.move (Below.heap_alloc _ _ _ (P3.out.high d P3.out.fd)))
            rw [hW4] at h1'
            have h3 := hpn.1.blk.c3
            have f3 := hpn.1.blk.free 3
            have P5 := Lib.hid hpn.1
            have HC5 := Lib.hid (HC3.out.trans hpn.2)
            have HID := Lib.hid (show w.heap.size ≤ w3.heap.size from HC3.out.size)
            have HL := Lib.hid (show (b.st.length + 1) * 48 ≤ 140737488355328 by have := P2.out.len; omega)
            have HZ5 := Lib.hid (show base ≤ w5.heap.size by have := HC5.out.size; omega)
            clear hpn hm5 hg5 hz5 hm4 hz4 hW4 hf HS HUU
            go_wp2_with (first | ((with_reducible refine gate_builtin (b := .append) (xs := #[.tmp 48, .tmp 53]) rfl ?_); at_builtin; refine print_append_cells (w0 := w5) base rfl (.tmp 48) (.tmp 53) 70 93 _ 4 48 rfl Tryz.underlying70 info93 rfl (by decide) (by decide) sv b.st.length (b.st.flatMap Stp.enc) (Stp.enc ⟨1, name, name, w3.heap.size⟩) rfl rfl rfl ?h1 P5.out.steps (Below.refl _ _) HZ5.out HL.out ?_; (case h1 => exact enc_one _); intro v1 w6 ho _ hg hat; obtain ⟨A1, c1, hv1⟩ := own_slice ho; subst hv1; have hb6 := P5.out.blkBehind hg; have h3' := hb6.c3; have f3' := hb6.free 3; have hq := P5.out.addStep ⟨1, name, name, w3.heap.size⟩ (.inr (.inr (.inr (List.mem_cons_self)))) ho hg hat (Nat.le_refl _); have hfa := hq.1.obj w3.heap.size (.inr (.inr (.inr (List.mem_cons_self)))); have hfc := hfa.c0; have hff := hfa.free 0; simp only [if_true] at hfc; have HS6 := Lib.hid hq; clear ho hg hat hb6 h3 f3 hq hfa))
            go_ret
            exact app_new HR.out hbase HID.out HC3.out HC5.out HS6.out hds
end Go.Proofs.YtlilkfnfcaepiaaGreatDoor.D
