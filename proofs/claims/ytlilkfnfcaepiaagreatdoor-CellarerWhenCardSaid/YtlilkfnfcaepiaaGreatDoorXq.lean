/- path.Name, digest.Is and package packs answer what their Lean functions do. -/
import Derived.Test.YtlilkfnfcaepiaaGreatDoorXh
import Derived.Test.YtlilkfnfcaepiaaGreatDoorXs
import Derived.Test.YtlilkfnfcaepiaaGreatDoorXd
import Derived.Test.YtlilkfnfcaepiaaGreatDoorXp
import Derived.Test.YtlilkfnfcaepiaaGreatDoorXi
import Derived.Test.YtlilkfnfcaepiaaGreatDoorXf
set_option linter.unusedSimpArgs false
set_option linter.unusedVariables false
namespace Go.Proofs.YtlilkfnfcaepiaaGreatDoor.M
open Go.RowKit Go.Proofs.YtlilkfnfcaepiaaGreatDoorW.PrintWords Go.Proofs.YtlilkfnfcaepiaaGreatDoorW.PrintLast Go.Proofs.YtlilkfnfcaepiaaGreatDoorW.PrintMore PB H D

def brokenF (s : ByteArray) (i : Nat) (c : Int) : Bool := if c = 65533 then (((Lib.decodeGo (s.extract i s.size)).2 : Int) == 1) else false

set_option maxRecDepth 100000 in
theorem broken_any (s : ByteArray) (i : Nat) (hi : i ≤ s.size) (c : Int) (w : World) (hT : Lib.Utf8Tabs 1 2 w) :
    Calls Tryz.prog 112 #[.string s, .int .i64 i, .int .i32 c] w (fun e w' => e = .returned (.bool (brokenF s i c)) ∧ Below w.heap.size w w') := by
  by_cases hc : c = 65533
  · subst hc
    go_enter Tryz.func112, Tryz.ntmps112
    go_wp2_with fail
    refine (Tryz.utf8_DecodeRuneInString _ w hT).mono ?_
    rintro e w2 ⟨rfl, hb⟩
    have HB := Aside0.mk hb
    clear hb
    have HE := Lib.hid (show brokenF s i 65533 = (((Lib.decodeGo (s.extract i s.size)).2 : Int) == 1) from if_pos rfl)
    generalize (Lib.decodeGo (s.extract i s.size)).2 = n at HE ⊢
    generalize (Lib.decodeGo (s.extract i s.size)).1 = r
    go_wp2
    go_ret
    refine ⟨?_, HB.out⟩
    exact ret_bool HE.out.symm
  · have hcb : (c == 65533) = false := by simpa using hc
    have HE := Lib.hid (show brokenF s i c = false from if_neg hc)
    clear hc
    go_enter Tryz.func112, Tryz.ntmps112
    go_wp2
    go_ret
    exact ⟨ret_bool HE.out.symm, Below.refl _ _⟩

theorem utf8_move {w w1 : World} (h : Lib.Utf8Tabs 1 2 w) (h1 : w1.heap[1]? = w.heap[1]?) (h2 : w1.heap[2]? = w.heap[2]?) : Lib.Utf8Tabs 1 2 w1 := by
  have e1 : ∀ k, w1.cell? ⟨1, k, none⟩ = w.cell? ⟨1, k, none⟩ := fun k => by simp only [World.cell?, h1]
  have e2 : ∀ k, w1.cell? ⟨2, k, none⟩ = w.cell? ⟨2, k, none⟩ := fun k => by simp only [World.cell?, h2]
  exact ⟨fun c hc => by rw [e1]; exact h.1 c hc, fun i hi => by rw [e2, e2]; exact h.2 i hi⟩
theorem utf8_lt {w : World} (h : Lib.Utf8Tabs 1 2 w) : 2 < w.heap.size := by
  have := (h.2 0 (by omega)).1
  by_cases h2 : 2 < w.heap.size
  · exact h2
  · simp [World.cell?, h2] at this
theorem utf8_below {w w1 : World} (h : Lib.Utf8Tabs 1 2 w) (hb : Below w.heap.size w w1) : Lib.Utf8Tabs 1 2 w1 :=
  utf8_move h (hb.block 1 (by have := utf8_lt h; omega)) (hb.block 2 (utf8_lt h))
theorem utf8_chg {w w1 : World} {F : Nat → Prop} (h : Lib.Utf8Tabs 1 2 w) (hb : Chg F w w1) (h1 : ¬ F 1) (h2 : ¬ F 2) : Lib.Utf8Tabs 1 2 w1 :=
  utf8_move h (hb.block 1 (by have := utf8_lt h; omega) h1) (hb.block 2 (utf8_lt h) h2)
/-- What Name tells of the runes from a place on. -/
def runeBad (s : ByteArray) (pos : Nat) (c : Int) : Bool := decide (c < 32) || (c == 47) || (c == 127) || brokenF s pos c
def nameFrom (s : ByteArray) : Nat → Nat → Bool
  | 0, _ => true
  | f + 1, pos => if pos < s.size then (if runeBad s pos (Utf8.decode s pos).1 then false else nameFrom s f (pos + (Utf8.decode s pos).2)) else true
theorem nameFrom_step (s : ByteArray) (f pos : Nat) (hp : pos < s.size) : nameFrom s (f + 1) pos = if runeBad s pos (Utf8.decode s pos).1 then false else nameFrom s f (pos + (Utf8.decode s pos).2) := by rw [nameFrom, if_pos hp]
theorem nameFrom_end (s : ByteArray) (f pos : Nat) (hp : ¬ pos < s.size) : nameFrom s f pos = true := by
  cases f with
  | zero => rfl
  | succ f => rw [nameFrom, if_neg hp]
/-- The texts that Name refuses at once. -/
def nameBad (s : ByteArray) : Bool := s.toList.isEmpty || (s.toList == [46]) || (s.toList == [46, 46]) || decide (60 < (s.size : Int))
def pathName (s : ByteArray) : Bool := if nameBad s then false else nameFrom s s.size 0

set_option maxRecDepth 100000 in
set_option maxHeartbeats 1000000 in
theorem path_Name (s : ByteArray) (w : World) (hT : Lib.Utf8Tabs 1 2 w) : Calls Tryz.prog 74 #[.string s] w (fun e w' => e = .returned (.bool (pathName s)) ∧ Below w.heap.size w w') := by
  cases h1 : s.toList.isEmpty with
  | true =>
    have HE := Lib.hid (show pathName s = false by unfold pathName nameBad; rw [h1]; rfl)
    go_enter Tryz.func74, Tryz.ntmps74
    go_wp2
    go_ret
    exact ⟨ret_bool HE.out.symm, Below.refl _ _⟩
  | false =>
    cases h2 : (s.toList == [46]) with
    | true =>
      have HE := Lib.hid (show pathName s = false by unfold pathName nameBad; rw [h1, h2]; rfl)
      go_enter Tryz.func74, Tryz.ntmps74
      go_wp2
      go_ret
      exact ⟨ret_bool HE.out.symm, Below.refl _ _⟩
    | false =>
    cases h3 : (s.toList == [46, 46]) with
    | true =>
      have HE := Lib.hid (show pathName s = false by unfold pathName nameBad; rw [h1, h2, h3]; rfl)
      go_enter Tryz.func74, Tryz.ntmps74
      go_wp2
      go_ret
      exact ⟨ret_bool HE.out.symm, Below.refl _ _⟩
    | false =>
    cases h4 : decide (60 < (s.size : Int)) with
    | true =>
      have HE := Lib.hid (show pathName s = false by unfold pathName nameBad; rw [h1, h2, h3, h4]; rfl)
      go_enter Tryz.func74, Tryz.ntmps74
      go_wp2
      go_ret
      exact ⟨ret_bool HE.out.symm, Below.refl _ _⟩
    | false =>
    have HE := Lib.hid (show pathName s = nameFrom s s.size 0 by unfold pathName nameBad; rw [h1, h2, h3, h4]; rfl)
    go_enter Tryz.func74, Tryz.ntmps74
    go_wp2
    clear h1 h2 h3 h4
    go_loopw [] (fun wr => ∃ (pos fuel : Nat), Aside0 (wr.heap[w.heap.size]? = some (.stringIter s pos)) ∧ Aside0 (Below w.heap.size w wr) ∧ Hid (nameFrom s fuel pos = pathName s) ∧ s.size ≤ pos + fuel ∧ w.heap.size < wr.heap.size)
      (fun wr => s.size - wr.iterPos w.heap.size)
    case atStart => exact ⟨0, s.size, ⟨by simp [World.iter_heap]⟩, ⟨(Below.refl _ _).alloc (Nat.le_refl _) _⟩, HE.out.symm, by omega, by simp [World.iter]⟩
    case round =>
      obtain ⟨pos, fuel, hit, HB, HS, hfu, hsz⟩ := hrel
      by_cases hp : pos < s.size
      · have hw := width_pos s pos hp
        obtain ⟨w1, hw1⟩ : ∃ w1, w1 = wr.iterAt w.heap.size s (pos + (Utf8.decode s pos).2) := ⟨_, rfl⟩
        have hnx : ∀ ty, (Instr.next (.pointer (some ⟨w.heap.size, 0, none⟩)) true ty).run Tryz.prog wr = .ok (.tuple #[.bool true, .int .i64 pos, .int .i32 (Utf8.decode s pos).1]) w1 := fun ty => by
          rw [hw1]; exact Lib.run_next_any_at (P := Tryz.prog) wr w.heap.size s pos ty hit.out hp
        have hit1 := Aside0.mk (show w1.heap[w.heap.size]? = some (.stringIter s (pos + (Utf8.decode s pos).2)) by rw [hw1]; exact Lib.iterAt_heap _ _ _ _ _ hit.out)
        have HB1 := Aside0.mk (show Below w.heap.size w w1 by rw [hw1]; exact Lib.below_iterAt HB.out (Nat.le_refl _) _ _)
        have hsz1 : w.heap.size < w1.heap.size := by rw [hw1, Lib.iterAt_size]; exact hsz
        have Hit0 := hit
        have HT1 := Aside0.mk (utf8_below hT HB1.out)
        clear hw1 HB hit
        obtain ⟨fuel, rfl⟩ : ∃ f, fuel = f + 1 := ⟨fuel - 1, by omega⟩
        have HS1 := Lib.hid (HS.out.symm.trans (nameFrom_step s fuel pos hp))
        clear HS
        generalize (Utf8.decode s pos).1 = c at *
        generalize (Utf8.decode s pos).2 = n at *
        have hple : pos ≤ s.size := Nat.le_of_lt hp
        cases b1 : decide ((c : Int) < 32) with
        | true =>
          have HR := Lib.hid (show pathName s = false by rw [HS1.out]; unfold runeBad; rw [b1]; rfl)
          go_wp2
          go_ret
          exact ⟨ret_bool HR.out.symm, HB1.out⟩
        | false =>
        cases b2 : ((c : Int) == 47) with
        | true =>
          have HR := Lib.hid (show pathName s = false by rw [HS1.out]; unfold runeBad; rw [b1, b2]; rfl)
          go_wp2
          go_ret
          exact ⟨ret_bool HR.out.symm, HB1.out⟩
        | false =>
        cases b3 : ((c : Int) == 127) with
        | true =>
          have HR := Lib.hid (show pathName s = false by rw [HS1.out]; unfold runeBad; rw [b1, b2, b3]; rfl)
          go_wp2
          go_ret
          exact ⟨ret_bool HR.out.symm, HB1.out⟩
        | false =>
        have HS2 := Lib.hid (show pathName s = if brokenF s pos c then false else nameFrom s fuel (pos + n) by rw [HS1.out]; unfold runeBad; rw [b1, b2, b3]; rfl)
        go_wp2_with fail
        refine (broken_any s pos hple c w1 HT1.out).mono ?_
        rintro e w2 ⟨rfl, hb⟩
        have HB2 := Aside0.mk (below_step HB1.out hb)
        have hit2 := Aside0.mk ((hb.block w.heap.size hsz1).trans hit1.out)
        have hsz2 : w.heap.size < w2.heap.size := Nat.lt_of_lt_of_le hsz1 hb.size
        clear hb b1 b2 b3
        cases b4 : brokenF s pos c with
        | true =>
          have HR := Lib.hid (show pathName s = false by rw [HS2.out, b4]; rfl)
          go_wp2
          go_ret
          exact ⟨ret_bool HR.out.symm, HB2.out⟩
        | false =>
          have HR := Lib.hid (show nameFrom s fuel (pos + n) = pathName s by rw [HS2.out, b4]; rfl)
          go_wp2
          go_roundw
          case rel => exact ⟨pos + n, fuel, hit2, HB2, HR, by omega, hsz2⟩
          case measure => rw [iterPos_of hit2.out, iterPos_of Hit0.out]; omega
      · have HR := Lib.hid (show pathName s = true by rw [← HS.out, nameFrom_end s fuel pos hp])
        have hnx : ∀ ty, (Instr.next (.pointer (some ⟨w.heap.size, 0, none⟩)) true ty).run Tryz.prog wr = .ok (.tuple #[.bool false]) wr := fun ty => Lib.run_next_end_at (P := Tryz.prog) wr w.heap.size s pos ty hit.out hp
        go_wp2
        go_ret
        exact ⟨ret_bool HR.out.symm, HB.out⟩

/-- digest.Is. -/
def unhexOk (s : ByteArray) : Bool := match unhexFrom s s.size 0 16 [] with
  | some (_, high) => decide (high = 16)
  | none => false
def digestIs (s : ByteArray) : Bool := unhexOk s && ((s.size : Int) == 64)
theorem unhexV_eq (s : ByteArray) : ∃ r, unhexV (unhexFrom s s.size 0 16 []) = .tuple #[.string r, .bool (unhexOk s)] := by
  unfold unhexV unhexOk
  cases unhexFrom s s.size 0 16 [] with
  | none => exact ⟨_, rfl⟩
  | some p =>
    obtain ⟨l, high⟩ := p
    by_cases h : high = 16
    · exact ⟨strOfNums l, by simp [h]⟩
    · exact ⟨⟨#[]⟩, by simp [h]⟩

set_option maxRecDepth 100000 in
theorem digest_Is (s : ByteArray) (hs : s.size ≤ 140737488351232) (w : World) : Calls Tryz.prog 75 #[.string s] w (fun e w' => e = .returned (.bool (digestIs s)) ∧ Below w.heap.size w w') := by
  obtain ⟨r, hr⟩ := unhexV_eq s
  go_enter Tryz.func75, Tryz.ntmps75
  go_wp2_with fail
  refine (bits_Unhex s hs w).mono ?_
  rintro e w2 ⟨rfl, hb⟩
  have HB := Aside0.mk hb
  clear hb
  rw [hr]
  clear hr
  cases h : unhexOk s with
  | true =>
    have HR := Lib.hid (show digestIs s = ((s.size : Int) == 64) by unfold digestIs; rw [h]; rfl)
    go_wp2
    go_ret
    exact ⟨ret_bool HR.out.symm, HB.out⟩
  | false =>
    have HR := Lib.hid (show digestIs s = false by unfold digestIs; rw [h]; rfl)
    go_wp2
    go_ret
    exact ⟨ret_bool HR.out.symm, HB.out⟩
end Go.Proofs.YtlilkfnfcaepiaaGreatDoor.M
set_option linter.unusedSimpArgs false
set_option linter.unusedVariables false
namespace Go.Proofs.YtlilkfnfcaepiaaGreatDoor.M
open Go.RowKit Go.Proofs.YtlilkfnfcaepiaaGreatDoorW.PrintWords Go.Proofs.YtlilkfnfcaepiaaGreatDoorW.PrintLast Go.Proofs.YtlilkfnfcaepiaaGreatDoorW.PrintMore PB H D G

def cutOk (s p : ByteArray) : Bool := decide (p.size ≤ s.size) && ((s.extract 0 p.size).toList == p.toList)
def cutRest (s p : ByteArray) : ByteArray := if cutOk s p then s.extract p.size s.size else s
theorem drawn_below {w w' : World} (h : Drawn0 w w') : Below w.heap.size w w' := by
  obtain ⟨m, rfl⟩ := h
  exact ⟨rfl, rfl, rfl, Nat.le_refl _, fun _ _ => rfl⟩
theorem cut_f (s p : ByteArray) : PF.strings_CutPrefix.f s p = some (cutRest s p, cutOk s p) := by
  unfold PF.strings_CutPrefix.f PF.stringslite_CutPrefix.f PF.stringslite_HasPrefix.f cutRest cutOk
  have e0 : (0 : Int) ≤ (p.size : Int) := by omega
  by_cases h : p.size ≤ s.size
  · have h1 : (s.size : Int) ≥ (p.size : Int) := by omega
    have h2 : (p.size : Int) ≤ (s.size : Int) := by omega
    simp only [h1, h2, e0, if_true, Int.toNat_natCast, Option.bind_some, h, decide_true, Bool.true_and]
    cases hb : ((s.extract 0 p.size).toList == p.toList) <;> simp
  · have h1 : ¬ (s.size : Int) ≥ (p.size : Int) := by omega
    simp only [h1, if_false, Option.bind_some, h, decide_false, Bool.false_and]
    simp
theorem CutPrefix_any (s p : ByteArray) (w : World) : Calls Tryz.prog 71 #[.string s, .string p] w (fun e w' => e = .returned (.tuple #[.string (cutRest s p), .bool (cutOk s p)]) ∧ Below w.heap.size w w') :=
  (PF.strings_CutPrefix.calls s p _ _ w (cut_f s p)).mono (fun _ _ h => ⟨h.1, drawn_below h.2⟩)

def packIs (front name : ByteArray) : Bool := cutOk name front && digestIs (cutRest name front)
set_option maxRecDepth 100000 in
theorem packs_Is (front name : ByteArray) (hs : name.size ≤ 140737488351232) (w : World) : Calls Tryz.prog 67 #[.string front, .string name] w (fun e w' => e = .returned (.bool (packIs front name)) ∧ Below w.heap.size w w') := by
  go_enter Tryz.func67, Tryz.ntmps67
  go_wp2_with fail
  refine (CutPrefix_any name front w).mono ?_
  rintro e w2 ⟨rfl, hb⟩
  have HB := Aside0.mk hb
  clear hb
  have hrs : (cutRest name front).size ≤ 140737488351232 := by
    unfold cutRest
    split
    · simp; omega
    · exact hs
  cases h : cutOk name front with
  | true =>
    have HR := Lib.hid (show packIs front name = digestIs (cutRest name front) by unfold packIs; rw [h]; rfl)
    generalize cutRest name front = r at HR hrs ⊢
    go_wp2_with fail
    refine (digest_Is r hrs w2).mono ?_
    rintro e w3 ⟨rfl, hb⟩
    have HB2 := Aside0.mk (below_step HB.out hb)
    clear hb
    generalize digestIs r = b at HR ⊢
    go_wp2
    go_ret
    exact ⟨ret_bool HR.out.symm, HB2.out⟩
  | false =>
    have HR := Lib.hid (show packIs front name = false by unfold packIs; rw [h]; rfl)
    go_wp2
    go_ret
    exact ⟨ret_bool HR.out.symm, HB.out⟩
end Go.Proofs.YtlilkfnfcaepiaaGreatDoor.M
set_option linter.unusedSimpArgs false
set_option linter.unusedVariables false
namespace Go.Proofs.YtlilkfnfcaepiaaGreatDoor.M
open Go.RowKit Go.Proofs.YtlilkfnfcaepiaaGreatDoorW.PrintWords Go.Proofs.YtlilkfnfcaepiaaGreatDoorW.PrintLast Go.Proofs.YtlilkfnfcaepiaaGreatDoorW.PrintMore PB H D G

theorem grow_eq {F : Nat → Prop} {w w1 w2 : World} (h1 : w.heap.size ≤ w1.heap.size) (h2 : w1.heap.size ≤ w2.heap.size) : Grow (Grow F w w1) w1 w2 = Grow F w w2 := by
  funext b
  apply propext
  unfold Grow
  constructor
  · rintro ((h | h) | h)
    · exact .inl h
    · exact .inr ⟨h.1, by omega⟩
    · exact .inr ⟨by omega, h.2⟩
  · rintro (h | h)
    · exact .inl (.inl h)
    · by_cases hb : b < w1.heap.size
      · exact .inl (.inr ⟨h.1, hb⟩)
      · exact .inr ⟨by omega, h.2⟩
theorem chg_grow {F : Nat → Prop} {w w1 w2 : World} (h1 : Chg F w w1) (h2 : Chg (Grow F w w1) w1 w2) : Chg F w w2 :=
  ⟨h2.os.trans h1.os, h2.tape.trans h1.tape, h2.output.trans h1.output, Nat.le_trans h1.size h2.size, fun b hb hf => (h2.block b (Nat.lt_of_lt_of_le hb h1.size) (fun x => x.elim hf (fun y => by omega))).trans (h1.block b hb hf)⟩
/-- A disk that has grown since w. -/
structure DG (w : World) (F : Nat → Prop) (base d n : Nat) (a : AD) (w' : World) : Prop where
  disk : DiskAt w' (Grow F w w') base d n a
  chg : Chg F w w'
theorem DG.of {w w' : World} {F : Nat → Prop} {base d n n' : Nat} {a : AD} (hw : base ≤ w.heap.size) (h : DiskAt w' F base d n a) (hc : Chg F w w') (hn : n ≤ n') : DG w F base d n' a w' := by
  obtain ⟨mf, ms, sv, p⟩ := h
  exact ⟨DiskAt.grow p hn hc.size hw, hc⟩
theorem DG.trans {w w1 w2 : World} {F : Nat → Prop} {base d n n' : Nat} {a b : AD} (h : DG w F base d n a w1) (h2 : DG w1 (Grow F w w1) base d n' b w2) : DG w F base d n' b w2 :=
  ⟨by rw [← grow_eq h.chg.size h2.chg.size]; exact h2.disk, chg_grow h.chg h2.chg⟩
theorem DG.more {w w1 : World} {F : Nat → Prop} {base d n n' : Nat} {a : AD} (h : DG w F base d n a w1) (hn : n ≤ n') : DG w F base d n' a w1 := by
  obtain ⟨⟨mf, ms, sv, p⟩, hc⟩ := h
  exact ⟨⟨mf, ms, sv, p.more hn⟩, hc⟩
theorem DG.base {w w1 : World} {F : Nat → Prop} {base d n : Nat} {a : AD} (h : DG w F base d n a w1) : base ≤ w1.heap.size := by
  obtain ⟨⟨mf, ms, sv, p⟩, hc⟩ := h
  exact Nat.le_of_lt (Nat.lt_of_le_of_lt (p.low d p.fd) (p.high d p.fd))
theorem disk_base {w : World} {F : Nat → Prop} {base d n : Nat} {a : AD} (h : DiskAt w F base d n a) : base ≤ w.heap.size := by
  obtain ⟨mf, ms, sv, p⟩ := h
  exact Nat.le_of_lt (Nat.lt_of_le_of_lt (p.low d p.fd) (p.high d p.fd))
theorem DG.start {w : World} {F : Nat → Prop} {base d n : Nat} {a : AD} (h : DiskAt w F base d n a) : DG w F base d n a w := DG.of (disk_base h) h (Chg.refl F w) (Nat.le_refl _)

def tmpN : ByteArray := ⟨#[116, 109, 112]⟩
def _root_.Go.Proofs.YtlilkfnfcaepiaaGreatDoor.D.AD.pubEnd (u : Int × AD) : Int × AD := if u.1 = 0 then u.2.settle else u
def _root_.Go.Proofs.YtlilkfnfcaepiaaGreatDoor.D.AD.pubTail (y : Int × AD) (name : ByteArray) : Int × AD :=
  if y.1 = 0 then (if (y.2.sync tmpN).1 = 0 then AD.pubEnd ((y.2.sync tmpN).2.rename tmpN name) else y.2.sync tmpN) else y
def _root_.Go.Proofs.YtlilkfnfcaepiaaGreatDoor.D.AD.publish (a : AD) (name data : ByteArray) (id : Nat) : Int × AD :=
  if (a.read name).2 = 10 then (10, a)
  else if (a.read name).2 = 0 ∧ ((a.read name).1.toList == data.toList) = true then AD.pubEnd (a.sync name)
  else if (a.remove tmpN).1 = 0 ∨ (a.remove tmpN).1 = 7 then AD.pubTail ((a.remove tmpN).2.append tmpN data id) name else a.remove tmpN
def PubPost (F : Nat → Prop) (base d n : Nat) (w : World) (f : Nat → Int × AD) (e : Ending) (w' : World) : Prop := ∃ id, w.heap.size ≤ id ∧ e = .returned (.int .i64 (f id).1) ∧ DG w F base d n (f id).2 w'

theorem settle_dg {w w1 : World} {F : Nat → Prop} {base d n : Nat} {a : AD} (h : DG w F base d n a w1) : Calls Tryz.prog 46 #[.pointer (some ⟨d, 0, none⟩)] w1 fun e w' => e = .returned (.int .i64 a.settle.1) ∧ DG w F base d n a.settle.2 w' :=
  (Settle_any h.disk).mono (fun _ _ hh => ⟨hh.1, h.trans ⟨hh.2.1, hh.2.2⟩⟩)
theorem sync_dg {w w1 : World} {F : Nat → Prop} {base d n : Nat} {a : AD} (h : DG w F base d n a w1) (name : ByteArray) (hs : name.size ≤ maxLen) : Calls Tryz.prog 56 #[.pointer (some ⟨d, 0, none⟩), .string name] w1 fun e w' => e = .returned (.int .i64 (a.sync name).1) ∧ DG w F base d n (a.sync name).2 w' :=
  (Sync_any h.disk name hs).mono (fun _ _ hh => ⟨hh.1, h.trans (DG.of h.base hh.2.1 hh.2.2 (Nat.le_refl _))⟩)
theorem remove_dg {w w1 : World} {F : Nat → Prop} {base d n : Nat} {a : AD} (h : DG w F base d n a w1) (hn : n ≤ 1000000) (name : ByteArray) (hs : name.size ≤ maxLen) : Calls Tryz.prog 45 #[.pointer (some ⟨d, 0, none⟩), .string name] w1 fun e w' => e = .returned (.int .i64 (a.remove name).1) ∧ DG w F base d (n + 1) (a.remove name).2 w' :=
  (Remove_any h.disk hn name hs).mono (fun _ _ hh => ⟨hh.1, h.trans ⟨hh.2.1, hh.2.2⟩⟩)
theorem rename_dg {w w1 : World} {F : Nat → Prop} {base d n : Nat} {a : AD} (h : DG w F base d n a w1) (hn : n ≤ 1000000) (frm tgt : ByteArray) (hs : frm.size ≤ maxLen) (ht : tgt.size ≤ 140737488351232) : Calls Tryz.prog 57 #[.pointer (some ⟨d, 0, none⟩), .string frm, .string tgt] w1 fun e w' => e = .returned (.int .i64 (a.rename frm tgt).1) ∧ DG w F base d (n + 2) (a.rename frm tgt).2 w' :=
  (Rename_any h.disk hn frm tgt hs ht).mono (fun _ _ hh => ⟨hh.1, h.trans ⟨hh.2.1, hh.2.2⟩⟩)
theorem append_dg {w w1 : World} {F : Nat → Prop} {base d n : Nat} {a : AD} (h : DG w F base d n a w1) (hn : n ≤ 1000000) (name data : ByteArray) (hs : name.size ≤ 140737488351232) (ht : data.size ≤ 140737488351232) : Calls Tryz.prog 54 #[.pointer (some ⟨d, 0, none⟩), .string name, .string data] w1 fun e w' => ∃ id, w.heap.size ≤ id ∧ e = .returned (.int .i64 (a.append name data id).1) ∧ DG w F base d (n + 2) (a.append name data id).2 w' :=
  (Append_any h.disk hn name data hs ht).mono (fun _ _ ⟨id, h1, h2, h3, h4⟩ => ⟨id, Nat.le_trans h.chg.size h1, h2, h.trans ⟨h3, h4⟩⟩)

set_option maxRecDepth 100000 in
set_option maxHeartbeats 2000000 in
theorem packs_Publish {w : World} {F : Nat → Prop} {base d n : Nat} {a : AD} (h : DiskAt w F base d n a) (hn : n ≤ 900000) (name data : ByteArray) (hs : name.size ≤ 1000000) (hd : data.size ≤ 1099511627776) :
    Calls Tryz.prog 32 #[.pointer (some ⟨d, 0, none⟩), .string name, .string data] w (PubPost F base d (n + 5) w (AD.publish a name data)) := by
  have H0 := Aside0.mk (DG.start h)
  have HR := Lib.hid (Read_any h name (by unfold maxLen; omega))
  clear h
  go_enter Tryz.func32, Tryz.ntmps32
  go_wp2_with fail
  refine HR.out.mono ?_
  rintro e w1 ⟨rfl, rfl⟩
  clear HR
  obtain ⟨rs, hrs⟩ : ∃ r, (a.read name).1 = r := ⟨_, rfl⟩
  obtain ⟨re, hre⟩ : ∃ r, (a.read name).2 = r := ⟨_, rfl⟩
  have HP := Lib.hid (show ∀ id, AD.publish a name data id = if re = 10 then (10, a) else if re = 0 ∧ (rs.toList == data.toList) = true then AD.pubEnd (a.sync name) else if (a.remove tmpN).1 = 0 ∨ (a.remove tmpN).1 = 7 then AD.pubTail ((a.remove tmpN).2.append tmpN data id) name else a.remove tmpN from fun id => by unfold AD.publish; rw [hrs, hre])
  rw [hrs, hre]
  clear hrs hre
  by_cases h10 : re = 10
  · subst h10
    have HF := Lib.hid (show ∀ id, AD.publish a name data id = (10, a) from fun id => (HP.out id).trans (if_pos rfl))
    go_wp2
    go_ret
    exact ⟨w.heap.size, Nat.le_refl _, ret_i (by rw [HF.out]), by rw [HF.out]; exact H0.out.more (by omega)⟩
  · have h10b : (re == 10) = false := by simpa using h10
    by_cases hsame : re = 0 ∧ (rs.toList == data.toList) = true
    · obtain ⟨h0, hsm⟩ := hsame
      subst h0
      have HF := Lib.hid (show ∀ id, AD.publish a name data id = AD.pubEnd (a.sync name) from fun id => by rw [HP.out id, if_neg h10, if_pos ⟨rfl, hsm⟩])
      clear h10 h10b HP
      go_wp2_with fail
      refine (sync_dg H0.out name (by unfold maxLen; omega)).mono ?_
      rintro e w2 ⟨rfl, h2⟩
      have H2 := Aside0.mk h2
      clear h2 H0
      generalize a.sync name = u at HF H2 ⊢
      by_cases hu : u.1 = 0
      · have HF2 := Lib.hid (show ∀ id, AD.publish a name data id = u.2.settle from fun id => by rw [HF.out id]; exact if_pos hu)
        rw [hu]
        go_wp2_with fail
        refine (settle_dg H2.out).mono ?_
        rintro e w3 ⟨rfl, h3⟩
        have H3 := Aside0.mk h3
        clear h3
        go_wp2
        go_ret
        exact ⟨w.heap.size, Nat.le_refl _, ret_i (by rw [HF2.out]), by rw [HF2.out]; exact H3.out.more (by omega)⟩
      · have hub : (u.1 == 0) = false := by simpa using hu
        have hub2 : (u.1 != 0) = true := by simpa using hu
        have HF2 := Lib.hid (show ∀ id, AD.publish a name data id = u from fun id => by rw [HF.out id]; exact if_neg hu)
        clear hu
        go_wp2
        go_ret
        exact ⟨w.heap.size, Nat.le_refl _, ret_i (by rw [HF2.out]), by rw [HF2.out]; exact H2.out.more (by omega)⟩
    · have HF := Lib.hid (show ∀ id, AD.publish a name data id = if (a.remove tmpN).1 = 0 ∨ (a.remove tmpN).1 = 7 then AD.pubTail ((a.remove tmpN).2.append tmpN data id) name else a.remove tmpN from fun id => by rw [HP.out id, if_neg h10, if_neg hsame])
      clear HP h10
      by_cases h0 : re = 0
      · have hsm : (rs.toList == data.toList) = false := by
          cases hh : (rs.toList == data.toList) with
          | false => rfl
          | true => exact absurd ⟨h0, hh⟩ hsame
        subst h0
        clear hsame h10b
        go_wp2_with fail
        refine (remove_dg H0.out (by omega) tmpN (by decide)).mono ?_
        rintro e w2 ⟨rfl, h2⟩
        have H2 := Aside0.mk h2
        clear h2 H0
        generalize a.remove tmpN = x at HF H2 ⊢
        by_cases hx : x.1 = 0 ∨ x.1 = 7
        · have HF2 := Lib.hid (show ∀ id, AD.publish a name data id = AD.pubTail (x.2.append tmpN data id) name from fun id => by rw [HF.out id]; exact if_pos hx)
          have hxb : (x.1 != 0) = false ∨ ((x.1 != 0) = true ∧ (x.1 != 7) = false) := by
            rcases hx with hx | hx
            · exact .inl (by simp [hx])
            · exact .inr ⟨by simp [hx], by simp [hx]⟩
          clear hx HF
          have HX := Lib.hid hxb
          clear hxb
          rcases HX.out with hx1 | ⟨hx1, hx2⟩
          all_goals
            go_wp2_with fail
            refine (append_dg H2.out (by omega) tmpN data (by decide) (by omega)).mono ?_
            rintro e w3 ⟨id, hid, rfl, h3⟩
            have H3 := Aside0.mk h3
            have HF3 := Lib.hid (HF2.out id)
            have HID := Lib.hid hid
            clear h3 hid H2 HF2
            generalize x.2.append tmpN data id = y at HF3 H3 ⊢
            by_cases hy : y.1 = 0
            · have hyb : (y.1 != 0) = false := by simp [hy]
              have HF4 := Lib.hid (show AD.publish a name data id = if (y.2.sync tmpN).1 = 0 then AD.pubEnd ((y.2.sync tmpN).2.rename tmpN name) else y.2.sync tmpN by rw [HF3.out]; exact if_pos hy)
              clear hy HF3
              go_wp2_with fail
              refine (sync_dg H3.out tmpN (by decide)).mono ?_
              rintro e w4 ⟨rfl, h4⟩
              have H4 := Aside0.mk h4
              clear h4 H3
              generalize y.2.sync tmpN = z at HF4 H4 ⊢
              by_cases hz : z.1 = 0
              · have hzb : (z.1 != 0) = false := by simp [hz]
                have HF5 := Lib.hid (show AD.publish a name data id = AD.pubEnd (z.2.rename tmpN name) by rw [HF4.out]; exact if_pos hz)
                clear hz HF4
                go_wp2_with fail
                refine (rename_dg H4.out (by omega) tmpN name (by decide) (by omega)).mono ?_
                rintro e w5 ⟨rfl, h5⟩
                have H5 := Aside0.mk h5
                clear h5 H4
                generalize z.2.rename tmpN name = u at HF5 H5 ⊢
                by_cases hu : u.1 = 0
                · have hub : (u.1 != 0) = false := by simp [hu]
                  have HF6 := Lib.hid (show AD.publish a name data id = u.2.settle by rw [HF5.out]; exact if_pos hu)
                  clear hu HF5
                  go_wp2_with fail
                  refine (settle_dg H5.out).mono ?_
                  rintro e w6 ⟨rfl, h6⟩
                  have H6 := Aside0.mk h6
                  clear h6
                  go_wp2
                  go_ret
                  exact ⟨id, HID.out, ret_i (by rw [HF6.out]), by rw [HF6.out]; exact H6.out.more (by omega)⟩
                · have hub : (u.1 != 0) = true := by simp [hu]
                  have HF6 := Lib.hid (show AD.publish a name data id = u by rw [HF5.out]; exact if_neg hu)
                  clear hu HF5
                  go_wp2
                  go_ret
                  exact ⟨id, HID.out, ret_i (by rw [HF6.out]), by rw [HF6.out]; exact H5.out.more (by omega)⟩
              · have hzb : (z.1 != 0) = true := by simp [hz]
                have HF5 := Lib.hid (show AD.publish a name data id = z by rw [HF4.out]; exact if_neg hz)
                clear hz HF4
                go_wp2
                go_ret
                exact ⟨id, HID.out, ret_i (by rw [HF5.out]), by rw [HF5.out]; exact H4.out.more (by omega)⟩
            · have hyb : (y.1 != 0) = true := by simp [hy]
              have HF4 := Lib.hid (show AD.publish a name data id = y by rw [HF3.out]; exact if_neg hy)
              clear hy HF3
              go_wp2
              go_ret
              exact ⟨id, HID.out, ret_i (by rw [HF4.out]), by rw [HF4.out]; exact H3.out.more (by omega)⟩
        · have HF2 := Lib.hid (show ∀ id, AD.publish a name data id = x from fun id => by rw [HF.out id]; exact if_neg hx)
          have hx1 : (x.1 != 0) = true := by simp; exact fun hh => hx (.inl hh)
          have hx2 : (x.1 != 7) = true := by simp; exact fun hh => hx (.inr hh)
          clear hx HF
          go_wp2
          go_ret
          exact ⟨w.heap.size, Nat.le_refl _, ret_i (by rw [HF2.out]), by rw [HF2.out]; exact H2.out.more (by omega)⟩
      · have h0b : (re == 0) = false := by simpa using h0
        clear hsame h0
        go_wp2_with fail
        refine (remove_dg H0.out (by omega) tmpN (by decide)).mono ?_
        rintro e w2 ⟨rfl, h2⟩
        have H2 := Aside0.mk h2
        clear h2 H0
        generalize a.remove tmpN = x at HF H2 ⊢
        by_cases hx : x.1 = 0 ∨ x.1 = 7
        · have HF2 := Lib.hid (show ∀ id, AD.publish a name data id = AD.pubTail (x.2.append tmpN data id) name from fun id => by rw [HF.out id]; exact if_pos hx)
          have hxb : (x.1 != 0) = false ∨ ((x.1 != 0) = true ∧ (x.1 != 7) = false) := by
            rcases hx with hx | hx
            · exact .inl (by simp [hx])
            · exact .inr ⟨by simp [hx], by simp [hx]⟩
          clear hx HF
          have HX := Lib.hid hxb
          clear hxb
          rcases HX.out with hx1 | ⟨hx1, hx2⟩
          all_goals
            go_wp2_with fail
            refine (append_dg H2.out (by omega) tmpN data (by decide) (by omega)).mono ?_
            rintro e w3 ⟨id, hid, rfl, h3⟩
            have H3 := Aside0.mk h3
            have HF3 := Lib.hid (HF2.out id)
            have HID := Lib.hid hid
            clear h3 hid H2 HF2
            generalize x.2.append tmpN data id = y at HF3 H3 ⊢
            by_cases hy : y.1 = 0
            · have hyb : (y.1 != 0) = false := by simp [hy]
              have HF4 := Lib.hid (show AD.publish a name data id = if (y.2.sync tmpN).1 = 0 then AD.pubEnd ((y.2.sync tmpN).2.rename tmpN name) else y.2.sync tmpN by rw [HF3.out]; exact if_pos hy)
              clear hy HF3
              go_wp2_with fail
              refine (sync_dg H3.out tmpN (by decide)).mono ?_
              rintro e w4 ⟨rfl, h4⟩
              have H4 := Aside0.mk h4
              clear h4 H3
              generalize y.2.sync tmpN = z at HF4 H4 ⊢
              by_cases hz : z.1 = 0
              · have hzb : (z.1 != 0) = false := by simp [hz]
                have HF5 := Lib.hid (show AD.publish a name data id = AD.pubEnd (z.2.rename tmpN name) by rw [HF4.out]; exact if_pos hz)
                clear hz HF4
                go_wp2_with fail
                refine (rename_dg H4.out (by omega) tmpN name (by decide) (by omega)).mono ?_
                rintro e w5 ⟨rfl, h5⟩
                have H5 := Aside0.mk h5
                clear h5 H4
                generalize z.2.rename tmpN name = u at HF5 H5 ⊢
                by_cases hu : u.1 = 0
                · have hub : (u.1 != 0) = false := by simp [hu]
                  have HF6 := Lib.hid (show AD.publish a name data id = u.2.settle by rw [HF5.out]; exact if_pos hu)
                  clear hu HF5
                  go_wp2_with fail
                  refine (settle_dg H5.out).mono ?_
                  rintro e w6 ⟨rfl, h6⟩
                  have H6 := Aside0.mk h6
                  clear h6
                  go_wp2
                  go_ret
                  exact ⟨id, HID.out, ret_i (by rw [HF6.out]), by rw [HF6.out]; exact H6.out.more (by omega)⟩
                · have hub : (u.1 != 0) = true := by simp [hu]
                  have HF6 := Lib.hid (show AD.publish a name data id = u by rw [HF5.out]; exact if_neg hu)
                  clear hu HF5
                  go_wp2
                  go_ret
                  exact ⟨id, HID.out, ret_i (by rw [HF6.out]), by rw [HF6.out]; exact H5.out.more (by omega)⟩
              · have hzb : (z.1 != 0) = true := by simp [hz]
                have HF5 := Lib.hid (show AD.publish a name data id = z by rw [HF4.out]; exact if_neg hz)
                clear hz HF4
                go_wp2
                go_ret
                exact ⟨id, HID.out, ret_i (by rw [HF5.out]), by rw [HF5.out]; exact H4.out.more (by omega)⟩
            · have hyb : (y.1 != 0) = true := by simp [hy]
              have HF4 := Lib.hid (show AD.publish a name data id = y by rw [HF3.out]; exact if_neg hy)
              clear hy HF3
              go_wp2
              go_ret
              exact ⟨id, HID.out, ret_i (by rw [HF4.out]), by rw [HF4.out]; exact H3.out.more (by omega)⟩
        · have HF2 := Lib.hid (show ∀ id, AD.publish a name data id = x from fun id => by rw [HF.out id]; exact if_neg hx)
          have hx1 : (x.1 != 0) = true := by simp; exact fun hh => hx (.inl hh)
          have hx2 : (x.1 != 7) = true := by simp; exact fun hh => hx (.inr hh)
          clear hx HF
          go_wp2
          go_ret
          exact ⟨w.heap.size, Nat.le_refl _, ret_i (by rw [HF2.out]), by rw [HF2.out]; exact H2.out.more (by omega)⟩
end Go.Proofs.YtlilkfnfcaepiaaGreatDoor.M
set_option linter.unusedSimpArgs false
set_option linter.unusedVariables false
namespace Go.Proofs.YtlilkfnfcaepiaaGreatDoor.M
open Go.RowKit Go.Proofs.YtlilkfnfcaepiaaGreatDoorW.PrintWords Go.Proofs.YtlilkfnfcaepiaaGreatDoorW.PrintLast Go.Proofs.YtlilkfnfcaepiaaGreatDoorW.PrintMore PB H D G

theorem read_size {w : World} {F : Nat → Prop} {base d n : Nat} {a : AD} (h : DiskAt w F base d n a) (name : ByteArray) : (a.read name).1.size ≤ 1073741824 := by
  obtain ⟨mf, ms, sv, p⟩ := h
  unfold AD.read
  split
  · simp [ByteArray.size]
  · split
    · simp [ByteArray.size]
    · next b hb => exact (p.big b (.inl ⟨name, hb⟩)).1
def AD.load (a : AD) (front name : ByteArray) : ByteArray × Int :=
  if packIs front name = true then (if (a.read name).2 = 0 then (if ((front ++ nameF (a.read name).1).toList == name.toList) = true then ((a.read name).1, 0) else (⟨#[]⟩, 13)) else (⟨#[]⟩, (a.read name).2)) else (⟨#[]⟩, 4)
theorem ret_2 {s t : ByteArray} {a b : Int} {p q : ByteArray × Int} (h : q = p) : Ending.returned (.tuple #[.string p.1, .int .i64 p.2]) = .returned (.tuple #[.string q.1, .int .i64 q.2]) := by rw [h]

set_option maxRecDepth 100000 in
set_option maxHeartbeats 1000000 in
theorem packs_Load {w : World} {F : Nat → Prop} {base d n : Nat} {a : AD} (h : DiskAt w F base d n a) (front name : ByteArray) (hf : front.size ≤ 1000) (hs : name.size ≤ 1000000) :
    Calls Tryz.prog 36 #[.pointer (some ⟨d, 0, none⟩), .string front, .string name] w fun e w' => e = .returned (.tuple #[.string (AD.load a front name).1, .int .i64 (AD.load a front name).2]) ∧ Below w.heap.size w w' := by
  have hrs := read_size h name
  have H0 := Aside0.mk h
  clear h
  go_enter Tryz.func36, Tryz.ntmps36
  go_wp2_with fail
  refine (packs_Is front name (by omega) w).mono ?_
  rintro e w1 ⟨rfl, hb⟩
  have HB := Aside0.mk hb
  have H1 := Aside0.mk (H0.out.move (w1 := w1) (fun k hk => hb.block k (by obtain ⟨mf, ms, sv, p⟩ := H0.out; exact p.high k hk)))
  clear hb H0
  cases hi : packIs front name with
  | false =>
    have HF := Lib.hid (show AD.load a front name = (⟨#[]⟩, 4) from if_neg (by rw [hi]; exact Bool.false_ne_true))
    go_wp2
    go_ret2
    exact ⟨by rw [HF.out]; rfl, HB.out⟩
  | true =>
    have HF := Lib.hid (show AD.load a front name = if (a.read name).2 = 0 then (if ((front ++ nameF (a.read name).1).toList == name.toList) = true then ((a.read name).1, 0) else (⟨#[]⟩, 13)) else (⟨#[]⟩, (a.read name).2) from if_pos hi)
    clear hi
    go_wp2_with fail
    refine (Read_any H1.out name (by unfold maxLen; omega)).mono ?_
    rintro e w2 ⟨rfl, rfl⟩
    generalize (a.read name).1 = rs at HF hrs ⊢
    generalize (a.read name).2 = re at HF ⊢
    by_cases hre : re = 0
    · subst hre
      have HF2 := Lib.hid (show AD.load a front name = if ((front ++ nameF rs).toList == name.toList) = true then (rs, 0) else (⟨#[]⟩, 13) by rw [HF.out]; exact if_pos rfl)
      go_wp2_with fail
      refine (name_any rs (by omega) w1).mono ?_
      rintro e w3 ⟨rfl, hb⟩
      have HB2 := Aside0.mk (below_step HB.out hb)
      clear hb
      have hns := nameF_size rs
      generalize nameF rs = nm at HF2 hns ⊢
      cases he : ((front ++ nm).toList == name.toList) with
      | true =>
        have HF3 := Lib.hid (show AD.load a front name = (rs, 0) by rw [HF2.out]; exact if_pos he)
        clear HF2
        have he2 : ((front ++ nm).toList != name.toList) = false := by simpa [bne] using he
        go_wp2
        go_ret2
        exact ⟨by rw [HF3.out]; rfl, HB2.out⟩
      | false =>
        have HF3 := Lib.hid (show AD.load a front name = (⟨#[]⟩, 13) by rw [HF2.out]; exact if_neg (by rw [he]; exact Bool.false_ne_true))
        clear HF2
        go_wp2
        go_ret2
        exact ⟨by rw [HF3.out]; rfl, HB2.out⟩
    · have hreb : (re != 0) = true := by simp [hre]
      have HF2 := Lib.hid (show AD.load a front name = (⟨#[]⟩, re) by rw [HF.out]; exact if_neg hre)
      clear hre
      go_wp2
      go_ret2
      exact ⟨by rw [HF2.out]; rfl, HB.out⟩
end Go.Proofs.YtlilkfnfcaepiaaGreatDoor.M
set_option linter.unusedSimpArgs false
set_option linter.unusedVariables false
namespace Go.Proofs.YtlilkfnfcaepiaaGreatDoor.M
open Go.RowKit Go.Proofs.YtlilkfnfcaepiaaGreatDoorW.PrintWords Go.Proofs.YtlilkfnfcaepiaaGreatDoorW.PrintLast Go.Proofs.YtlilkfnfcaepiaaGreatDoorW.PrintMore PB H D G

theorem below_size_trans {B C : Nat} {w w1 w2 : World} (h : Below B w w1) (k : Below C w1 w2) (hc : B ≤ C) : Below B w w2 := h.trans (k.mono hc)
theorem filter_snoc {α : Type} [Inhabited α] (p : α → Bool) (l : List α) (k : Nat) (hk : k < l.length) (z : α) (hz : l[k]? = some z) : (l.take (k + 1)).filter p = (l.take k).filter p ++ (if p z then [z] else []) := by
  have e : l[k] = z := by rw [List.getElem?_eq_getElem hk] at hz; exact Option.some.inj hz
  rw [List.take_succ_eq_append_getElem hk, List.filter_append, e]
  congr 1
  cases h : p z <;> simp [h]

set_option maxRecDepth 100000 in
set_option maxHeartbeats 1000000 in
theorem packs_Names {w : World} {F : Nat → Prop} {base d n : Nat} {a : AD} (h : DiskAt w F base d n a) (hn : n ≤ 1000000) (hd : a.dead = false) (front : ByteArray) (hf : front.size ≤ 1000) (hns : ∀ s ∈ listOf a.fm, s.size ≤ 140737488351232) (hlen : (listOf a.fm).length ≤ 1000000) :
    Calls Tryz.prog 33 #[.pointer (some ⟨d, 0, none⟩), .string front] w fun e w' => ∃ v, e = .returned (.tuple #[v, .int .i64 0]) ∧ Kd.R Kd.string 9 w' w.heap.size (fun _ => True) v ((listOf a.fm).filter (packIs front)) ∧ Below w.heap.size w w' := by
  have hl0 := List_any h hn hd
  obtain ⟨L, hL⟩ : ∃ L, listOf a.fm = L := ⟨_, rfl⟩
  rw [hL] at hl0 hns hlen ⊢
  have HL := Lib.hid hl0
  clear h hL hl0
  go_enter Tryz.func33, Tryz.ntmps33
  go_wp2_with fail
  refine HL.out.mono ?_
  rintro e w1 ⟨v, rfl, hR, hB⟩
  clear HL
  have HR := Aside0.mk (Kd.R_mono (Kd.R_bound hR) (fun k (hk : _ ∧ _ ∧ _ ∧ _) => (show k < w1.heap.size from hk.2.2.1)))
  have HB := Aside0.mk hB
  have HSZ := Aside0.mk hB.size
  clear hR hB
  obtain ⟨A, c, rfl⟩ := Kd.R_slice HR.out
  obtain ⟨m, hm⟩ : ∃ m, L.length = m := ⟨_, rfl⟩
  rw [hm] at HR hlen ⊢
  go_wp2
  go_loopw [8, 21] (fun v8 v21 wr => ∃ k : Nat, k ≤ m ∧ v21 = .int .i64 k ∧ Aside0 (Kd.R Kd.string 9 wr w1.heap.size (fun k => w1.heap.size ≤ k) v8 ((L.take k).filter (packIs front))) ∧ Aside0 (Kd.R Kd.string 9 wr w.heap.size (fun k => k < w1.heap.size) (.slice A m c) L) ∧ Aside0 (Below w.heap.size w wr) ∧ Aside0 (w1.heap.size ≤ wr.heap.size)) (fun _ v21 _ => m - (intOf v21).toNat)
  case atStart => exact ⟨0, by omega, rfl, ⟨Kd.R_nil _ _ _ _ _⟩, HR, HB, ⟨Nat.le_refl _⟩⟩
  case round =>
    clear HR HB
    obtain ⟨k, hk, rfl, HO, HR, HB, HZ⟩ := hrel
    obtain ⟨A2, c2, rfl⟩ := Kd.R_slice HO.out
    by_cases hlt : k < m
    · have hkm : (k : Int) < (m : Int) := by omega
      have hC := (Kd.R_reads' HR.out).2.2
      obtain ⟨ad, hA, hcell⟩ := Kd.at_string hC (k : Int) (by omega) (by omega)
      subst hA
      rw [Int.toNat_natCast] at hcell
      obtain ⟨z, hz⟩ : ∃ z, rdOf ByteArray.empty L (k : Int) = z := ⟨_, rfl⟩
      rw [hz] at hcell
      have hze : L[k]? = some z := by rw [← hz]; unfold rdOf; rw [Int.toNat_natCast]; have hl : k < L.length := by omega
                                      simp [hl]
      have hzs : z.size ≤ 140737488351232 := hns z (List.mem_of_getElem? hze)
      have HF := Lib.hid (filter_snoc (packIs front) L k (by omega) z hze)
      clear hz hze hC
      have HK := Lib.hid (And.intro hk hlt)
      clear hk hlt
      go_wp2_with fail
      refine (packs_Is front z (by omega) wr).mono ?_
      rintro e w3 ⟨rfl, hb⟩
      have HO3 := Aside0.mk (Kd.R_below HO.out hb)
      have HR3 := Aside0.mk (Kd.R_below HR.out hb)
      have HB3 := Aside0.mk (below_step HB.out hb)
      have HZ3 := Aside0.mk (Nat.le_trans HZ.out hb.size)
      clear hb HO HR HB HZ hcell
      cases hi : packIs front z with
      | true =>
        have HF2 := Lib.hid (show (L.take (k + 1)).filter (packIs front) = (L.take k).filter (packIs front) ++ [z] by rw [HF.out, hi]; rfl)
        clear HF
        obtain ⟨l2, hl2⟩ : ∃ l2, (L.take k).filter (packIs front) = l2 := ⟨_, rfl⟩
        have hll : l2.length ≤ 1000000 := by rw [← hl2]; exact Nat.le_trans (List.length_filter_le _ _) (by rw [List.length_take]; omega)
        rw [hl2] at HO3 HF2 ⊢
        have HLN := Aside0.mk (show (l2.length + 1) * 16 ≤ 140737488355328 by omega)
        clear hl2 hll
        go_wp2_with (first | ((with_reducible refine gate_builtin (b := .append) (xs := #[.tmp 28, .tmp 30]) rfl ?_); at_builtin; refine Kd.R_append Kd.string (w0 := w3) w1.heap.size rfl (.tmp 28) (.tmp 30) 30 9 (.string ByteArray.empty) 16 rfl Tryz.underlying30 PB.info9 rfl (by decide) (by omega) (.slice A2 l2.length c2) l2 z [.string z] (fun k => w1.heap.size ≤ k) (fun _ => False) rfl rfl ?aP (fun _ hk => hk.elim) ?aF ?aO ?aB ?aS ?aL ?_; (case aP => exact rfl); (case aB => exact Below.refl _ _); (case aF => intro k hk; exact Nat.le_trans HZ3.out hk); (case aO => exact HO3.out); (case aS => exact HZ3.out); (case aL => exact HLN.out); intro v4 w4 ho hb hg hat; have HO4 := Aside0.mk ho; have HR4 := Aside0.mk (Kd.R_grown HR3.out hg (fun k hk e => by have := HO3.out.1 k e.symm; omega)); have HB4 := Aside0.mk (below_size_trans HB3.out hb HSZ.out); have HZ4 := Aside0.mk (Nat.le_trans HZ3.out hb.size); clear ho hb hg hat) | fail)
        go_roundw
        case rel => exact ⟨k + 1, by have := HK.out; omega, by go_num, ⟨by rw [HF2.out]; exact HO4.out⟩, HR4, HB4, HZ4⟩
        case measure => simp [intOf]; have := HK.out; omega
      | false =>
        have HF2 := Lib.hid (show (L.take (k + 1)).filter (packIs front) = (L.take k).filter (packIs front) by rw [HF.out, hi]; simp)
        go_wp2
        go_roundw
        case rel => exact ⟨k + 1, by have := HK.out; omega, by go_num, ⟨by rw [HF2.out]; exact HO3.out⟩, HR3, HB3, HZ3⟩
        case measure => simp [intOf]; have := HK.out; omega
    · have hkm : k = m := by omega
      subst hkm
      have HT := Lib.hid (show L.take k = L from List.take_of_length_le (by omega))
      rw [HT.out] at HO ⊢
      go_wp2
      go_ret2
      exact ⟨_, rfl, Kd.R_mono (Kd.R_lower HO.out HSZ.out) (fun _ _ => trivial), HB.out⟩
end Go.Proofs.YtlilkfnfcaepiaaGreatDoor.M
