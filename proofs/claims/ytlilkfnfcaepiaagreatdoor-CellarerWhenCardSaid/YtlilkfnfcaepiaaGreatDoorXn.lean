/- manifest: Encode, the reader, Publish, before. -/
import Derived.Test.YtlilkfnfcaepiaaGreatDoorXm
import Derived.Deep.RegionHeld3
import Derived.Test.YtlilkfnfcaepiaaGreatDoorXq
set_option linter.unusedSimpArgs false
set_option linter.unusedVariables false
namespace Go.Proofs.YtlilkfnfcaepiaaGreatDoor.M
open Go.RowKit Go.Proofs.YtlilkfnfcaepiaaGreatDoorW.PrintWords Go.Proofs.YtlilkfnfcaepiaaGreatDoorW.PrintLast Go.Proofs.YtlilkfnfcaepiaaGreatDoorW.PrintMore PB H D G
theorem join_len : ∀ l : List (List UInt8), (Lib.join l []).length = (l.map List.length).sum := by
  intro l
  induction l with
  | nil => simp [Lib.join]
  | cons a l ih =>
    cases l with
    | nil => simp [Lib.join]
    | cons b l => simp [Lib.join] at ih ⊢; omega

def joinS (l : List ByteArray) : ByteArray := ⟨(Lib.join (l.map (·.data.toList)) []).toArray⟩
theorem join32 : ∀ l : List ByteArray, good32 l = true → (Lib.join (l.map (·.data.toList)) []).length = 32 * l.length := by
  intro l h
  rw [join_len]
  induction l with
  | nil => rfl
  | cons a l ih =>
    unfold good32 at h
    simp only [List.all_cons, Bool.and_eq_true, beq_iff_eq] at h
    have h1 : a.size = 32 := by have := h.1; omega
    have h2 : a.data.toList.length = 32 := h1
    simp only [List.map_cons, List.sum_cons, List.length_cons, ih h.2, h2]
    omega
theorem joinS_size (l : List ByteArray) (h : good32 l = true) : (joinS l).size = 32 * l.length := by
  rw [← join32 l h]; show (Lib.join (l.map (·.data.toList)) []).toArray.size = _; simp
theorem Join_any (A : Option Addr) (c : Nat) (l : List ByteArray) (w : World) (hC : Kd.C Kd.string w A l.length l) (hc : l.length ≤ c) (hl : l.length ≤ 4194304) (h32 : good32 l = true) :
    Calls Tryz.prog 42 #[.slice A l.length c, .string ⟨#[]⟩] w (fun e w' => e = .returned (.string (joinS l)) ∧ Below w.heap.size w w') := by
  cases l with
  | nil => exact (Tryz.strings_Join_none A c ⟨#[]⟩ w).mono (fun e w' h => ⟨h.1, by rw [h.2]; exact Below.refl _ _⟩)
  | cons x xs =>
    obtain ⟨ad, hA, hcell0⟩ := Kd.at_string hC 0 (by omega) (by simp)
    subst hA
    obtain ⟨bk, o, sp⟩ := ad
    have hsp : sp = none := by
      cases sp with
      | none => rfl
      | some z =>
        simp only [World.cell?, Addr.add] at hcell0
        split at hcell0 <;> simp at hcell0
    subst hsp
    have hbk : bk < w.heap.size := by
      by_cases hb : bk < w.heap.size
      · exact hb
      · simp [World.cell?, Addr.add, hb] at hcell0
    refine Tryz.strings_Join bk o c (x :: xs) ⟨#[]⟩ w ?_ hbk (by omega) hc (by
      show (Lib.join ((x :: xs).map (·.data.toList)) []).length ≤ _
      rw [join32 _ h32]; omega)
    intro j y hy
    have hj : j < (x :: xs).length := (List.getElem?_eq_some_iff.1 hy).1
    obtain ⟨ad, hA, hcell⟩ := Kd.at_string hC (j : Int) (by omega) (by omega)
    injection hA with hA
    subst hA
    have hr : rdOf ByteArray.empty (x :: xs) (j : Int) = y := by unfold rdOf; rw [Int.toNat_natCast, List.getD, hy]; rfl
    have hadd : (⟨bk, o, none⟩ : Addr).add j = ⟨bk, o + j, none⟩ := by unfold Addr.add; split <;> simp_all
    rw [hr, Int.toNat_natCast, hadd] at hcell
    exact hcell

def encS (m : MF) : ByteArray := ⟨#[115, 110, 97, 112]⟩ ++ varS m.time ++ textS m.tag ++ textS m.parent ++ varS m.size ++ varS (m.chunks.length : Int) ++ joinS m.chunks
def encF (m : MF) : ByteArray × Int := if checkF m = 0 then (encS m, 0) else (⟨#[]⟩, checkF m)
theorem check0 (m : MF) (h : checkF m = 0) : 0 ≤ m.time ∧ m.time ≤ 253402300799 ∧ 1 ≤ m.size ∧ m.size ≤ 4194304 ∧ 1 ≤ m.chunks.length ∧ (m.chunks.length : Int) ≤ m.size ∧ good32 m.chunks = true ∧ (m.tag.toList.isEmpty = true ∨ pathName m.tag = true) ∧ (m.parent.toList.isEmpty = true ∨ digestIs m.parent = true) := by
  unfold checkF at h
  cases h1 : bad1 m with
  | true => rw [h1] at h; simp at h
  | false =>
    cases h2 : bad2 m with
    | true => rw [h1, h2] at h; simp at h
    | false =>
      cases h3 : good32 m.chunks with
      | false => rw [h1, h2, h3] at h; simp at h
      | true =>
        unfold bad1 at h1
        unfold bad2 at h2
        simp only [Bool.or_eq_false_iff, Bool.and_eq_false_iff, Bool.not_eq_false', decide_eq_false_iff_not] at h1 h2
        obtain ⟨⟨⟨a1, a2⟩, a3⟩, a4⟩ := h1
        obtain ⟨⟨⟨b1, b2⟩, b3⟩, b4⟩ := h2
        exact ⟨by omega, by omega, by omega, by omega, by omega, by omega, rfl, a3, a4⟩

theorem bad60 (s : ByteArray) (h : pathName s = true) : s.size ≤ 60 := by
  unfold pathName at h
  cases hb : nameBad s with
  | true => rw [hb] at h; simp at h
  | false =>
    unfold nameBad at hb
    simp only [Bool.or_eq_false_iff, decide_eq_false_iff_not] at hb
    omega
theorem tag_size {s : ByteArray} (h : s.toList.isEmpty = true ∨ pathName s = true) : s.size ≤ 1099511627776 := by
  rcases h with h | h
  · have h2 : s.toList = [] := by simpa using h
    rw [bytes_list] at h2
    have : s.size = 0 := by show s.data.size = 0; simpa using congrArg List.length h2
    omega
  · have := bad60 s h; omega
theorem parent_size {s : ByteArray} (h : s.toList.isEmpty = true ∨ digestIs s = true) : s.size ≤ 1099511627776 := by
  rcases h with h | h
  · exact tag_size (.inl h)
  · unfold digestIs at h
    simp only [Bool.and_eq_true, beq_iff_eq] at h
    omega
/-- What stays while a text is put together. -/
def ES (w : World) (m : MF) (A : Option Addr) (n c : Nat) (w' : World) : Prop :=
  w'.cell? ⟨w.heap.size, 0, none⟩ = some (.int .i64 m.time) ∧ w'.cell? ⟨w.heap.size, 1, none⟩ = some (.string m.tag) ∧ w'.cell? ⟨w.heap.size, 2, none⟩ = some (.string m.parent) ∧ w'.cell? ⟨w.heap.size, 3, none⟩ = some (.int .i64 m.size) ∧ w'.cell? ⟨w.heap.size, 4, none⟩ = some (.slice A n c) ∧
  Aside0 (w.heap.size < w'.heap.size) ∧ Aside0 (Below w.heap.size w w') ∧ Aside0 (Kd.C Kd.string w' A n m.chunks)
theorem ES.below {w : World} {m : MF} {A : Option Addr} {n c : Nat} {w1 w2 : World} (h : ES w m A n c w1) (hb : Below w1.heap.size w1 w2) : ES w m A n c w2 := by
  obtain ⟨h0, h1, h2, h3, h4, h5, h6, h7⟩ := h
  exact ⟨(hb.cell (p := ⟨w.heap.size, 0, none⟩) h5.out).trans h0, (hb.cell (p := ⟨w.heap.size, 1, none⟩) h5.out).trans h1, (hb.cell (p := ⟨w.heap.size, 2, none⟩) h5.out).trans h2, (hb.cell (p := ⟨w.heap.size, 3, none⟩) h5.out).trans h3, (hb.cell (p := ⟨w.heap.size, 4, none⟩) h5.out).trans h4,
    ⟨Nat.lt_of_lt_of_le h5.out hb.size⟩, ⟨below_step h6.out hb⟩, ⟨Kd.C_below h7.out hb⟩⟩
theorem es_call {f : FuncId} {args : Array Value} {v : Value} {w : World} {m : MF} {A : Option Addr} {n c : Nat} (h : ∀ w1, Kd.C Kd.string w1 A n m.chunks → Calls Tryz.prog f args w1 (fun e w2 => e = .returned v ∧ Below w1.heap.size w1 w2)) :
    ∀ w1, ES w m A n c w1 → Calls Tryz.prog f args w1 (fun e w2 => e = .returned v ∧ ES w m A n c w2) := fun w1 hE =>
  (h w1 hE.2.2.2.2.2.2.2.out).mono (fun _ _ hh => ⟨hh.1, hE.below hh.2⟩)

set_option maxRecDepth 100000 in
set_option maxHeartbeats 4000000 in
theorem Encode_any (m : MF) (A : Option Addr) (c : Nat) (w : World) (hC : Kd.C Kd.string w A m.chunks.length m.chunks) (hcc : m.chunks.length ≤ c) (hT : Lib.Utf8Tabs 1 2 w) (hs : m.parent.size ≤ 140737488351232) (hl : m.chunks.length ≤ 140737488351232) :
    Calls Tryz.prog 14 #[.agg #[.int .i64 m.time, .string m.tag, .string m.parent, .int .i64 m.size, .slice A m.chunks.length c]] w fun e w' => e = .returned (.tuple #[.string (encF m).1, .int .i64 (encF m).2]) ∧ Below w.heap.size w w' := by
  obtain ⟨n, hn⟩ : ∃ n, m.chunks.length = n := ⟨_, rfl⟩
  have hb0 : Below w.heap.size w (w.alloc (Obj.cells #[.int .i64 m.time, .string m.tag, .string m.parent, .int .i64 m.size, .slice A n c] 32)) := Below.alloc' (Nat.le_refl _) _
  have HB := Aside0.mk hb0
  have hC1 := Kd.C_below hC hb0
  have HWZ := Lib.hid (show w.heap.size < (w.alloc (Obj.cells #[.int .i64 m.time, .string m.tag, .string m.parent, .int .i64 m.size, .slice A n c] 32)).heap.size by simp)
  have z0 : (w.alloc (Obj.cells #[.int .i64 m.time, .string m.tag, .string m.parent, .int .i64 m.size, .slice A n c] 32)).cell? ⟨w.heap.size, 0, none⟩ = some (.int .i64 m.time) := cell_new _ _ _ _
  have z1 : (w.alloc (Obj.cells #[.int .i64 m.time, .string m.tag, .string m.parent, .int .i64 m.size, .slice A n c] 32)).cell? ⟨w.heap.size, 1, none⟩ = some (.string m.tag) := cell_new _ _ _ _
  have z2 : (w.alloc (Obj.cells #[.int .i64 m.time, .string m.tag, .string m.parent, .int .i64 m.size, .slice A n c] 32)).cell? ⟨w.heap.size, 2, none⟩ = some (.string m.parent) := cell_new _ _ _ _
  have z3 : (w.alloc (Obj.cells #[.int .i64 m.time, .string m.tag, .string m.parent, .int .i64 m.size, .slice A n c] 32)).cell? ⟨w.heap.size, 3, none⟩ = some (.int .i64 m.size) := cell_new _ _ _ _
  have z4 : (w.alloc (Obj.cells #[.int .i64 m.time, .string m.tag, .string m.parent, .int .i64 m.size, .slice A n c] 32)).cell? ⟨w.heap.size, 4, none⟩ = some (.slice A n c) := cell_new _ _ _ _
  have hck := Check_any m A c _ hC1 (utf8_below hT hb0) hs hl
  rw [hn] at hck hC1 ⊢
  obtain ⟨W, hW⟩ : ∃ W, w.alloc (Obj.cells #[.int .i64 m.time, .string m.tag, .string m.parent, .int .i64 m.size, .slice A n c] 32) = W := ⟨_, rfl⟩
  rw [hW] at HB hC1 HWZ z0 z1 z2 z3 z4 hck
  have HC := Aside0.mk hC1
  have HCK := Lib.hid hck
  have HN := Lib.hid (And.intro hn hcc)
  clear hb0 hC hC1 hT hck hn hcc
  go_enter Tryz.func14, Tryz.ntmps14
  go_wp2_with fail
  refine HCK.out.mono ?_
  rintro e W2 ⟨rfl, hb⟩
  have HB2 := Aside0.mk (below_step HB.out hb)
  have HC2 := Aside0.mk (Kd.C_below HC.out hb)
  have y0 := (hb.cell (p := ⟨w.heap.size, 0, none⟩) HWZ.out).trans z0
  have y1 := (hb.cell (p := ⟨w.heap.size, 1, none⟩) HWZ.out).trans z1
  have y2 := (hb.cell (p := ⟨w.heap.size, 2, none⟩) HWZ.out).trans z2
  have y3 := (hb.cell (p := ⟨w.heap.size, 3, none⟩) HWZ.out).trans z3
  have y4 := (hb.cell (p := ⟨w.heap.size, 4, none⟩) HWZ.out).trans z4
  have HWZ2 := Lib.hid (Nat.lt_of_lt_of_le HWZ.out hb.size)
  clear hb HB HC z0 z1 z2 z3 z4 HWZ hW HCK W
  by_cases hc0 : checkF m = 0
  · have HF := Lib.hid (show encF m = (encS m, 0) from if_pos hc0)
    have HK := Lib.hid (check0 m hc0)
    rw [hc0]
    clear hc0
    obtain ⟨k1, k2, k3, k4, k5, k6, k7, k8, k9⟩ := HK.out
    have htag : m.tag.size ≤ 1099511627776 := tag_size k8
    have hpar : m.parent.size ≤ 1099511627776 := parent_size k9
    have hn' := HN.out.1
    have HE := Lib.hid (show encS m = ⟨#[115, 110, 97, 112]⟩ ++ varS m.time ++ textS m.tag ++ textS m.parent ++ varS m.size ++ varS (n : Int) ++ joinS m.chunks by unfold encS; rw [hn'])
    have HV := Lib.hid (fun x (hx : 0 ≤ x ∧ x < 9223372036854775808) => es_call (w := w) (m := m) (A := A) (n := n) (c := c) (fun w1 _ => Var_any x hx.1 hx.2 w1))
    have HVT := Lib.hid (fun s (hs : s.size ≤ 1099511627776) => es_call (w := w) (m := m) (A := A) (n := n) (c := c) (fun w1 _ => text_any s hs w1))
    have HQ := Lib.hid (show (0 ≤ m.time ∧ m.time < 9223372036854775808) ∧ (0 ≤ m.size ∧ m.size < 9223372036854775808) ∧ (0 ≤ (n : Int) ∧ (n : Int) < 9223372036854775808) ∧ m.tag.size ≤ 1099511627776 ∧ m.parent.size ≤ 1099511627776 from ⟨by omega, by omega, by omega, htag, hpar⟩)
    have HV6 := Lib.hid (es_call (w := w) (m := m) (A := A) (n := n) (c := c) (f := 42) (args := #[.slice A n c, .string ⟨#[]⟩]) (v := .string (joinS m.chunks)) (fun w1 hC => by
      have := Join_any A c m.chunks w1 (by rw [hn']; exact hC) HN.out.2 (by omega) k7
      rw [hn'] at this; exact this))
    have e1 : IntKind.u64.wrap m.time = m.time := IntWalk.u64_in _ (by omega)
    have e4 : IntKind.u64.wrap m.size = m.size := IntWalk.u64_in _ (by omega)
    have e5 : IntKind.u64.wrap (n : Int) = (n : Int) := IntWalk.u64_in _ (by omega)
    have HES : ES w m A n c W2 := ⟨y0, y1, y2, y3, y4, ⟨HWZ2.out⟩, HB2, HC2⟩
    have HES2 := Aside0.mk HES
    have HES3 : Aside0 (ES w m A n c W2.drew) := ⟨HES.below (Below.refl _ _).drew⟩
    clear HES HES2 HB2 HC2 HWZ2
    have s1 := varS_size m.time
    have s4 := varS_size m.size
    have s5 := varS_size (n : Int)
    have s2 : (textS m.tag).size ≤ 2000000000000 := by unfold textS; have := varS_size (m.tag.size : Int); simp; omega
    have s3 : (textS m.parent).size ≤ 2000000000000 := by unfold textS; have := varS_size (m.parent.size : Int); simp; omega
    have s6 : (joinS m.chunks).size ≤ 2000000000000 := by rw [joinS_size _ k7]; omega
    clear k1 k2 k3 k4 k5 k6 k7 k8 k9 htag hpar hn' hs hl
    have q1 : ¬ 9223372036854775807 < 4 + (varS m.time).size := by omega
    have q2 : ¬ 9223372036854775807 < 4 + (varS m.time).size + (textS m.tag).size := by omega
    have q3 : ¬ 9223372036854775807 < 4 + (varS m.time).size + (textS m.tag).size + (textS m.parent).size := by omega
    have q4 : ¬ 9223372036854775807 < 4 + (varS m.time).size + (textS m.tag).size + (textS m.parent).size + (varS m.size).size := by omega
    have q5 : ¬ 9223372036854775807 < 4 + (varS m.time).size + (textS m.tag).size + (textS m.parent).size + (varS m.size).size + (varS (n : Int)).size := by omega
    have q6 : ¬ 9223372036854775807 < 4 + (varS m.time).size + (textS m.tag).size + (textS m.parent).size + (varS m.size).size + (varS (n : Int)).size + (joinS m.chunks).size := by omega
    clear s1 s2 s3 s4 s5 s6
    go_wp2_with fail
    go_region_held3 (fun w' => w'.cell? ⟨w.heap.size, 0, none⟩ = some (.int .i64 m.time) ∧ w'.cell? ⟨w.heap.size, 1, none⟩ = some (.string m.tag) ∧ w'.cell? ⟨w.heap.size, 2, none⟩ = some (.string m.parent) ∧ w'.cell? ⟨w.heap.size, 3, none⟩ = some (.int .i64 m.size) ∧ w'.cell? ⟨w.heap.size, 4, none⟩ = some (.slice A n c) ∧ Aside0 (ES w m A n c w')) (first | exact ⟨by assumption, by assumption, by assumption, by assumption, by assumption, by assumption⟩ | go_keep)
      (first
        | (go_at_call 40; refine (HV.out _ (by first | exact HQ.out.1 | exact HQ.out.2.1 | exact HQ.out.2.2.1) _ (by exact Aside0.out (by assumption))).mono ?_; rintro e w' ⟨rfl, hh⟩; have HH := Aside0.mk hh; obtain ⟨x0, x1, x2, x3, x4, x5, x6, x7⟩ := hh)
        | (go_at_call 41; refine (HVT.out _ (by first | exact HQ.out.2.2.2.1 | exact HQ.out.2.2.2.2) _ (by exact Aside0.out (by assumption))).mono ?_; rintro e w' ⟨rfl, hh⟩; have HH := Aside0.mk hh; obtain ⟨x0, x1, x2, x3, x4, x5, x6, x7⟩ := hh)
        | (go_at_call 42; refine (HV6.out _ (by exact Aside0.out (by assumption))).mono ?_; rintro e w' ⟨rfl, hh⟩; have HH := Aside0.mk hh; obtain ⟨x0, x1, x2, x3, x4, x5, x6, x7⟩ := hh))
    go_wp2
    go_ret2
    exact ⟨by rw [HF.out, HE.out]; rfl, x6.out⟩
  · have hcb : (checkF m != 0) = true := by simp [hc0]
    have HF := Lib.hid (show encF m = (⟨#[]⟩, checkF m) from if_neg hc0)
    clear hc0
    generalize checkF m = ck at hcb HF ⊢
    go_wp2
    go_ret2
    exact ⟨by rw [HF.out]; rfl, HB2.out⟩
end Go.Proofs.YtlilkfnfcaepiaaGreatDoor.M
set_option linter.unusedSimpArgs false
set_option linter.unusedVariables false
namespace Go.Proofs.YtlilkfnfcaepiaaGreatDoor.M
open Go.RowKit Go.Proofs.YtlilkfnfcaepiaaGreatDoorW.PrintWords Go.Proofs.YtlilkfnfcaepiaaGreatDoorW.PrintLast Go.Proofs.YtlilkfnfcaepiaaGreatDoorW.PrintMore PB H D G

theorem bits64_nonneg (op : BinOp) (x y : Int) : 0 ≤ Go.bits op .u64 x y := by
  have h := wf_bits op .u64 x y
  simp [Lit.wf, IntKind.min, IntKind.max, IntKind.signed, IntKind.bits] at h
  omega
theorem unvar_res (s : ByteArray) : ∀ k,
    (∀ (x4 x5 : Int) (r : Int × Int), 0 ≤ x4 → 0 ≤ x5 → x5 ≤ 10 → PI.bits_Unvar.l0 k s x4 x5 = some r → 0 ≤ r.1 ∧ (r.2 = 0 ∨ (1 ≤ r.2 ∧ r.2 ≤ s.size))) ∧
    (∀ (x4 x5 : Int) (b : Bool) (r : Int × Int), 0 ≤ x4 → 0 ≤ x5 → (b = true → x5 < 10) → PI.bits_Unvar.j1 k s x4 x5 b = some r → 0 ≤ r.1 ∧ (r.2 = 0 ∨ (1 ≤ r.2 ∧ r.2 ≤ s.size))) ∧
    (∀ (x4 x5 x6 : Int) (b : Bool) (r : Int × Int), 0 ≤ x4 → 0 ≤ x5 → x5 < 10 → x5 < (s.size : Int) → PI.bits_Unvar.j2 k s x4 x5 x6 b = some r → 0 ≤ r.1 ∧ (r.2 = 0 ∨ (1 ≤ r.2 ∧ r.2 ≤ s.size)))
  | 0 => ⟨fun _ _ _ _ _ _ h => by simp [PI.bits_Unvar.l0] at h, fun _ _ _ _ _ _ _ h => by simp [PI.bits_Unvar.j1] at h, fun _ _ _ _ _ _ _ _ _ h => by simp [PI.bits_Unvar.j2] at h⟩
  | k + 1 => by
    obtain ⟨i0, i1, i2⟩ := unvar_res s k
    refine ⟨?_, ?_, ?_⟩
    · intro x4 x5 r h4 h5 h10 h
      rw [PI.bits_Unvar.l0] at h
      split at h
      · exact i1 _ _ _ _ h4 h5 (fun hb => by simpa using hb) h
      · exact i1 _ _ _ _ h4 h5 (fun hb => by simp at hb) h
    · intro x4 x5 b r h4 h5 hb h
      rw [PI.bits_Unvar.j1] at h
      cases b with
      | false => simp at h; subst h; exact ⟨by simp, .inl rfl⟩
      | true =>
        rw [if_pos rfl] at h
        have h10 := hb rfl
        rw [if_pos h5] at h
        by_cases hs : x5 < (s.size : Int)
        · rw [if_pos hs] at h
          repeat' split at h
          all_goals exact i2 _ _ _ _ _ h4 h5 h10 hs h
        · rw [if_neg hs] at h; exact absurd h (by simp)
    · intro x4 x5 x6 b r h4 h5 h10 hs h
      rw [PI.bits_Unvar.j2] at h
      cases b with
      | true => simp at h; subst h; exact ⟨by simp, .inl rfl⟩
      | false =>
        rw [if_neg (by simp)] at h
        have h7 : 0 ≤ wrap64 (7 * x5) := by rw [wrap64_small _ (by omega) (by omega)]; omega
        rw [if_pos h7] at h
        · split at h
          · simp only [Option.some.injEq] at h
            subst h
            refine ⟨by show 0 ≤ Go.bits .or .u64 x4 _; exact bits64_nonneg _ _ _, .inr ?_⟩
            show 1 ≤ wrap64 (x5 + 1) ∧ wrap64 (x5 + 1) ≤ s.size
            rw [wrap64_small _ (by omega) (by omega)]; omega
          · exact i0 _ _ _ (bits64_nonneg _ _ _) (by rw [wrap64_small _ (by omega) (by omega)]; omega) (by rw [wrap64_small _ (by omega) (by omega)]; omega) h
theorem uvF_res (s : ByteArray) : 0 ≤ (uvF s).1 ∧ ((uvF s).2 = 0 ∨ (1 ≤ (uvF s).2 ∧ (uvF s).2 ≤ s.size)) :=
  (unvar_res s 33).1 0 0 _ (by omega) (by omega) (by omega) (unvar_f s)

/-- The reader. -/
def RAt (w : World) (b : Nat) (s : ByteArray) (bad : Bool) : Prop := Row w b #[.string s, .bool bad] 119
theorem RAt.c0 {w : World} {b : Nat} {s : ByteArray} {bad : Bool} (h : RAt w b s bad) : w.cell? ⟨b, 0, none⟩ = some (.string s) := by unfold RAt Row at h; simp [World.cell?, h]
theorem RAt.c1 {w : World} {b : Nat} {s : ByteArray} {bad : Bool} (h : RAt w b s bad) : w.cell? ⟨b, 1, none⟩ = some (.bool bad) := by unfold RAt Row at h; simp [World.cell?, h]
theorem RAt.free {w : World} {b : Nat} {s : ByteArray} {bad : Bool} (h : RAt w b s bad) (k : Nat) : w.frozen? ⟨b, k, none⟩ = false := Row.free h k
theorem RAt.setS {w : World} {b : Nat} {s : ByteArray} {bad : Bool} (h : RAt w b s bad) (t : ByteArray) : RAt (w.setCell ⟨b, 0, none⟩ (.string t)) b t bad := set_at h 0 _
theorem RAt.setBad {w : World} {b : Nat} {s : ByteArray} {bad : Bool} (h : RAt w b s bad) (t : Bool) : RAt (w.setCell ⟨b, 1, none⟩ (.bool t)) b s t := set_at h 1 _

abbrev RS := ByteArray × Bool
def numF (r : RS) : Int × RS := if (uvF r.1).2 = 0 ∨ 1099511627776 < (uvF r.1).1 then (0, (r.1, true)) else ((uvF r.1).1, (r.1.extract (uvF r.1).2.toNat r.1.size, r.2))
def takeF (r : RS) (n : Int) : ByteArray × RS := if (r.1.size : Int) < n then (⟨#[]⟩, (r.1, true)) else (r.1.extract 0 n.toNat, (r.1.extract n.toNat r.1.size, r.2))
theorem numF_range (r : RS) : 0 ≤ (numF r).1 ∧ (numF r).1 ≤ 1099511627776 := by
  unfold numF
  have := uvF_res r.1
  split
  · simp
  · next h => simp only; omega

set_option maxRecDepth 100000 in
set_option maxHeartbeats 1000000 in
theorem number_any (r : RS) (b : Nat) (w : World) (h : RAt w b r.1 r.2) :
    Calls Tryz.prog 72 #[.pointer (some ⟨b, 0, none⟩)] w fun e w' => e = .returned (.int .i64 (numF r).1) ∧ RAt w' b (numF r).2.1 (numF r).2.2 ∧ Chg (fun k => k = b) w w' := by
  have hu := uvF_res r.1
  obtain ⟨s, bad⟩ := r
  simp only at h hu
  have c0 := h.c0
  have H := Aside0.mk h
  have hlt := Row.lt h
  clear h
  go_enter Tryz.func72, Tryz.ntmps72
  go_wp2_with fail
  refine (Unvar_any s w).mono ?_
  rintro e w2 ⟨rfl, hb⟩
  have H2 := Aside0.mk (show RAt w2 b s bad from H.out.move (hb.block b hlt))
  have HC := Aside0.mk (Chg.of_below (F := fun k => k = b) hb)
  clear hb H c0
  have HF := Lib.hid (show numF (s, bad) = if (uvF s).2 = 0 ∨ 1099511627776 < (uvF s).1 then (0, (s, true)) else ((uvF s).1, (s.extract (uvF s).2.toNat s.size, bad)) from rfl)
  generalize (uvF s).1 = x at HF hu ⊢
  generalize (uvF s).2 = n at HF hu ⊢
  have c1 := H2.out.c1
  have c0 := H2.out.c0
  have f1 := H2.out.free 1
  have f0 := H2.out.free 0
  by_cases hn : n = 0
  · have HF2 := Lib.hid (show numF (s, bad) = (0, (s, true)) by rw [HF.out]; exact if_pos (.inl hn))
    subst hn
    clear hu HF
    go_wp2
    go_ret
    exact ⟨ret_i (by rw [HF2.out]), by rw [HF2.out]; exact H2.out.setBad true, HC.out.setCell (p := ⟨b, 1, none⟩) rfl _⟩
  · have hnb : (n == 0) = false := by simpa using hn
    by_cases hx : 1099511627776 < x
    · have HF2 := Lib.hid (show numF (s, bad) = (0, (s, true)) by rw [HF.out]; exact if_pos (.inr hx))
      have hxb : decide (1099511627776 < x) = true := decide_eq_true hx
      clear hu HF hn hx
      go_wp2
      go_ret
      exact ⟨ret_i (by rw [HF2.out]), by rw [HF2.out]; exact H2.out.setBad true, HC.out.setCell (p := ⟨b, 1, none⟩) rfl _⟩
    · have HF2 := Lib.hid (show numF (s, bad) = (x, (s.extract n.toNat s.size, bad)) by rw [HF.out]; exact if_neg (by rintro (h | h); exact hn h; exact hx h))
      have hxb : decide (1099511627776 < x) = false := decide_eq_false hx
      have hn1 : 1 ≤ n ∧ n ≤ s.size := by rcases hu.2 with h | h; exact absurd h hn; exact h
      obtain ⟨m, hm⟩ : ∃ m : Nat, n = m := ⟨n.toNat, by omega⟩
      subst hm
      have hm2 : m ≤ s.size := by omega
      have hx0 := hu.1
      have ex : IntKind.i64.wrap x = x := IntWalk.i64_in _ (by omega)
      rw [Int.toNat_natCast] at HF2
      clear hu HF hn hx hn1
      go_wp2
      go_ret
      exact ⟨ret_i (by rw [HF2.out]), by rw [HF2.out]; exact H2.out.setS _, HC.out.setCell (p := ⟨b, 0, none⟩) rfl _⟩

set_option maxRecDepth 100000 in
set_option maxHeartbeats 1000000 in
theorem take_any (r : RS) (n : Int) (hn : 0 ≤ n) (b : Nat) (w : World) (h : RAt w b r.1 r.2) :
    Calls Tryz.prog 73 #[.pointer (some ⟨b, 0, none⟩), .int .i64 n] w fun e w' => e = .returned (.string (takeF r n).1) ∧ RAt w' b (takeF r n).2.1 (takeF r n).2.2 ∧ Chg (fun k => k = b) w w' := by
  obtain ⟨s, bad⟩ := r
  simp only at h
  have c0 := h.c0
  have c1 := h.c1
  have f1 := h.free 1
  have f0 := h.free 0
  have H := Aside0.mk h
  clear h
  by_cases hlt : (s.size : Int) < n
  · have HF := Lib.hid (show takeF (s, bad) n = (⟨#[]⟩, (s, true)) from if_pos hlt)
    have hb : decide ((s.size : Int) < n) = true := decide_eq_true hlt
    clear hlt
    go_enter Tryz.func73, Tryz.ntmps73
    go_wp2
    go_ret
    exact ⟨by rw [HF.out]; rfl, by rw [HF.out]; exact H.out.setBad true, (Chg.refl (fun k => k = b) w).setCell (p := ⟨b, 1, none⟩) rfl _⟩
  · obtain ⟨m, hm⟩ : ∃ m : Nat, n = m := ⟨n.toNat, by omega⟩
    subst hm
    have HF := Lib.hid (show takeF (s, bad) (m : Int) = (s.extract 0 m, (s.extract m s.size, bad)) by unfold takeF; rw [if_neg hlt, Int.toNat_natCast])
    have hb : decide ((s.size : Int) < (m : Int)) = false := decide_eq_false hlt
    have hm2 : m ≤ s.size := by omega
    clear hlt hn
    go_enter Tryz.func73, Tryz.ntmps73
    go_wp2
    go_ret
    exact ⟨by rw [HF.out]; rfl, by rw [HF.out]; exact H.out.setS _, (Chg.refl (fun k => k = b) w).setCell (p := ⟨b, 0, none⟩) rfl _⟩
end Go.Proofs.YtlilkfnfcaepiaaGreatDoor.M
set_option linter.unusedSimpArgs false
set_option linter.unusedVariables false
namespace Go.Proofs.YtlilkfnfcaepiaaGreatDoor.M
open Go.RowKit Go.Proofs.YtlilkfnfcaepiaaGreatDoorW.PrintWords Go.Proofs.YtlilkfnfcaepiaaGreatDoorW.PrintLast Go.Proofs.YtlilkfnfcaepiaaGreatDoorW.PrintMore PB H D G

theorem DG.below {w w1 w2 : World} {F : Nat → Prop} {base d n : Nat} {a : AD} (h : DG w F base d n a w1) (hb : Below w1.heap.size w1 w2) : DG w F base d n a w2 := by
  have hd : DiskAt w2 (Grow F w w1) base d n a := h.disk.move (fun b hbF => hb.block b (by obtain ⟨mf, ms, sv, p⟩ := h.disk; exact p.high b hbF))
  exact h.trans (DG.of h.base hd (Chg.of_below hb) (Nat.le_refl _))
theorem encF_size (m : MF) : (encF m).1.size ≤ 1099511627776 := by
  unfold encF
  split
  · next h =>
    obtain ⟨k1, k2, k3, k4, k5, k6, k7, k8, k9⟩ := check0 m h
    have s1 := varS_size m.time
    have s4 := varS_size m.size
    have s5 := varS_size (m.chunks.length : Int)
    have s2 := varS_size (m.tag.size : Int)
    have s3 := varS_size (m.parent.size : Int)
    have s6 := joinS_size _ k7
    have t1 : m.tag.size ≤ 60 := by
      rcases k8 with h | h
      · have h2 : m.tag.toList = [] := by simpa using h
        rw [bytes_list] at h2
        have : m.tag.size = 0 := by show m.tag.data.size = 0; simpa using congrArg List.length h2
        omega
      · exact bad60 _ h
    have t2 : m.parent.size ≤ 64 := by
      rcases k9 with h | h
      · have h2 : m.parent.toList = [] := by simpa using h
        rw [bytes_list] at h2
        have : m.parent.size = 0 := by show m.parent.data.size = 0; simpa using congrArg List.length h2
        omega
      · unfold digestIs at h
        simp only [Bool.and_eq_true, beq_iff_eq] at h
        omega
    unfold encS textS
    simp only [ByteArray.size_append]
    have : (⟨#[115, 110, 97, 112]⟩ : ByteArray).size = 4 := rfl
    omega
  · simp [ByteArray.size]
def fileN (id : ByteArray) : ByteArray := ⟨#[115]⟩ ++ id
def manPub (a : AD) (m : MF) (id : Nat) : (ByteArray × Int) × AD :=
  if (encF m).2 = 0 then
    (if (AD.publish a (fileN (nameF (encF m).1)) (encF m).1 id).1 = 0 then ((nameF (encF m).1, 0), (AD.publish a (fileN (nameF (encF m).1)) (encF m).1 id).2)
     else ((⟨#[]⟩, (AD.publish a (fileN (nameF (encF m).1)) (encF m).1 id).1), (AD.publish a (fileN (nameF (encF m).1)) (encF m).1 id).2))
  else ((⟨#[]⟩, (encF m).2), a)
def ManPost (F : Nat → Prop) (base d n : Nat) (w : World) (f : Nat → (ByteArray × Int) × AD) (e : Ending) (w' : World) : Prop := ∃ id, w.heap.size ≤ id ∧ e = .returned (.tuple #[.string (f id).1.1, .int .i64 (f id).1.2]) ∧ DG w F base d n (f id).2 w'

set_option maxRecDepth 100000 in
set_option maxHeartbeats 2000000 in
theorem man_Publish {w : World} {F : Nat → Prop} {base d n : Nat} {a : AD} (h : DiskAt w F base d n a) (hn : n ≤ 900000) (m : MF) (A : Option Addr) (c : Nat) (hC : Kd.C Kd.string w A m.chunks.length m.chunks) (hcc : m.chunks.length ≤ c) (hT : Lib.Utf8Tabs 1 2 w) (hs : m.parent.size ≤ 140737488351232) (hl : m.chunks.length ≤ 140737488351232) :
    Calls Tryz.prog 9 #[.pointer (some ⟨d, 0, none⟩), .agg #[.int .i64 m.time, .string m.tag, .string m.parent, .int .i64 m.size, .slice A m.chunks.length c]] w (ManPost F base d (n + 5) w (manPub a m)) := by
  have hb0 : Below w.heap.size w (w.alloc (Obj.cells #[.int .i64 m.time, .string m.tag, .string m.parent, .int .i64 m.size, .slice A m.chunks.length c] 32)) := Below.alloc' (Nat.le_refl _) _
  have H0 := Aside0.mk ((DG.start h).below hb0)
  have z0 : (w.alloc (Obj.cells #[.int .i64 m.time, .string m.tag, .string m.parent, .int .i64 m.size, .slice A m.chunks.length c] 32)).cell? ⟨w.heap.size, 0, none⟩ = some (.int .i64 m.time) := cell_new _ _ _ _
  have z1 : (w.alloc (Obj.cells #[.int .i64 m.time, .string m.tag, .string m.parent, .int .i64 m.size, .slice A m.chunks.length c] 32)).cell? ⟨w.heap.size, 1, none⟩ = some (.string m.tag) := cell_new _ _ _ _
  have z2 : (w.alloc (Obj.cells #[.int .i64 m.time, .string m.tag, .string m.parent, .int .i64 m.size, .slice A m.chunks.length c] 32)).cell? ⟨w.heap.size, 2, none⟩ = some (.string m.parent) := cell_new _ _ _ _
  have z3 : (w.alloc (Obj.cells #[.int .i64 m.time, .string m.tag, .string m.parent, .int .i64 m.size, .slice A m.chunks.length c] 32)).cell? ⟨w.heap.size, 3, none⟩ = some (.int .i64 m.size) := cell_new _ _ _ _
  have z4 : (w.alloc (Obj.cells #[.int .i64 m.time, .string m.tag, .string m.parent, .int .i64 m.size, .slice A m.chunks.length c] 32)).cell? ⟨w.heap.size, 4, none⟩ = some (.slice A m.chunks.length c) := cell_new _ _ _ _
  have HEN := Lib.hid (Encode_any m A c _ (Kd.C_below hC hb0) hcc (utf8_below hT hb0) hs hl)
  obtain ⟨W, hW⟩ : ∃ W, w.alloc (Obj.cells #[.int .i64 m.time, .string m.tag, .string m.parent, .int .i64 m.size, .slice A m.chunks.length c] 32) = W := ⟨_, rfl⟩
  rw [hW] at H0 HEN z0 z1 z2 z3 z4
  have hes := encF_size m
  clear hb0 hC hT h hs hl hcc
  go_enter Tryz.func9, Tryz.ntmps9
  go_wp2_with fail
  refine HEN.out.mono ?_
  rintro e W2 ⟨rfl, hb⟩
  have H2 := Aside0.mk (H0.out.below hb)
  clear hb H0 z0 z1 z2 z3 z4 hW HEN W
  obtain ⟨es, hes1⟩ : ∃ s, (encF m).1 = s := ⟨_, rfl⟩
  obtain ⟨ee, hee⟩ : ∃ s, (encF m).2 = s := ⟨_, rfl⟩
  have HF := Lib.hid (show ∀ id, manPub a m id = if ee = 0 then (if (AD.publish a (fileN (nameF es)) es id).1 = 0 then ((nameF es, 0), (AD.publish a (fileN (nameF es)) es id).2) else ((⟨#[]⟩, (AD.publish a (fileN (nameF es)) es id).1), (AD.publish a (fileN (nameF es)) es id).2)) else ((⟨#[]⟩, ee), a) from fun id => by unfold manPub; rw [hes1, hee])
  rw [hes1] at hes
  rw [hes1, hee]
  clear hes1 hee
  by_cases h0 : ee = 0
  · subst h0
    have HF2 := Lib.hid (show ∀ id, manPub a m id = if (AD.publish a (fileN (nameF es)) es id).1 = 0 then ((nameF es, 0), (AD.publish a (fileN (nameF es)) es id).2) else ((⟨#[]⟩, (AD.publish a (fileN (nameF es)) es id).1), (AD.publish a (fileN (nameF es)) es id).2) from fun id => by rw [HF.out id, if_pos rfl])
    clear HF
    go_wp2_with fail
    refine (name_any es hes W2).mono ?_
    rintro e W3 ⟨rfl, hb⟩
    have H3 := Aside0.mk (H2.out.below hb)
    clear hb H2
    have hnz := nameF_size es
    generalize nameF es = nm at HF2 hnz ⊢
    have hfn : (fileN nm).size ≤ 1000000 := by unfold fileN; simp only [ByteArray.size_append]; have : (⟨#[115]⟩ : ByteArray).size = 1 := rfl
                                               omega
    have HP := Lib.hid (packs_Publish H3.out.disk hn (fileN nm) es hfn hes)
    have HFN := Lib.hid (show fileN nm = ⟨#[115]⟩ ++ nm from rfl)
    clear hfn
    go_wp2_with fail
    rw [← HFN.out]
    refine HP.out.mono ?_
    rintro e W4 ⟨id, hid, rfl, h4⟩
    have H4 := Aside0.mk (H3.out.trans h4)
    have HID := Lib.hid (Nat.le_trans H3.out.chg.size hid)
    have HF3 := Lib.hid (HF2.out id)
    clear hid h4 HF2 HP H3
    generalize AD.publish a (fileN nm) es id = r at HF3 H4 ⊢
    by_cases hr : r.1 = 0
    · have hrb : (r.1 != 0) = false := by simp [hr]
      have HF4 := Lib.hid (show manPub a m id = ((nm, 0), r.2) by rw [HF3.out]; exact if_pos hr)
      clear hr HF3
      go_wp2
      go_ret2
      exact ⟨id, HID.out, by rw [HF4.out]; rfl, by rw [HF4.out]; exact H4.out⟩
    · have hrb : (r.1 != 0) = true := by simp [hr]
      have HF4 := Lib.hid (show manPub a m id = ((⟨#[]⟩, r.1), r.2) by rw [HF3.out]; exact if_neg hr)
      clear hr HF3
      go_wp2
      go_ret2
      exact ⟨id, HID.out, by rw [HF4.out]; rfl, by rw [HF4.out]; exact H4.out⟩
  · have h0b : (ee != 0) = true := by simp [h0]
    have HF2 := Lib.hid (show ∀ id, manPub a m id = ((⟨#[]⟩, ee), a) from fun id => by rw [HF.out id, if_neg h0])
    clear HF h0
    go_wp2
    go_ret2
    exact ⟨w.heap.size, Nat.le_refl _, by rw [HF2.out]; rfl, by rw [HF2.out]; exact H2.out.more (by omega)⟩
end Go.Proofs.YtlilkfnfcaepiaaGreatDoor.M
set_option linter.unusedSimpArgs false
set_option linter.unusedVariables false
namespace Go.Proofs.YtlilkfnfcaepiaaGreatDoor.M
open Go.RowKit Go.Proofs.YtlilkfnfcaepiaaGreatDoorW.PrintWords Go.Proofs.YtlilkfnfcaepiaaGreatDoorW.PrintLast Go.Proofs.YtlilkfnfcaepiaaGreatDoorW.PrintMore PB H D G

structure SN where
  id : ByteArray
  time : Int
  tag : ByteArray
def SN.enc (s : SN) : List Value := [.string s.id, .int .i64 s.time, .string s.tag]
def beforeF (a b : SN) : Int := if a.time = b.time then Lib.compareBytes a.id.data.toList b.id.data.toList else a.time - b.time
set_option maxRecDepth 100000 in
theorem before_any (a b : SN) (ha : 0 ≤ a.time ∧ a.time ≤ 253402300799) (hb : 0 ≤ b.time ∧ b.time ≤ 253402300799) (w : World) :
    Calls Tryz.prog 35 #[.agg a.enc.toArray, .agg b.enc.toArray] w fun e w' => e = .returned (.int .i64 (beforeF a b)) ∧ Below w.heap.size w w' := by
  obtain ⟨ai, at_, ag⟩ := a
  obtain ⟨bi, bt_, bg⟩ := b
  simp only at ha hb
  unfold SN.enc
  simp only
  by_cases h : at_ = bt_
  · subst h
    have HF := Lib.hid (show beforeF ⟨ai, at_, ag⟩ ⟨bi, at_, bg⟩ = Lib.compareBytes ai.data.toList bi.data.toList from if_pos rfl)
    go_enter Tryz.func35, Tryz.ntmps35
    go_wp2_with fail
    refine (Tryz.strings_Compare ai bi _).mono ?_
    rintro e w2 ⟨rfl, rfl⟩
    generalize Lib.compareBytes ai.data.toList bi.data.toList = r at HF ⊢
    go_wp2
    go_ret
    exact ⟨ret_i HF.out.symm, ((Below.refl _ _).alloc (Nat.le_refl _) _).alloc (by simp) _⟩
  · have HF := Lib.hid (show beforeF ⟨ai, at_, ag⟩ ⟨bi, bt_, bg⟩ = at_ - bt_ from if_neg h)
    have hne : (at_ != bt_) = true := by simp [h]
    have hne2 : (at_ == bt_) = false := by simp [h]
    have hw : IntKind.i64.wrap (at_ - bt_) = at_ - bt_ := IntWalk.i64_in _ (by omega)
    clear h
    go_enter Tryz.func35, Tryz.ntmps35
    go_wp2
    go_ret
    exact ⟨ret_i HF.out.symm, ((Below.refl _ _).alloc (Nat.le_refl _) _).alloc (by simp) _⟩
end Go.Proofs.YtlilkfnfcaepiaaGreatDoor.M
