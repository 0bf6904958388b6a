/- Days, weeks and dates; dates rise with time. -/
import Derived.Test.YtlilkfnfcaepiaaGreatDoorXh
import Derived.Test.YtlilkfnfcaepiaaGreatDoorXp
import Derived.Test.YtlilkfnfcaepiaaGreatDoorXg
import Derived.Maps.OwnOps
import Derived.Maps.RangeWalk
import Derived.Lib.SlBytesConst
set_option linter.unusedSimpArgs false
set_option linter.unusedVariables false
namespace Go.Proofs.YtlilkfnfcaepiaaGreatDoor.Y
open Go.RowKit Go.Proofs.YtlilkfnfcaepiaaGreatDoorW.PrintWords Go.Proofs.YtlilkfnfcaepiaaGreatDoorW.PrintLast Go.Proofs.YtlilkfnfcaepiaaGreatDoorW.PrintMore PJ

def leapB (y : Int) : Bool := if y % 4 = 0 then (if y % 100 = 0 then y % 400 == 0 else true) else false
def yl (y : Int) : Int := if leapB y then 366 else 365
def dby (y : Int) : Int := 365 * y + (y + 3) / 4 - (y + 99) / 100 + (y + 399) / 400
def ml (y m : Int) : Int := if m = 1 then (if leapB y then 29 else 28) else if m = 3 then 30 else if m = 5 then 30 else if m = 8 then 30 else if m = 10 then 30 else 31
def fe (y : Int) : Int := if leapB y then 1 else 0
def cum (y m : Int) : Int := if m ≤ 0 then 0 else if m = 1 then 31 else if m = 2 then 59 + fe y else if m = 3 then 90 + fe y else if m = 4 then 120 + fe y else if m = 5 then 151 + fe y else if m = 6 then 181 + fe y else if m = 7 then 212 + fe y else if m = 8 then 243 + fe y else if m = 9 then 273 + fe y else if m = 10 then 304 + fe y else if m = 11 then 334 + fe y else 365 + fe y
theorem fe_01 (y : Int) : 0 ≤ fe y ∧ fe y ≤ 1 := by unfold fe; split <;> omega
theorem yl_fe (y : Int) : yl y = 365 + fe y := by unfold yl fe; split <;> rfl
theorem ml_eq (y m : Int) (h0 : 0 ≤ m) (h1 : m ≤ 11) : cum y (m + 1) = cum y m + ml y m := by
  have hm : m = 0 ∨ m = 1 ∨ m = 2 ∨ m = 3 ∨ m = 4 ∨ m = 5 ∨ m = 6 ∨ m = 7 ∨ m = 8 ∨ m = 9 ∨ m = 10 ∨ m = 11 := by omega
  have hf : fe y = if leapB y then 1 else 0 := rfl
  rcases hm with rfl | rfl | rfl | rfl | rfl | rfl | rfl | rfl | rfl | rfl | rfl | rfl <;> simp [cum, ml, fe] <;> (try split) <;> rfl
theorem ml_bd (y m : Int) : 28 ≤ ml y m ∧ ml y m ≤ 31 := by
  unfold ml
  repeat' split
  all_goals omega
theorem cum_vals (y m : Int) : (m ≤ 0 ∧ cum y m = 0) ∨ (m = 1 ∧ cum y m = 31) ∨ (m = 2 ∧ cum y m = 59 + fe y) ∨ (m = 3 ∧ cum y m = 90 + fe y) ∨ (m = 4 ∧ cum y m = 120 + fe y) ∨ (m = 5 ∧ cum y m = 151 + fe y) ∨ (m = 6 ∧ cum y m = 181 + fe y) ∨ (m = 7 ∧ cum y m = 212 + fe y) ∨ (m = 8 ∧ cum y m = 243 + fe y) ∨ (m = 9 ∧ cum y m = 273 + fe y) ∨ (m = 10 ∧ cum y m = 304 + fe y) ∨ (m = 11 ∧ cum y m = 334 + fe y) ∨ (12 ≤ m ∧ cum y m = 365 + fe y) := by
  by_cases h0 : m ≤ 0
  · exact .inl ⟨h0, if_pos h0⟩
  · by_cases h1 : 12 ≤ m
    · iterate 12 right
      refine ⟨h1, ?_⟩
      unfold cum
      rw [if_neg (by omega), if_neg (by omega), if_neg (by omega), if_neg (by omega), if_neg (by omega), if_neg (by omega), if_neg (by omega), if_neg (by omega), if_neg (by omega), if_neg (by omega), if_neg (by omega), if_neg (by omega)]
    · have hm : m = 1 ∨ m = 2 ∨ m = 3 ∨ m = 4 ∨ m = 5 ∨ m = 6 ∨ m = 7 ∨ m = 8 ∨ m = 9 ∨ m = 10 ∨ m = 11 := by omega
      rcases hm with rfl | rfl | rfl | rfl | rfl | rfl | rfl | rfl | rfl | rfl | rfl <;> simp [cum]
theorem cum_0 (y m : Int) : 0 ≤ cum y m := by
  have := fe_01 y
  have := cum_vals y m
  omega
theorem dby_succ (y : Int) (h : 0 ≤ y) : dby (y + 1) = dby y + yl y := by
  unfold dby yl leapB
  by_cases h4 : y % 4 = 0
  · by_cases h1 : y % 100 = 0
    · by_cases h2 : y % 400 = 0
      · simp [h4, h1, h2]; omega
      · have : (y % 400 == 0) = false := by simpa using h2
        simp [h4, h1, this]; omega
    · simp [h4, h1]; omega
  · simp [h4]; omega
theorem w64 (x : Int) (h0 : -9223372036854775808 ≤ x) (h1 : x < 9223372036854775808) : wrap64 x = x := by
  unfold wrap64 at *
  first | exact IntWalk.i64_in x (by omega) | (simp only [IntKind.wrap]; omega) | omega
theorem leap_f (y : Int) (h : 0 ≤ y) : days_leap.f y = some (leapB y) := by
  unfold days_leap.f leapB
  rw [Int.tmod_eq_emod_of_nonneg h, Int.tmod_eq_emod_of_nonneg h, Int.tmod_eq_emod_of_nonneg h]
  repeat' split
  all_goals rfl
theorem length_f (y m : Int) (h : 0 ≤ y) : days_length.f y m = some (ml y m) := by
  unfold days_length.f ml
  rw [leap_f y h]
  by_cases h1 : m = 1
  · simp only [h1, if_true, Option.bind_some]
    cases leapB y <;> rfl
  · rw [if_neg h1, if_neg h1]
    repeat' split
    all_goals rfl
/-- The three numbers that a day has. -/
structure Is (N : Int) (r : Int × Int × Int) : Prop where
  y0 : 1970 ≤ r.1
  m0 : 0 ≤ r.2.1
  m1 : r.2.1 ≤ 11
  d0 : 0 ≤ r.2.2
  d1 : r.2.2 < ml r.1 r.2.1
  sum : N = dby r.1 - dby 1970 + cum r.1 r.2.1 + r.2.2
theorem l2_ex (y : Int) (hy : 1970 ≤ y) (hy2 : y ≤ 20000) : ∀ (n : Nat) (m d : Int), 0 ≤ m → m ≤ 11 → (11 - m).toNat = n → 0 ≤ d → d + cum y m < cum y 12 → ∃ k r, days_date.l2 k d y m = some r ∧ Is (dby y - dby 1970 + cum y m + d) r := by
  intro n
  induction n with
  | zero =>
    intro m d h0 h1 hn hd hs
    have hm : m = 11 := by omega
    subst hm
    have h12 := ml_eq y 11 (by omega) (by omega)
    have h12b : cum y (11 + 1) = cum y 12 := rfl
    refine ⟨0 + 1, (y, 11, d), ?_, ⟨hy, h0, h1, hd, ?_, rfl⟩⟩
    · rw [days_date.l2, length_f y 11 (by omega), Option.bind_some, if_neg (by omega)]
    · show d < ml y 11
      omega
  | succ n ih =>
    intro m d h0 h1 hn hd hs
    have hms := ml_eq y m h0 (by omega)
    have hb := ml_bd y m
    by_cases hc : d ≥ ml y m
    · obtain ⟨k, r, hk, hr⟩ := ih (m + 1) (d - ml y m) (by omega) (by omega) (by omega) (by omega) (by omega)
      have hdb : d ≤ 366 := by
        have := fe_01 y
        have e : cum y 12 = 365 + fe y := rfl
        have hc0 := cum_0 y m
        omega
      refine ⟨k + 1, r, ?_, ?_⟩
      · rw [days_date.l2, length_f y m (by omega), Option.bind_some, if_pos hc, Option.bind_some, w64 _ (by omega) (by omega), w64 _ (by omega) (by omega)]
        exact hk
      · rw [show dby y - dby 1970 + cum y m + d = dby y - dby 1970 + cum y (m + 1) + (d - ml y m) by omega]; exact hr
    · refine ⟨0 + 1, (y, m, d), ?_, ⟨hy, h0, by show m ≤ 11; omega, hd, by show d < ml y m; omega, rfl⟩⟩
      rw [days_date.l2, length_f y m (by omega), Option.bind_some, if_neg hc]
theorem l1_ex : ∀ (n : Nat) (y d : Int), 1970 ≤ y → 0 ≤ d → d.toNat ≤ n → y + d ≤ 20000 + 365 * 20000 → y ≤ 15000 → d ≤ 365 * (15000 - y) → ∃ k r, days_date.l1 k d y 0 = some r ∧ Is (dby y - dby 1970 + d) r := by
  intro n
  induction n with
  | zero =>
    intro y d hy hd hn _ hy2 _
    have hd0 : d = 0 := by omega
    subst hd0
    obtain ⟨k, r, hk, hr⟩ := l2_ex y hy (by omega) 11 0 0 (by omega) (by omega) (by decide) (by omega) (by
      have e : cum y 12 = 365 + fe y := rfl
      have e0 : cum y 0 = 0 := rfl
      have := fe_01 y; omega)
    have e0 : cum y 0 = 0 := rfl
    refine ⟨k + 2, r, ?_, by rw [e0] at hr; simpa using hr⟩
    rw [days_date.l1, leap_f y (by omega), Option.bind_some]
    split
    · rw [if_pos (by omega), days_date.j2]; exact hk
    · rw [if_pos (by omega), days_date.j2]; exact hk
  | succ n ih =>
    intro y d hy hd hn hz hy2 hb
    have e12 : cum y 12 = 365 + fe y := rfl
    have e0 : cum y 0 = 0 := rfl
    have ey := yl_fe y
    have hf := fe_01 y
    have hds := dby_succ y (by omega)
    by_cases hc : d < yl y
    · obtain ⟨k, r, hk, hr⟩ := l2_ex y hy (by omega) 11 0 d (by omega) (by omega) (by decide) (by omega) (by omega)
      refine ⟨k + 2, r, ?_, by rw [e0] at hr; simpa using hr⟩
      rw [days_date.l1, leap_f y (by omega), Option.bind_some]
      unfold yl at hc
      split
      · next hl => rw [if_pos hl] at hc; rw [if_pos hc, days_date.j2]; exact hk
      · next hl => rw [if_neg hl] at hc; rw [if_pos hc, days_date.j2]; exact hk
    · obtain ⟨k, r, hk, hr⟩ := ih (y + 1) (d - yl y) (by omega) (by omega) (by omega) (by omega) (by omega) (by omega)
      refine ⟨k + 1, r, ?_, by rw [show dby y - dby 1970 + d = dby (y + 1) - dby 1970 + (d - yl y) by omega]; exact hr⟩
      rw [days_date.l1, leap_f y (by omega), Option.bind_some]
      unfold yl at hc hk
      split
      · next hl => rw [if_pos hl] at hc hk; rw [if_neg hc, w64 _ (by omega) (by omega), w64 _ (by omega) (by omega)]; exact hk
      · next hl => rw [if_neg hl] at hc hk; rw [if_neg hc, w64 _ (by omega) (by omega), w64 _ (by omega) (by omega)]; exact hk
theorem dby_400 (y : Int) : dby (y + 400) = dby y + 146097 := by unfold dby; omega
theorem l0_ex : ∀ (n : Nat) (y d : Int), 1970 ≤ y → 0 ≤ d → d ≤ 3000000 → y + 400 * n ≤ 12000 → 146097 * (n : Int) ≤ d → d < 146097 * ((n : Int) + 1) → ∃ k r, days_date.l0 k d y 0 n = some r ∧ Is (dby y - dby 1970 + d) r := by
  intro n
  induction n with
  | zero =>
    intro y d hy hd hd2 hn h1 h2
    obtain ⟨k, r, hk, hr⟩ := l1_ex d.toNat y d hy hd (Nat.le_refl _) (by omega) (by omega) (by omega)
    refine ⟨k + 1, r, ?_, hr⟩
    rw [days_date.l0]
    rw [if_neg (by simp)]
    exact hk
  | succ n ih =>
    intro y d hy hd hd2 hn h1 h2
    obtain ⟨k, r, hk, hr⟩ := ih (y + 400) (d - 146097) (by omega) (by omega) (by omega) (by omega) (by omega) (by omega)
    have h4 := dby_400 y
    refine ⟨k + 1, r, ?_, by rw [show dby y - dby 1970 + d = dby (y + 400) - dby 1970 + (d - 146097) by omega]; exact hr⟩
    rw [days_date.l0]
    rw [if_pos (by omega), w64 _ (by omega) (by omega), w64 _ (by omega) (by omega), w64 _ (by omega) (by omega)]
    rw [show ((n + 1 : Nat) : Int) - 1 = (n : Int) by omega]
    exact hk
theorem date_ex (t : Int) (h0 : 0 ≤ t) (h1 : t ≤ 253402300799) : ∃ k r, days_date.f k t = some r ∧ Is (t / 86400) r := by
  obtain ⟨n, hn⟩ : ∃ n : Nat, (t / 86400) / 146097 = n := ⟨((t / 86400) / 146097).toNat, by omega⟩
  obtain ⟨k, r, hk, hr⟩ := l0_ex n 1970 (t / 86400) (by omega) (by omega) (by omega) (by omega) (by omega) (by omega)
  refine ⟨k, r, ?_, by simpa using hr⟩
  unfold days_date.f
  rw [Int.tdiv_eq_ediv_of_nonneg h0, w64 _ (by omega) (by omega), Int.tdiv_eq_ediv_of_nonneg (by omega), w64 _ (by omega) (by omega), hn]
  exact hk
theorem dby_mono (a b : Int) (h : a ≤ b) : dby a ≤ dby b := by unfold dby; omega
theorem Is.y1 {N : Int} {r : Int × Int × Int} (h : Is N r) (hN : N ≤ 2932896) : r.1 ≤ 9999 := by
  by_cases hc : 10000 ≤ r.1
  · have := dby_mono 10000 r.1 hc
    have e1 : dby 10000 - dby 1970 = 2932897 := by decide
    have hs := h.sum
    have hd := h.d0
    have hc0 := cum_0 r.1 r.2.1
    omega
  · omega
/-- The date of a second. -/
noncomputable def dateR (t : Int) : Int × Int × Int := if h : 0 ≤ t ∧ t ≤ 253402300799 then (date_ex t h.1 h.2).choose_spec.choose else (0, 0, 0)
theorem dateR_f (t : Int) (h0 : 0 ≤ t) (h1 : t ≤ 253402300799) : (∃ k, days_date.f k t = some (dateR t)) ∧ Is (t / 86400) (dateR t) := by
  unfold dateR
  rw [dif_pos ⟨h0, h1⟩]
  have h := (date_ex t h0 h1).choose_spec.choose_spec
  exact ⟨⟨_, h.1⟩, h.2⟩
theorem drawn_below {w w' : World} (h : Drawn0 w w') : Below w.heap.size w w' := by
  obtain ⟨⟨n, rfl⟩⟩ := h
  exact pw_below_drewN (Below.refl _ _) _
theorem date_any (t : Int) (h0 : 0 ≤ t) (h1 : t ≤ 253402300799) (w : World) : Calls Tryz.prog 30 #[.int .i64 t] w fun e w' => e = .returned (.tuple #[.int .i64 (dateR t).1, .int .i64 (dateR t).2.1, .int .i64 (dateR t).2.2]) ∧ Below w.heap.size w w' := by
  obtain ⟨⟨k, hk⟩, _⟩ := dateR_f t h0 h1
  exact (days_date.calls k t _ _ _ w hk).mono (fun _ _ h => ⟨h.1, drawn_below h.2⟩)
/-- Dates rise with time. -/
def dateLe (a b : Int × Int × Int) : Prop := a.1 < b.1 ∨ (a.1 = b.1 ∧ (a.2.1 < b.2.1 ∨ (a.2.1 = b.2.1 ∧ a.2.2 ≤ b.2.2)))
theorem cum_mono (y : Int) (a b : Int) (h0 : 0 ≤ a) (h : a ≤ b) (hb : b ≤ 12) : cum y a ≤ cum y b := by
  have hf := fe_01 y
  have h1 := cum_vals y a
  have h2 := cum_vals y b
  omega
theorem date_mono (s t : Int) (h0 : 0 ≤ s) (hst : s ≤ t) (h1 : t ≤ 253402300799) : dateLe (dateR s) (dateR t) := by
  have a := (dateR_f s h0 (by omega)).2
  have b := (dateR_f t (by omega) h1).2
  revert a b
  generalize dateR s = x
  generalize dateR t = z
  intro a b
  obtain ⟨x1, x2, x3⟩ := x
  obtain ⟨z1, z2, z3⟩ := z
  obtain ⟨ay, am0, am1, ad0, ad1, asum⟩ := a
  obtain ⟨by0, bm0, bm1, bd0, bd1, bs⟩ := b
  simp only at *
  unfold dateLe
  simp only
  by_cases h1 : x1 < z1
  · exact .inl h1
  · right
    by_cases h2 : x1 = z1
    · subst h2
      refine ⟨rfl, ?_⟩
      by_cases h3 : x2 < z2
      · exact .inl h3
      · right
        by_cases h4 : x2 = z2
        · subst h4; exact ⟨rfl, by omega⟩
        · exfalso
          have e := ml_eq x1 z2 bm0 bm1
          have m := cum_mono x1 (z2 + 1) x2 (by omega) (by omega) (by omega)
          omega
    · exfalso
      have m := dby_mono (z1 + 1) x1 (by omega)
      have e := dby_succ z1 (by omega)
      have e2 := ml_eq z1 z2 bm0 bm1
      have m2 := cum_mono z1 (z2 + 1) 12 (by omega) (by omega) (by omega)
      have m3 := cum_mono x1 0 x2 (by omega) am0 (by omega)
      have e12 : cum z1 12 = 365 + fe z1 := rfl
      have e0 : cum x1 0 = 0 := rfl
      have ey := yl_fe z1
      omega
/-- Weeks. -/
def weekF (t : Int) : Int := if 0 ≤ t ∧ t ≤ 253402300799 then (t / 86400 + 3) / 7 else -1
theorem second_any (t : Int) (w : World) : Calls Tryz.prog 29 #[.int .i64 t] w fun e w' => e = .returned (.bool (decide (0 ≤ t ∧ t ≤ 253402300799))) ∧ Drawn0 w w' := by
  refine days_second.calls t _ w ?_
  unfold days_second.f
  by_cases h : t ≥ 0
  · rw [if_pos h]; congr 1; by_cases h2 : t ≤ 253402300799 <;> simp [h2, h]
  · rw [if_neg h]; congr 1; simp; omega
theorem week_any (t : Int) (w : World) : Calls Tryz.prog 13 #[.int .i64 t] w fun e w' => e = .returned (.int .i64 (weekF t)) ∧ Below w.heap.size w w' := by
  refine (days_Week.calls t (weekF t) w ?_).mono (fun _ _ h => ⟨h.1, drawn_below h.2⟩)
  unfold days_Week.f days_Day.f days_second.f weekF
  by_cases h : t ≥ 0
  · by_cases h2 : t ≤ 253402300799
    · rw [if_pos h, Option.bind_some, if_pos (decide_eq_true h2), Option.bind_some, if_pos (decide_eq_true h2), Option.bind_some, if_pos ⟨h, h2⟩]
      rw [Int.tdiv_eq_ediv_of_nonneg h, w64 (t / 86400) (by omega) (by omega), w64 (t / 86400 + 3) (by omega) (by omega), Int.tdiv_eq_ediv_of_nonneg (by omega), w64 _ (by omega) (by omega)]
    · rw [if_pos h, Option.bind_some, if_neg (by simpa using h2), if_neg (by omega)]
  · rw [if_neg h, Option.bind_some, if_neg (by simp), if_neg (by omega)]
theorem week_mono (s t : Int) (h0 : 0 ≤ s) (hst : s ≤ t) (h1 : t ≤ 253402300799) : weekF s ≤ weekF t := by
  unfold weekF
  rw [if_pos (by omega), if_pos (by omega)]
  omega
end Go.Proofs.YtlilkfnfcaepiaaGreatDoor.Y
set_option linter.unusedSimpArgs false
set_option linter.unusedVariables false
namespace Go.Proofs.YtlilkfnfcaepiaaGreatDoor.Y
open Go.RowKit Go.Maps Go.Proofs.YtlilkfnfcaepiaaGreatDoorW.PrintWords Go.Proofs.YtlilkfnfcaepiaaGreatDoorW.PrintLast Go.Proofs.YtlilkfnfcaepiaaGreatDoorW.PrintMore PJ D G

theorem wpList_insert_own {H : Type} {P : Program} (w : World) {ops : Array Oper} {rest : List Oper} {o : Oper} {a : Act} {Q : Exit → Act → World → Prop}
    (hg : o.guard = none) (m x v : Operand) (t : TypeId) (hop : o.op = Op.insert t m x v)
    (k e : TypeId) (K : Keyed P k) (ht : P.underlying t = some (.map k e)) (R : Value → Option (DataW H × List MemPlace)) (b n : Nat) (D : DataW H)
    (hm : a.eval m = .map (some b)) (hown : w.ownsMap P k R b n D) (hn : n < maxLen) (key val : Value) (kl : Lit) (hx : a.eval x = key) (hv : a.eval v = val) (hkey : keyOf P k key = some kl)
    (d : DataW H) (ps : List MemPlace) (hval : R val = some (d, ps))
    (hK : ∀ w', w'.ownsMap P k R b (n + 1) (D.put kl d) → w.grownBy w' (some b) → wpList P ops Q rest (a.put o.dst undef) w') :
    wpList P ops Q (o :: rest) a w := by
  refine wpList_plain hg fun K' hK' => ?_
  obtain ⟨w', hrun, r1, r2⟩ := hown.update K ht hn hkey hval
  unfold Oper.wp
  simp [execOp, hop, hm, hx, hv, hrun, Result.andThen]
  exact hK' _ _ (hK w' r1 r2)
theorem law3 : Keyed Tryz.prog 3 := int_keyed Tryz.underlying3
def D3 (a b c : Int) : DataW Unit := .map [(.int .i64 3, .lit (.int .i64 a)), (.int .i64 6, .lit (.int .i64 b)), (.int .i64 9, .lit (.int .i64 c))]
theorem D3_eq (a b c : Int) : (((DataW.map [] : DataW Unit).put (.int .i64 3) (.lit (.int .i64 a))).put (.int .i64 6) (.lit (.int .i64 b))).put (.int .i64 9) (.lit (.int .i64 c)) = D3 a b c := rfl
theorem D3_at {a b c x v : Int} (h : ∀ zd : DataW Unit, (D3 a b c).atKey (.int .i64 x) zd = .lit (.int .i64 v)) : (x = 3 ∧ v = a) ∨ (x = 6 ∧ v = b) ∨ (x = 9 ∧ v = c) := by
  by_cases h3 : x = 3
  · subst h3
    left; refine ⟨rfl, ?_⟩
    have : (DataW.lit (.int .i64 a) : DataW Unit) = .lit (.int .i64 v) := h (.lit (.int .i64 0))
    injection this with e; injection e with _ e; exact e.symm
  · by_cases h6 : x = 6
    · subst h6
      right; left; refine ⟨rfl, ?_⟩
      have : (DataW.lit (.int .i64 b) : DataW Unit) = .lit (.int .i64 v) := h (.lit (.int .i64 0))
      injection this with e; injection e with _ e; exact e.symm
    · by_cases h9 : x = 9
      · subst h9
        right; right; refine ⟨rfl, ?_⟩
        have : (DataW.lit (.int .i64 c) : DataW Unit) = .lit (.int .i64 v) := h (.lit (.int .i64 0))
        injection this with e; injection e with _ e; exact e.symm
      · exfalso
        have h1 := h (.lit (.int .i64 (v + 1)))
        have e3 : (Lit.int .i64 3).sameKey (.int .i64 x) = false := by cases hh : (Lit.int .i64 3).sameKey (.int .i64 x) with | false => rfl | true => (have := WideAt.sameKey_eq hh; injection this with _ e; omega)
        have e6 : (Lit.int .i64 6).sameKey (.int .i64 x) = false := by cases hh : (Lit.int .i64 6).sameKey (.int .i64 x) with | false => rfl | true => (have := WideAt.sameKey_eq hh; injection this with _ e; omega)
        have e9 : (Lit.int .i64 9).sameKey (.int .i64 x) = false := by cases hh : (Lit.int .i64 9).sameKey (.int .i64 x) with | false => rfl | true => (have := WideAt.sameKey_eq hh; injection this with _ e; omega)
        simp only [D3, DataW.atKey, List.find?, e3, e6, e9] at h1
        injection h1 with e; injection e with _ e; omega
/-- The ten bytes. -/
def buf (a b c : Int) : List Int := [48 + a / 1000 % 10, 48 + a / 100 % 10, 48 + a / 10 % 10, 48 + a % 10, 45, 48 + b / 10 % 10, 48 + b % 10, 45, 48 + c / 10 % 10, 48 + c % 10]
def u8s (l : List Int) : Array Value := (l.map (Value.int .u8)).toArray
theorem row_cell {w : World} {b : Nat} {l : List Int} {t : Nat} (h : Row w b (u8s l) t) (k : Nat) (x : Int) (hk : l[k]? = some x) : w.cell? ⟨b, k, none⟩ = some (.int .u8 x) := by
  unfold Row at h; simp [World.cell?, h, u8s, hk]
theorem row_set {w : World} {b : Nat} {l l' : List Int} {t : Nat} (h : Row w b (u8s l) t) (k : Nat) (x : Int) (hl : l.set k x = l') : Row (w.setCell ⟨b, k, none⟩ (.int .u8 x)) b (u8s l') t := by
  have := set_at h k (.int .u8 x)
  unfold Row
  rw [this, ← hl]
  simp [u8s, List.map_set]
theorem u8_small (x : Int) (h0 : 0 ≤ x) (h1 : x < 256) : IntKind.u8.wrap x = x := by
  simp [IntKind.wrap, IntKind.bits, IntKind.signed]; omega

theorem set3 (a b c : Int) (j : Nat) (hj : j < 4) (h : 0 ≤ a) : (buf (a % 10 ^ j) b c).set (3 - j) (48 + a / 10 ^ j % 10) = buf (a % 10 ^ (j + 1)) b c := by
  have hj' : j = 0 ∨ j = 1 ∨ j = 2 ∨ j = 3 := by omega
  rcases hj' with rfl | rfl | rfl | rfl
  all_goals (simp only [buf, Nat.reducePow, Int.reducePow, Nat.reduceAdd, Nat.reduceSub, List.set_cons_zero, List.set_cons_succ, Int.pow_zero, Int.ediv_one, Int.emod_one]; simp only [List.cons.injEq, and_true, true_and]; omega)
theorem get3 (a b c : Int) (j : Nat) (hj : j < 4) (h : 0 ≤ a) : (buf (a % 10 ^ j) b c)[3 - j]? = some 48 := by
  have hj' : j = 0 ∨ j = 1 ∨ j = 2 ∨ j = 3 := by omega
  rcases hj' with rfl | rfl | rfl | rfl
  all_goals (simp only [buf, Nat.reducePow, Int.reducePow, Nat.reduceAdd, Nat.reduceSub, List.getElem?_cons_zero, List.getElem?_cons_succ, Int.pow_zero, Int.ediv_one, Int.emod_one]; first | rfl | (congr 1; first | done | omega) | (simp; omega))
theorem set6 (a b c : Int) (j : Nat) (hj : j < 2) (h : 0 ≤ b) : (buf a (b % 10 ^ j) c).set (6 - j) (48 + b / 10 ^ j % 10) = buf a (b % 10 ^ (j + 1)) c := by
  have hj' : j = 0 ∨ j = 1 := by omega
  rcases hj' with rfl | rfl
  all_goals (simp only [buf, Nat.reducePow, Int.reducePow, Nat.reduceAdd, Nat.reduceSub, List.set_cons_zero, List.set_cons_succ, Int.pow_zero, Int.ediv_one, Int.emod_one]; simp only [List.cons.injEq, and_true, true_and]; omega)
theorem get6 (a b c : Int) (j : Nat) (hj : j < 2) (h : 0 ≤ b) : (buf a (b % 10 ^ j) c)[6 - j]? = some 48 := by
  have hj' : j = 0 ∨ j = 1 := by omega
  rcases hj' with rfl | rfl
  all_goals (simp only [buf, Nat.reducePow, Int.reducePow, Nat.reduceAdd, Nat.reduceSub, List.getElem?_cons_zero, List.getElem?_cons_succ, Int.pow_zero, Int.ediv_one, Int.emod_one]; first | rfl | (congr 1; first | done | omega) | (simp; omega))
theorem set9 (a b c : Int) (j : Nat) (hj : j < 2) (h : 0 ≤ c) : (buf a b (c % 10 ^ j)).set (9 - j) (48 + c / 10 ^ j % 10) = buf a b (c % 10 ^ (j + 1)) := by
  have hj' : j = 0 ∨ j = 1 := by omega
  rcases hj' with rfl | rfl
  all_goals (simp only [buf, Nat.reducePow, Int.reducePow, Nat.reduceAdd, Nat.reduceSub, List.set_cons_zero, List.set_cons_succ, Int.pow_zero, Int.ediv_one, Int.emod_one]; simp only [List.cons.injEq, and_true, true_and]; omega)
theorem get9 (a b c : Int) (j : Nat) (hj : j < 2) (h : 0 ≤ c) : (buf a b (c % 10 ^ j))[9 - j]? = some 48 := by
  have hj' : j = 0 ∨ j = 1 := by omega
  rcases hj' with rfl | rfl
  all_goals (simp only [buf, Nat.reducePow, Int.reducePow, Nat.reduceAdd, Nat.reduceSub, List.getElem?_cons_zero, List.getElem?_cons_succ, Int.pow_zero, Int.ediv_one, Int.emod_one]; first | rfl | (congr 1; first | done | omega) | (simp; omega))

theorem u8_rows {w : World} {b : Nat} {l : List Int} (hl : l.length = 10) (h : Row w b (u8s l) 5) (base : Nat) (hb : base ≤ b) : w.ownsRow base 5 1 (.slice (some ⟨b, 0, none⟩) 10 10) 10 (nums .u8 l) := by
  refine ⟨by simp [nums, hl], .inr ⟨b, 10, u8s l, rfl, hb, h, Nat.le_refl _, by unfold maxLen; omega, by simp [u8s, hl], ?_⟩⟩
  simp only [u8s, nums]
  rw [List.take_of_length_le (by simp [hl])]
def RowF (w : World) (sb : Nat) (a b c : Int) : Prop := w.heap[sb]? = some (Obj.cells (u8s (buf a b c)) 5 (10, 11))
theorem RowF.cell {w : World} {sb : Nat} {a b c : Int} (h : RowF w sb a b c) (k : Nat) (x : Int) (hk : (buf a b c)[k]? = some x) : w.cell? ⟨sb, k, none⟩ = some (.int .u8 x) := by
  unfold RowF at h; simp [World.cell?, h, u8s, hk]
theorem RowF.free {w : World} {sb : Nat} {a b c : Int} (h : RowF w sb a b c) (k : Nat) (hk : k < 10) : w.frozen? ⟨sb, k, none⟩ = false := by
  unfold RowF at h; simp [World.frozen?, h]; omega
theorem RowF.set {w : World} {sb : Nat} {a b c a' b' c' : Int} (h : RowF w sb a b c) (k : Nat) (x : Int) (hl : (buf a b c).set k x = buf a' b' c') : RowF (w.setCell ⟨sb, k, none⟩ (.int .u8 x)) sb a' b' c' := by
  have := set_at h k (.int .u8 x)
  unfold RowF
  rw [this, ← hl]
  simp [u8s, List.map_set]
theorem RowF.str {w : World} {sb : Nat} {a b c : Int} (h : RowF w sb a b c) : (convert 76 9 (.slice (some ⟨sb, 0, none⟩) 10 10)).run Tryz.prog w = .ok (.string (strOfNums (buf a b c))) w := by
  refine run_convert_bytes_arg w 76 5 Tryz.underlying76 Tryz.underlying5 sb 0 10 10 (buf a b c) rfl (fun i hi => ?_) 9 Tryz.underlying9
  rw [Nat.zero_add]
  have hl : i < (buf a b c).length := hi
  exact h.cell i _ (by rw [List.getElem?_eq_getElem hl]; simp [List.getD, List.getElem?_eq_getElem hl])
theorem grown_set (w : World) (p : Addr) (v : Value) : w.grownBy (w.setCell p v) (some p.block) :=
  ⟨rfl, rfl, rfl, by simp [World.setCell], fun i _ hi => Below.heap_setCell _ _ _ _ (fun e => hi (by rw [e]))⟩
theorem ediv_pow (v : Int) (j : Nat) : v / 10 ^ j / 10 = v / 10 ^ (j + 1) := by
  have h : (0 : Int) ≤ 10 ^ j := Int.le_of_lt (Int.pow_pos (by decide))
  rw [Int.pow_succ]
  first | exact Int.ediv_ediv_eq_ediv_mul v h | exact Int.ediv_ediv_of_nonneg h | (rw [Int.ediv_ediv h])
theorem buf_len (a b c : Int) : (buf a b c).length = 10 := rfl
def dateS (r : Int × Int × Int) : ByteArray := strOfNums (buf r.1 (r.2.1 + 1) (r.2.2 + 1))
theorem wf64 (x : Int) (h0 : 0 ≤ x) (h1 : x < 9223372036854775808) : (Lit.int .i64 x).wf = true := by
  have h := wrap64_wf x
  rwa [w64 x (by omega) (by omega)] at h
theorem left3 (left : Lit → Bool) (x k : Int) : (fun z : Lit => left z && !z.sameKey (.int .i64 x)) (.int .i64 k) = (left (.int .i64 k) && !(decide (k = x))) := by
  have : (Lit.int .i64 k).sameKey (.int .i64 x) = decide (k = x) := by
    by_cases h : k = x
    · subst h; simp [Lit.sameKey]
    · have : (Lit.int .i64 k).sameKey (.int .i64 x) = false := by cases hh : (Lit.int .i64 k).sameKey (.int .i64 x) with | false => rfl | true => (have := WideAt.sameKey_eq hh; injection this with _ e; exact absurd e h)
      rw [this]; simp [h]
  simp only [this]
theorem Date_bad (t : Int) (h : ¬ (0 ≤ t ∧ t ≤ 253402300799)) (w : World) : Calls Tryz.prog 8 #[.int .i64 t] w fun e w' => e = .returned (.tuple #[.string ⟨#[]⟩, .int .i64 1]) ∧ Below w.heap.size w w' := by
  have hd : decide (0 ≤ t ∧ t ≤ 253402300799) = false := decide_eq_false h
  have HC := Lib.hid (second_any t w)
  rw [hd] at HC
  clear hd h
  go_enter Tryz.func8, Tryz.ntmps8
  go_wp2_with fail
  refine HC.out.mono ?_
  rintro e w1 ⟨rfl, hb⟩
  have HB := Aside0.mk (drawn_below hb)
  clear hb
  go_wp2
  go_ret2
  exact ⟨rfl, HB.out⟩

set_option maxRecDepth 100000 in
set_option maxHeartbeats 1000000 in
theorem Date_any (t : Int) (h0 : 0 ≤ t) (h1 : t ≤ 253402300799) (w : World) : Calls Tryz.prog 8 #[.int .i64 t] w fun e w' => e = .returned (.tuple #[.string (dateS (dateR t)), .int .i64 0]) ∧ Below w.heap.size w w' := by
  have hI := (dateR_f t h0 h1).2
  have hy1 := hI.y1 (by omega)
  have HCs := Lib.hid (second_any t w)
  rw [decide_eq_true (show 0 ≤ t ∧ t ≤ 253402300799 from ⟨h0, h1⟩)] at HCs
  have HCd := Lib.hid (fun w => date_any t h0 h1 w)
  have hml := ml_bd (dateR t).1 (dateR t).2.1
  generalize dateR t = r at hI hy1 HCd hml ⊢
  obtain ⟨y, m, d⟩ := r
  obtain ⟨hy0, hm0, hm1, hd0, hd1, _⟩ := hI
  simp only at hy0 hm0 hm1 hd0 hd1 hy1 HCd hml
  have hd2 : d ≤ 30 := by omega
  clear hd1 hml
  have HWF := Lib.hid (And.intro (wf64 y (by omega) (by omega)) (And.intro (wf64 (m + 1) (by omega) (by omega)) (wf64 (d + 1) (by omega) (by omega))))
  have hmm := @run_makeMap Tryz.prog
  have kc := fun (w : World) (C : Array Value) (n c : Nat) => Lib.run_convert_bytes_const (P := Tryz.prog) w 76 5 C n c Tryz.underlying76 Tryz.underlying5
  have HK := Lib.hid (fun a b c : Int => D3_eq a b c)
  go_enter Tryz.func8, Tryz.ntmps8
  go_wp2_with fail
  refine HCs.out.mono ?_
  rintro e w1 ⟨rfl, hb⟩
  have HB1 := Aside0.mk (drawn_below hb)
  clear hb HCs
  go_wp2_with fail
  refine (HCd.out _).mono ?_
  rintro e w2 ⟨rfl, hb⟩
  have HB2 := Aside0.mk (below_step HB1.out hb)
  clear hb HCd HB1 h0 h1
  have hs1 : IntKind.i64.wrap (m + 1) = m + 1 := IntWalk.i64_in _ (by omega)
  have hs2 : IntKind.i64.wrap (d + 1) = d + 1 := IntWalk.i64_in _ (by omega)
  obtain ⟨WB, hWB⟩ : ∃ W, W = w2.alloc (Obj.cells #[Value.int IntKind.u8 48, Value.int IntKind.u8 48, Value.int IntKind.u8 48, Value.int IntKind.u8 48, Value.int IntKind.u8 45, Value.int IntKind.u8 48, Value.int IntKind.u8 48, Value.int IntKind.u8 45, Value.int IntKind.u8 48, Value.int IntKind.u8 48] 5 (10, 11)) := ⟨_, rfl⟩
  have hWBs : WB.heap.size = w2.heap.size + 1 := by rw [hWB]; simp
  have o0 := World.ownsMap_made WB Tryz.prog 3 (plainElem (H := Unit) Tryz.prog 3)
  obtain ⟨w3, hr3, o3, g3⟩ := o0.update law3 Tryz.underlying77 (by unfold maxLen; omega) (keyOf_int_mk Tryz.underlying3 (wf64 3 (by omega) (by omega))) (plainElem_int Tryz.underlying3 HWF.out.1)
  obtain ⟨w4, hr4, o4, g4⟩ := o3.update law3 Tryz.underlying77 (by unfold maxLen; omega) (keyOf_int_mk Tryz.underlying3 (wf64 6 (by omega) (by omega))) (plainElem_int Tryz.underlying3 HWF.out.2.1)
  obtain ⟨w5, hr5, o5, g5⟩ := o4.update law3 Tryz.underlying77 (by unfold maxLen; omega) (keyOf_int_mk Tryz.underlying3 (wf64 9 (by omega) (by omega))) (plainElem_int Tryz.underlying3 HWF.out.2.2)
  rw [D3_eq] at o5
  obtain ⟨w6, hr6, rg6, g6, s6⟩ := o5.range law3 Tryz.underlying77
  have hrow : WB.heap[w2.heap.size]? = some (Obj.cells (u8s (buf 0 0 0)) 5 (10, 11)) := by rw [hWB]; exact heap_alloc_last w2 _
  have HSZ := Aside0.mk (show w2.heap.size + 2 ≤ w5.heap.size by
    have e3 := g3.size
    have e4 := g4.size
    have e5 := g5.size
    have : (WB.alloc (Obj.map #[] 0)).heap.size = WB.heap.size + 1 := by simp
    omega)
  have HROW := Aside0.mk (show w6.heap[w2.heap.size]? = some (Obj.cells (u8s (buf 0 0 0)) 5 (10, 11)) by
    have e3 := g3.size
    have e4 := g4.size
    have e5 := g5.size
    have e0 : (WB.alloc (Obj.map #[] 0)).heap.size = WB.heap.size + 1 := by simp
    rw [g6.block _ (by omega) (by simp), g5.block _ (by omega) (fun e => by injection e with e; omega), g4.block _ (by omega) (fun e => by injection e with e; omega), g3.block _ (by omega) (fun e => by injection e with e; omega), heap_alloc_old _ _ (by omega)]
    exact hrow)
  have HB6 := Aside0.mk (show Below w.heap.size w w6 by
    have e3 := g3.size
    have e4 := g4.size
    have e5 := g5.size
    have e0 : (WB.alloc (Obj.map #[] 0)).heap.size = WB.heap.size + 1 := by simp
    have hz := HB2.out.size
    have b1 : Below w.heap.size w (WB.alloc (Obj.map #[] 0)) := by
      rw [hWB]; exact ((HB2.out.alloc hz _).alloc (by simp; omega) _)
    refine ((((b1.grown g3 (by omega) ?_).grown g4 (by omega) ?_).grown g5 (by omega) ?_).grown g6 (by omega) ?_)
    all_goals (intro k hk; first | (injection hk with hk; omega) | cases hk))
  rw [hWBs] at hr3 hr4 hr5 hr6 rg6
  have HRG := Aside0.mk rg6
  have HS6 := Aside0.mk s6
  clear o0 o3 o4 o5 g3 g4 g5 g6 rg6 hrow s6
  subst hWB
  go_wp2_with fail
  clear hr3 hr4 hr5 hr6 hmm kc
  have hsw := HB2.out.size
  obtain ⟨sb, hsb⟩ : ∃ k, w2.heap.size = k := ⟨_, rfl⟩
  rw [hsb] at HSZ HROW HRG hsw ⊢
  obtain ⟨rb, hrb⟩ : ∃ k, w5.heap.size = k := ⟨_, rfl⟩
  rw [hrb] at HSZ HS6 HRG ⊢
  have HL := Lib.hid (And.intro hsw HSZ.out)
  clear hsb hrb HSZ hsw hWBs w5 w4 w3 HK HWF
  obtain ⟨m1, hm1e⟩ : ∃ k, m + 1 = k := ⟨_, rfl⟩
  obtain ⟨d1, hd1e⟩ : ∃ k, d + 1 = k := ⟨_, rfl⟩
  have HF := Lib.hid (show dateS (y, m, d) = strOfNums (buf y m1 d1) by rw [← hm1e, ← hd1e]; rfl)
  have hq1 : 0 ≤ m1 ∧ m1 ≤ 12 := by omega
  have hq2 : 0 ≤ d1 ∧ d1 ≤ 31 := by omega
  have hq3 : 0 ≤ y ∧ y ≤ 9999 := by omega
  have HQ := Lib.hid (And.intro hq3 (And.intro hq1 hq2))
  rw [hm1e, hd1e] at HRG ⊢
  clear hm1e hd1e hq1 hq2 hq3 hm0 hm1 hd0 hd2 hy0 hy1 hs1 hs2 HB2
  have HRB := Aside0.mk (show rb < w6.heap.size by have := HS6.out; omega)
  clear HS6
  go_loopw [8] (fun v8 wr => ∃ (left : Lit → Bool) (cnt : Nat), Aside0 (wr.ranges Tryz.prog 3 (plainElem (H := Unit) Tryz.prog 3) (sb + 1) rb (0 + 1 + 1 + 1) (D3 y m1 d1) left cnt) ∧ Aside0 (RowF wr sb (if left (.int .i64 3) then 0 else y) (if left (.int .i64 6) then 0 else m1) (if left (.int .i64 9) then 0 else d1)) ∧ Aside0 (Below w.heap.size w wr) ∧ Aside0 (rb < wr.heap.size)) (fun _ wr => wr.rangeLeft (sb + 1) rb)
  case atStart => exact ⟨_, _, HRG, HROW, HB6, HRB⟩
  case round =>
    clear HRG HROW HB6 HRB
    obtain ⟨left, cnt, HR, HO, HB, HZ⟩ := hrel
    have HC := Lib.hid HR.out.left_eq
    go_wp2_with (first | (at_next; refine wpList_next_ranges_ii _ rfl _ rfl 3 3 .i64 .i64 law3 Tryz.underlying3 Tryz.underlying3 (sb + 1) rb (0 + 1 + 1 + 1) (D3 y m1 d1) left cnt rfl HR.out ?_ ?_))
    · intro hc0 hl0
      have HO2 := HO.out
      simp only [hl0, Bool.false_eq_true, if_false] at HO2
      have hcs := HO2.str
      clear hc0 hl0 HO HO2
      go_wp2
      go_ret2
      exact ⟨congrArg (fun z => Ending.returned (Value.tuple #[Value.string z, Value.int .i64 0])) HF.out.symm, HB.out⟩
    · intro x c w1 cnt1 hwx hwc hlk hat hrg1 hlt hg1 hs1 hen
      have HR1 := Aside0.mk hrg1
      have HB1 := Aside0.mk (show Below w.heap.size w w1 from HB.out.grown hg1 HB.out.size (fun k hk => by injection hk with hk; have := HL.out; omega))
      have HLT := Lib.hid hlt
      have HO1 := Aside0.mk (show RowF w1 sb (if left (.int .i64 3) then 0 else y) (if left (.int .i64 6) then 0 else m1) (if left (.int .i64 9) then 0 else d1) from (hg1.block sb (by have := HL.out; have := HZ.out; omega) (fun e => by injection e with e; have := HL.out; omega)).trans HO.out)
      have HZ1 := Aside0.mk (show rb < w1.heap.size by rw [hs1]; exact HZ.out)
      have HLK := Lib.hid hlk
      have HD := D3_at hat
      clear HO hrg1 hg1 hs1 hlt hwx hwc hlk hat HZ HB HR
      rcases HD with ⟨rfl, hcv⟩ | ⟨rfl, hcv⟩ | ⟨rfl, hcv⟩
      · rw [hcv] at hen ⊢
        clear hcv c
        have HO2 := HO1.out
        rw [HLK.out, if_pos rfl] at HO2
        obtain ⟨e6, he6⟩ : ∃ z, (if left (.int .i64 6) = true then 0 else m1) = z := ⟨_, rfl⟩
        rw [he6] at HO2
        obtain ⟨e9, he9⟩ : ∃ z, (if left (.int .i64 9) = true then 0 else d1) = z := ⟨_, rfl⟩
        rw [he9] at HO2
        have HO3 := Aside0.mk HO2
        have HLFT := Lib.hid (show (if (fun z : Lit => left z && !z.sameKey (.int .i64 3)) (.int .i64 3) = true then 0 else y) = y ∧ (if (fun z : Lit => left z && !z.sameKey (.int .i64 3)) (.int .i64 6) = true then 0 else m1) = e6 ∧ (if (fun z : Lit => left z && !z.sameKey (.int .i64 3)) (.int .i64 9) = true then 0 else d1) = e9 from ⟨by rw [left3]; simp, by rw [left3]; simpa using he6, by rw [left3]; simpa using he9⟩)
        clear HO1 HO2
        go_wp2
        have HV := Lib.hid (HQ.out.1)
        have HRI := HR1
        go_loopw [8, 9] (fun v8 v9 wr => ∃ (j : Nat) (q kk : Int), j ≤ 4 ∧ v8 = .int .i64 kk ∧ kk = 3 - (j : Int) ∧ v9 = .int .i64 q ∧ Hid (q = y / 10 ^ j) ∧ 0 ≤ q ∧ q ≤ 9999 ∧ Aside0 (RowF wr sb (y % 10 ^ j) (e6) (e9)) ∧ Aside0 (Chg (fun k => k = sb) w1 wr)) (fun _ v9 _ => (intOf v9).toNat)
        case atStart => exact ⟨0, y, 3, by omega, rfl, by omega, rfl, Lib.hid (by simp), by have := HV.out; omega, by have := HV.out; omega, ⟨by rw [show y % 10 ^ 0 = 0 by simp [Int.emod_one]]; exact HO3.out⟩, ⟨Chg.refl _ _⟩⟩
        case round =>
          obtain ⟨j, q, kk, hj, rfl, hkk, rfl, HQ2, hq0, hq9, HO, HC2⟩ := hrel
          by_cases hp : 0 < q
          · have hjw : j < 4 := by
              by_cases hjj : j = 4
              · exfalso
                have h1 := HQ2.out
                have h2 := HV.out
                subst hjj
                simp only [Int.reducePow] at h1
                omega
              · omega
            have HST := Lib.hid (set3 y e6 e9 j hjw (by have := HV.out; omega))
            have hgt := get3 y e6 e9 j hjw (by have := HV.out; omega)
            have HQ3 := Lib.hid (show q / 10 = y / 10 ^ (j + 1) by rw [HQ2.out, ediv_pow])
            have hr1 : IntKind.u8.wrap (q % 10) = q % 10 := u8_small _ (by omega) (by omega)
            have hr2 : IntKind.u8.wrap (48 + q % 10) = 48 + q % 10 := u8_small _ (by omega) (by omega)
            have hjc : j = 0 ∨ j = 1 ∨ j = 2 ∨ j = 3 := by omega
            have HXX := Lib.hid hgt
            clear hgt
            rcases hjc with rfl | rfl | rfl | rfl
            · obtain rfl : kk = 3 := by omega
              have hx := HO.out.cell 3 48 HXX.out
              have hf := HO.out.free 3 (by omega)
              clear hjw hkk hj
              go_wp2
              go_roundw
              case rel => exact ⟨0 + 1, q / 10, _, by omega, rfl, by omega, rfl, HQ3, by omega, by omega, ⟨HO.out.set 3 _ (by rw [HQ2.out]; exact HST.out)⟩, ⟨HC2.out.setCell rfl _⟩⟩
              case measure => simp [intOf]; omega
            · obtain rfl : kk = 2 := by omega
              have hx := HO.out.cell 2 48 HXX.out
              have hf := HO.out.free 2 (by omega)
              clear hjw hkk hj
              go_wp2
              go_roundw
              case rel => exact ⟨1 + 1, q / 10, _, by omega, rfl, by omega, rfl, HQ3, by omega, by omega, ⟨HO.out.set 2 _ (by rw [HQ2.out]; exact HST.out)⟩, ⟨HC2.out.setCell rfl _⟩⟩
              case measure => simp [intOf]; omega
            · obtain rfl : kk = 1 := by omega
              have hx := HO.out.cell 1 48 HXX.out
              have hf := HO.out.free 1 (by omega)
              clear hjw hkk hj
              go_wp2
              go_roundw
              case rel => exact ⟨2 + 1, q / 10, _, by omega, rfl, by omega, rfl, HQ3, by omega, by omega, ⟨HO.out.set 1 _ (by rw [HQ2.out]; exact HST.out)⟩, ⟨HC2.out.setCell rfl _⟩⟩
              case measure => simp [intOf]; omega
            · obtain rfl : kk = 0 := by omega
              have hx := HO.out.cell 0 48 HXX.out
              have hf := HO.out.free 0 (by omega)
              clear hjw hkk hj
              go_wp2
              go_roundw
              case rel => exact ⟨3 + 1, q / 10, _, by omega, rfl, by omega, rfl, HQ3, by omega, by omega, ⟨HO.out.set 0 _ (by rw [HQ2.out]; exact HST.out)⟩, ⟨HC2.out.setCell rfl _⟩⟩
              case measure => simp [intOf]; omega
          · have HEQ := Lib.hid (show y % 10 ^ j = y by
              have h1 := HQ2.out
              have h2 := HV.out
              have h3 : q = 0 := by omega
              rw [h3] at h1
              have h4 := Int.mul_ediv_add_emod y (10 ^ j)
              rw [← h1] at h4
              simpa using h4)
            rw [HEQ.out] at HO
            have HR2 := Aside0.mk (HRI.out.kept (w' := wr) (row := some sb) ⟨HC2.out.os, HC2.out.tape, HC2.out.output, HC2.out.size, fun k hk hne => HC2.out.block k hk (fun e => hne (by rw [e]))⟩ (by simp) (by have := HL.out; intro e; injection e with e; omega))
            have HC1 := Lib.hid HR2.out.left_eq
            have HB2 := Aside0.mk (HB1.out.trans (HC2.out.toBelow (B := w.heap.size) HB1.out.size (fun k hk e => by have := HL.out; omega)))
            have HZ2 := Aside0.mk (Nat.lt_of_lt_of_le HZ1.out HC2.out.size)
            clear HRI HC2 HQ2 hkk hj
            go_wp2
            refine ⟨⟨_, cnt1, HR2, ⟨?_⟩, HB2, HZ2⟩, by rw [HC1.out, HC.out]; exact HLT.out⟩
            rw [HLFT.out.1, HLFT.out.2.1, HLFT.out.2.2]
            exact HO.out
      · rw [hcv] at hen ⊢
        clear hcv c
        have HO2 := HO1.out
        rw [HLK.out, if_pos rfl] at HO2
        obtain ⟨e3, he3⟩ : ∃ z, (if left (.int .i64 3) = true then 0 else y) = z := ⟨_, rfl⟩
        rw [he3] at HO2
        obtain ⟨e9, he9⟩ : ∃ z, (if left (.int .i64 9) = true then 0 else d1) = z := ⟨_, rfl⟩
        rw [he9] at HO2
        have HO3 := Aside0.mk HO2
        have HLFT := Lib.hid (show (if (fun z : Lit => left z && !z.sameKey (.int .i64 6)) (.int .i64 6) = true then 0 else m1) = m1 ∧ (if (fun z : Lit => left z && !z.sameKey (.int .i64 6)) (.int .i64 3) = true then 0 else y) = e3 ∧ (if (fun z : Lit => left z && !z.sameKey (.int .i64 6)) (.int .i64 9) = true then 0 else d1) = e9 from ⟨by rw [left3]; simp, by rw [left3]; simpa using he3, by rw [left3]; simpa using he9⟩)
        clear HO1 HO2
        go_wp2
        have HV := Lib.hid (HQ.out.2.1)
        have HRI := HR1
        go_loopw [8, 9] (fun v8 v9 wr => ∃ (j : Nat) (q kk : Int), j ≤ 2 ∧ v8 = .int .i64 kk ∧ kk = 6 - (j : Int) ∧ v9 = .int .i64 q ∧ Hid (q = m1 / 10 ^ j) ∧ 0 ≤ q ∧ q ≤ 9999 ∧ Aside0 (RowF wr sb (e3) (m1 % 10 ^ j) (e9)) ∧ Aside0 (Chg (fun k => k = sb) w1 wr)) (fun _ v9 _ => (intOf v9).toNat)
        case atStart => exact ⟨0, m1, 6, by omega, rfl, by omega, rfl, Lib.hid (by simp), by have := HV.out; omega, by have := HV.out; omega, ⟨by rw [show m1 % 10 ^ 0 = 0 by simp [Int.emod_one]]; exact HO3.out⟩, ⟨Chg.refl _ _⟩⟩
        case round =>
          obtain ⟨j, q, kk, hj, rfl, hkk, rfl, HQ2, hq0, hq9, HO, HC2⟩ := hrel
          by_cases hp : 0 < q
          · have hjw : j < 2 := by
              by_cases hjj : j = 2
              · exfalso
                have h1 := HQ2.out
                have h2 := HV.out
                subst hjj
                simp only [Int.reducePow] at h1
                omega
              · omega
            have HST := Lib.hid (set6 e3 m1 e9 j hjw (by have := HV.out; omega))
            have hgt := get6 e3 m1 e9 j hjw (by have := HV.out; omega)
            have HQ3 := Lib.hid (show q / 10 = m1 / 10 ^ (j + 1) by rw [HQ2.out, ediv_pow])
            have hr1 : IntKind.u8.wrap (q % 10) = q % 10 := u8_small _ (by omega) (by omega)
            have hr2 : IntKind.u8.wrap (48 + q % 10) = 48 + q % 10 := u8_small _ (by omega) (by omega)
            have hjc : j = 0 ∨ j = 1 := by omega
            have HXX := Lib.hid hgt
            clear hgt
            rcases hjc with rfl | rfl
            · obtain rfl : kk = 6 := by omega
              have hx := HO.out.cell 6 48 HXX.out
              have hf := HO.out.free 6 (by omega)
              clear hjw hkk hj
              go_wp2
              go_roundw
              case rel => exact ⟨0 + 1, q / 10, _, by omega, rfl, by omega, rfl, HQ3, by omega, by omega, ⟨HO.out.set 6 _ (by rw [HQ2.out]; exact HST.out)⟩, ⟨HC2.out.setCell rfl _⟩⟩
              case measure => simp [intOf]; omega
            · obtain rfl : kk = 5 := by omega
              have hx := HO.out.cell 5 48 HXX.out
              have hf := HO.out.free 5 (by omega)
              clear hjw hkk hj
              go_wp2
              go_roundw
              case rel => exact ⟨1 + 1, q / 10, _, by omega, rfl, by omega, rfl, HQ3, by omega, by omega, ⟨HO.out.set 5 _ (by rw [HQ2.out]; exact HST.out)⟩, ⟨HC2.out.setCell rfl _⟩⟩
              case measure => simp [intOf]; omega
          · have HEQ := Lib.hid (show m1 % 10 ^ j = m1 by
              have h1 := HQ2.out
              have h2 := HV.out
              have h3 : q = 0 := by omega
              rw [h3] at h1
              have h4 := Int.mul_ediv_add_emod m1 (10 ^ j)
              rw [← h1] at h4
              simpa using h4)
            rw [HEQ.out] at HO
            have HR2 := Aside0.mk (HRI.out.kept (w' := wr) (row := some sb) ⟨HC2.out.os, HC2.out.tape, HC2.out.output, HC2.out.size, fun k hk hne => HC2.out.block k hk (fun e => hne (by rw [e]))⟩ (by simp) (by have := HL.out; intro e; injection e with e; omega))
            have HC1 := Lib.hid HR2.out.left_eq
            have HB2 := Aside0.mk (HB1.out.trans (HC2.out.toBelow (B := w.heap.size) HB1.out.size (fun k hk e => by have := HL.out; omega)))
            have HZ2 := Aside0.mk (Nat.lt_of_lt_of_le HZ1.out HC2.out.size)
            clear HRI HC2 HQ2 hkk hj
            go_wp2
            refine ⟨⟨_, cnt1, HR2, ⟨?_⟩, HB2, HZ2⟩, by rw [HC1.out, HC.out]; exact HLT.out⟩
            rw [HLFT.out.1, HLFT.out.2.1, HLFT.out.2.2]
            exact HO.out
      · rw [hcv] at hen ⊢
        clear hcv c
        have HO2 := HO1.out
        rw [HLK.out, if_pos rfl] at HO2
        obtain ⟨e3, he3⟩ : ∃ z, (if left (.int .i64 3) = true then 0 else y) = z := ⟨_, rfl⟩
        rw [he3] at HO2
        obtain ⟨e6, he6⟩ : ∃ z, (if left (.int .i64 6) = true then 0 else m1) = z := ⟨_, rfl⟩
        rw [he6] at HO2
        have HO3 := Aside0.mk HO2
        have HLFT := Lib.hid (show (if (fun z : Lit => left z && !z.sameKey (.int .i64 9)) (.int .i64 9) = true then 0 else d1) = d1 ∧ (if (fun z : Lit => left z && !z.sameKey (.int .i64 9)) (.int .i64 3) = true then 0 else y) = e3 ∧ (if (fun z : Lit => left z && !z.sameKey (.int .i64 9)) (.int .i64 6) = true then 0 else m1) = e6 from ⟨by rw [left3]; simp, by rw [left3]; simpa using he3, by rw [left3]; simpa using he6⟩)
        clear HO1 HO2
        go_wp2
        have HV := Lib.hid (HQ.out.2.2)
        have HRI := HR1
        go_loopw [8, 9] (fun v8 v9 wr => ∃ (j : Nat) (q kk : Int), j ≤ 2 ∧ v8 = .int .i64 kk ∧ kk = 9 - (j : Int) ∧ v9 = .int .i64 q ∧ Hid (q = d1 / 10 ^ j) ∧ 0 ≤ q ∧ q ≤ 9999 ∧ Aside0 (RowF wr sb (e3) (e6) (d1 % 10 ^ j)) ∧ Aside0 (Chg (fun k => k = sb) w1 wr)) (fun _ v9 _ => (intOf v9).toNat)
        case atStart => exact ⟨0, d1, 9, by omega, rfl, by omega, rfl, Lib.hid (by simp), by have := HV.out; omega, by have := HV.out; omega, ⟨by rw [show d1 % 10 ^ 0 = 0 by simp [Int.emod_one]]; exact HO3.out⟩, ⟨Chg.refl _ _⟩⟩
        case round =>
          obtain ⟨j, q, kk, hj, rfl, hkk, rfl, HQ2, hq0, hq9, HO, HC2⟩ := hrel
          by_cases hp : 0 < q
          · have hjw : j < 2 := by
              by_cases hjj : j = 2
              · exfalso
                have h1 := HQ2.out
                have h2 := HV.out
                subst hjj
                simp only [Int.reducePow] at h1
                omega
              · omega
            have HST := Lib.hid (set9 e3 e6 d1 j hjw (by have := HV.out; omega))
            have hgt := get9 e3 e6 d1 j hjw (by have := HV.out; omega)
            have HQ3 := Lib.hid (show q / 10 = d1 / 10 ^ (j + 1) by rw [HQ2.out, ediv_pow])
            have hr1 : IntKind.u8.wrap (q % 10) = q % 10 := u8_small _ (by omega) (by omega)
            have hr2 : IntKind.u8.wrap (48 + q % 10) = 48 + q % 10 := u8_small _ (by omega) (by omega)
            have hjc : j = 0 ∨ j = 1 := by omega
            have HXX := Lib.hid hgt
            clear hgt
            rcases hjc with rfl | rfl
            · obtain rfl : kk = 9 := by omega
              have hx := HO.out.cell 9 48 HXX.out
              have hf := HO.out.free 9 (by omega)
              clear hjw hkk hj
              go_wp2
              go_roundw
              case rel => exact ⟨0 + 1, q / 10, _, by omega, rfl, by omega, rfl, HQ3, by omega, by omega, ⟨HO.out.set 9 _ (by rw [HQ2.out]; exact HST.out)⟩, ⟨HC2.out.setCell rfl _⟩⟩
              case measure => simp [intOf]; omega
            · obtain rfl : kk = 8 := by omega
              have hx := HO.out.cell 8 48 HXX.out
              have hf := HO.out.free 8 (by omega)
              clear hjw hkk hj
              go_wp2
              go_roundw
              case rel => exact ⟨1 + 1, q / 10, _, by omega, rfl, by omega, rfl, HQ3, by omega, by omega, ⟨HO.out.set 8 _ (by rw [HQ2.out]; exact HST.out)⟩, ⟨HC2.out.setCell rfl _⟩⟩
              case measure => simp [intOf]; omega
          · have HEQ := Lib.hid (show d1 % 10 ^ j = d1 by
              have h1 := HQ2.out
              have h2 := HV.out
              have h3 : q = 0 := by omega
              rw [h3] at h1
              have h4 := Int.mul_ediv_add_emod d1 (10 ^ j)
              rw [← h1] at h4
              simpa using h4)
            rw [HEQ.out] at HO
            have HR2 := Aside0.mk (HRI.out.kept (w' := wr) (row := some sb) ⟨HC2.out.os, HC2.out.tape, HC2.out.output, HC2.out.size, fun k hk hne => HC2.out.block k hk (fun e => hne (by rw [e]))⟩ (by simp) (by have := HL.out; intro e; injection e with e; omega))
            have HC1 := Lib.hid HR2.out.left_eq
            have HB2 := Aside0.mk (HB1.out.trans (HC2.out.toBelow (B := w.heap.size) HB1.out.size (fun k hk e => by have := HL.out; omega)))
            have HZ2 := Aside0.mk (Nat.lt_of_lt_of_le HZ1.out HC2.out.size)
            clear HRI HC2 HQ2 hkk hj
            go_wp2
            refine ⟨⟨_, cnt1, HR2, ⟨?_⟩, HB2, HZ2⟩, by rw [HC1.out, HC.out]; exact HLT.out⟩
            rw [HLFT.out.1, HLFT.out.2.1, HLFT.out.2.2]
            exact HO.out

end Go.Proofs.YtlilkfnfcaepiaaGreatDoor.Y
set_option linter.unusedSimpArgs false
set_option linter.unusedVariables false
namespace Go.Proofs.YtlilkfnfcaepiaaGreatDoor.Y
open Go.RowKit Go.Proofs.YtlilkfnfcaepiaaGreatDoorW.PrintWords Go.Proofs.YtlilkfnfcaepiaaGreatDoorW.PrintLast Go.Proofs.YtlilkfnfcaepiaaGreatDoorW.PrintMore PJ D G

def intsLess : List Int → List Int → Bool
  | _, [] => false
  | [], _ :: _ => true
  | a :: x, b :: y => decide (a < b) || (decide (a = b) && intsLess x y)
theorem less_eq : ∀ l1 l2 : List Int, (∀ x ∈ l1, 0 ≤ x ∧ x < 256) → (∀ x ∈ l2, 0 ≤ x ∧ x < 256) → Op.bytesLess (l1.map fun n => UInt8.ofNat n.toNat) (l2.map fun n => UInt8.ofNat n.toNat) = intsLess l1 l2
  | [], [], _, _ => rfl
  | _ :: _, [], _, _ => by simp [Op.bytesLess, intsLess]
  | [], _ :: _, _, _ => by simp [Op.bytesLess, intsLess]
  | a :: x, b :: y, h1, h2 => by
    have ha := h1 a List.mem_cons_self
    have hb := h2 b List.mem_cons_self
    have ih := less_eq x y (fun z hz => h1 z (List.mem_cons_of_mem _ hz)) (fun z hz => h2 z (List.mem_cons_of_mem _ hz))
    simp only [List.map_cons, Op.bytesLess, intsLess, ih]
    have e1 : (decide (UInt8.ofNat a.toNat < UInt8.ofNat b.toNat)) = decide (a < b) := by
      rw [Bool.eq_iff_iff]
      simp only [decide_eq_true_eq, UInt8.lt_iff_toNat_lt, UInt8.toNat_ofNat']
      omega
    have e2 : (UInt8.ofNat a.toNat == UInt8.ofNat b.toNat) = decide (a = b) := by
      rw [Bool.eq_iff_iff]
      simp only [beq_iff_eq, decide_eq_true_eq]
      constructor
      · intro h
        have := congrArg UInt8.toNat h
        simp only [UInt8.toNat_ofNat'] at this
        omega
      · rintro rfl; rfl
    rw [e1, e2]
theorem nums_list (l : List Int) : (strOfNums l).toList = l.map fun n => UInt8.ofNat n.toNat := by
  rw [ByteArray.toList_eq]; unfold strOfNums; simp
theorem digs (a : Int) (h0 : 0 ≤ a) (h1 : a ≤ 9999) : ∃ p q r s : Int, a / 1000 % 10 = p ∧ a / 100 % 10 = q ∧ a / 10 % 10 = r ∧ a % 10 = s ∧ a = 1000 * p + 100 * q + 10 * r + s ∧ 0 ≤ p ∧ p ≤ 9 ∧ 0 ≤ q ∧ q ≤ 9 ∧ 0 ≤ r ∧ r ≤ 9 ∧ 0 ≤ s ∧ s ≤ 9 :=
  ⟨_, _, _, _, rfl, rfl, rfl, rfl, by omega, by omega, by omega, by omega, by omega, by omega, by omega, by omega, by omega⟩
theorem digs2 (a : Int) (h0 : 0 ≤ a) (h1 : a ≤ 99) : ∃ r s : Int, a / 10 % 10 = r ∧ a % 10 = s ∧ a = 10 * r + s ∧ 0 ≤ r ∧ r ≤ 9 ∧ 0 ≤ s ∧ s ≤ 9 :=
  ⟨_, _, rfl, rfl, by omega, by omega, by omega, by omega, by omega⟩
theorem buf_less (a b c a' b' c' : Int) (ha : 0 ≤ a ∧ a ≤ 9999) (hb : 0 ≤ b ∧ b ≤ 99) (hc : 0 ≤ c ∧ c ≤ 99) (ha' : 0 ≤ a' ∧ a' ≤ 9999) (hb' : 0 ≤ b' ∧ b' ≤ 99) (hc' : 0 ≤ c' ∧ c' ≤ 99)
    (h : a < a' ∨ (a = a' ∧ (b < b' ∨ (b = b' ∧ c ≤ c')))) : intsLess (buf a' b' c') (buf a b c) = false := by
  obtain ⟨p, q, r, s, e1, e2, e3, e4, e, d⟩ := digs a ha.1 ha.2
  obtain ⟨p', q', r', s', f1, f2, f3, f4, f, d'⟩ := digs a' ha'.1 ha'.2
  obtain ⟨t, u, g1, g2, g, k⟩ := digs2 b hb.1 hb.2
  obtain ⟨t', u', g1', g2', g', k'⟩ := digs2 b' hb'.1 hb'.2
  obtain ⟨v, x, m1, m2, m, n⟩ := digs2 c hc.1 hc.2
  obtain ⟨v', x', m1', m2', m', n'⟩ := digs2 c' hc'.1 hc'.2
  unfold buf
  rw [e1, e2, e3, e4, f1, f2, f3, f4, g1, g2, g1', g2', m1, m2, m1', m2']
  clear e1 e2 e3 e4 f1 f2 f3 f4 g1 g2 g1' g2' m1 m2 m1' m2'
  subst e f g g' m m'
  cases hl : intsLess [48 + p', 48 + q', 48 + r', 48 + s', 45, 48 + t', 48 + u', 45, 48 + v', 48 + x'] [48 + p, 48 + q, 48 + r, 48 + s, 45, 48 + t, 48 + u, 45, 48 + v, 48 + x] with
  | false => rfl
  | true =>
    exfalso
    simp only [intsLess, Bool.or_eq_true, Bool.and_eq_true, decide_eq_true_eq, Bool.or_false, Bool.false_eq_true, and_false, or_false] at hl
    rcases h with h | ⟨h, h | ⟨h2, h⟩⟩ <;> rcases hl with hl | ⟨i1, hl | ⟨i2, hl | ⟨i3, hl | ⟨i4, hl | ⟨i5, hl | ⟨i6, hl | ⟨i7, hl | ⟨i8, hl | ⟨i9, hl⟩⟩⟩⟩⟩⟩⟩⟩⟩ <;> first | omega | trace_state
theorem buf_range (a b c : Int) : ∀ x ∈ buf a b c, 0 ≤ x ∧ x < 256 := by
  intro x hx
  unfold buf at hx
  simp only [List.mem_cons, List.not_mem_nil, or_false] at hx
  omega
theorem date_less (s t : Int) (h0 : 0 ≤ s) (hst : s ≤ t) (h1 : t ≤ 253402300799) : Op.bytesLess (dateS (dateR t)).toList (dateS (dateR s)).toList = false := by
  have hm := date_mono s t h0 hst h1
  have a := (dateR_f s h0 (by omega)).2
  have b := (dateR_f t (by omega) h1).2
  have a1 := a.y1 (by omega)
  have b1 := b.y1 (by omega)
  have a2 := ml_bd (dateR s).1 (dateR s).2.1
  have b2 := ml_bd (dateR t).1 (dateR t).2.1
  obtain ⟨ay, am0, am1, ad0, ad1, asum⟩ := a
  obtain ⟨by0, bm0, bm1, bd0, bd1, bsum⟩ := b
  unfold dateS
  rw [nums_list, nums_list, less_eq _ _ (buf_range _ _ _) (buf_range _ _ _)]
  unfold dateLe at hm
  refine buf_less _ _ _ _ _ _ (by omega) (by omega) (by omega) (by omega) (by omega) (by omega) ?_
  omega
theorem empty_less (s : ByteArray) : Op.bytesLess s.toList (⟨#[]⟩ : ByteArray).toList = false := by
  rw [show (⟨#[]⟩ : ByteArray).toList = [] from by rw [ByteArray.toList_eq]]
  unfold Op.bytesLess
  cases s.toList <;> rfl
theorem week_f (t : Int) : days_Week.f t = some (weekF t) := by
  unfold days_Week.f days_Day.f days_second.f weekF
  by_cases h : t ≥ 0
  · by_cases h2 : t ≤ 253402300799
    · rw [if_pos h, Option.bind_some, if_pos (decide_eq_true h2), Option.bind_some, if_pos (decide_eq_true h2), Option.bind_some, if_pos ⟨h, h2⟩]
      rw [Int.tdiv_eq_ediv_of_nonneg h, w64 (t / 86400) (by omega) (by omega), w64 (t / 86400 + 3) (by omega) (by omega), Int.tdiv_eq_ediv_of_nonneg (by omega), w64 _ (by omega) (by omega)]
    · rw [if_pos h, Option.bind_some, if_neg (by simpa using h2), if_neg (by omega)]
  · rw [if_neg h, Option.bind_some, if_neg (by simp), if_neg (by omega)]
theorem week_dr (t : Int) (w : World) : Calls Tryz.prog 13 #[.int .i64 t] w fun e w' => e = .returned (.int .i64 (weekF t)) ∧ ∃ n, w' = w.drewN n :=
  (days_Week.calls t (weekF t) w (week_f t)).mono (fun _ _ h => ⟨h.1, h.2.out⟩)
end Go.Proofs.YtlilkfnfcaepiaaGreatDoor.Y
