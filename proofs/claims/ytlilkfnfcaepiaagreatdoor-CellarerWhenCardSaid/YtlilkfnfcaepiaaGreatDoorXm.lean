/- manifest: text and Check. -/
import Derived.Test.YtlilkfnfcaepiaaGreatDoorXq
import Derived.Test.YtlilkfnfcaepiaaGreatDoorXp
set_option linter.unusedSimpArgs false
set_option linter.unusedVariables false
namespace Go.Proofs.YtlilkfnfcaepiaaGreatDoor.M
open Go.RowKit Go.Proofs.YtlilkfnfcaepiaaGreatDoorW.PrintWords Go.Proofs.YtlilkfnfcaepiaaGreatDoorW.PrintLast Go.Proofs.YtlilkfnfcaepiaaGreatDoorW.PrintMore PB H D G

def varL : Nat → Int → List Int
  | 0, x => [x % 256]
  | k + 1, x => if x ≥ 128 then Go.bits .or .u8 (x % 256) 128 :: varL k (x / 128) else [x % 256]
theorem var_l (k : Nat) : ∀ (x : Int) (acc : List Int), 0 ≤ x → x < 128 ^ (k + 1) → acc.length + k < 1000 → PI.bits_Var.l0 (k + 1) x acc = some (strOfNums (acc ++ varL k x)) := by
  induction k with
  | zero =>
    intro x acc h0 h1 ha
    have hx : ¬ x ≥ 128 := by omega
    have hl : acc.length < 140737488355328 := by omega
    rw [PI.bits_Var.l0, if_neg hx, if_pos hl, varL]
  | succ k ih =>
    intro x acc h0 h1 ha
    have hl : acc.length < 140737488355328 := by omega
    rw [PI.bits_Var.l0, varL]
    by_cases hx : x ≥ 128
    · rw [if_pos hx, if_pos hl, if_pos hx, ih (x / 128) _ (by omega) (by rw [Int.pow_succ] at h1; omega) (by simp; omega)]
      simp
    · rw [if_neg hx, if_pos hl, if_neg hx]
def varS (x : Int) : ByteArray := strOfNums (varL 9 x)
theorem var_f (x : Int) (h0 : 0 ≤ x) (h1 : x < 9223372036854775808) : PI.bits_Var.f 10 x = some (varS x) := by
  unfold PI.bits_Var.f varS
  rw [var_l 9 x [] h0 (by have : (128 : Int) ^ 10 = 1180591620717411303424 := by decide
                          omega) (by simp)]; rfl
theorem Var_any (x : Int) (h0 : 0 ≤ x) (h1 : x < 9223372036854775808) (w : World) : Calls Tryz.prog 40 #[.int .u64 x] w (fun e w' => e = .returned (.string (varS x)) ∧ Below w.heap.size w w') :=
  PI.bits_Var.calls 10 x _ w (var_f x h0 h1)
theorem varL_length : ∀ k x, (varL k x).length ≤ k + 1
  | 0, x => by simp [varL]
  | k + 1, x => by
    rw [varL]; split
    · have := varL_length k (x / 128); simp; omega
    · simp
theorem varS_size (x : Int) : (varS x).size ≤ 10 := by unfold varS; rw [strOfNums_size]; exact varL_length 9 x

theorem wrap64_small (x : Int) (h0 : -9223372036854775808 ≤ x) (h1 : x < 9223372036854775808) : wrap64 x = x := by
  unfold wrap64 at *
  first | exact IntWalk.i64_in x (by omega) | (simp only [IntKind.wrap]; omega) | omega
theorem unvar_tot (s : ByteArray) : ∀ (m : Nat) (x4 x5 : Int), 0 ≤ x5 → x5 ≤ 10 → (10 - x5).toNat = m → ∃ r, PI.bits_Unvar.l0 (3 * m + 3) s x4 x5 = some r := by
  intro m
  induction m with
  | zero =>
    intro x4 x5 h0 h1 hm
    have hx : x5 = 10 := by omega
    subst hx
    rw [PI.bits_Unvar.l0]
    split <;> · rw [PI.bits_Unvar.j1]; simp
  | succ m ih =>
    intro x4 x5 h0 h1 hm
    have j2 : ∀ x6 b, ∃ r, PI.bits_Unvar.j2 (3 * m + 4) s x4 x5 x6 b = some r := by
      intro x6 b
      rw [PI.bits_Unvar.j2]
      cases b with
      | true => exact ⟨(0, 0), by simp⟩
      | false =>
        have h7 : 0 ≤ wrap64 (7 * x5) := by rw [wrap64_small _ (by omega) (by omega)]; omega
        rw [if_neg (by simp), if_pos h7]
        split
        · exact ⟨_, rfl⟩
        · rw [wrap64_small (x5 + 1) (by omega) (by omega)]
          exact ih _ _ (by omega) (by omega) (by omega)
    have e : 3 * (m + 1) + 3 = 3 * m + 4 + 1 + 1 := by omega
    rw [e, PI.bits_Unvar.l0]
    have j1 : ∀ b, x5 < (s.size : Int) → ∃ r, PI.bits_Unvar.j1 (3 * m + 4 + 1) s x4 x5 b = some r := by
      intro b hs
      rw [PI.bits_Unvar.j1]
      cases b with
      | false => exact ⟨(0, 0), by simp⟩
      | true =>
        rw [if_pos rfl, if_pos h0, if_pos hs]
        repeat' split
        all_goals exact j2 _ _
    split
    · next hs => exact j1 _ hs
    · rw [PI.bits_Unvar.j1]; exact ⟨(0, 0), by simp⟩
def uvF (s : ByteArray) : Int × Int := (PI.bits_Unvar.f 33 s).getD (0, 0)
theorem unvar_f (s : ByteArray) : PI.bits_Unvar.f 33 s = some ((uvF s).1, (uvF s).2) := by
  obtain ⟨r, hr⟩ := unvar_tot s 10 0 0 (by omega) (by omega) (by decide)
  have : PI.bits_Unvar.f 33 s = some r := hr
  unfold uvF; rw [this]; rfl
theorem Unvar_any (s : ByteArray) (w : World) : Calls Tryz.prog 111 #[.string s] w (fun e w' => e = .returned (.tuple #[.int .u64 (uvF s).1, .int .i64 (uvF s).2]) ∧ Below w.heap.size w w') :=
  (PI.bits_Unvar.calls 33 s _ _ w (unvar_f s)).mono (fun _ _ h => ⟨h.1, drawn_below h.2⟩)

/-- manifest.text. -/
def textS (s : ByteArray) : ByteArray := varS (s.size : Int) ++ s
set_option maxRecDepth 100000 in
theorem text_any (s : ByteArray) (hs : s.size ≤ 1099511627776) (w : World) : Calls Tryz.prog 41 #[.string s] w (fun e w' => e = .returned (.string (textS s)) ∧ Below w.heap.size w w') := by
  have hvs := varS_size (s.size : Int)
  have HT := Lib.hid (show textS s = varS (s.size : Int) ++ s from rfl)
  go_enter Tryz.func41, Tryz.ntmps41
  go_wp2_with fail
  refine (Var_any (s.size : Int) (by omega) (by omega) w).mono ?_
  rintro e w2 ⟨rfl, hb⟩
  have HB := Aside0.mk hb
  clear hb
  generalize varS (s.size : Int) = v at HT hvs ⊢
  go_wp2
  go_ret
  exact ⟨by rw [HT.out]; rfl, HB.out⟩
end Go.Proofs.YtlilkfnfcaepiaaGreatDoor.M
set_option linter.unusedSimpArgs false
set_option linter.unusedVariables false
namespace Go.Proofs.YtlilkfnfcaepiaaGreatDoor.M
open Go.RowKit Go.Proofs.YtlilkfnfcaepiaaGreatDoorW.PrintWords Go.Proofs.YtlilkfnfcaepiaaGreatDoorW.PrintLast Go.Proofs.YtlilkfnfcaepiaaGreatDoorW.PrintMore PB H D G

theorem cell_new (w : World) (cs : Array Value) (t k : Nat) : (w.alloc (Obj.cells cs t)).cell? ⟨w.heap.size, k, none⟩ = cs[k]? := by
  have h := heap_alloc_last w (Obj.cells cs t)
  simp only [World.cell?, h]
  rfl
structure MF where
  time : Int
  tag : ByteArray
  parent : ByteArray
  size : Int
  chunks : List ByteArray
def bad1 (m : MF) : Bool := decide (m.time < 0) || decide (253402300799 < m.time) || (!m.tag.toList.isEmpty && !pathName m.tag) || (!m.parent.toList.isEmpty && !digestIs m.parent)
def bad2 (m : MF) : Bool := decide (m.size < 1) || decide (4194304 < m.size) || decide ((m.chunks.length : Int) < 1) || decide (m.size < (m.chunks.length : Int))
def good32 (l : List ByteArray) : Bool := l.all (fun s => (s.size : Int) == 32)
def checkF (m : MF) : Int := if bad1 m then 4 else if bad2 m then 4 else if good32 m.chunks then 0 else 4

set_option maxRecDepth 100000 in
set_option maxHeartbeats 2000000 in
theorem Check_any (m : MF) (A : Option Addr) (c : Nat) (w : World) (hC : Kd.C Kd.string w A m.chunks.length m.chunks) (hT : Lib.Utf8Tabs 1 2 w) (hs : m.parent.size ≤ 140737488351232) (hl : m.chunks.length ≤ 140737488351232) :
    Calls Tryz.prog 39 #[.agg #[.int .i64 m.time, .string m.tag, .string m.parent, .int .i64 m.size, .slice A m.chunks.length c]] w fun e w' => e = .returned (.int .i64 (checkF m)) ∧ Below w.heap.size w w' := by
  obtain ⟨time, tag, parent, size, chunks⟩ := m
  simp only at hC hs hl ⊢
  obtain ⟨n, hn⟩ : ∃ n, chunks.length = n := ⟨_, rfl⟩
  have hb0 : Below w.heap.size w (w.alloc (Obj.cells #[.int .i64 time, .string tag, .string parent, .int .i64 size, .slice A n c] 32)) := Below.alloc' (Nat.le_refl _) _
  have HB := Aside0.mk hb0
  have HC := Aside0.mk (Kd.C_below hC hb0)
  have HT := Aside0.mk (utf8_below hT hb0)
  rw [hn] at HC hl ⊢
  have HN := Lib.hid hn
  have HWZ := Lib.hid (show w.heap.size < (w.alloc (Obj.cells #[.int .i64 time, .string tag, .string parent, .int .i64 size, .slice A n c] 32)).heap.size by simp)
  have z0 : (w.alloc (Obj.cells #[.int .i64 time, .string tag, .string parent, .int .i64 size, .slice A n c] 32)).cell? ⟨w.heap.size, 0, none⟩ = some (.int .i64 time) := cell_new _ _ _ _
  have z1 : (w.alloc (Obj.cells #[.int .i64 time, .string tag, .string parent, .int .i64 size, .slice A n c] 32)).cell? ⟨w.heap.size, 1, none⟩ = some (.string tag) := cell_new _ _ _ _
  have z2 : (w.alloc (Obj.cells #[.int .i64 time, .string tag, .string parent, .int .i64 size, .slice A n c] 32)).cell? ⟨w.heap.size, 2, none⟩ = some (.string parent) := cell_new _ _ _ _
  have z3 : (w.alloc (Obj.cells #[.int .i64 time, .string tag, .string parent, .int .i64 size, .slice A n c] 32)).cell? ⟨w.heap.size, 3, none⟩ = some (.int .i64 size) := cell_new _ _ _ _
  have z4 : (w.alloc (Obj.cells #[.int .i64 time, .string tag, .string parent, .int .i64 size, .slice A n c] 32)).cell? ⟨w.heap.size, 4, none⟩ = some (.slice A n c) := cell_new _ _ _ _
  clear hb0 hC hT hn
  obtain ⟨W, hW⟩ : ∃ W, w.alloc (Obj.cells #[.int .i64 time, .string tag, .string parent, .int .i64 size, .slice A n c] 32) = W := ⟨_, rfl⟩
  rw [hW] at HB HC HT HWZ z0 z1 z2 z3 z4
  go_enter Tryz.func39, Tryz.ntmps39
  cases b1 : decide (time < 0) with
  | true =>
    have HF := Lib.hid (show checkF ⟨time, tag, parent, size, chunks⟩ = 4 by unfold checkF bad1; rw [b1]; rfl)
    go_wp2
    go_ret
    exact ⟨ret_i HF.out.symm, HB.out⟩
  | false =>
    cases b2 : decide (253402300799 < time) with
    | true =>
      have HF := Lib.hid (show checkF ⟨time, tag, parent, size, chunks⟩ = 4 by unfold checkF bad1; rw [b1, b2]; rfl)
      go_wp2
      go_ret
      exact ⟨ret_i HF.out.symm, HB.out⟩
    | false =>
      cases t1 : tag.toList.isEmpty with
      | true =>
        cases p1 : parent.toList.isEmpty with
        | true =>
          have HB1 := Lib.hid (show bad1 ⟨time, tag, parent, size, chunks⟩ = false by unfold bad1; simp only; rw [b1, b2, t1, p1]; rfl)
          cases k1 : decide (size < 1) with
          | true =>
            have HF := Lib.hid (show checkF ⟨time, tag, parent, size, chunks⟩ = 4 by unfold checkF; rw [HB1.out]; unfold bad2; simp only [HN.out]; rw [k1]; simp)
            go_wp2
            go_ret
            exact ⟨ret_i HF.out.symm, HB.out⟩
          | false =>
          cases k2 : decide (4194304 < size) with
          | true =>
            have HF := Lib.hid (show checkF ⟨time, tag, parent, size, chunks⟩ = 4 by unfold checkF; rw [HB1.out]; unfold bad2; simp only [HN.out]; rw [k1, k2]; simp)
            go_wp2
            go_ret
            exact ⟨ret_i HF.out.symm, HB.out⟩
          | false =>
          cases k3 : decide ((n : Int) < 1) with
          | true =>
            have HF := Lib.hid (show checkF ⟨time, tag, parent, size, chunks⟩ = 4 by unfold checkF; rw [HB1.out]; unfold bad2; simp only [HN.out]; rw [k1, k2, k3]; simp)
            go_wp2
            go_ret
            exact ⟨ret_i HF.out.symm, HB.out⟩
          | false =>
          cases k4 : decide (size < (n : Int)) with
          | true =>
            have HF := Lib.hid (show checkF ⟨time, tag, parent, size, chunks⟩ = 4 by unfold checkF; rw [HB1.out]; unfold bad2; simp only [HN.out]; rw [k1, k2, k3, k4]; simp)
            go_wp2
            go_ret
            exact ⟨ret_i HF.out.symm, HB.out⟩
          | false =>
          have HF := Lib.hid (show checkF ⟨time, tag, parent, size, chunks⟩ = if good32 chunks then 0 else 4 by unfold checkF; rw [HB1.out]; unfold bad2; simp only [HN.out]; rw [k1, k2, k3, k4]; rfl)
          go_wp2
          clear k1 k2 k3 k4 z0 z1 z2 z3 z4
          go_loop [60] (fun v60 => ∃ k : Nat, k ≤ n ∧ v60 = .int .i64 k ∧ Hid (good32 (chunks.take k) = true)) (fun v60 => n - (intOf v60).toNat)
          case atStart => exact ⟨0, by omega, rfl, rfl⟩
          case round =>
            obtain ⟨k, hk, rfl, HG⟩ := hrel
            by_cases hlt : k < n
            · have hkn : (k : Int) < (n : Int) := by omega
              obtain ⟨ad, hA, hcell⟩ := Kd.at_string HC.out (k : Int) (by omega) (by omega)
              subst hA
              rw [Int.toNat_natCast] at hcell
              obtain ⟨z, hz⟩ : ∃ z, rdOf ByteArray.empty chunks (k : Int) = z := ⟨_, rfl⟩
              rw [hz] at hcell
              have hkl : k < chunks.length := by rw [HN.out]; exact hlt
              have hze : chunks[k]? = some z := by rw [← hz]; unfold rdOf; rw [Int.toNat_natCast]; simp [hkl]
              have HZ := Lib.hid (And.intro hkl hze)
              clear hz hze hkl
              cases h32 : ((z.size : Int) == 32) with
              | true =>
                have HG2 := Lib.hid (show good32 (chunks.take (k + 1)) = true by
                  unfold good32 at HG ⊢
                  rw [List.take_succ_eq_append_getElem HZ.out.1, List.all_append, HG.out]
                  have e : chunks[k]'HZ.out.1 = z := by have := HZ.out.2; rw [List.getElem?_eq_getElem HZ.out.1] at this; exact Option.some.inj this
                  rw [e]; simp [h32])
                have h32n : ((z.size : Int) != 32) = false := by simp [bne, h32]
                go_wp2
                go_round
                case rel => exact ⟨k + 1, by omega, by go_num, HG2⟩
                case measure => simp [intOf]; omega
              | false =>
                have HF2 := Lib.hid (show checkF ⟨time, tag, parent, size, chunks⟩ = 4 by
                  rw [HF.out]
                  have : good32 chunks = false := by
                    cases hg : good32 chunks with
                    | false => rfl
                    | true =>
                      unfold good32 at hg
                      have := List.all_eq_true.1 hg z (List.mem_of_getElem? HZ.out.2)
                      rw [h32] at this; cases this
                  rw [this]; rfl)
                have h32n : ((z.size : Int) != 32) = true := by simp [bne, h32]
                go_wp2
                go_ret
                exact ⟨ret_i HF2.out.symm, HB.out⟩
            · have hkn : k = n := by omega
              subst hkn
              have HF2 := Lib.hid (show checkF ⟨time, tag, parent, size, chunks⟩ = 0 by
                rw [HF.out]
                have := HG.out
                rw [← HN.out, List.take_length] at this
                rw [this]; rfl)
              go_wp2
              go_ret
              exact ⟨ret_i HF2.out.symm, HB.out⟩
        | false =>
          go_wp2_with fail
          refine (digest_Is parent hs _).mono ?_
          rintro e W3 ⟨rfl, hb⟩
          have HB2 := Aside0.mk (below_step HB.out hb)
          have HC2 := Aside0.mk (Kd.C_below HC.out hb)
          have y0 := (hb.cell (p := ⟨w.heap.size, 0, none⟩) HWZ.out).trans z0
          have y1 := (hb.cell (p := ⟨w.heap.size, 1, none⟩) HWZ.out).trans z1
          have y2 := (hb.cell (p := ⟨w.heap.size, 2, none⟩) HWZ.out).trans z2
          have y3 := (hb.cell (p := ⟨w.heap.size, 3, none⟩) HWZ.out).trans z3
          have y4 := (hb.cell (p := ⟨w.heap.size, 4, none⟩) HWZ.out).trans z4
          have HWZ2 := Lib.hid (Nat.lt_of_lt_of_le HWZ.out hb.size)
          clear hb HB HC z0 z1 z2 z3 z4 HWZ
          have HB := HB2
          have HC := HC2
          have HWZ := HWZ2
          have z0 := y0
          have z1 := y1
          have z2 := y2
          have z3 := y3
          have z4 := y4
          clear HB2 HC2 HWZ2 y0 y1 y2 y3 y4
          cases p2 : digestIs parent with
          | false =>
            have HF := Lib.hid (show checkF ⟨time, tag, parent, size, chunks⟩ = 4 by unfold checkF bad1; simp only; rw [b1, b2, t1, p1, p2]; rfl)
            go_wp2
            go_ret
            exact ⟨ret_i HF.out.symm, HB.out⟩
          | true =>
            have HB1 := Lib.hid (show bad1 ⟨time, tag, parent, size, chunks⟩ = false by unfold bad1; simp only; rw [b1, b2, t1, p1, p2]; rfl)
            cases k1 : decide (size < 1) with
            | true =>
              have HF := Lib.hid (show checkF ⟨time, tag, parent, size, chunks⟩ = 4 by unfold checkF; rw [HB1.out]; unfold bad2; simp only [HN.out]; rw [k1]; simp)
              go_wp2
              go_ret
              exact ⟨ret_i HF.out.symm, HB.out⟩
            | false =>
            cases k2 : decide (4194304 < size) with
            | true =>
              have HF := Lib.hid (show checkF ⟨time, tag, parent, size, chunks⟩ = 4 by unfold checkF; rw [HB1.out]; unfold bad2; simp only [HN.out]; rw [k1, k2]; simp)
              go_wp2
              go_ret
              exact ⟨ret_i HF.out.symm, HB.out⟩
            | false =>
            cases k3 : decide ((n : Int) < 1) with
            | true =>
              have HF := Lib.hid (show checkF ⟨time, tag, parent, size, chunks⟩ = 4 by unfold checkF; rw [HB1.out]; unfold bad2; simp only [HN.out]; rw [k1, k2, k3]; simp)
              go_wp2
              go_ret
              exact ⟨ret_i HF.out.symm, HB.out⟩
            | false =>
            cases k4 : decide (size < (n : Int)) with
            | true =>
              have HF := Lib.hid (show checkF ⟨time, tag, parent, size, chunks⟩ = 4 by unfold checkF; rw [HB1.out]; unfold bad2; simp only [HN.out]; rw [k1, k2, k3, k4]; simp)
              go_wp2
              go_ret
              exact ⟨ret_i HF.out.symm, HB.out⟩
            | false =>
            have HF := Lib.hid (show checkF ⟨time, tag, parent, size, chunks⟩ = if good32 chunks then 0 else 4 by unfold checkF; rw [HB1.out]; unfold bad2; simp only [HN.out]; rw [k1, k2, k3, k4]; rfl)
            go_wp2
            clear k1 k2 k3 k4 z0 z1 z2 z3 z4
            go_loop [60] (fun v60 => ∃ k : Nat, k ≤ n ∧ v60 = .int .i64 k ∧ Hid (good32 (chunks.take k) = true)) (fun v60 => n - (intOf v60).toNat)
            case atStart => exact ⟨0, by omega, rfl, rfl⟩
            case round =>
              obtain ⟨k, hk, rfl, HG⟩ := hrel
              by_cases hlt : k < n
              · have hkn : (k : Int) < (n : Int) := by omega
                obtain ⟨ad, hA, hcell⟩ := Kd.at_string HC.out (k : Int) (by omega) (by omega)
                subst hA
                rw [Int.toNat_natCast] at hcell
                obtain ⟨z, hz⟩ : ∃ z, rdOf ByteArray.empty chunks (k : Int) = z := ⟨_, rfl⟩
                rw [hz] at hcell
                have hkl : k < chunks.length := by rw [HN.out]; exact hlt
                have hze : chunks[k]? = some z := by rw [← hz]; unfold rdOf; rw [Int.toNat_natCast]; simp [hkl]
                have HZ := Lib.hid (And.intro hkl hze)
                clear hz hze hkl
                cases h32 : ((z.size : Int) == 32) with
                | true =>
                  have HG2 := Lib.hid (show good32 (chunks.take (k + 1)) = true by
                    unfold good32 at HG ⊢
                    rw [List.take_succ_eq_append_getElem HZ.out.1, List.all_append, HG.out]
                    have e : chunks[k]'HZ.out.1 = z := by have := HZ.out.2; rw [List.getElem?_eq_getElem HZ.out.1] at this; exact Option.some.inj this
                    rw [e]; simp [h32])
                  have h32n : ((z.size : Int) != 32) = false := by simp [bne, h32]
                  go_wp2
                  go_round
                  case rel => exact ⟨k + 1, by omega, by go_num, HG2⟩
                  case measure => simp [intOf]; omega
                | false =>
                  have HF2 := Lib.hid (show checkF ⟨time, tag, parent, size, chunks⟩ = 4 by
                    rw [HF.out]
                    have : good32 chunks = false := by
                      cases hg : good32 chunks with
                      | false => rfl
                      | true =>
                        unfold good32 at hg
                        have := List.all_eq_true.1 hg z (List.mem_of_getElem? HZ.out.2)
                        rw [h32] at this; cases this
                    rw [this]; rfl)
                  have h32n : ((z.size : Int) != 32) = true := by simp [bne, h32]
                  go_wp2
                  go_ret
                  exact ⟨ret_i HF2.out.symm, HB.out⟩
              · have hkn : k = n := by omega
                subst hkn
                have HF2 := Lib.hid (show checkF ⟨time, tag, parent, size, chunks⟩ = 0 by
                  rw [HF.out]
                  have := HG.out
                  rw [← HN.out, List.take_length] at this
                  rw [this]; rfl)
                go_wp2
                go_ret
                exact ⟨ret_i HF2.out.symm, HB.out⟩
      | false =>
        go_wp2_with fail
        refine (path_Name tag _ HT.out).mono ?_
        rintro e W2 ⟨rfl, hb⟩
        have HB2 := Aside0.mk (below_step HB.out hb)
        have HC2 := Aside0.mk (Kd.C_below HC.out hb)
        have y0 := (hb.cell (p := ⟨w.heap.size, 0, none⟩) HWZ.out).trans z0
        have y1 := (hb.cell (p := ⟨w.heap.size, 1, none⟩) HWZ.out).trans z1
        have y2 := (hb.cell (p := ⟨w.heap.size, 2, none⟩) HWZ.out).trans z2
        have y3 := (hb.cell (p := ⟨w.heap.size, 3, none⟩) HWZ.out).trans z3
        have y4 := (hb.cell (p := ⟨w.heap.size, 4, none⟩) HWZ.out).trans z4
        have HWZ2 := Lib.hid (Nat.lt_of_lt_of_le HWZ.out hb.size)
        clear hb HB HC z0 z1 z2 z3 z4 HWZ
        have HB := HB2
        have HC := HC2
        have HWZ := HWZ2
        have z0 := y0
        have z1 := y1
        have z2 := y2
        have z3 := y3
        have z4 := y4
        clear HB2 HC2 HWZ2 y0 y1 y2 y3 y4
        cases t2 : pathName tag with
        | false =>
          have HF := Lib.hid (show checkF ⟨time, tag, parent, size, chunks⟩ = 4 by unfold checkF bad1; simp only; rw [b1, b2, t1, t2]; rfl)
          go_wp2
          go_ret
          exact ⟨ret_i HF.out.symm, HB.out⟩
        | true =>
          cases p1 : parent.toList.isEmpty with
          | true =>
            have HB1 := Lib.hid (show bad1 ⟨time, tag, parent, size, chunks⟩ = false by unfold bad1; simp only; rw [b1, b2, t1, t2, p1]; rfl)
            cases k1 : decide (size < 1) with
            | true =>
              have HF := Lib.hid (show checkF ⟨time, tag, parent, size, chunks⟩ = 4 by unfold checkF; rw [HB1.out]; unfold bad2; simp only [HN.out]; rw [k1]; simp)
              go_wp2
              go_ret
              exact ⟨ret_i HF.out.symm, HB.out⟩
            | false =>
            cases k2 : decide (4194304 < size) with
            | true =>
              have HF := Lib.hid (show checkF ⟨time, tag, parent, size, chunks⟩ = 4 by unfold checkF; rw [HB1.out]; unfold bad2; simp only [HN.out]; rw [k1, k2]; simp)
              go_wp2
              go_ret
              exact ⟨ret_i HF.out.symm, HB.out⟩
            | false =>
            cases k3 : decide ((n : Int) < 1) with
            | true =>
              have HF := Lib.hid (show checkF ⟨time, tag, parent, size, chunks⟩ = 4 by unfold checkF; rw [HB1.out]; unfold bad2; simp only [HN.out]; rw [k1, k2, k3]; simp)
              go_wp2
              go_ret
              exact ⟨ret_i HF.out.symm, HB.out⟩
            | false =>
            cases k4 : decide (size < (n : Int)) with
            | true =>
              have HF := Lib.hid (show checkF ⟨time, tag, parent, size, chunks⟩ = 4 by unfold checkF; rw [HB1.out]; unfold bad2; simp only [HN.out]; rw [k1, k2, k3, k4]; simp)
              go_wp2
              go_ret
              exact ⟨ret_i HF.out.symm, HB.out⟩
            | false =>
            have HF := Lib.hid (show checkF ⟨time, tag, parent, size, chunks⟩ = if good32 chunks then 0 else 4 by unfold checkF; rw [HB1.out]; unfold bad2; simp only [HN.out]; rw [k1, k2, k3, k4]; rfl)
            go_wp2
            clear k1 k2 k3 k4 z0 z1 z2 z3 z4
            go_loop [60] (fun v60 => ∃ k : Nat, k ≤ n ∧ v60 = .int .i64 k ∧ Hid (good32 (chunks.take k) = true)) (fun v60 => n - (intOf v60).toNat)
            case atStart => exact ⟨0, by omega, rfl, rfl⟩
            case round =>
              obtain ⟨k, hk, rfl, HG⟩ := hrel
              by_cases hlt : k < n
              · have hkn : (k : Int) < (n : Int) := by omega
                obtain ⟨ad, hA, hcell⟩ := Kd.at_string HC.out (k : Int) (by omega) (by omega)
                subst hA
                rw [Int.toNat_natCast] at hcell
                obtain ⟨z, hz⟩ : ∃ z, rdOf ByteArray.empty chunks (k : Int) = z := ⟨_, rfl⟩
                rw [hz] at hcell
                have hkl : k < chunks.length := by rw [HN.out]; exact hlt
                have hze : chunks[k]? = some z := by rw [← hz]; unfold rdOf; rw [Int.toNat_natCast]; simp [hkl]
                have HZ := Lib.hid (And.intro hkl hze)
                clear hz hze hkl
                cases h32 : ((z.size : Int) == 32) with
                | true =>
                  have HG2 := Lib.hid (show good32 (chunks.take (k + 1)) = true by
                    unfold good32 at HG ⊢
                    rw [List.take_succ_eq_append_getElem HZ.out.1, List.all_append, HG.out]
                    have e : chunks[k]'HZ.out.1 = z := by have := HZ.out.2; rw [List.getElem?_eq_getElem HZ.out.1] at this; exact Option.some.inj this
                    rw [e]; simp [h32])
                  have h32n : ((z.size : Int) != 32) = false := by simp [bne, h32]
                  go_wp2
                  go_round
                  case rel => exact ⟨k + 1, by omega, by go_num, HG2⟩
                  case measure => simp [intOf]; omega
                | false =>
                  have HF2 := Lib.hid (show checkF ⟨time, tag, parent, size, chunks⟩ = 4 by
                    rw [HF.out]
                    have : good32 chunks = false := by
                      cases hg : good32 chunks with
                      | false => rfl
                      | true =>
                        unfold good32 at hg
                        have := List.all_eq_true.1 hg z (List.mem_of_getElem? HZ.out.2)
                        rw [h32] at this; cases this
                    rw [this]; rfl)
                  have h32n : ((z.size : Int) != 32) = true := by simp [bne, h32]
                  go_wp2
                  go_ret
                  exact ⟨ret_i HF2.out.symm, HB.out⟩
              · have hkn : k = n := by omega
                subst hkn
                have HF2 := Lib.hid (show checkF ⟨time, tag, parent, size, chunks⟩ = 0 by
                  rw [HF.out]
                  have := HG.out
                  rw [← HN.out, List.take_length] at this
                  rw [this]; rfl)
                go_wp2
                go_ret
                exact ⟨ret_i HF2.out.symm, HB.out⟩
          | false =>
            go_wp2_with fail
            refine (digest_Is parent hs _).mono ?_
            rintro e W3 ⟨rfl, hb⟩
            have HB2 := Aside0.mk (below_step HB.out hb)
            have HC2 := Aside0.mk (Kd.C_below HC.out hb)
            have y0 := (hb.cell (p := ⟨w.heap.size, 0, none⟩) HWZ.out).trans z0
            have y1 := (hb.cell (p := ⟨w.heap.size, 1, none⟩) HWZ.out).trans z1
            have y2 := (hb.cell (p := ⟨w.heap.size, 2, none⟩) HWZ.out).trans z2
            have y3 := (hb.cell (p := ⟨w.heap.size, 3, none⟩) HWZ.out).trans z3
            have y4 := (hb.cell (p := ⟨w.heap.size, 4, none⟩) HWZ.out).trans z4
            have HWZ2 := Lib.hid (Nat.lt_of_lt_of_le HWZ.out hb.size)
            clear hb HB HC z0 z1 z2 z3 z4 HWZ
            have HB := HB2
            have HC := HC2
            have HWZ := HWZ2
            have z0 := y0
            have z1 := y1
            have z2 := y2
            have z3 := y3
            have z4 := y4
            clear HB2 HC2 HWZ2 y0 y1 y2 y3 y4
            cases p2 : digestIs parent with
            | false =>
              have HF := Lib.hid (show checkF ⟨time, tag, parent, size, chunks⟩ = 4 by unfold checkF bad1; simp only; rw [b1, b2, t1, t2, p1, p2]; rfl)
              go_wp2
              go_ret
              exact ⟨ret_i HF.out.symm, HB.out⟩
            | true =>
              have HB1 := Lib.hid (show bad1 ⟨time, tag, parent, size, chunks⟩ = false by unfold bad1; simp only; rw [b1, b2, t1, t2, p1, p2]; rfl)
              cases k1 : decide (size < 1) with
              | true =>
                have HF := Lib.hid (show checkF ⟨time, tag, parent, size, chunks⟩ = 4 by unfold checkF; rw [HB1.out]; unfold bad2; simp only [HN.out]; rw [k1]; simp)
                go_wp2
                go_ret
                exact ⟨ret_i HF.out.symm, HB.out⟩
              | false =>
              cases k2 : decide (4194304 < size) with
              | true =>
                have HF := Lib.hid (show checkF ⟨time, tag, parent, size, chunks⟩ = 4 by unfold checkF; rw [HB1.out]; unfold bad2; simp only [HN.out]; rw [k1, k2]; simp)
                go_wp2
                go_ret
                exact ⟨ret_i HF.out.symm, HB.out⟩
              | false =>
              cases k3 : decide ((n : Int) < 1) with
              | true =>
                have HF := Lib.hid (show checkF ⟨time, tag, parent, size, chunks⟩ = 4 by unfold checkF; rw [HB1.out]; unfold bad2; simp only [HN.out]; rw [k1, k2, k3]; simp)
                go_wp2
                go_ret
                exact ⟨ret_i HF.out.symm, HB.out⟩
              | false =>
              cases k4 : decide (size < (n : Int)) with
              | true =>
                have HF := Lib.hid (show checkF ⟨time, tag, parent, size, chunks⟩ = 4 by unfold checkF; rw [HB1.out]; unfold bad2; simp only [HN.out]; rw [k1, k2, k3, k4]; simp)
                go_wp2
                go_ret
                exact ⟨ret_i HF.out.symm, HB.out⟩
              | false =>
              have HF := Lib.hid (show checkF ⟨time, tag, parent, size, chunks⟩ = if good32 chunks then 0 else 4 by unfold checkF; rw [HB1.out]; unfold bad2; simp only [HN.out]; rw [k1, k2, k3, k4]; rfl)
              go_wp2
              clear k1 k2 k3 k4 z0 z1 z2 z3 z4
              go_loop [60] (fun v60 => ∃ k : Nat, k ≤ n ∧ v60 = .int .i64 k ∧ Hid (good32 (chunks.take k) = true)) (fun v60 => n - (intOf v60).toNat)
              case atStart => exact ⟨0, by omega, rfl, rfl⟩
              case round =>
                obtain ⟨k, hk, rfl, HG⟩ := hrel
                by_cases hlt : k < n
                · have hkn : (k : Int) < (n : Int) := by omega
                  obtain ⟨ad, hA, hcell⟩ := Kd.at_string HC.out (k : Int) (by omega) (by omega)
                  subst hA
                  rw [Int.toNat_natCast] at hcell
                  obtain ⟨z, hz⟩ : ∃ z, rdOf ByteArray.empty chunks (k : Int) = z := ⟨_, rfl⟩
                  rw [hz] at hcell
                  have hkl : k < chunks.length := by rw [HN.out]; exact hlt
                  have hze : chunks[k]? = some z := by rw [← hz]; unfold rdOf; rw [Int.toNat_natCast]; simp [hkl]
                  have HZ := Lib.hid (And.intro hkl hze)
                  clear hz hze hkl
                  cases h32 : ((z.size : Int) == 32) with
                  | true =>
                    have HG2 := Lib.hid (show good32 (chunks.take (k + 1)) = true by
                      unfold good32 at HG ⊢
                      rw [List.take_succ_eq_append_getElem HZ.out.1, List.all_append, HG.out]
                      have e : chunks[k]'HZ.out.1 = z := by have := HZ.out.2; rw [List.getElem?_eq_getElem HZ.out.1] at this; exact Option.some.inj this
                      rw [e]; simp [h32])
                    have h32n : ((z.size : Int) != 32) = false := by simp [bne, h32]
                    go_wp2
                    go_round
                    case rel => exact ⟨k + 1, by omega, by go_num, HG2⟩
                    case measure => simp [intOf]; omega
                  | false =>
                    have HF2 := Lib.hid (show checkF ⟨time, tag, parent, size, chunks⟩ = 4 by
                      rw [HF.out]
                      have : good32 chunks = false := by
                        cases hg : good32 chunks with
                        | false => rfl
                        | true =>
                          unfold good32 at hg
                          have := List.all_eq_true.1 hg z (List.mem_of_getElem? HZ.out.2)
                          rw [h32] at this; cases this
                      rw [this]; rfl)
                    have h32n : ((z.size : Int) != 32) = true := by simp [bne, h32]
                    go_wp2
                    go_ret
                    exact ⟨ret_i HF2.out.symm, HB.out⟩
                · have hkn : k = n := by omega
                  subst hkn
                  have HF2 := Lib.hid (show checkF ⟨time, tag, parent, size, chunks⟩ = 0 by
                    rw [HF.out]
                    have := HG.out
                    rw [← HN.out, List.take_length] at this
                    rw [this]; rfl)
                  go_wp2
                  go_ret
                  exact ⟨ret_i HF2.out.symm, HB.out⟩
end Go.Proofs.YtlilkfnfcaepiaaGreatDoor.M
