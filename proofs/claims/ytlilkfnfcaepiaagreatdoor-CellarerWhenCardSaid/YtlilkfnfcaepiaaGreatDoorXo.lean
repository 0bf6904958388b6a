/- manifest.Decode answers what its Lean function does. -/
import Derived.Test.YtlilkfnfcaepiaaGreatDoorXn
set_option linter.unusedSimpArgs false
set_option linter.unusedVariables false
namespace Go.Proofs.YtlilkfnfcaepiaaGreatDoor.M
open Go.RowKit Go.Proofs.YtlilkfnfcaepiaaGreatDoorW.PrintWords Go.Proofs.YtlilkfnfcaepiaaGreatDoorW.PrintLast Go.Proofs.YtlilkfnfcaepiaaGreatDoorW.PrintMore PB H D G

def snapN : ByteArray := ⟨#[115, 110, 97, 112]⟩
structure DH where
  time : Int
  tag : ByteArray
  parent : ByteArray
  size : Int
  cnt : Int
  r : RS
def decHead (s : ByteArray) : DH :=
  let a1 := numF (cutRest s snapN, !cutOk s snapN)
  let a2 := numF a1.2
  let a3 := takeF a2.2 a2.1
  let a4 := numF a3.2
  let a5 := takeF a4.2 a4.1
  let a6 := numF a5.2
  let a7 := numF a6.2
  ⟨a1.1, a3.1, a5.1, a6.1, a7.1, a7.2⟩
def chunksF : Nat → RS → List ByteArray → RS × List ByteArray
  | 0, r, l => (r, l)
  | k + 1, r, l => if r.2 then (r, l) else chunksF k (takeF r 32).2 (l ++ [(takeF r 32).1])
def zeroM : MF := ⟨0, ⟨#[]⟩, ⟨#[]⟩, 0, []⟩
def decF (s : ByteArray) : MF × Int :=
  let h := decHead s
  let q := chunksF h.cnt.toNat h.r []
  if q.1.2 || !q.1.1.toList.isEmpty then (zeroM, 3)
  else if checkF ⟨h.time, h.tag, h.parent, h.size, q.2⟩ = 0 then (⟨h.time, h.tag, h.parent, h.size, q.2⟩, 0) else (zeroM, checkF ⟨h.time, h.tag, h.parent, h.size, q.2⟩)


theorem results_cell_tmp {P : Program} {fn : Func} {p q : Tmp} {ty : TypeId} (h : fn.results = #[.cell p ty, .tmp q]) (tmps : Array Value) (w : World) (g : Nat) (t : TypeId) (cs : Array Value) (fr : Nat × Nat) (d : TypeDesc) (v : Value)
    (hp : tmps.getD p undef = .pointer (some ⟨g, 0, none⟩)) (hq : tmps.getD q undef = v) (hg : w.heap[g]? = some (.cells cs t fr))
    (hu : P.underlying ty = some d) (hd : (match d with | .struct _ | .array _ _ => true | _ => false) = true) (hi : (P.info? ty).map (·.size) = some cs.size) :
    (results fn tmps).run P w = .ok (.tuple #[.agg cs, v]) w := by
  have hp' : tmps[p]?.getD undef = .pointer (some ⟨g, 0, none⟩) := by simpa using hp
  have hq' : tmps[q]?.getD undef = v := by simpa using hq
  simp [results, h, hp', hq', asAddr, run_loadVar_row w g t ty cs fr d hg hu hd hi]
theorem take_sizes (r : RS) (n : Int) : (takeF r n).1.size ≤ r.1.size ∧ (takeF r n).2.1.size ≤ r.1.size := by
  unfold takeF; split
  · exact ⟨Nat.zero_le _, Nat.le_refl _⟩
  · simp only [ByteArray.size_extract]; omega
theorem num_sizes (r : RS) : (numF r).2.1.size ≤ r.1.size := by
  unfold numF; split
  · exact Nat.le_refl _
  · simp only [ByteArray.size_extract]; omega
theorem cutRest_size (s p : ByteArray) : (cutRest s p).size ≤ s.size := by
  unfold cutRest; split
  · simp only [ByteArray.size_extract]; omega
  · exact Nat.le_refl _
theorem chunksF_true (k : Nat) (r : RS) (l : List ByteArray) (h : r.2 = true) : chunksF k r l = (r, l) := by
  cases k with
  | zero => rfl
  | succ k => rw [chunksF, if_pos h]
theorem chunksF_step (k : Nat) (r : RS) (l : List ByteArray) (h : r.2 = false) (hk : 0 < k) : chunksF k r l = chunksF (k - 1) (takeF r 32).2 (l ++ [(takeF r 32).1]) := by
  obtain ⟨j, rfl⟩ : ∃ j, k = j + 1 := ⟨k - 1, by omega⟩
  rw [chunksF, if_neg (by rw [h]; exact Bool.false_ne_true)]; rfl
theorem five_set {w : World} {b : Nat} {u0 u1 u2 u3 u4 : Value} {t : Nat} (h : Row w b #[u0, u1, u2, u3, u4] t) (v0 v1 v2 v3 v4 : Value) :
    Row (((((w.setCell ⟨b, 0, none⟩ v0).setCell ⟨b, 1, none⟩ v1).setCell ⟨b, 2, none⟩ v2).setCell ⟨b, 3, none⟩ v3).setCell ⟨b, 4, none⟩ v4) b #[v0, v1, v2, v3, v4] t := by
  have h1 := blk_put (cs' := #[v0, u1, u2, u3, u4]) h 0 v0 (by simp)
  have h2 := blk_put (cs' := #[v0, v1, u2, u3, u4]) h1 1 v1 (by simp)
  have h3 := blk_put (cs' := #[v0, v1, v2, u3, u4]) h2 2 v2 (by simp)
  have h4 := blk_put (cs' := #[v0, v1, v2, v3, u4]) h3 3 v3 (by simp)
  exact blk_put (cs' := #[v0, v1, v2, v3, v4]) h4 4 v4 (by simp)
theorem five_below {B : Nat} {w w' : World} (h : Below B w w') (b : Nat) (hb : B ≤ b) (v0 v1 v2 v3 v4 : Value) :
    Below B w (((((w'.setCell ⟨b, 0, none⟩ v0).setCell ⟨b, 1, none⟩ v1).setCell ⟨b, 2, none⟩ v2).setCell ⟨b, 3, none⟩ v3).setCell ⟨b, 4, none⟩ v4) :=
  ((((h.setCell (p := ⟨b, 0, none⟩) hb v0).setCell (p := ⟨b, 1, none⟩) hb v1).setCell (p := ⟨b, 2, none⟩) hb v2).setCell (p := ⟨b, 3, none⟩) hb v3).setCell (p := ⟨b, 4, none⟩) hb v4
theorem five_R {w : World} {base : Nat} {ok : Nat → Prop} {v : Value} {l : List ByteArray} (h : Kd.R Kd.string 9 w base ok v l) (b : Nat) (hb : ∀ k, ok k → k ≠ b) (v0 v1 v2 v3 v4 : Value) :
    Kd.R Kd.string 9 (((((w.setCell ⟨b, 0, none⟩ v0).setCell ⟨b, 1, none⟩ v1).setCell ⟨b, 2, none⟩ v2).setCell ⟨b, 3, none⟩ v3).setCell ⟨b, 4, none⟩ v4) base (fun _ => True) v l :=
  Kd.R_mono (Kd.R_far (p := ⟨b, 4, none⟩) (Kd.R_far (p := ⟨b, 3, none⟩) (Kd.R_far (p := ⟨b, 2, none⟩) (Kd.R_far (p := ⟨b, 1, none⟩) (Kd.R_far (p := ⟨b, 0, none⟩) h hb v0) hb v1) hb v2) hb v3) hb v4) (fun _ _ => trivial)
theorem ret_m {p q : MF × Int} {v : Value} (h : q = p) : Ending.returned (.tuple #[.agg #[.int .i64 p.1.time, .string p.1.tag, .string p.1.parent, .int .i64 p.1.size, v], .int .i64 p.2]) = .returned (.tuple #[.agg #[.int .i64 q.1.time, .string q.1.tag, .string q.1.parent, .int .i64 q.1.size, v], .int .i64 q.2]) := by rw [h]
theorem row5 {w : World} {b t : Nat} {v0 v1 v2 v3 v4 : Value} (h : Row w b #[v0, v1, v2, v3, v4] t) : w.cell? ⟨b, 0, none⟩ = some v0 ∧ w.cell? ⟨b, 1, none⟩ = some v1 ∧ w.cell? ⟨b, 2, none⟩ = some v2 ∧ w.cell? ⟨b, 3, none⟩ = some v3 ∧ w.cell? ⟨b, 4, none⟩ = some v4 := by
  unfold Row at h; simp [World.cell?, h]
def decEnd (t : Int) (g p : ByteArray) (z : Int) (q : RS × List ByteArray) : MF × Int :=
  if q.1.2 || !q.1.1.toList.isEmpty then (zeroM, 3)
  else if checkF ⟨t, g, p, z, q.2⟩ = 0 then (⟨t, g, p, z, q.2⟩, 0) else (zeroM, checkF ⟨t, g, p, z, q.2⟩)

set_option maxRecDepth 100000 in
set_option maxHeartbeats 4000000 in
theorem Decode_any (s : ByteArray) (hs : s.size ≤ 1099511627776) (w : World) (hT : Lib.Utf8Tabs 1 2 w) :
    Calls Tryz.prog 37 #[.string s] w fun e w' => ∃ v, e = .returned (.tuple #[.agg #[.int .i64 (decF s).1.time, .string (decF s).1.tag, .string (decF s).1.parent, .int .i64 (decF s).1.size, v], .int .i64 (decF s).2]) ∧ Kd.R Kd.string 9 w' w.heap.size (fun _ => True) v (decF s).1.chunks ∧ Below w.heap.size w w' := by
  have HCP := Lib.hid (fun w1 => CutPrefix_any s snapN w1)
  go_enter Tryz.func37, Tryz.ntmps37
  go_wp2_with fail
  refine (HCP.out _).mono ?_
  rintro e w1 ⟨rfl, hb⟩
  obtain ⟨rest, hrest⟩ : ∃ r, cutRest s snapN = r := ⟨_, rfl⟩
  obtain ⟨ok, hok⟩ : ∃ r, cutOk s snapN = r := ⟨_, rfl⟩
  rw [hrest, hok]
  have HRO := Lib.hid (And.intro hrest hok)
  have HB1 := Aside0.mk (show Below w.heap.size w w1 from (Below.alloc' (Nat.le_refl _) _).trans (hb.mono (by simp)))
  have hz0 : Row w1 w.heap.size #[.int .i64 0, .string ⟨#[]⟩, .string ⟨#[]⟩, .int .i64 0, .slice none 0 0] 32 := (Row.alloc _ _).move (hb.block _ (by simp))
  have hcb : w.heap.size < w1.heap.size := Nat.lt_of_lt_of_le (by simp) hb.size
  clear hrest hok hb
  go_wp2_with fail
  obtain ⟨rb, hrb⟩ : ∃ k, w1.heap.size = k := ⟨_, rfl⟩
  have HZ0 := Aside0.mk (show Row (w1.alloc (Obj.cells #[Value.string rest, Value.bool !ok] 119)) w.heap.size #[.int .i64 0, .string ⟨#[]⟩, .string ⟨#[]⟩, .int .i64 0, .slice none 0 0] 32 from hz0.move ((Below.alloc' (Nat.le_refl w1.heap.size) (w := w1) (Obj.cells #[Value.string rest, Value.bool !ok] 119)).block _ hcb))
  have hR0 : RAt (w1.alloc (Obj.cells #[Value.string rest, Value.bool !ok] 119)) rb (rest, !ok).1 (rest, !ok).2 := by rw [← hrb]; exact Row.alloc _ _
  have HB0 := Aside0.mk (show Below w.heap.size w (w1.alloc (Obj.cells #[Value.string rest, Value.bool !ok] 119)) from below_step HB1.out (Below.alloc' (Nat.le_refl _) _))
  have HCB := Lib.hid (show w.heap.size < rb from by rw [← hrb]; exact hcb)
  have HR := Aside0.mk hR0
  clear hR0 hcb hz0
  rw [hrb]
  generalize w1.alloc (Obj.cells #[Value.string rest, Value.bool !ok] 119) = W0 at HR HB0 HZ0 ⊢
  have HC := Aside0.mk (Chg.refl (fun k => k = rb) W0)
  clear hrb HB1 w1
  obtain ⟨r0, hr0⟩ : ∃ r : RS, (rest, !ok) = r := ⟨_, rfl⟩
  rw [hr0] at HR
  have HE0 := Lib.hid hr0
  clear hr0
  refine (number_any (r0) rb _ HR.out).mono ?_
  rintro e V1 ⟨rfl, hr, hc⟩
  obtain ⟨a1, ha1⟩ : ∃ a, numF (r0) = a := ⟨_, rfl⟩
  have HN1 := Lib.hid (show 0 ≤ a1.1 ∧ a1.1 ≤ 1099511627776 from by rw [← ha1]; exact numF_range _)
  rw [ha1] at hr ⊢
  have HE1 := Lib.hid ha1
  have HR' := Aside0.mk hr
  have HC' := Aside0.mk (HC.out.trans hc)
  skip
  clear hr hc ha1 HR HC
  have HR := HR'
  have HC := HC'
  clear HR' HC'
  go_wp2_with fail
  refine (number_any (a1.2) rb _ HR.out).mono ?_
  rintro e V2 ⟨rfl, hr, hc⟩
  obtain ⟨a2, ha2⟩ : ∃ a, numF (a1.2) = a := ⟨_, rfl⟩
  have HN2 := Lib.hid (show 0 ≤ a2.1 ∧ a2.1 ≤ 1099511627776 from by rw [← ha2]; exact numF_range _)
  rw [ha2] at hr ⊢
  have HE2 := Lib.hid ha2
  have HR' := Aside0.mk hr
  have HC' := Aside0.mk (HC.out.trans hc)
  skip
  clear hr hc ha2 HR HC
  have HR := HR'
  have HC := HC'
  clear HR' HC'
  go_wp2_with fail
  refine (take_any (a2.2) (a2.1) (HN2.out).1 rb _ HR.out).mono ?_
  rintro e V3 ⟨rfl, hr, hc⟩
  obtain ⟨a3, ha3⟩ : ∃ a, takeF (a2.2) (a2.1) = a := ⟨_, rfl⟩
  rw [ha3] at hr ⊢
  have HE3 := Lib.hid ha3
  have HR' := Aside0.mk hr
  have HC' := Aside0.mk (HC.out.trans hc)
  skip
  clear hr hc ha3 HR HC
  have HR := HR'
  have HC := HC'
  clear HR' HC'
  go_wp2_with fail
  refine (number_any (a3.2) rb _ HR.out).mono ?_
  rintro e V4 ⟨rfl, hr, hc⟩
  obtain ⟨a4, ha4⟩ : ∃ a, numF (a3.2) = a := ⟨_, rfl⟩
  have HN4 := Lib.hid (show 0 ≤ a4.1 ∧ a4.1 ≤ 1099511627776 from by rw [← ha4]; exact numF_range _)
  rw [ha4] at hr ⊢
  have HE4 := Lib.hid ha4
  have HR' := Aside0.mk hr
  have HC' := Aside0.mk (HC.out.trans hc)
  skip
  clear hr hc ha4 HR HC
  have HR := HR'
  have HC := HC'
  clear HR' HC'
  go_wp2_with fail
  refine (take_any (a4.2) (a4.1) (HN4.out).1 rb _ HR.out).mono ?_
  rintro e V5 ⟨rfl, hr, hc⟩
  obtain ⟨a5, ha5⟩ : ∃ a, takeF (a4.2) (a4.1) = a := ⟨_, rfl⟩
  rw [ha5] at hr ⊢
  have HE5 := Lib.hid ha5
  have HR' := Aside0.mk hr
  have HC' := Aside0.mk (HC.out.trans hc)
  skip
  clear hr hc ha5 HR HC
  have HR := HR'
  have HC := HC'
  clear HR' HC'
  go_wp2_with fail
  refine (number_any (a5.2) rb _ HR.out).mono ?_
  rintro e V6 ⟨rfl, hr, hc⟩
  obtain ⟨a6, ha6⟩ : ∃ a, numF (a5.2) = a := ⟨_, rfl⟩
  have HN6 := Lib.hid (show 0 ≤ a6.1 ∧ a6.1 ≤ 1099511627776 from by rw [← ha6]; exact numF_range _)
  rw [ha6] at hr ⊢
  have HE6 := Lib.hid ha6
  have HR' := Aside0.mk hr
  have HC' := Aside0.mk (HC.out.trans hc)
  skip
  clear hr hc ha6 HR HC
  have HR := HR'
  have HC := HC'
  clear HR' HC'
  go_wp2_with fail
  obtain ⟨mb, hmb⟩ : ∃ k, V6.heap.size = k := ⟨_, rfl⟩
  have hrm : rb < mb := by rw [← hmb]; exact Row.lt HR.out
  have hba := Below.alloc' (Nat.le_refl V6.heap.size) (w := V6) (Obj.cells #[Value.int IntKind.i64 a1.1, Value.string a3.1, Value.string a5.1, Value.int IntKind.i64 a6.1, Value.slice none 0 0] 32)
  have HR' := Aside0.mk (show RAt _ rb a6.2.1 a6.2.2 from HR.out.move (hba.block rb (Row.lt HR.out)))
  have HC' := Aside0.mk (HC.out.trans (Chg.of_below (F := fun k => k = rb) hba))
  have HM := Aside0.mk (show Row (V6.alloc (Obj.cells #[Value.int IntKind.i64 a1.1, Value.string a3.1, Value.string a5.1, Value.int IntKind.i64 a6.1, Value.slice none 0 0] 32)) mb #[Value.int IntKind.i64 a1.1, Value.string a3.1, Value.string a5.1, Value.int IntKind.i64 a6.1, Value.slice none 0 0] 32 by rw [← hmb]; exact Row.alloc _ _)
  rw [hmb]
  clear HR HC hba
  have HR := HR'
  have HC := HC'
  clear HR' HC'
  generalize V6.alloc (Obj.cells #[Value.int IntKind.i64 a1.1, Value.string a3.1, Value.string a5.1, Value.int IntKind.i64 a6.1, Value.slice none 0 0] 32) = W6 at HR HC HM ⊢
  clear hmb
  refine (number_any (a6.2) rb _ HR.out).mono ?_
  rintro e V7 ⟨rfl, hr, hc⟩
  obtain ⟨a7, ha7⟩ : ∃ a, numF (a6.2) = a := ⟨_, rfl⟩
  have HN7 := Lib.hid (show 0 ≤ a7.1 ∧ a7.1 ≤ 1099511627776 from by rw [← ha7]; exact numF_range _)
  rw [ha7] at hr ⊢
  have HE7 := Lib.hid ha7
  have HR' := Aside0.mk hr
  have HC' := Aside0.mk (HC.out.trans hc)
  have hc7 := hc
  clear hr hc ha7 HR HC
  have HR := HR'
  have HC := HC'
  clear HR' HC'
  have HM2 := Aside0.mk (HM.out.move (hc7.block mb (Row.lt HM.out) (by omega)))
  clear HM hc7
  have HM := HM2
  clear HM2
  have HRM := Lib.hid hrm
  clear hrm
  go_wp2
  have hwrb := HCB.out
  have hrmb := HRM.out
  have HZ7 := Aside0.mk (HZ0.out.move (HC.out.block _ (Row.lt HZ0.out) (by omega)))
  have HB7 := Aside0.mk (HB0.out.trans (HC.out.toBelow (B := w.heap.size) (by have := Row.lt HZ0.out; omega) (fun k hk => by omega)))
  have HM7 := HM
  have HR7 := HR
  have HCN := Lib.hid (HN7.out)
  have HPS := Lib.hid (show a5.1.size ≤ 1099511627776 by
    have h1 := cutRest_size s snapN
    have h2 := num_sizes r0
    have h3 := num_sizes a1.2
    have h4 := (take_sizes a2.2 a2.1).2
    have h5 := num_sizes a3.2
    have h6 := (take_sizes a4.2 a4.1).1
    rw [HE1.out] at h2
    rw [HE2.out] at h3
    rw [HE3.out] at h4
    rw [HE4.out] at h5
    rw [HE5.out] at h6
    have h0 : r0.1.size ≤ s.size := by rw [← HE0.out]; show rest.size ≤ _; rw [← HRO.out.1]; exact h1
    omega)
  have HDE := Lib.hid (show decF s = decEnd a1.1 a3.1 a5.1 a6.1 (chunksF a7.1.toNat a7.2 []) by
    unfold decF decHead decEnd
    simp only [HRO.out.1, HRO.out.2, HE0.out, HE1.out, HE2.out, HE3.out, HE4.out, HE5.out, HE6.out, HE7.out])
  clear HE0 HE1 HE2 HE3 HE4 HE5 HE6 HE7
  clear HZ0 HB0 HC HM HR W0 HRO HCP
  obtain ⟨cnt, hcnt⟩ : ∃ c : Nat, a7.1 = c := ⟨a7.1.toNat, by have := HCN.out; omega⟩
  have HCT := Lib.hid (show cnt ≤ 1099511627776 by have := HCN.out; omega)
  have HQ := Lib.hid (show a7.1.toNat = cnt by omega)
  rw [hcnt]
  clear hwrb hrmb
  go_loopw [8] (fun v8 wr => ∃ (k : Nat) (r : RS) (l : List ByteArray) (v : Value), v8 = .int .i64 k ∧ Hid (k + l.length ≤ 1099511627776) ∧ Aside0 (RAt wr rb r.1 r.2) ∧ Aside0 (Row wr mb #[.int .i64 a1.1, .string a3.1, .string a5.1, .int .i64 a6.1, v] 32) ∧ Aside0 (Kd.R Kd.string 9 wr w.heap.size (fun j => mb < j) v l) ∧ Hid (chunksF k r l = chunksF a7.1.toNat a7.2 []) ∧ Aside0 (Row wr w.heap.size #[.int .i64 0, .string ⟨#[]⟩, .string ⟨#[]⟩, .int .i64 0, .slice none 0 0] 32) ∧ Aside0 (Below w.heap.size w wr)) (fun v8 _ => (intOf v8).toNat)
  case atStart => exact ⟨cnt, a7.2, [], _, rfl, Lib.hid (by have := HCT.out; simpa using this), HR7, HM7, ⟨Kd.R_nil _ _ _ _ _⟩, Lib.hid (by rw [HQ.out]), HZ7, HB7⟩
  case round =>
    clear HZ7 HB7 HM7 HR7
    obtain ⟨k, r, l, v, rfl, HKL, HR, HM, HL, HCH, HZ, HB⟩ := hrel
    obtain ⟨A, c, rfl⟩ := Kd.R_slice HL.out
    have r0 := HR.out.c0
    have r1 := HR.out.c1
    by_cases hk : 0 < k
    · have hki : (0 : Int) < (k : Int) := by omega
      cases hb : r.2 with
      | false =>
        rw [hb] at r1
        have m4 : wr.cell? ⟨mb, 4, none⟩ = some (.slice A l.length c) := by have := HM.out; unfold Row at this; simp [World.cell?, this]
        have f4 := HM.out.free 4
        have HTK := Lib.hid (take_any r 32 (by omega) rb wr.drew (show RAt wr.drew rb r.1 r.2 from HR.out))
        go_wp2_with fail
        have m4d : wr.drew.cell? ⟨mb, 4, none⟩ = some (.slice A l.length c) := m4
        have HMD := Aside0.mk (show Row wr.drew mb #[.int .i64 a1.1, .string a3.1, .string a5.1, .int .i64 a6.1, .slice A l.length c] 32 from HM.out)
        have HLD := Aside0.mk (Kd.R_drew HL.out)
        have HZD := Aside0.mk (show Row wr.drew w.heap.size #[.int .i64 0, .string ⟨#[]⟩, .string ⟨#[]⟩, .int .i64 0, .slice none 0 0] 32 from HZ.out)
        have HBD := Aside0.mk (below_drew1 HB.out)
        clear HM HL HZ HB m4 f4 r0 r1 HR
        refine start_ (n := 8) (S := fun w' => w'.cell? ⟨mb, 4, none⟩ = some (.slice A l.length c)) (ds := [7]) #[false, false, false, false, false, false, false, false] (by kernel_rfl) rfl rfl m4d (fun hHeld => ?_)
        clear m4d
        generalize wr.drew = w13 at HTK HMD HLD HZD HBD hHeld ⊢
        refine pure_ (i := 0) (N := some 46) (v := ?_) (a' := ?_) #[true, false, false, false, false, false, false, false] rfl rfl (by kernel_rfl) (fun _ _ _ h => h) (Or.inl ⟨by rfl, ?_⟩) ?_ ?_
        rotate_left
        · intro w'
          go_simp
          with_reducible rfl
        rotate_left
        · simp only [Act.put, List.setIfInBounds_toArray, List.set_cons_zero, List.set_cons_succ, i64_w, i32_w]
          rfl
        refine pure_ (i := 2) (N := some 48) (v := ?_) (a' := ?_) #[true, false, true, false, false, false, false, false] rfl rfl (by kernel_rfl) (fun _ _ _ h => h) (Or.inl ⟨by rfl, ?_⟩) ?_ ?_
        rotate_left
        · intro w'
          go_simp
          with_reducible rfl
        rotate_left
        · simp only [Act.put, List.setIfInBounds_toArray, List.set_cons_zero, List.set_cons_succ, i64_w, i32_w]
          rfl
        refine take_ (i := 1) (N := some 47) (v := ?_) (a' := ?_) #[true, true, true, false, false, false, false, false] rfl rfl (by kernel_rfl) (fun _ _ _ h => h) (Or.inl ⟨by rfl, ?_⟩) hHeld ?_ ?_
        rotate_left
        · intro w' s4
          go_simp
          with_reducible rfl
        rotate_left
        · simp only [Act.put, List.setIfInBounds_toArray, List.set_cons_zero, List.set_cons_succ, i64_w, i32_w]
          rfl
        refine one_ (i := 3) (N := some 49) #[true, true, true, true, false, false, false, false] rfl rfl (by kernel_rfl) (by decide) (fun K hK => ?_)
        refine goes_ Tryz.func73 (by kernel_rfl) rfl #[.pointer (some ⟨rb, 0, none⟩), .int .i64 32] (by rfl) rfl rfl (by (try simp only [List.map_toArray, List.map_cons, List.map_nil]); first | done | rfl) ?_
        refine HTK.out.mono ?_
        rintro e w3 ⟨rfl, hr3, hc3⟩
        refine ⟨_, rfl, ?_⟩
        have hmrow := Row.lt HMD.out
        have hzrow := Row.lt HZD.out
        have HR3 := Aside0.mk hr3
        have HM3 := Aside0.mk (HMD.out.move (hc3.block mb hmrow (by have := HRM.out; omega)))
        have HZ3 := Aside0.mk (HZD.out.move (hc3.block w.heap.size hzrow (by have := HCB.out; omega)))
        have HB3 := Aside0.mk (HBD.out.trans (hc3.toBelow (B := w.heap.size) (Nat.le_of_lt hzrow) (fun k hk => by have := HCB.out; omega)))
        have HL3 := Aside0.mk (show Kd.R Kd.string 9 w3 w.heap.size (fun j => mb < j) (.slice A l.length c) l from Kd.R_step HLD.out (fun j hj hlt => hc3.block j hlt (by have := HRM.out; omega)))
        have HMW3 := Lib.hid (show mb < w3.heap.size from Nat.lt_of_lt_of_le hmrow hc3.size)
        have m43 : w3.cell? ⟨mb, 4, none⟩ = some (.slice A l.length c) := by have := HM3.out; unfold Row at this; simp [World.cell?, this]
        clear hmrow hzrow hr3 hc3 HMD HZD HBD HLD HTK hHeld
        refine hK.out _ _ m43 (fun hHeld => ?_)
        clear hK K m43
        refine norm_ (a' := ?_) ?_ ?_
        rotate_left
        · show Act.put _ (some 49) _ = _
          simp only [Act.put, List.setIfInBounds_toArray, List.set_cons_zero, List.set_cons_succ, i64_w, i32_w]
          rfl
        obtain ⟨z, hz⟩ : ∃ z, (takeF r 32).1 = z := ⟨_, rfl⟩
        obtain ⟨r', hr'⟩ : ∃ z, (takeF r 32).2 = z := ⟨_, rfl⟩
        have HZR := Lib.hid (And.intro hz hr')
        rw [hr'] at HR3
        rw [hz]
        clear hz hr'
        refine one_ (i := 4) (N := some 50) #[true, true, true, true, true, false, false, false] rfl rfl (by kernel_rfl) (by decide) (fun K hK => ?_)
        refine value_ (w1 := ?_) (v := ?_) (by rfl) rfl ?_ ?_
        rotate_left 2
        · go_simp
          constructor
          · rfl
          · rfl
        have hba := Below.alloc' (Nat.le_refl w3.heap.size) (w := w3) (Obj.cells #[.string z] 9)
        refine hK.out _ _ ((hba.cell (p := ⟨mb, 4, none⟩) HMW3.out).trans hHeld) (fun hHeld => ?_)
        clear hK K
        refine norm_ (a' := ?_) ?_ ?_
        rotate_left
        · show Act.put _ (some 50) _ = _
          simp only [Act.put, List.setIfInBounds_toArray, List.set_cons_zero, List.set_cons_succ, i64_w, i32_w]
          rfl
        refine one_ (i := 5) (N := some 51) #[true, true, true, true, true, true, false, false] rfl rfl (by kernel_rfl) (by decide) (fun K hK => ?_)
        refine Kd.R_append_step Kd.string (w0 := w) w.heap.size (by rfl) (.tmp 47) (.tmp 50) 30 9 (.string ⟨#[]⟩) 16 rfl Tryz.underlying30 PB.info9 rfl (by decide) (by omega) (.slice A l.length c) l z [.string z] (fun j => mb < j) (fun _ => False) rfl rfl ?aP (fun _ hk => hk.elim) ?aF ?aO ?aB ?aS ?aL ?_
        (case aP => exact rfl)
        (case aB => exact HB3.out)
        (case aF => exact (fun j hj => Nat.lt_of_lt_of_le HMW3.out hj))
        (case aO => exact HL3.out)
        (case aS => exact Nat.le_of_lt (Nat.lt_trans (Nat.lt_trans HCB.out HRM.out) HMW3.out))
        (case aL => have := HKL.out; omega)
        intro v4 w5 ho hb5 hg5 hat5
        have hrow : ∀ k, (Value.slice A l.length c).ownBlock = some k → mb < k := fun k hk => HL3.out.1 k hk
        have HR5 := Aside0.mk (show RAt w5 rb r'.1 r'.2 from HR3.out.move (hg5.block rb (Row.lt HR3.out) (fun e => by have := hrow rb e.symm; have := HRM.out; omega)))
        have hM5 : Row w5 mb #[.int .i64 a1.1, .string a3.1, .string a5.1, .int .i64 a6.1, .slice A l.length c] 32 := HM3.out.move (hg5.block mb (Row.lt HM3.out) (fun e => by have := hrow mb e.symm; omega))
        have HZ5 := Aside0.mk (HZ3.out.move (hg5.block w.heap.size (Row.lt HZ3.out) (fun e => by have := hrow w.heap.size e.symm; have := HRM.out; have := HCB.out; omega)))
        have HB5 := Aside0.mk hb5
        have HL5 := Aside0.mk ho
        have HMW5 := Lib.hid (Nat.lt_of_lt_of_le HMW3.out hg5.size)
        have m45 : w5.cell? ⟨mb, 4, none⟩ = some (.slice A l.length c) := by have := hM5; unfold Row at this; simp [World.cell?, this]
        have f45 := hM5.free 4
        have HM5 := Aside0.mk hM5
        clear hrow hM5 hb5 hg5 hat5 ho HR3 HM3 HZ3 HB3 HL3 HMW3 hHeld hba
        refine hK.out _ _ m45 (fun hHeld => ?_)
        clear hK K
        obtain ⟨A5, c5, e5⟩ := Kd.R_slice HL5.out
        rw [show (l ++ [z]).length = l.length + 1 by simp] at e5
        subst e5
        refine norm_ (a' := ?_) ?_ ?_
        rotate_left
        · show Act.put _ (some 51) _ = _
          simp only [Act.put, List.setIfInBounds_toArray, List.set_cons_zero, List.set_cons_succ, i64_w, i32_w]
          rfl
        refine pure_ (i := 6) (N := some 52) (v := ?_) (a' := ?_) #[true, true, true, true, true, true, true, false] rfl rfl (by kernel_rfl) (fun _ _ _ h => h) (Or.inl ⟨by rfl, ?_⟩) ?_ ?_
        rotate_left
        · intro w'
          go_simp
          with_reducible rfl
        rotate_left
        · simp only [Act.put, List.setIfInBounds_toArray, List.set_cons_zero, List.set_cons_succ, i64_w, i32_w]
          rfl
        refine last_ (i := 7) (N := none) #[true, true, true, true, true, true, true, true] rfl rfl (by kernel_rfl) (by decide) (fun K hK => ?_)
        refine skip_ (w1 := ?_) (by rfl) rfl ?_ ?_
        rotate_left
        · go_simp
          rfl
        refine hK.out _ _ ?_
        clear hK K m45 f45 hHeld
        refine done_ (by kernel_rfl) ?_
        have HM6 := Aside0.mk (show Row (w5.setCell ⟨mb, 4, none⟩ (.slice A5 (l.length + 1) c5)) mb #[.int .i64 a1.1, .string a3.1, .string a5.1, .int .i64 a6.1, .slice A5 (l.length + 1) c5] 32 from set_at HM5.out 4 _)
        have HR6 := Aside0.mk (show RAt (w5.setCell ⟨mb, 4, none⟩ (.slice A5 (l.length + 1) c5)) rb r'.1 r'.2 from HR5.out.move (Below.heap_setCell _ _ _ _ (by have := HRM.out; show rb ≠ mb; omega)))
        have HZ6 := Aside0.mk (HZ5.out.move (w1 := w5.setCell ⟨mb, 4, none⟩ (.slice A5 (l.length + 1) c5)) (Below.heap_setCell _ _ _ _ (by have := HRM.out; have := HCB.out; show w.heap.size ≠ mb; omega)))
        have HL6 := Aside0.mk (Kd.R_far (p := ⟨mb, 4, none⟩) HL5.out (fun k hk => by show k ≠ mb; omega) (.slice A5 (l.length + 1) c5))
        have HB6 := Aside0.mk (HB5.out.setCell (p := ⟨mb, 4, none⟩) (by have := HRM.out; have := HCB.out; show w.heap.size ≤ mb; omega) (.slice A5 (l.length + 1) c5))
        have HS6 := Lib.hid (show chunksF (k - 1) r' (l ++ [z]) = chunksF a7.1.toNat a7.2 [] by rw [← HCH.out, chunksF_step k r l hb hk, HZR.out.1, HZR.out.2])
        have hkb : (k : Int) ≤ 1099511627776 := by have := HKL.out; omega
        have HKL6 := Lib.hid (show k - 1 + (l ++ [z]).length ≤ 1099511627776 by have := HKL.out; rw [show (l ++ [z]).length = l.length + 1 by simp]; omega)
        have HKS := Lib.hid (show (k : Int) - 1 = ((k - 1 : Nat) : Int) by omega)
        clear HM5 HR5 HZ5 HL5 HB5 HCH HKL hb
        go_wp2
        go_roundw
        case rel => exact ⟨k - 1, r', l ++ [z], _, by rw [HKS.out], HKL6, HR6, HM6, HL6, HS6, HZ6, HB6⟩
        case measure => simp [intOf]; omega
      | true =>
        have HF := Lib.hid (show decF s = (zeroM, 3) by
          rw [HDE.out, ← HCH.out, chunksF_true k r l hb]
          unfold decEnd
          simp only [hb, Bool.true_or, if_true])
        rw [hb] at r1
        obtain ⟨hz0, hz1, hz2, hz3, hz4⟩ := row5 HZ.out
        have hzf := fun k => HZ.out.free k
        clear hb HCH HKL HL HM HR
        go_wp2
        exact bodyPost_ret (results_cell_tmp rfl _ _ w.heap.size 32 #[.int .i64 0, .string ⟨#[]⟩, .string ⟨#[]⟩, .int .i64 0, .slice none 0 0] (0, 0) _ (.int .i64 3) rfl rfl (five_set HZ.out _ _ _ _ _) Tryz.underlying32 rfl (by kernel_rfl)) rfl ⟨_, ret_m (p := (zeroM, 3)) HF.out, by rw [HF.out]; exact Kd.R_nil _ _ _ _ _, five_below HB.out _ (Nat.le_refl _) _ _ _ _ _⟩
    · have hk0 : k = 0 := by omega
      subst hk0
      have HQ1 := Lib.hid (show decF s = decEnd a1.1 a3.1 a5.1 a6.1 (r, l) by rw [HDE.out, ← HCH.out]; rfl)
      obtain ⟨hz0, hz1, hz2, hz3, hz4⟩ := row5 HZ.out
      have hzf := fun k => HZ.out.free k
      clear hk
      cases hb : r.2 with
      | true =>
        have HF := Lib.hid (show decF s = (zeroM, 3) by
          rw [HQ1.out]
          unfold decEnd
          simp only [hb, Bool.true_or, if_true])
        rw [hb] at r1
        clear hb HCH HKL HL HM HR
        go_wp2
        exact bodyPost_ret (results_cell_tmp rfl _ _ w.heap.size 32 #[.int .i64 0, .string ⟨#[]⟩, .string ⟨#[]⟩, .int .i64 0, .slice none 0 0] (0, 0) _ (.int .i64 3) rfl rfl (five_set HZ.out _ _ _ _ _) Tryz.underlying32 rfl (by kernel_rfl)) rfl ⟨_, ret_m (p := (zeroM, 3)) HF.out, by rw [HF.out]; exact Kd.R_nil _ _ _ _ _, five_below HB.out _ (Nat.le_refl _) _ _ _ _ _⟩
      | false =>
        rw [hb] at r1
        cases hr : r.1.toList.isEmpty with
        | false =>
          have HF := Lib.hid (show decF s = (zeroM, 3) by
            rw [HQ1.out]
            unfold decEnd
            simp only [hb, hr, Bool.false_or, Bool.not_false, if_true])
          clear hb HCH HKL HL HM HR
          go_wp2
          exact bodyPost_ret (results_cell_tmp rfl _ _ w.heap.size 32 #[.int .i64 0, .string ⟨#[]⟩, .string ⟨#[]⟩, .int .i64 0, .slice none 0 0] (0, 0) _ (.int .i64 3) rfl rfl (five_set HZ.out _ _ _ _ _) Tryz.underlying32 rfl (by kernel_rfl)) rfl ⟨_, ret_m (p := (zeroM, 3)) HF.out, by rw [HF.out]; exact Kd.R_nil _ _ _ _ _, five_below HB.out _ (Nat.le_refl _) _ _ _ _ _⟩
        | true =>
          have HF := Lib.hid (show decF s = if checkF ⟨a1.1, a3.1, a5.1, a6.1, l⟩ = 0 then (⟨a1.1, a3.1, a5.1, a6.1, l⟩, 0) else (zeroM, checkF ⟨a1.1, a3.1, a5.1, a6.1, l⟩) by
            rw [HQ1.out]
            unfold decEnd
            simp only [hb, hr, Bool.false_or, Bool.not_true, Bool.false_eq_true, if_false])
          obtain ⟨m0, m1, m2, m3, m4⟩ := row5 HM.out
          have HCK := Lib.hid (show Calls Tryz.prog 39 #[.agg #[.int .i64 a1.1, .string a3.1, .string a5.1, .int .i64 a6.1, .slice A l.length c]] wr (fun e w' => e = .returned (.int .i64 (checkF ⟨a1.1, a3.1, a5.1, a6.1, l⟩)) ∧ Below wr.heap.size wr w') from Check_any ⟨a1.1, a3.1, a5.1, a6.1, l⟩ A c wr (Kd.R_reads' HL.out).2.2 (utf8_below hT HB.out) (by have := HPS.out; show a5.1.size ≤ _; omega) (by have := HKL.out; show l.length ≤ _; omega))
          have HZB := Lib.hid (Row.lt HZ.out)
          have HMB := Lib.hid (Row.lt HM.out)
          have hr2 : r.1.toList = [] := by simpa using hr
          clear hb HCH HKL HR
          go_wp2_with fail
          refine HCK.out.mono ?_
          rintro e w9 ⟨rfl, hb9⟩
          have HM9 := Aside0.mk (HM.out.move (hb9.block mb HMB.out))
          have HZ9 := Aside0.mk (HZ.out.move (hb9.block w.heap.size HZB.out))
          have HB9 := Aside0.mk (below_step HB.out hb9)
          have HL9 := Aside0.mk (Kd.R_below HL.out hb9)
          clear hb9 HM HZ HB HL hz0 hz1 hz2 hz3 hz4 hzf m0 m1 m2 m3 m4 HCK r0 r1
          obtain ⟨hz0, hz1, hz2, hz3, hz4⟩ := row5 HZ9.out
          have hzf := fun k => HZ9.out.free k
          obtain ⟨m0, m1, m2, m3, m4⟩ := row5 HM9.out
          obtain ⟨ce, hce⟩ : ∃ x, checkF ⟨a1.1, a3.1, a5.1, a6.1, l⟩ = x := ⟨_, rfl⟩
          rw [hce] at HF ⊢
          clear hce
          by_cases h0 : ce = 0
          · subst h0
            have HF2 := Lib.hid (show decF s = (⟨a1.1, a3.1, a5.1, a6.1, l⟩, 0) by rw [HF.out]; exact if_pos rfl)
            clear HF
            go_wp2
            exact bodyPost_ret (results_cell_tmp rfl _ _ w.heap.size 32 #[.int .i64 a1.1, .string a3.1, .string a5.1, .int .i64 a6.1, .slice A l.length c] (0, 0) _ (.int .i64 0) rfl rfl (five_set HZ9.out _ _ _ _ _) Tryz.underlying32 rfl (by kernel_rfl)) rfl ⟨_, ret_m (p := (⟨a1.1, a3.1, a5.1, a6.1, l⟩, 0)) HF2.out, by rw [HF2.out]; exact five_R HL9.out _ (fun k hk => by have := HRM.out; have := HCB.out; omega) _ _ _ _ _, five_below HB9.out _ (Nat.le_refl _) _ _ _ _ _⟩
          · have h0b : (ce != 0) = true := by simp [h0]
            have HF2 := Lib.hid (show decF s = (zeroM, ce) by rw [HF.out]; exact if_neg h0)
            clear HF h0
            go_wp2
            exact bodyPost_ret (results_cell_tmp rfl _ _ w.heap.size 32 #[.int .i64 0, .string ⟨#[]⟩, .string ⟨#[]⟩, .int .i64 0, .slice none 0 0] (0, 0) _ (.int .i64 ce) rfl rfl (five_set HZ9.out _ _ _ _ _) Tryz.underlying32 rfl (by kernel_rfl)) rfl ⟨_, ret_m (p := (zeroM, ce)) HF2.out, by rw [HF2.out]; exact Kd.R_nil _ _ _ _ _, five_below HB9.out _ (Nat.le_refl _) _ _ _ _ _⟩
end Go.Proofs.YtlilkfnfcaepiaaGreatDoor.M
