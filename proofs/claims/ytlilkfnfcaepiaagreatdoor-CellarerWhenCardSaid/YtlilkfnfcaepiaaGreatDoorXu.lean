/- Few keeps at most sixty chunks. -/
import Derived.Test.YtlilkfnfcaepiaaGreatDoorXo
set_option linter.unusedSimpArgs false
set_option linter.unusedVariables false
namespace Go.Proofs.YtlilkfnfcaepiaaGreatDoor.M
open Go.RowKit Go.Proofs.YtlilkfnfcaepiaaGreatDoorW.PrintWords Go.Proofs.YtlilkfnfcaepiaaGreatDoorW.PrintLast Go.Proofs.YtlilkfnfcaepiaaGreatDoorW.PrintMore PB H D G

def Halted (p : Prop) : Prop := p
theorem halt_at {p : Prop} (h : Halted p) : p := h
theorem two_rows (w : World) (c1 c2 : Array Value) (t1 t2 : Nat) : Row ((w.alloc (.cells c1 t1)).alloc (.cells c2 t2)) w.heap.size c1 t1 ∧ Row ((w.alloc (.cells c1 t1)).alloc (.cells c2 t2)) (w.heap.size + 1) c2 t2 ∧ ((w.alloc (.cells c1 t1)).alloc (.cells c2 t2)).heap.size = w.heap.size + 2 :=
  ⟨heap_alloc2_old w _ _, heap_alloc2_new w _ _, by simp⟩
theorem take_C {w : World} {A : Option Addr} {n : Nat} {l : List ByteArray} (h : Kd.C Kd.string w A n l) (k : Nat) (hk : k ≤ n) : Kd.C Kd.string w A k (l.take k) := by
  obtain ⟨h1, h2, h3⟩ := h
  refine ⟨by rw [List.length_take]; omega, by omega, fun hp => ?_⟩
  obtain ⟨ad, e, hcell⟩ := h3 (by omega)
  refine ⟨ad, e, fun j p hj => hcell j p ?_⟩
  by_cases hjk : j < k
  · rwa [List.getElem?_take_of_lt hjk] at hj
  · rw [List.getElem?_eq_none (by rw [List.length_take]; omega)] at hj; cases hj
set_option maxRecDepth 100000 in
set_option maxHeartbeats 4000000 in
theorem Few_any (t : Int) (g p : ByteArray) (z : Int) (l : List ByteArray) (A : Option Addr) (c : Nat) (w : World) (hC : Kd.C Kd.string w A l.length l) (hc : l.length ≤ c) :
    Calls Tryz.prog 10 #[.agg #[.int .i64 t, .string g, .string p, .int .i64 z, .slice A l.length c]] w fun e w' => ∃ v, e = .returned (.agg #[.int .i64 t, .string g, .string p, .int .i64 z, v]) ∧ Kd.R Kd.string 9 w' w.heap.size (fun _ => True) v (l.take 60) ∧ Below w.heap.size w w' := by
  obtain ⟨n, hn⟩ : ∃ n, l.length = n := ⟨_, rfl⟩
  rw [hn] at hC hc ⊢
  by_cases h60 : 60 < n
  · have h60i : (60 : Int) < (n : Int) := by omega
    have hc60 : 60 ≤ c := by omega
    have HC := Lib.hid (take_C hC 60 (by omega))
    obtain ⟨_, _, hA⟩ := hC
    obtain ⟨ad, rfl, _⟩ := hA (by omega)
    have hb0 : Below w.heap.size w ((w.alloc (Obj.cells #[.int .i64 t, .string g, .string p, .int .i64 z, .slice (some ad) n c] 32)).alloc (Obj.cells #[.int .i64 0, .string ⟨#[]⟩, .string ⟨#[]⟩, .int .i64 0, .slice none 0 0] 32)) := (Below.alloc' (Nat.le_refl _) _).trans (Below.alloc' (by simp) _)
    obtain ⟨r1, r2, hz⟩ := two_rows w #[.int .i64 t, .string g, .string p, .int .i64 z, .slice (some ad) n c] #[.int .i64 0, .string ⟨#[]⟩, .string ⟨#[]⟩, .int .i64 0, .slice none 0 0] 32 32
    have H1 := Aside0.mk r1
    have H2 := Aside0.mk r2
    have HB := Aside0.mk hb0
    have HZ := Aside0.mk hz
    clear r1 r2 hz hb0
    go_enter Tryz.func10, Tryz.ntmps10
    go_wp2_with (first | ((with_reducible refine gate_dst (N := 11) rfl ?_); refine Kd.R_lit Kd.string _ 9 ?hg (N := 11) ?hd (xs := ([] : List ByteArray)) (inner := []) (ok := fun _ => True) (okp := fun _ => True) ?hr ?hp (fun _ hk => hk) trivial (Below.refl _ _) (Nat.le_refl _) (by simp) ?_; (case hd => rfl); (case hg => rfl); (case hr => first | (go_simp; done) | (go_simp; rfl)); (case hp => exact (Reps.none _ _)); intro v11 w10 ho11 hb hg_ hnew_; have I1 := Aside0.mk (H1.out.move (hb.block _ (Row.lt H1.out))); have I2 := Aside0.mk (H2.out.move (hb.block _ (Row.lt H2.out))); have IB := Aside0.mk (below_step HB.out hb); have IZ := Aside0.mk (Nat.le_trans (Nat.le_of_eq HZ.out.symm) hb.size); have IQo := Aside0.mk (Kd.R_lower (base' := w.heap.size) (Kd.R_mono (Kd.R_bound ho11) (fun k (hk : _ ∧ _ ∧ _ ∧ _) => (show w.heap.size + 2 ≤ k from by have := hk.2.1; have := HZ.out; omega))) (by have := HZ.out; omega)); clear hb hg_ hnew_ ho11 H1 H2 HB HZ; obtain ⟨A1, c1, e1⟩ := Kd.R_slice IQo.out; subst e1) | ((with_reducible refine gate_builtin (b := .append) (xs := #[.tmp 11, .tmp 12]) rfl ?_); at_builtin; refine halt_at ?_) | fail)
    unfold Halted
    refine Kd.R_append_rows Kd.string (w0 := w) w.heap.size rfl (.tmp 11) (.tmp 12) 30 9 (.string ⟨#[]⟩) 16 rfl Tryz.underlying30 PB.info9 rfl (by decide) (by omega) (.slice A1 ([] : List ByteArray).length c1) [] (l.take 60) _ _ _ (fun k => w.heap.size + 2 ≤ k) (fun _ => False) rfl rfl ?aO ?aR (fun _ _ h => h) (fun _ h => h.elim) ?aF ?aB ?aS ?aL ?_
    (case aR => exact Kd.C_below HC.out IB.out)
    (case aB => exact IB.out)
    (case aF => exact (fun k hk => Nat.le_trans IZ.out hk))
    (case aO => exact IQo.out)
    (case aS => exact (by have := IZ.out; omega))
    (case aL => simp only [List.length_nil]; omega)
    intro v12 w12 ho hb hg hat
    have J1 := Aside0.mk (I1.out.move (hg.block _ (Row.lt I1.out) (fun e => by have := IQo.out.1 _ e.symm; omega)))
    have J2 := Aside0.mk (I2.out.move (hg.block _ (Row.lt I2.out) (fun e => by have := IQo.out.1 _ e.symm; omega)))
    have JB := Aside0.mk hb
    have JO := Aside0.mk ho
    clear hb hg hat ho I1 I2 IB IQo
    obtain ⟨A2, c2, e2⟩ := Kd.R_slice JO.out
    subst e2
    obtain ⟨a0, a1, a2, a3, a4⟩ := row5 J1.out
    have af := fun k => J1.out.free k
    obtain ⟨b0, b1, b2, b3, b4⟩ := row5 J2.out
    have bf := fun k => J2.out.free k
    have JO2 := Aside0.mk (show Kd.R Kd.string 9 w12 w.heap.size (fun k => w.heap.size + 2 ≤ k) (.slice A2 (min 60 n) c2) (l.take 60) by
      have h := JO.out
      rw [show (([] : List ByteArray) ++ (l.take 60)).length = (min 60 n) by rw [List.nil_append, List.length_take, hn], List.nil_append] at h
      exact h)
    clear JO
    go_wp2
    exact bodyPost_ret (results_cell_row rfl _ _ (w.heap.size + 1) 32 #[.int .i64 t, .string g, .string p, .int .i64 z, .slice A2 (min 60 n) c2] (0, 0) _ rfl (five_set (J2.out.move (w1 := w12.setCell ⟨w.heap.size, 4, none⟩ (.slice A2 (min 60 n) c2)) (Below.heap_setCell _ _ _ _ (by show w.heap.size + 1 ≠ w.heap.size; omega))) _ _ _ _ _) Tryz.underlying32 rfl (by kernel_rfl)) rfl ⟨_, rfl, (five_R (Kd.R_far (p := ⟨w.heap.size, 4, none⟩) JO2.out (fun k hk => by show k ≠ w.heap.size; omega) _) (w.heap.size + 1) (fun k hk => by omega) _ _ _ _ _), five_below (JB.out.setCell (p := ⟨w.heap.size, 4, none⟩) (Nat.le_refl _) _) _ (by omega) _ _ _ _ _⟩
  · have h60i : ¬ (60 : Int) < (n : Int) := by omega
    have HC := Lib.hid hC
    clear hC
    have HLT := Lib.hid (show l.take 60 = l from List.take_of_length_le (by omega))
    have hb0 : Below w.heap.size w ((w.alloc (Obj.cells #[.int .i64 t, .string g, .string p, .int .i64 z, .slice A n c] 32)).alloc (Obj.cells #[.int .i64 0, .string ⟨#[]⟩, .string ⟨#[]⟩, .int .i64 0, .slice none 0 0] 32)) := (Below.alloc' (Nat.le_refl _) _).trans (Below.alloc' (by simp) _)
    obtain ⟨r1, r2, hz⟩ := two_rows w #[.int .i64 t, .string g, .string p, .int .i64 z, .slice A n c] #[.int .i64 0, .string ⟨#[]⟩, .string ⟨#[]⟩, .int .i64 0, .slice none 0 0] 32 32
    have H1 := Aside0.mk r1
    have H2 := Aside0.mk r2
    have HB := Aside0.mk hb0
    have HZ := Aside0.mk hz
    clear r1 r2 hz hb0
    go_enter Tryz.func10, Tryz.ntmps10
    go_wp2_with (first | ((with_reducible refine gate_dst (N := 11) rfl ?_); refine Kd.R_lit Kd.string _ 9 ?hg (N := 11) ?hd (xs := ([] : List ByteArray)) (inner := []) (ok := fun _ => True) (okp := fun _ => True) ?hr ?hp (fun _ hk => hk) trivial (Below.refl _ _) (Nat.le_refl _) (by simp) ?_; (case hd => rfl); (case hg => rfl); (case hr => first | (go_simp; done) | (go_simp; rfl)); (case hp => exact (Reps.none _ _)); intro v11 w10 ho11 hb hg_ hnew_; have I1 := Aside0.mk (H1.out.move (hb.block _ (Row.lt H1.out))); have I2 := Aside0.mk (H2.out.move (hb.block _ (Row.lt H2.out))); have IB := Aside0.mk (below_step HB.out hb); have IZ := Aside0.mk (Nat.le_trans (Nat.le_of_eq HZ.out.symm) hb.size); have IQo := Aside0.mk (Kd.R_lower (base' := w.heap.size) (Kd.R_mono (Kd.R_bound ho11) (fun k (hk : _ ∧ _ ∧ _ ∧ _) => (show w.heap.size + 2 ≤ k from by have := hk.2.1; have := HZ.out; omega))) (by have := HZ.out; omega)); clear hb hg_ hnew_ ho11 H1 H2 HB HZ; obtain ⟨A1, c1, e1⟩ := Kd.R_slice IQo.out; subst e1) | ((with_reducible refine gate_builtin (b := .append) (xs := #[.tmp 11, .tmp 12]) rfl ?_); at_builtin; refine halt_at ?_) | fail)
    unfold Halted
    refine Kd.R_append_rows Kd.string (w0 := w) w.heap.size rfl (.tmp 11) (.tmp 12) 30 9 (.string ⟨#[]⟩) 16 rfl Tryz.underlying30 PB.info9 rfl (by decide) (by omega) (.slice A1 ([] : List ByteArray).length c1) [] l _ _ _ (fun k => w.heap.size + 2 ≤ k) (fun _ => False) rfl rfl ?bO ?bR (fun _ _ h => h) (fun _ h => h.elim) ?bF ?bB ?bS ?bL ?_
    (case bR => exact Kd.C_below HC.out IB.out)
    (case bB => exact IB.out)
    (case bF => exact (fun k hk => Nat.le_trans IZ.out hk))
    (case bO => exact IQo.out)
    (case bS => exact (by have := IZ.out; omega))
    (case bL => simp only [List.length_nil]; omega)
    intro v12 w12 ho hb hg hat
    have J1 := Aside0.mk (I1.out.move (hg.block _ (Row.lt I1.out) (fun e => by have := IQo.out.1 _ e.symm; omega)))
    have J2 := Aside0.mk (I2.out.move (hg.block _ (Row.lt I2.out) (fun e => by have := IQo.out.1 _ e.symm; omega)))
    have JB := Aside0.mk hb
    have JO := Aside0.mk ho
    clear hb hg hat ho I1 I2 IB IQo
    obtain ⟨A2, c2, e2⟩ := Kd.R_slice JO.out
    subst e2
    obtain ⟨a0, a1, a2, a3, a4⟩ := row5 J1.out
    have af := fun k => J1.out.free k
    obtain ⟨b0, b1, b2, b3, b4⟩ := row5 J2.out
    have bf := fun k => J2.out.free k
    have JO2 := Aside0.mk (show Kd.R Kd.string 9 w12 w.heap.size (fun k => w.heap.size + 2 ≤ k) (.slice A2 n c2) l by
      have h := JO.out
      rw [show (([] : List ByteArray) ++ l).length = n by rw [List.nil_append, hn], List.nil_append] at h
      exact h)
    clear JO
    go_wp2
    exact bodyPost_ret (results_cell_row rfl _ _ (w.heap.size + 1) 32 #[.int .i64 t, .string g, .string p, .int .i64 z, .slice A2 n c2] (0, 0) _ rfl (five_set (J2.out.move (w1 := w12.setCell ⟨w.heap.size, 4, none⟩ (.slice A2 n c2)) (Below.heap_setCell _ _ _ _ (by show w.heap.size + 1 ≠ w.heap.size; omega))) _ _ _ _ _) Tryz.underlying32 rfl (by kernel_rfl)) rfl ⟨_, rfl, by rw [HLT.out]; exact (five_R (Kd.R_far (p := ⟨w.heap.size, 4, none⟩) JO2.out (fun k hk => by show k ≠ w.heap.size; omega) _) (w.heap.size + 1) (fun k hk => by omega) _ _ _ _ _), five_below (JB.out.setCell (p := ⟨w.heap.size, 4, none⟩) (Nat.le_refl _) _) _ (by omega) _ _ _ _ _⟩
end Go.Proofs.YtlilkfnfcaepiaaGreatDoor.M
