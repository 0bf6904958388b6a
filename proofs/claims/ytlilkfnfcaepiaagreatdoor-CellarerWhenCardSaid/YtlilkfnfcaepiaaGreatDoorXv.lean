/- manifest.List answers what its Lean function does. -/
import Derived.Test.YtlilkfnfcaepiaaGreatDoorXr
import Derived.Test.YtlilkfnfcaepiaaGreatDoorXt
import Derived.Test.YtlilkfnfcaepiaaGreatDoorXu
set_option linter.unusedSimpArgs false
set_option linter.unusedVariables false
namespace Go.Proofs.YtlilkfnfcaepiaaGreatDoor.M
open Go.RowKit Go.Proofs.YtlilkfnfcaepiaaGreatDoorW.PrintWords Go.Proofs.YtlilkfnfcaepiaaGreatDoorW.PrintLast Go.Proofs.YtlilkfnfcaepiaaGreatDoorW.PrintMore PB H D G

def idOf (nm : ByteArray) : ByteArray := nm.extract 1 nm.size
def snapOf (a : AD) (nm : ByteArray) : Option SN := if (loadM a (idOf nm)).2 = 0 then some ⟨idOf nm, (loadM a (idOf nm)).1.time, (loadM a (idOf nm)).1.tag⟩ else none
def badOf1 (a : AD) (nm : ByteArray) : Option ByteArray := if (loadM a (idOf nm)).2 = 0 then none else some (idOf nm)
theorem fm_snoc {α β : Type} (f : α → Option β) (l : List α) (k : Nat) (hk : k < l.length) (z : α) (hz : l[k]? = some z) : (l.take (k + 1)).filterMap f = (l.take k).filterMap f ++ (f z).toList := by
  have e : l[k] = z := by rw [List.getElem?_eq_getElem hk] at hz; exact Option.some.inj hz
  rw [List.take_succ_eq_append_getElem hk, List.filterMap_append, e]
  cases h : f z <;> simp [h]
theorem dec_gen {α : Type} (c : Bool) (z x : α) (f : α → Int) (h : (if c = true then (z, (3 : Int)) else if f x = 0 then (x, 0) else (z, f x)).2 = 0) : f (if c = true then (z, (3 : Int)) else if f x = 0 then (x, 0) else (z, f x)).1 = 0 := by
  by_cases hc : c = true
  · rw [if_pos hc] at h; simp at h
  · rw [if_neg hc] at h ⊢
    by_cases hf : f x = 0
    · rw [if_pos hf]; exact hf
    · rw [if_neg hf] at h; exact absurd h hf
theorem decEnd_ok (t : Int) (g p : ByteArray) (z : Int) (q : RS × List ByteArray) (h : (decEnd t g p z q).2 = 0) : checkF (decEnd t g p z q).1 = 0 := by
  unfold decEnd at h ⊢
  generalize (q.1.2 || !q.1.1.toList.isEmpty) = c at h ⊢
  generalize (⟨t, g, p, z, q.2⟩ : MF) = x at h ⊢
  generalize zeroM = y at h ⊢
  generalize checkF = f at h ⊢
  exact dec_gen c y x f h
theorem dec_ok (s : ByteArray) (h : (decF s).2 = 0) : checkF (decF s).1 = 0 := by
  have e : decF s = decEnd (decHead s).time (decHead s).tag (decHead s).parent (decHead s).size (chunksF (decHead s).cnt.toNat (decHead s).r []) := by unfold decF decEnd; rfl
  rw [e] at h ⊢
  exact decEnd_ok _ _ _ _ _ h
theorem load_gen {α : Type} (c e : Int) (z x : α) (f : α → Prop) (hx : e = 0 → f x) (h : (if c = 0 then (if e = 0 then (x, (0 : Int)) else (z, 13)) else (z, c)).2 = 0) : f (if c = 0 then (if e = 0 then (x, (0 : Int)) else (z, 13)) else (z, c)).1 := by
  by_cases hc : c = 0
  · rw [if_pos hc] at h ⊢
    by_cases he : e = 0
    · rw [if_pos he]; exact hx he
    · rw [if_neg he] at h; simp at h
  · rw [if_neg hc] at h; exact absurd h hc
theorem load_ok (a : AD) (id : ByteArray) (h : (loadM a id).2 = 0) : checkF (loadM a id).1 = 0 := by
  have hd := dec_ok (AD.load a sN (fileN id)).1
  unfold loadM at h ⊢
  generalize (AD.load a sN (fileN id)).2 = c at h ⊢
  generalize decF (AD.load a sN (fileN id)).1 = q at h hd ⊢
  generalize zeroM = y at h ⊢
  generalize checkF = f at h hd ⊢
  exact load_gen c q.2 y q.1 (fun m => f m = 0) hd h
theorem snaps_time (a : AD) (l : List ByteArray) : ∀ s ∈ l.filterMap (snapOf a), 0 ≤ s.time ∧ s.time ≤ 253402300799 := by
  intro s hs
  obtain ⟨nm, _, hn⟩ := List.mem_filterMap.1 hs
  unfold snapOf at hn
  split at hn
  · next h =>
    have hc := check0 _ (load_ok a _ h)
    obtain rfl := Option.some.inj hn
    exact ⟨hc.1, hc.2.1⟩
  · cases hn
theorem types_ne {α β : Type} {d : Kd α} {d2 : Kd β} {e e2 : Nat} {w : World} {base base2 : Nat} {ok ok2 : Nat → Prop} {v v2 : Value} {xs : List α} {ys : List β} (h : d.R e w base ok v xs) (h2 : d2.R e2 w base2 ok2 v2 ys) (hne : e ≠ e2) : ∀ k, v.ownBlock = some k → some k ≠ v2.ownBlock := by
  intro k hk hk2
  obtain ⟨_, i1, o1, _⟩ := h
  obtain ⟨_, i2, o2, _⟩ := h2
  obtain ⟨c1, h1⟩ := own_typed o1 k hk
  obtain ⟨c2, h2⟩ := own_typed o2 k hk2.symm
  rw [h1] at h2
  injection h2 with h2
  injection h2 with _ h2 _
  exact hne h2
theorem info38 : (Tryz.prog.info? 38).map (fun i => (i.zero, i.size, i.bytes)) = some (some (.agg #[.string ⟨#[]⟩, .int .i64 0, .string ⟨#[]⟩]), 3, 40) := by kernel_rfl
def SnapPost (w : World) (a : AD) (L : List ByteArray) (e : Ending) (w' : World) : Prop :=
  ∃ v1 v2 L', e = .returned (.tuple #[v1, v2, .int .i64 0]) ∧ L'.Perm (L.filterMap (snapOf a)) ∧ L'.Pairwise (fun x y => beforeF x y ≤ 0) ∧ Kd.R snapKd 38 w' w.heap.size (fun _ => True) v1 L' ∧ Kd.R Kd.string 9 w' w.heap.size (fun _ => True) v2 (L.filterMap (badOf1 a)) ∧ Below w.heap.size w w'

set_option maxRecDepth 100000 in
set_option maxHeartbeats 4000000 in
theorem List_man {w : World} {F : Nat → Prop} {base d n : Nat} {a : AD} (h : DiskAt w F base d n a) (hn : n ≤ 1000000) (hd : a.dead = false) (hT : Lib.Utf8Tabs 1 2 w) (hns : ∀ s ∈ listOf a.fm, s.size ≤ 900000) (hlen : (listOf a.fm).length ≤ 1000000) :
    Calls Tryz.prog 11 #[.pointer (some ⟨d, 0, none⟩)] w (SnapPost w a ((listOf a.fm).filter (packIs sN))) := by
  have HN := Lib.hid (packs_Names h hn hd sN (by decide) (fun s hs => by have := hns s hs; omega) hlen)
  have hlen2 : ((listOf a.fm).filter (packIs sN)).length ≤ 1000000 := Nat.le_trans (List.length_filter_le _ _) hlen
  have hns2 : ∀ s ∈ (listOf a.fm).filter (packIs sN), s.size ≤ 900000 ∧ 1 ≤ s.size := fun s hs => by
    have h1 := List.mem_filter.1 hs
    refine ⟨hns s h1.1, ?_⟩
    have h2 := h1.2
    unfold packIs cutOk at h2
    simp only [Bool.and_eq_true, decide_eq_true_eq] at h2
    exact h2.1.1
  have HLD := Lib.hid (fun (w1 : World) (hb : Below w.heap.size w w1) (id : ByteArray) (hs : id.size ≤ 900000) => Load_any (disk_below h hb) id hs (utf8_below hT hb))
  obtain ⟨L, hL⟩ : ∃ L, (listOf a.fm).filter (packIs sN) = L := ⟨_, rfl⟩
  rw [hL] at HN hlen2 hns2 ⊢
  clear hns hlen h hd hL hT hn
  go_enter Tryz.func11, Tryz.ntmps11
  go_wp2_with fail
  refine HN.out.mono ?_
  rintro e w1 ⟨v, rfl, hR, hB⟩
  clear HN
  have HR := Aside0.mk (Kd.R_mono (Kd.R_bound hR) (fun k (hk : _ ∧ _ ∧ _ ∧ _) => (show k < w1.heap.size from hk.2.2.1)))
  have HB := Aside0.mk hB
  have HSZ := Aside0.mk hB.size
  clear hR hB
  obtain ⟨A, c, rfl⟩ := Kd.R_slice HR.out
  obtain ⟨m, hm⟩ : ∃ m, L.length = m := ⟨_, rfl⟩
  rw [hm] at HR hlen2 ⊢
  go_wp2
  go_loopw [7, 8, 24] (fun v7 v8 v24 wr => ∃ k : Nat, k ≤ m ∧ v24 = .int .i64 k ∧ Aside0 (Kd.R snapKd 38 wr w1.heap.size (fun k => w1.heap.size ≤ k) v7 ((L.take k).filterMap (snapOf a))) ∧ Aside0 (Kd.R Kd.string 9 wr w1.heap.size (fun k => w1.heap.size ≤ k) v8 ((L.take k).filterMap (badOf1 a))) ∧ Aside0 (Kd.R Kd.string 9 wr w.heap.size (fun k => k < w1.heap.size) (.slice A m c) L) ∧ Aside0 (Below w.heap.size w wr) ∧ Aside0 (w1.heap.size ≤ wr.heap.size)) (fun _ _ v24 _ => m - (intOf v24).toNat)
  case atStart => exact ⟨0, by omega, rfl, ⟨Kd.R_nil _ _ _ _ _⟩, ⟨Kd.R_nil _ _ _ _ _⟩, HR, HB, ⟨Nat.le_refl _⟩⟩
  case round =>
    clear HR HB
    obtain ⟨k, hk, rfl, HS, HO, HR, HB, HZ⟩ := hrel
    obtain ⟨A1, c1, rfl⟩ := Kd.R_slice HS.out
    obtain ⟨A2, c2, rfl⟩ := Kd.R_slice HO.out
    by_cases hlt : k < m
    · have hkm : (k : Int) < (m : Int) := by omega
      have hC := (Kd.R_reads' HR.out).2.2
      obtain ⟨ad, hA, hcell⟩ := Kd.at_string hC (k : Int) (by omega) (by omega)
      subst hA
      rw [Int.toNat_natCast] at hcell
      obtain ⟨z, hz⟩ : ∃ z, rdOf ByteArray.empty L (k : Int) = z := ⟨_, rfl⟩
      rw [hz] at hcell
      have hze : L[k]? = some z := by
        rw [← hz]; unfold rdOf; rw [Int.toNat_natCast]
        have hl : k < L.length := by omega
        simp [hl]
      have hzs := hns2 z (List.mem_of_getElem? hze)
      have HF1 := Lib.hid (fm_snoc (snapOf a) L k (by omega) z hze)
      have HF2 := Lib.hid (fm_snoc (badOf1 a) L k (by omega) z hze)
      clear hz hze hC
      have HK := Lib.hid (And.intro hk hlt)
      clear hk hlt
      have hz1 : (1 : Int) ≤ (z.size : Int) := by omega
      have hz2 : z.size ≤ 900000 := hzs.1
      have HID := Lib.hid (show idOf z = z.extract 1 z.size from rfl)
      go_wp2_with fail
      rw [← HID.out]
      have his : (idOf z).size ≤ 900000 := by rw [HID.out, ByteArray.size_extract]; omega
      refine (HLD.out wr HB.out (idOf z) his).mono ?_
      rintro e w3 ⟨v, rfl, hRc, hb⟩
      obtain ⟨A3, c3, e3⟩ := Kd.R_slice hRc
      subst e3
      have HS3 := Aside0.mk (Kd.R_below HS.out hb)
      have HO3 := Aside0.mk (Kd.R_below HO.out hb)
      have HR3 := Aside0.mk (Kd.R_below HR.out hb)
      have HB3 := Aside0.mk (below_step HB.out hb)
      have HZ3 := Aside0.mk (Nat.le_trans HZ.out hb.size)
      clear hb HS HO HR HB HZ hcell his hRc
      have HM := Lib.hid (show snapOf a z = if (loadM a (idOf z)).2 = 0 then some ⟨idOf z, (loadM a (idOf z)).1.time, (loadM a (idOf z)).1.tag⟩ else none from rfl)
      have HM2 := Lib.hid (show badOf1 a z = if (loadM a (idOf z)).2 = 0 then none else some (idOf z) from rfl)
      generalize idOf z = id at HM HM2 HID ⊢
      generalize loadM a id = q at HM HM2 ⊢
      obtain ⟨⟨qt, qg, qp, qz, ql⟩, qe⟩ := q
      simp only at HM HM2 ⊢
      generalize ql.length = n3
      have HW3 := Aside0.mk (show w.heap.size ≤ w1.heap.size from HSZ.out)
      have HBA := Aside0.mk (HB3.out.alloc (Nat.le_trans HSZ.out HZ3.out) (Obj.cells #[.int .i64 qt, .string qg, .string qp, .int .i64 qz, .slice A3 n3 c3] 32))
      have HSA := Aside0.mk (Kd.R_alloc HS3.out (Obj.cells #[.int .i64 qt, .string qg, .string qp, .int .i64 qz, .slice A3 n3 c3] 32))
      have HOA := Aside0.mk (Kd.R_alloc HO3.out (Obj.cells #[.int .i64 qt, .string qg, .string qp, .int .i64 qz, .slice A3 n3 c3] 32))
      have HRA := Aside0.mk (Kd.R_alloc HR3.out (Obj.cells #[.int .i64 qt, .string qg, .string qp, .int .i64 qz, .slice A3 n3 c3] 32))
      have HZA := Aside0.mk (show w1.heap.size ≤ (w3.alloc (Obj.cells #[.int .i64 qt, .string qg, .string qp, .int .i64 qz, .slice A3 n3 c3] 32)).heap.size from Nat.le_trans HZ3.out (by simp))
      clear HS3 HO3 HR3 HB3 HZ3
      by_cases hq : qe = 0
      · subst hq
        have HF3 := Lib.hid (show (L.take (k + 1)).filterMap (snapOf a) = (L.take k).filterMap (snapOf a) ++ [⟨id, qt, qg⟩] by rw [HF1.out, HM.out, if_pos rfl]; rfl)
        have HF4 := Lib.hid (show (L.take (k + 1)).filterMap (badOf1 a) = (L.take k).filterMap (badOf1 a) by rw [HF2.out, HM2.out, if_pos rfl]; simp)
        clear HF1 HF2 HM HM2
        obtain ⟨l1, hl1⟩ : ∃ l1, (L.take k).filterMap (snapOf a) = l1 := ⟨_, rfl⟩
        have hll : l1.length ≤ 1000000 := by rw [← hl1]; exact Nat.le_trans (List.length_filterMap_le _ _) (by rw [List.length_take]; omega)
        rw [hl1] at HSA HF3 ⊢
        have HLN := Aside0.mk (show (l1.length + 1) * 40 ≤ 140737488355328 by omega)
        clear hl1 hll
        obtain ⟨n1, hn1⟩ : ∃ n1, l1.length = n1 := ⟨_, rfl⟩
        have HN1 := Lib.hid hn1
        rw [hn1] at HSA HLN ⊢
        clear hn1
        go_wp2_with (first | ((with_reducible refine gate_builtin (b := .append) (xs := #[.tmp 42, .tmp 49]) rfl ?_); at_builtin; refine halt_at ?_) | fail)
        unfold Halted
        have hsz4 : (w3.alloc (Obj.cells #[.int .i64 qt, .string qg, .string qp, .int .i64 qz, .slice A3 n3 c3] 32)).heap.size = w3.heap.size + 1 := by simp
        generalize w3.alloc (Obj.cells #[.int .i64 qt, .string qg, .string qp, .int .i64 qz, .slice A3 n3 c3] 32) = w4 at HSA HOA HRA HBA HZA hsz4 ⊢
        rw [← hsz4]
        clear hsz4
        refine Kd.R_append snapKd (w0 := w4) w1.heap.size rfl (.tmp 42) (.tmp 49) 34 38 (.agg #[.string ⟨#[]⟩, .int .i64 0, .string ⟨#[]⟩]) 40 rfl Tryz.underlying34 info38 rfl (by decide) (by omega) (.slice A1 n1 c1) l1 ⟨id, qt, qg⟩ [.string id, .int .i64 qt, .string qg] (fun k => w1.heap.size ≤ k) (fun _ => False) rfl rfl ?aP (fun _ hk => hk.elim) ?aF ?aO ?aB ?aS ?aL ?_
        (case aP => exact rfl)
        (case aF => intro k hk; exact Nat.le_trans HZA.out hk)
        (case aO => exact HSA.out)
        (case aB => exact Below.refl _ _)
        (case aS => exact HZA.out)
        (case aL => have := HN1.out; have := HLN.out; omega)
        intro v4 w5 ho hb hg hat
        have HR5 := Aside0.mk (Kd.R_grown HRA.out hg (fun k hk e => by have := HSA.out.1 k e.symm; omega))
        have HO5 := Aside0.mk (Kd.R_grown2 HOA.out rfl hg (fun k hk => types_ne HSA.out HOA.out (by decide) k hk))
        have HS5 := Aside0.mk ho
        have HB5 := Aside0.mk (below_size_trans HBA.out hb HW3.out)
        have HZ5 := Aside0.mk (Nat.le_trans HZA.out hb.size)
        clear ho hb hg hat
        go_wp2
        go_roundw
        case rel => exact ⟨k + 1, by have := HK.out; omega, by go_num, ⟨by rw [HF3.out]; exact HS5.out⟩, ⟨by rw [HF4.out]; exact HO5.out⟩, HR5, HB5, HZ5⟩
        case measure => simp [intOf]; have := HK.out; omega
      · have hqb : (qe != 0) = true := by simp [hq]
        have HF3 := Lib.hid (show (L.take (k + 1)).filterMap (snapOf a) = (L.take k).filterMap (snapOf a) by rw [HF1.out, HM.out, if_neg hq]; simp)
        have HF4 := Lib.hid (show (L.take (k + 1)).filterMap (badOf1 a) = (L.take k).filterMap (badOf1 a) ++ [id] by rw [HF2.out, HM2.out, if_neg hq]; rfl)
        clear HF1 HF2 HM HM2 hq
        obtain ⟨l2, hl2⟩ : ∃ l2, (L.take k).filterMap (badOf1 a) = l2 := ⟨_, rfl⟩
        have hll : l2.length ≤ 1000000 := by rw [← hl2]; exact Nat.le_trans (List.length_filterMap_le _ _) (by rw [List.length_take]; omega)
        rw [hl2] at HOA HF4 ⊢
        have HLN := Aside0.mk (show (l2.length + 1) * 16 ≤ 140737488355328 by omega)
        clear hl2 hll
        go_wp2_with (first | ((with_reducible refine gate_builtin (b := .append) (xs := #[.tmp 38, .tmp 40]) rfl ?_); at_builtin; refine halt_at ?_) | fail)
        unfold Halted
        have hsz4 : (w3.alloc (Obj.cells #[.int .i64 qt, .string qg, .string qp, .int .i64 qz, .slice A3 n3 c3] 32)).heap.size = w3.heap.size + 1 := by simp
        generalize w3.alloc (Obj.cells #[.int .i64 qt, .string qg, .string qp, .int .i64 qz, .slice A3 n3 c3] 32) = w4 at HSA HOA HRA HBA HZA hsz4 ⊢
        rw [← hsz4]
        clear hsz4
        refine Kd.R_append Kd.string (w0 := w4) w1.heap.size rfl (.tmp 38) (.tmp 40) 30 9 (.string ByteArray.empty) 16 rfl Tryz.underlying30 PB.info9 rfl (by decide) (by omega) (.slice A2 l2.length c2) l2 id [.string id] (fun k => w1.heap.size ≤ k) (fun _ => False) rfl rfl ?bP (fun _ hk => hk.elim) ?bF ?bO ?bB ?bS ?bL ?_
        (case bP => exact rfl)
        (case bF => intro k hk; exact Nat.le_trans HZA.out hk)
        (case bO => exact HOA.out)
        (case bB => exact Below.refl _ _)
        (case bS => exact HZA.out)
        (case bL => exact HLN.out)
        intro v4 w5 ho hb hg hat
        have HR5 := Aside0.mk (Kd.R_grown HRA.out hg (fun k hk e => by have := HOA.out.1 k e.symm; omega))
        have HS5 := Aside0.mk (Kd.R_grown2 HSA.out rfl hg (fun k hk => types_ne HOA.out HSA.out (by decide) k hk))
        have HO5 := Aside0.mk ho
        have HB5 := Aside0.mk (below_size_trans HBA.out hb HW3.out)
        have HZ5 := Aside0.mk (Nat.le_trans HZA.out hb.size)
        clear ho hb hg hat
        go_wp2
        go_roundw
        case rel => exact ⟨k + 1, by have := HK.out; omega, by go_num, ⟨by rw [HF3.out]; exact HS5.out⟩, ⟨by rw [HF4.out]; exact HO5.out⟩, HR5, HB5, HZ5⟩
        case measure => simp [intOf]; have := HK.out; omega
    · have hkm : k = m := by omega
      subst hkm
      have HT := Lib.hid (show L.take k = L from List.take_of_length_le (by omega))
      rw [HT.out] at HS HO ⊢
      have hll : (L.filterMap (snapOf a)).length ≤ 1000000 := Nat.le_trans (List.length_filterMap_le _ _) (by omega)
      have HSORT := Lib.hid (sort_any HS.out (snaps_time a L) (by omega))
      have HN1 := Aside0.mk (fun (w' : World) (hg : wr.grownBy w' (Value.slice A1 (L.filterMap (snapOf a)).length c1).ownBlock) => Kd.R_grown2 HO.out rfl hg (fun k hk => types_ne HS.out HO.out (by decide) k hk))
      have HOK := Aside0.mk HS.out.1
      obtain ⟨l1, hl1⟩ : ∃ l, L.filterMap (snapOf a) = l := ⟨_, rfl⟩
      obtain ⟨l2, hl2⟩ : ∃ l, L.filterMap (badOf1 a) = l := ⟨_, rfl⟩
      rw [hl1] at HS HSORT hll HN1 HOK ⊢
      rw [hl2] at HO HN1 ⊢
      have HL1 := Lib.hid hl1
      have HL2 := Lib.hid hl2
      clear hl1 hl2
      go_wp2_with fail
      refine HSORT.out.mono ?_
      rintro e w5 ⟨rfl, l3, hp, hs, hR5, hg⟩
      have HO5 := Aside0.mk (HN1.out w5 hg)
      have HS5 := Aside0.mk hR5
      have HP5 := Aside0.mk (And.intro hp hs)
      have HB5 := Aside0.mk (HB.out.grown hg HB.out.size (fun k hk => Nat.le_trans HSZ.out (HOK.out k hk)))
      have hl3 := hp.length_eq
      clear hp hs hR5 hg HS HO HSORT HN1 HOK HB HR
      go_wp2
      go_ret3
      exact ⟨.slice A1 l1.length c1, .slice A2 l2.length c2, l3, rfl, by rw [HL1.out]; exact HP5.out.1, HP5.out.2, Kd.R_mono (Kd.R_lower HS5.out HSZ.out) (fun _ _ => trivial), by rw [HL2.out]; exact Kd.R_mono (Kd.R_lower HO5.out HSZ.out) (fun _ _ => trivial), HB5.out⟩
end Go.Proofs.YtlilkfnfcaepiaaGreatDoor.M
