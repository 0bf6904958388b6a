/- Snapshots are sorted by the library. -/
import Derived.Test.YtlilkfnfcaepiaaGreatDoorXn
import Derived.Shelf.SlSortCmp.WholeK
import Derived.Shelf.SlSortCmp.NoneTotal
set_option linter.unusedSimpArgs false
set_option linter.unusedVariables false
namespace Go.Proofs.YtlilkfnfcaepiaaGreatDoor.M
open Go.RowKit Go.Sort Go.Proofs.YtlilkfnfcaepiaaGreatDoorW.PrintWords Go.Proofs.YtlilkfnfcaepiaaGreatDoorW.PrintLast Go.Proofs.YtlilkfnfcaepiaaGreatDoorW.PrintMore PB H D G

/-- Elements of several cells, each a plain value. -/
def _root_.Go.Proofs.YtlilkfnfcaepiaaGreatDoor.flatKd {α : Type} (enc : α → List Value) (k : Nat) (hk : ∀ x, (enc x).length = k) (h1 : ∀ x, ∀ v ∈ enc x, v.oneCell' = true) : Kd α where
  sz := k
  E := []
  K := fun _ x cs => cs = enc x
  M := fun _ _ _ x cs => cs = enc x
  K_len := by
    rintro w x cs rfl
    exact hk x
  K_one := by
    rintro w x cs rfl
    exact h1 x
  K_below := fun _ h => h
  K_of_M := fun h => h
  M_mono := fun _ h => h
  M_bound := fun h => h
  M_move := fun _ h => h
  M_lower := fun _ h => h
theorem SN.len (x : SN) : x.enc.length = 3 := rfl
theorem SN.one (x : SN) : ∀ v ∈ x.enc, v.oneCell' = true := by
  intro v hv
  simp only [SN.enc, List.mem_cons, List.not_mem_nil, or_false] at hv
  rcases hv with rfl | rfl | rfl <;> rfl
def snapKd : Kd SN := flatKd SN.enc 3 SN.len SN.one

theorem cmp_neg : ∀ a b : List UInt8, Lib.compareBytes b a = - Lib.compareBytes a b
  | [], [] => rfl
  | [], _ :: _ => rfl
  | _ :: _, [] => rfl
  | a :: ta, b :: tb => by
    simp only [Lib.compareBytes]
    by_cases h1 : a < b
    · have h2 : ¬ b < a := fun h => by rw [UInt8.lt_iff_toNat_lt] at h h1; omega
      simp [h1, h2]
    · by_cases h2 : b < a
      · simp [h1, h2]
      · simp [h1, h2, cmp_neg ta tb]
theorem cmp_zero : ∀ a b : List UInt8, Lib.compareBytes a b = 0 → a = b
  | [], [], _ => rfl
  | [], _ :: _, h => by simp [Lib.compareBytes] at h
  | _ :: _, [], h => by simp [Lib.compareBytes] at h
  | a :: ta, b :: tb, h => by
    simp only [Lib.compareBytes] at h
    by_cases h1 : a < b
    · rw [if_pos h1] at h; simp at h
    · rw [if_neg h1] at h
      by_cases h2 : b < a
      · rw [if_pos h2] at h; simp at h
      · rw [if_neg h2] at h
        have : a = b := by rw [UInt8.lt_iff_toNat_lt] at h1 h2; exact UInt8.toNat_inj.1 (by omega)
        rw [this, cmp_zero ta tb h]
theorem cmp_self : ∀ a : List UInt8, Lib.compareBytes a a = 0
  | [] => rfl
  | a :: ta => by
    have h : ¬ a < a := by rw [UInt8.lt_iff_toNat_lt]; omega
    simp only [Lib.compareBytes]
    rw [if_neg h, if_neg h, cmp_self ta]
theorem cmp_trans : ∀ a b c : List UInt8, Lib.compareBytes a b < 0 → Lib.compareBytes b c < 0 → Lib.compareBytes a c < 0
  | [], [], _, h, _ => by simp [Lib.compareBytes] at h
  | _ :: _, [], _, h, _ => by simp [Lib.compareBytes] at h
  | _, _ :: _, [], _, h => by simp [Lib.compareBytes] at h
  | [], _ :: _, _ :: _, _, _ => by simp [Lib.compareBytes]
  | a :: ta, b :: tb, c :: tc, h1, h2 => by
    simp only [Lib.compareBytes] at h1 h2 ⊢
    simp only [UInt8.lt_iff_toNat_lt] at h1 h2 ⊢
    by_cases e1 : a.toNat < b.toNat
    · by_cases e2 : b.toNat < c.toNat
      · rw [if_pos (by omega)]; decide
      · rw [if_neg e2] at h2
        by_cases e3 : c.toNat < b.toNat
        · rw [if_pos e3] at h2; simp at h2
        · rw [if_pos (by omega)]; decide
    · rw [if_neg e1] at h1
      by_cases e4 : b.toNat < a.toNat
      · rw [if_pos e4] at h1; simp at h1
      · rw [if_neg e4] at h1
        by_cases e2 : b.toNat < c.toNat
        · rw [if_pos (by omega)]; decide
        · rw [if_neg e2] at h2
          by_cases e3 : c.toNat < b.toNat
          · rw [if_pos e3] at h2; simp at h2
          · rw [if_neg e3] at h2
            rw [if_neg (by omega), if_neg (by omega)]
            exact cmp_trans ta tb tc h1 h2
theorem before_swo : ∀ x y z : SN, beforeF x x = 0 ∧ beforeF y x = - beforeF x y ∧ (beforeF x y < 0 → beforeF y z < 0 → beforeF x z < 0) ∧ (0 ≤ beforeF x y → 0 ≤ beforeF y z → 0 ≤ beforeF x z) := by
  have hneg : ∀ x y : SN, beforeF y x = - beforeF x y := by
    intro x y
    unfold beforeF
    by_cases h : x.time = y.time
    · rw [if_pos h, if_pos h.symm, cmp_neg]
    · rw [if_neg h, if_neg (Ne.symm h)]; omega
  have htr : ∀ x y z : SN, beforeF x y < 0 → beforeF y z < 0 → beforeF x z < 0 := by
    intro x y z
    unfold beforeF
    by_cases h : x.time = y.time
    · by_cases h2 : y.time = z.time
      · rw [if_pos h, if_pos h2, if_pos (h.trans h2)]; exact cmp_trans _ _ _
      · rw [if_pos h, if_neg h2, if_neg (by omega)]; omega
    · by_cases h2 : y.time = z.time
      · rw [if_neg h, if_pos h2, if_neg (by omega)]; omega
      · rw [if_neg h, if_neg h2]
        intro a b
        rw [if_neg (by omega)]; omega
  have hz : ∀ x y : SN, beforeF x y = 0 → x.time = y.time ∧ x.id.data.toList = y.id.data.toList := by
    intro x y h
    unfold beforeF at h
    by_cases ht : x.time = y.time
    · rw [if_pos ht] at h; exact ⟨ht, cmp_zero _ _ h⟩
    · rw [if_neg ht] at h; exact absurd (by omega) ht
  have hcg : ∀ x y z : SN, beforeF x y = 0 → beforeF x z = beforeF y z := by
    intro x y z h
    obtain ⟨h1, h2⟩ := hz x y h
    unfold beforeF
    rw [h1, h2]
  intro x y z
  refine ⟨?_, hneg x y, htr x y z, fun a b => ?_⟩
  · unfold beforeF; rw [if_pos rfl, cmp_self]
  · by_cases e1 : beforeF x y = 0
    · rw [hcg x y z e1]; exact b
    · by_cases e2 : beforeF y z = 0
      · have h3 : beforeF z y = 0 := by have := hneg y z; omega
        have h4 := hcg z y x h3
        have h5 := hneg x z
        have h6 := hneg x y
        omega
      · have h3 := htr z y x (by have := hneg y z; omega) (by have := hneg x y; omega)
        have := hneg x z
        omega
abbrev ST := {s : SN // 0 ≤ s.time ∧ s.time ≤ 253402300799}
instance : Inhabited ST := ⟨⟨⟨⟨#[]⟩, 0, ⟨#[]⟩⟩, by decide⟩⟩
def cfS (x y : ST) : Int := beforeF x.1 y.1
theorem cf_swo : SWO (ltOf cfS) := by
  constructor
  · intro x
    have := (before_swo x.1 x.1 x.1).1
    unfold ltOf cfS; rw [this]; rfl
  · intro x y z h1 h2
    unfold ltOf cfS at *
    simp only [decide_eq_true_eq] at *
    exact (before_swo x.1 y.1 z.1).2.2.1 h1 h2
  · intro x y z h1 h2
    unfold ltOf cfS at *
    simp only [decide_eq_false_iff_not, Int.not_lt] at *
    exact (before_swo x.1 y.1 z.1).2.2.2 h1 h2
theorem aE38 : ∀ w, (isAgg 38).run Tryz.prog w = .ok true w := fun w => by kernel_rfl
theorem zE38 : ∀ w, (Go.sizeOf 38).run Tryz.prog w = .ok 3 w := fun w => by kernel_rfl
set_option maxRecDepth 100000 in
theorem before_eq (a b : SN) (ha : 0 ≤ a.time ∧ a.time ≤ 253402300799) (hb : 0 ≤ b.time ∧ b.time ≤ 253402300799) (w : World) :
    Calls Tryz.prog 35 #[.agg a.enc.toArray, .agg b.enc.toArray] w fun e w' => e = .returned (.int .i64 (beforeF a b)) ∧ ∃ q os, w' = grow (w.drewN q) os := by
  have HG := Lib.hid (fun o1 o2 : Obj => (show ∃ q os, (w.alloc o1).alloc o2 = grow (w.drewN q) os from ⟨0, #[o1, o2], by rw [alloc_eq_grow, alloc_eq_grow, grow_grow]; rfl⟩))
  obtain ⟨ai, at_, ag⟩ := a
  obtain ⟨bi, bt_, bg⟩ := b
  simp only at ha hb
  unfold SN.enc
  simp only
  by_cases h : at_ = bt_
  · subst h
    have HF := Lib.hid (show beforeF ⟨ai, at_, ag⟩ ⟨bi, at_, bg⟩ = Lib.compareBytes ai.data.toList bi.data.toList from if_pos rfl)
    go_enter Tryz.func35, Tryz.ntmps35
    go_wp2_with fail
    refine (Tryz.strings_Compare ai bi _).mono ?_
    rintro e w2 ⟨rfl, rfl⟩
    generalize Lib.compareBytes ai.data.toList bi.data.toList = r at HF ⊢
    go_wp2
    go_ret
    exact ⟨ret_i HF.out.symm, HG.out _ _⟩
  · have HF := Lib.hid (show beforeF ⟨ai, at_, ag⟩ ⟨bi, bt_, bg⟩ = at_ - bt_ from if_neg h)
    have hne : (at_ != bt_) = true := by simp [h]
    have hne2 : (at_ == bt_) = false := by simp [h]
    have hw : IntKind.i64.wrap (at_ - bt_) = at_ - bt_ := IntWalk.i64_in _ (by omega)
    clear h
    go_enter Tryz.func35, Tryz.ntmps35
    go_wp2
    go_ret
    exact ⟨ret_i HF.out.symm, HG.out _ _⟩
def encT (x : ST) : List Value := x.1.enc
theorem flat_get (d : Array ST) (j i : Nat) (hj : j < d.size) (hi : i < 3) : (flatK encT 3 d)[j * 3 + i]? = (encT d[j])[i]? := by
  have h : j * 3 + i < (flatK encT 3 d).size := by rw [size_flatK]; omega
  have h2 := get_flatK encT 3 d (j * 3 + i) (by omega)
  rw [_root_.getElem!_pos (flatK encT 3 d) (j * 3 + i) h] at h2
  have e1 : (j * 3 + i) / 3 = j := by omega
  have e2 : (j * 3 + i) % 3 = i := by omega
  rw [e1, e2, _root_.getElem!_pos d j hj] at h2
  rw [Array.getElem?_eq_getElem h, h2]
  have hl : (encT d[j]).length = 3 := rfl
  rw [_root_.getElem!_pos (encT d[j]) i (by rw [hl]; exact hi), List.getElem?_eq_getElem (by rw [hl]; exact hi)]
theorem reps_get {L : List SN} {inner : List Value} (h : Reps (fun (x : SN) cs => cs = x.enc) 3 L inner) (j i : Nat) (hj : j < L.length) (hi : i < 3) : inner[j * 3 + i]? = (L[j].enc)[i]? := by
  have h2 := h.2 j L[j] (List.getElem?_eq_getElem hj)
  rw [← h2, List.getElem?_take_of_lt hi, List.getElem?_drop]
theorem reps_flat (d : Array ST) : Reps (fun (x : SN) cs => cs = x.enc) 3 (d.toList.map (·.1)) (flatK encT 3 d).toList := by
  refine ⟨by simp, fun j p hp => ?_⟩
  have hj : j < d.size := by
    have := (List.getElem?_eq_some_iff.1 hp).1; simpa using this
  have hpe : p = d[j].1 := by
    rw [List.getElem?_map, Array.getElem?_toList, Array.getElem?_eq_getElem hj] at hp; simpa using hp.symm
  subst hpe
  apply List.ext_getElem?
  intro i
  by_cases hi : i < 3
  · rw [List.getElem?_take_of_lt hi, List.getElem?_drop, Array.getElem?_toList, flat_get d j i hj hi]; rfl
  · have h1 : (List.take 3 (List.drop (j * 3) (flatK encT 3 d).toList)).length ≤ i := by
      rw [List.length_take]; omega
    rw [List.getElem?_eq_none h1, List.getElem?_eq_none (by show 3 ≤ i; omega)]
theorem sort_any {w : World} {base : Nat} {ok : Nat → Prop} {v : Value} {L : List SN} (h : Kd.R snapKd 38 w base ok v L) (ht : ∀ s ∈ L, 0 ≤ s.time ∧ s.time ≤ 253402300799) (hl : L.length < 4611686018427387904) :
    Calls Tryz.prog 34 #[v, .func (.func 35) #[] #[]] w fun e w' => e = .returned (.tuple #[]) ∧ ∃ L', L'.Perm L ∧ L'.Pairwise (fun x y => beforeF x y ≤ 0) ∧ Kd.R snapKd 38 w' base ok v L' ∧ w.grownBy w' v.ownBlock := by
  have h' := h
  obtain ⟨h0, inner, hown, hr⟩ := h
  have hr2 : Reps (fun (x : SN) cs => cs = x.enc) 3 L inner := hr
  by_cases hn : L = []
  · subst hn
    obtain ⟨A, c, rfl⟩ := Kd.R_slice h'
    exact (AnyF.slices_SortFunc_none Tryz.sortL A c _ w).mono (fun e w' ⟨he, hw⟩ => ⟨he, [], List.Perm.refl _, List.Pairwise.nil, by rw [hw]; exact h', by rw [hw]; exact World.grownBy.refl _ _⟩)
  · have hpos : 0 < L.length := List.length_pos_iff.2 hn
    rcases hown.2 with ⟨_, h2⟩ | ⟨g, cap, cur, rfl, hbase, hg, hnc, hm, hs, htk⟩
    · omega
    · have hd : ∃ d : Array ST, d.toList.map (·.1) = L := ⟨(L.pmap (fun s hs => (⟨s, hs⟩ : ST)) ht).toArray, by simp [List.map_pmap]⟩
      obtain ⟨d, hdL⟩ := hd
      have hds : d.size = L.length := by rw [← hdL]; simp
      have hgl : g < w.heap.size := (Array.getElem?_eq_some_iff.1 hg).1
      have hH : HoldsK encT 3 w g 0 d := by
        intro t ht2
        rw [size_flatK] at ht2
        have hj : t / 3 < d.size := by omega
        have hjL : t / 3 < L.length := by omega
        have e1 : t = t / 3 * 3 + t % 3 := by omega
        refine ⟨?_, by simp [World.frozen?, hg]⟩
        have h3 := flat_get d (t / 3) (t % 3) hj (by omega)
        have h4 := reps_get hr2 (t / 3) (t % 3) hjL (by omega)
        rw [← e1] at h3 h4
        have hsz : t < (flatK encT 3 d).size := by rw [size_flatK]; exact ht2
        have e5 : L[t / 3] = d[t / 3].1 := by
          have : (d.toList.map (·.1))[t / 3]? = some d[t / 3].1 := by simp [hj]
          rw [hdL, List.getElem?_eq_getElem hjL] at this
          exact Option.some.inj this
        have e6 : cur[t]? = inner[t]? := by
          rw [← htk, List.getElem?_take_of_lt (by show t < L.length * 3; omega), Array.getElem?_toList]
        simp only [World.cell?, hg, Nat.zero_add, Option.isSome_none, Bool.false_eq_true, if_false]
        rw [e6, h4, e5]
        rw [Array.getElem?_eq_getElem hsz] at h3
        rw [_root_.getElem!_pos (flatK encT 3 d) t hsz]
        exact h3.symm
      have hc := AnyQ.slices_SortFunc Tryz.sortL 3 aE38 zE38 encT (fun x => SN.len x.1) (fun x => SN.one x.1) cfS cf_swo 35 #[] g 0 cap d w (enters_of Tryz.func35 (by kernel_rfl) rfl) (fun m os dk _ x y => before_eq x.1 y.1 x.2 y.2 _) hH hgl (by omega)
      rw [hds] at hc
      refine hc.mono ?_
      rintro e w' ⟨he, d', n, os, ⟨hp1, _, hp3⟩, hso, hw⟩
      have e1 : d'.extract 0 L.length = d' := by rw [← hds, ← hp1]; exact Array.extract_size
      have e2 : d.extract 0 L.length = d := by rw [← hds]; exact Array.extract_size
      rw [e1, e2] at hp3
      have hwg : w'.heap[g]? = some (.cells (putCells id 0 (flatK encT 3 d') cur) 38 (0, 0)) := by
        rw [hw]
        show (grow (putRow id (Sort.ahead w n) g 0 (flatK encT 3 d')) os).heap[g]? = _
        rw [heap_grow_old _ _ (by simpa using hgl)]
        simp [putRow, mapBlock, Sort.ahead, Array.getElem?_modify, hg, onCells]
      have hd's : d'.size = L.length := by rw [hp1, hds]
      refine ⟨he, d'.toList.map (fun (x : ST) => x.1), ?_, ?_, ⟨h0, (flatK encT 3 d').toList, ⟨by simp [snapKd, flatKd], .inr ⟨g, cap, putCells id 0 (flatK encT 3 d') cur, by simp [hd's], hbase, hwg, by simpa [hd's] using hnc, hm, by simpa [putCells] using hs, ?_⟩⟩, reps_flat d'⟩, ?_⟩
      · rw [← hdL]; exact hp3.map _
      · rw [List.pairwise_map, List.pairwise_iff_getElem]
        intro i j hi hj hij
        have := hso i j (Nat.zero_le _) hij (by rw [← hd's]; simpa using hj)
        unfold ltOf cfS at this
        simp only [decide_eq_false_iff_not, Int.not_lt] at this
        have hi' : i < d'.size := by simpa using hi
        have hj' : j < d'.size := by simpa using hj
        rw [_root_.getElem!_pos d' i hi', _root_.getElem!_pos d' j hj'] at this
        have h3 := (before_swo d'[i].1 d'[j].1 d'[i].1).2.1
        simp only [Array.getElem_toList]
        omega
      · have hsz : (flatK encT 3 d').size = L.length * 3 := by rw [size_flatK, hd's]
        have hcs : L.length * 3 ≤ cur.size := by rw [hs]; exact Nat.mul_le_mul_right _ hnc
        apply List.ext_getElem?
        intro j
        simp only [List.length_map, Array.length_toList, hd's]
        by_cases hj : j < L.length * 3
        · rw [List.getElem?_take_of_lt (by exact hj), Array.getElem?_toList, Array.getElem?_toList]
          simp [putCells, hsz, hj, show j < cur.size by omega]
        · rw [List.getElem?_eq_none (by rw [List.length_take]; have : snapKd.sz = 3 := rfl; rw [this]; omega), List.getElem?_eq_none (by simp [hd's]; omega)]
      · rw [hw]
        refine ⟨rfl, rfl, rfl, by simp [sortWorldK, putRowK, putRow, mapBlock, Sort.ahead], fun k hk hne => ?_⟩
        show (grow (putRow id (Sort.ahead w n) g 0 (flatK encT 3 d')) os).heap[k]? = _
        rw [heap_grow_old _ _ (by simpa using hk)]
        have : g ≠ k := fun e => hne (by simp [Value.ownBlock, e])
        simp [putRow, mapBlock, Sort.ahead, Array.getElem?_modify, this]
end Go.Proofs.YtlilkfnfcaepiaaGreatDoor.M
