/- The law CellarerWhen, walked. -/
import Derived.Test.YtlilkfnfcaepiaaGreatDoorXw
import Derived.Test.YtlilkfnfcaepiaaGreatDoorXy
import Derived.Deep.QuietTactic
import Derived.BigQuiet
set_option linter.unusedSimpArgs false
set_option linter.unusedVariables false
namespace Go.Proofs.YtlilkfnfcaepiaaGreatDoor.M
open Go.RowKit Go.Proofs.YtlilkfnfcaepiaaGreatDoorW.PrintWords Go.Proofs.YtlilkfnfcaepiaaGreatDoorW.PrintLast Go.Proofs.YtlilkfnfcaepiaaGreatDoorW.PrintMore PB H D G Y

/-- A manifest's five cells. -/
def ManAt (w : World) (b o : Nat) (m : MF) : Prop := ∃ A c, w.cell? ⟨b, o, none⟩ = some (.int .i64 m.time) ∧ w.cell? ⟨b, o + 1, none⟩ = some (.string m.tag) ∧ w.cell? ⟨b, o + 2, none⟩ = some (.string m.parent) ∧ w.cell? ⟨b, o + 3, none⟩ = some (.int .i64 m.size) ∧ w.cell? ⟨b, o + 4, none⟩ = some (.slice A m.chunks.length c) ∧
  Kd.C Kd.string w A m.chunks.length m.chunks ∧ m.chunks.length ≤ c ∧ m.parent.size ≤ 140737488351232 ∧ m.chunks.length ≤ 140737488351232
/-- An argument that is a slice of manifests. -/
def MansAt (w : World) (A : Option Addr) (l : List MF) : Prop := ∀ i m, l[i]? = some m → ∃ b o, A = some ⟨b, o, none⟩ ∧ b < w.heap.size ∧ ManAt w b (o + i * 5) m
theorem ManAt.below {w w1 : World} {b o : Nat} {m : MF} (h : ManAt w b o m) (hb : Below w.heap.size w w1) (hl : b < w.heap.size) : ManAt w1 b o m := by
  obtain ⟨A, c, h0, h1, h2, h3, h4, h5, h6⟩ := h
  exact ⟨A, c, (hb.cell (p := ⟨b, o, none⟩) hl).trans h0, (hb.cell (p := ⟨b, o + 1, none⟩) hl).trans h1, (hb.cell (p := ⟨b, o + 2, none⟩) hl).trans h2, (hb.cell (p := ⟨b, o + 3, none⟩) hl).trans h3, (hb.cell (p := ⟨b, o + 4, none⟩) hl).trans h4, Kd.C_below h5 hb, h6⟩
theorem fm_len {α β : Type} (f : α → Option β) : ∀ l : List α, (∀ s ∈ l, ∃ y, f s = some y) → (l.filterMap f).length = l.length
  | [], _ => rfl
  | a :: l, h => by
    obtain ⟨y, hy⟩ := h a List.mem_cons_self
    rw [List.filterMap_cons_some hy, List.length_cons, List.length_cons, fm_len f l (fun s hs => h s (List.mem_cons_of_mem _ hs))]
/-- A snapshot's cells in a list of them. -/
theorem snap_cells {w : World} {base : Nat} {ok : Nat → Prop} {A : Option Addr} {n c : Nat} {L : List SN} (h : Kd.R snapKd 38 w base ok (.slice A n c) L) (k : Nat) (x : SN) (hk : L[k]? = some x) :
    ∃ b, A = some ⟨b, 0, none⟩ ∧ b < w.heap.size ∧ w.cell? ⟨b, k * 3, none⟩ = some (.string x.id) ∧ w.cell? ⟨b, k * 3 + 1, none⟩ = some (.int .i64 x.time) ∧ w.cell? ⟨b, k * 3 + 2, none⟩ = some (.string x.tag) := by
  obtain ⟨_, inner, hown, hr⟩ := h
  have hr2 : Reps (fun (x : SN) cs => cs = x.enc) 3 L inner := hr
  have hkl : k < L.length := (List.getElem?_eq_some_iff.1 hk).1
  have hx : L[k] = x := by rw [List.getElem?_eq_getElem hkl] at hk; exact Option.some.inj hk
  rcases hown.2 with ⟨_, h2⟩ | ⟨g, cap, cur, he, hbase, hg, hnc, hm, hs, htk⟩
  · have h3 : L.length = 0 := h2
    omega
  · injection he with e1 e2 e3
    have hgl : g < w.heap.size := (Array.getElem?_eq_some_iff.1 hg).1
    have key : ∀ i, i < 3 → w.cell? ⟨g, k * 3 + i, none⟩ = (x.enc)[i]? := by
      intro i hi
      have h4 := reps_get hr2 k i hkl hi
      rw [hx] at h4
      rw [← h4, ← htk, List.getElem?_take_of_lt (by show k * 3 + i < L.length * 3; omega), Array.getElem?_toList]
      simp only [World.cell?, hg, Option.isSome_none, Bool.false_eq_true, if_false]
    exact ⟨g, e1, hgl, (key 0 (by omega)).trans rfl, (key 1 (by omega)).trans rfl, (key 2 (by omega)).trans rfl⟩
/-- What the law asks of each snapshot of the list. -/
def Told (a : AD) (x : SN) : Prop := ∃ m, checkF m = 0 ∧ loadM a x.id = (m, 0) ∧ x.time = m.time ∧ x.tag = m.tag ∧ x.id.size = 64 ∧ 0 ≤ x.time ∧ x.time ≤ 253402300799
theorem told_all {w : World} {F : Nat → Prop} {base d n : Nat} {a : AD} (h : Mans a) (hd : DiskAt w F base d n a) {L : List SN} (hp : L.Perm ((listOf a.fm).filterMap (snapOf a))) : (∀ x ∈ L, Told a x) ∧ L.length = (listOf a.fm).length := by
  obtain ⟨_, _, key⟩ := mans_list h hd
  refine ⟨fun x hx => ?_, ?_⟩
  · obtain ⟨s, hs, he⟩ := List.mem_filterMap.1 (hp.mem_iff.1 hx)
    obtain ⟨m, h1, h2, h3, h4, h5, h6⟩ := key s hs
    rw [h5] at he
    obtain rfl := Option.some.inj he
    have hc := check0 m h1
    exact ⟨m, h1, h6, rfl, rfl, nameF_size _, hc.1, hc.2.1⟩
  · rw [hp.length_eq]
    refine fm_len _ _ (fun s hs => ?_)
    obtain ⟨m, h1, h2, h3, h4, h5, h6⟩ := key s hs
    exact ⟨_, h5⟩
theorem before_time {x y : SN} (h : beforeF x y ≤ 0) : x.time ≤ y.time := by
  unfold beforeF at h
  by_cases e : x.time = y.time
  · omega
  · rw [if_neg e] at h; omega
theorem list_empty : listOf (AD.empty 1048576).fm = [] := by
  unfold listOf
  rw [show strKeys (AD.empty 1048576).fm = [] from rfl]
  simp
theorem date0 : dateS (dateR 0) = ⟨#[49, 57, 55, 48, 45, 48, 49, 45, 48, 49]⟩ := by
  have h := (dateR_f 0 (by omega) (by omega)).2
  have e : dateR 0 = (1970, 0, 0) := by
    revert h
    generalize dateR 0 = r
    intro h
    obtain ⟨y, m, d⟩ := r
    obtain ⟨hy, hm0, hm1, hd0, hd1, hs⟩ := h
    simp only at *
    have hc := cum_0 y m
    have hy2 : y = 1970 := by
      by_cases e : y = 1970
      · exact e
      · have := dby_mono 1971 y (by omega)
        have e2 : dby 1971 - dby 1970 = 365 := by decide
        omega
    subst hy2
    have hd : d = 0 := by omega
    have hm : m = 0 := by
      have hv := cum_vals 1970 m
      have hf := fe_01 1970
      omega
    rw [hd, hm]
  rw [e]; rfl

set_option maxRecDepth 100000 in
set_option maxHeartbeats 20000000 in
theorem When_walk (l : List MF) (A : Option Addr) (c : Nat) (w : World) (hA : MansAt w A l) (hl : l.length ≤ 9223372036854775807) (hT : Lib.Utf8Tabs 1 2 w) :
    Calls Tryz.prog 3 #[.slice A l.length c] w fun e w' => e = .returned (.bool true) ∧ Below w.heap.size w w' := by
  have HNEW := Lib.hid (New_any 1048576 (by omega) (by omega) w)
  have HD0 := Lib.hid (fun w1 => Date_any 0 (by omega) (by omega) w1)
  rw [date0] at HD0
  obtain ⟨len, hlen⟩ : ∃ n, l.length = n := ⟨_, rfl⟩
  have HLEN := Lib.hid hlen
  rw [hlen] at hl ⊢
  clear hlen
  have HA := Aside0.mk hA
  have HT := Aside0.mk hT
  clear hA hT
  go_enter Tryz.func3, Tryz.ntmps3
  go_wp2_with fail
  refine HNEW.out.mono ?_
  rintro e w1 ⟨d, rfl, hdk, hb⟩
  have HB1 := Aside0.mk hb
  have HD1 := Aside0.mk hdk
  clear hb hdk HNEW
  go_wp2_with fail
  refine (HD0.out w1).mono ?_
  rintro e w2 ⟨rfl, hb⟩
  have HB2 := Aside0.mk (below_step HB1.out hb)
  have HD2 := Aside0.mk (disk_below HD1.out hb)
  clear hb HD1 HD0
  go_wp2_with fail
  have HG2 := Aside0.mk (DG.start HD2.out)
  have HBW := Aside0.mk (show ∀ (n : Nat) (a : AD) (wr : World), DG w2 (fun b => w.heap.size ≤ b ∧ b < w1.heap.size) w.heap.size d n a wr → Below w.heap.size w wr from fun n a wr h => HB2.out.trans (h.chg.toBelow HB2.out.size (fun k hk hf => by have := hf.1; omega)))
  clear HB1 HD2
  go_loopw [7, 8] (fun v7 v8 wr => ∃ (i n : Nat) (a : AD), v8 = .int .i64 i ∧ v7 = .int .i64 n ∧ Hid (i ≤ len ∧ i ≤ 10 ∧ n ≤ i) ∧ Aside0 (DG w2 (fun b => w.heap.size ≤ b ∧ b < w1.heap.size) w.heap.size d (5 * i) a wr) ∧ Aside0 (Mans a) ∧ Hid ((listOf a.fm).length ≤ n ∧ (0 < n → listOf a.fm ≠ []))) (fun _ v8 _ => 10 - (intOf v8).toNat)
  case atStart => exact ⟨0, 0, _, rfl, rfl, Lib.hid ⟨by omega, by omega, by omega⟩, HG2, ⟨mans_empty⟩, Lib.hid ⟨by rw [list_empty]; exact Nat.le_refl _, fun h => by omega⟩⟩
  case round =>
    clear HG2
    obtain ⟨i, n, a, rfl, rfl, HI, HG, HM, HC⟩ := hrel
    have hi := HI.out
    have hin : (i : Int) ≤ 10 ∧ (n : Int) ≤ 10 := by omega
    by_cases hlt : i < len
    · by_cases h10 : i < 10
      · have hltI : (i : Int) < (len : Int) := by omega
        have h10I : (i : Int) < 10 := by omega
        have hll : i < l.length := by rw [HLEN.out]; exact hlt
        obtain ⟨m, hm⟩ : ∃ m, l[i]? = some m := ⟨_, List.getElem?_eq_getElem hll⟩
        obtain ⟨b, o, hAe, hbl, hma⟩ := HA.out i m hm
        subst hAe
        have HW := Aside0.mk (HBW.out _ _ _ HG.out)
        obtain ⟨Ac, cc, c0, c1, c2, c3, c4, hC, hcc, hps, hcl⟩ := hma.below (w1 := wr) HW.out hbl
        have HFW := Lib.hid (Few_any m.time m.tag m.parent m.size m.chunks Ac cc wr hC hcc)
        clear hC hma
        go_wp2_with fail
        refine HFW.out.mono ?_
        rintro e w3 ⟨v, rfl, hR, hb⟩
        obtain ⟨A3, cs3, e3⟩ := Kd.R_slice hR
        subst e3
        have hR' := Kd.R_reads' hR
        have HG3 := Aside0.mk (HG.out.below hb)
        have HW3 := Aside0.mk (HBW.out _ _ _ HG3.out)
        have hlt60 : (m.chunks.take 60).length ≤ 60 := by rw [List.length_take]; omega
        have HPB := Lib.hid (man_Publish HG3.out.disk (by omega) ⟨m.time, m.tag, m.parent, m.size, m.chunks.take 60⟩ A3 cs3 hR'.2.2 hR'.2.1 (utf8_below HT.out HW3.out) hps (by show (m.chunks.take 60).length ≤ _; omega))
        have HPL := Lib.hid (fun id (hid : w3.heap.size ≤ id) => manPub_calm HM.out HG3.out.disk (by omega) ⟨m.time, m.tag, m.parent, m.size, m.chunks.take 60⟩ hlt60 id hid)
        have HCN := Lib.hid (fun (id : Nat) (w4 : World) (hid : w3.heap.size ≤ id) (hd4 : DG w2 (fun b => w.heap.size ≤ b ∧ b < w1.heap.size) w.heap.size d (5 * i + 5) (manPub a ⟨m.time, m.tag, m.parent, m.size, m.chunks.take 60⟩ id).2 w4) => mans_count HG3.out.disk hd4.disk (fileN (nameF (encS ⟨m.time, m.tag, m.parent, m.size, m.chunks.take 60⟩))) (encS ⟨m.time, m.tag, m.parent, m.size, m.chunks.take 60⟩) (decide (checkF ⟨m.time, m.tag, m.parent, m.size, m.chunks.take 60⟩ = 0)) (fun s => by rw [(HPL.out id hid).2.2 s]; simp))
        generalize m.chunks.take 60 = ch at HPB HPL HCN hlt60 ⊢
        clear hR hR' hb HFW c0 c1 c2 c3 c4 hcc hps hcl hm HG HW
        go_wp2_with fail
        refine HPB.out.mono ?_
        rintro e w4 ⟨id, hid, rfl, h4⟩
        have HG4 := Aside0.mk (HG3.out.trans h4)
        obtain ⟨q1, q2, q3⟩ := HPL.out id hid
        have HN4 := Aside0.mk (HCN.out id w4 hid HG4.out)
        have HM4 := Aside0.mk q2
        clear h4 q2 q3 HPL HPB HG3 HCN
        generalize manPub a ⟨m.time, m.tag, m.parent, m.size, ch⟩ id = r at q1 HG4 HN4 HM4 ⊢
        obtain ⟨⟨rn, re⟩, ra⟩ := r
        simp only at q1 HG4 HN4 HM4 ⊢
        have hre : checkF ⟨m.time, m.tag, m.parent, m.size, ch⟩ = re := (Prod.mk.inj q1).2.symm
        rw [hre] at HN4
        clear q1 hre
        by_cases he : re = 0
        · subst he
          have HC4 := Lib.hid (show (listOf ra.fm).length ≤ n + 1 ∧ (0 < n + 1 → listOf ra.fm ≠ []) from by
            have h1 := HN4.out
            simp only [decide_true, if_true] at h1
            have h2 := HC.out
            exact ⟨by omega, fun _ => h1.2.1 trivial⟩)
          clear HN4 HC
          go_wp2
          go_roundw
          case rel => exact ⟨i + 1, n + 1, ra, by go_num, by go_num, Lib.hid ⟨by omega, by omega, by omega⟩, HG4, HM4, HC4⟩
          case measure => simp [intOf]; omega
        · have heb : (re == 0) = false := by simp [he]
          have HC4 := Lib.hid (show (listOf ra.fm).length ≤ n ∧ (0 < n → listOf ra.fm ≠ []) from by
            have h1 := HN4.out
            simp only [he, decide_false, Bool.false_eq_true, if_false] at h1
            have h2 := HC.out
            exact ⟨by omega, fun h => h1.2.2 (h2.2 h)⟩)
          clear HN4 HC he
          go_wp2
          go_roundw
          case rel => exact ⟨i + 1, n, ra, by go_num, by go_num, Lib.hid ⟨by omega, by omega, by omega⟩, HG4, HM4, HC4⟩
          case measure => simp [intOf]; omega
      · have h10I : ¬ (i : Int) < 10 := by omega
        have hltI : (i : Int) < (len : Int) := by omega
        have hw := HBW.out _ _ _ HG.out
        have hml := mans_list HM.out HG.out.disk
        have hdl := disk_list HG.out.disk
        have HLM := Lib.hid (List_man HG.out.disk (by omega) HM.out.calm.live (utf8_below HT.out hw) (fun s hs => by
          obtain ⟨m, _, _, h3, _⟩ := hml.2.2 s hs
          rw [h3, file_size]; omega) (by have := hdl.2.2; omega))
        rw [hml.1] at HLM
        have HBD := Lib.hid hml.2.1
        have HTA := Aside0.mk (fun (L : List SN) (hp : L.Perm ((listOf a.fm).filterMap (snapOf a))) => told_all HM.out HG.out.disk hp)
        have HW := Aside0.mk hw
        have HDK := Aside0.mk HG.out.disk
        clear hw hml hdl HG HM
        go_wp2_with fail
        refine HLM.out.mono ?_
        rintro e w5 ⟨v1, v2, L, rfl, hp, hs, hR1, hR2, hb5⟩
        rw [HBD.out] at hR2
        obtain ⟨A1, k1, e1⟩ := Kd.R_slice hR1
        obtain ⟨A2, k2, e2⟩ := Kd.R_slice hR2
        subst e1
        subst e2
        obtain ⟨hta, hlen⟩ := HTA.out L hp
        have HTA5 := Aside0.mk hta
        have HS5 := Aside0.mk hs
        have HR5 := Aside0.mk hR1
        have HB5 := Aside0.mk (below_step HW.out hb5)
        have HD5 := Aside0.mk (disk_below HDK.out hb5)
        have hN1 : L.length ≤ n := by have := HC.out.1; omega
        have hN2 : 0 < n → 0 < L.length := fun h => by
          have h2 := HC.out.2 h
          have h3 := List.length_pos_iff.2 h2
          omega
        clear hta hs hR1 hR2 hb5 hp hlen HTA HLM HBD HW HDK HC
        obtain ⟨Nn, hNn⟩ : ∃ k, L.length = k := ⟨_, rfl⟩
        have HNN := Lib.hid hNn
        rw [hNn] at hN1 hN2 HR5 ⊢
        clear hNn
        have hn0 : ¬ ((n : Int) < (Nn : Int)) := by omega
        have hn1 : decide (n < Nn) = false := decide_eq_false (by omega)
        have hn3 : (0 : Int) < (n : Int) → ((Nn : Int) == 0) = false := fun h => by
          have := hN2 (by omega)
          simp; omega
        have HN2 := Lib.hid hN2
        clear hN2
        have hsplit : n = 0 ∨ 0 < n := by omega
        have HSP := Lib.hid hsplit
        clear hsplit
        rcases HSP.out with hz | hz
        · subst hz
          clear hn3
          go_wp2_with fail
          go_loopw [14, 99] (fun v14 v99 wr => ∃ (k : Nat) (last : ByteArray), v99 = .int .i64 k ∧ v14 = .string last ∧ Hid (k ≤ Nn) ∧ Hid ((k = 0 ∧ last = ⟨#[]⟩) ∨ ∃ x, 0 < k ∧ L[k - 1]? = some x ∧ last = dateS (dateR x.time)) ∧ Aside0 (Below w5.heap.size w5 wr)) (fun _ v99 _ => Nn - (intOf v99).toNat)
          case atStart => exact ⟨0, _, rfl, rfl, Lib.hid (by omega), Lib.hid (.inl ⟨rfl, rfl⟩), ⟨Below.refl _ _⟩⟩
          case round =>
            obtain ⟨k, last, rfl, rfl, HK, HLA, HBK⟩ := hrel
            have hkN := HK.out
            have hkb : (k : Int) ≤ 10 := by omega
            by_cases hlt : k < Nn
            · have hltI2 : (k : Int) < (Nn : Int) := by omega
              exfalso; omega
            · have hltI2 : ¬ (k : Int) < (Nn : Int) := by omega
              have HBE := Aside0.mk (HB5.out.trans (HBK.out.mono HB5.out.size))
              clear HBK HLA
              go_wp2
              go_ret
              exact ⟨rfl, HBE.out⟩
        · have hzI : (0 : Int) < (n : Int) := by omega
          have hn4 := hn3 hzI
          have hnz : 0 < Nn := HN2.out hz
          clear hn3
          go_wp2_with fail
          go_loopw [14, 99] (fun v14 v99 wr => ∃ (k : Nat) (last : ByteArray), v99 = .int .i64 k ∧ v14 = .string last ∧ Hid (k ≤ Nn) ∧ Hid ((k = 0 ∧ last = ⟨#[]⟩) ∨ ∃ x, 0 < k ∧ L[k - 1]? = some x ∧ last = dateS (dateR x.time)) ∧ Aside0 (Below w5.heap.size w5 wr)) (fun _ v99 _ => Nn - (intOf v99).toNat)
          case atStart => exact ⟨0, _, rfl, rfl, Lib.hid (by omega), Lib.hid (.inl ⟨rfl, rfl⟩), ⟨Below.refl _ _⟩⟩
          case round =>
            obtain ⟨k, last, rfl, rfl, HK, HLA, HBK⟩ := hrel
            have hkN := HK.out
            have hkb : (k : Int) ≤ 10 := by omega
            by_cases hlt : k < Nn
            · have hltI2 : (k : Int) < (Nn : Int) := by omega
              obtain ⟨x, hx⟩ : ∃ x, L[k]? = some x := ⟨_, List.getElem?_eq_getElem (by rw [HNN.out]; exact hlt)⟩
              have HX := Lib.hid hx
              obtain ⟨m, hm0, hld, hxt, hxg, hxi, ht0, ht1⟩ := HTA5.out x (List.mem_of_getElem? hx)
              have HLD := Lib.hid (fun (w7 : World) (hb : Below w5.heap.size w5 w7) => Load_any (disk_below HD5.out hb) x.id (by omega) (utf8_below HT.out (below_step HB5.out hb)))
              rw [hld] at HLD
              obtain ⟨bs, hAe, hbl, c0, c1, c2⟩ := snap_cells (Kd.R_below HR5.out HBK.out) k x hx
              subst hAe
              have HBS := Lib.hid hbl
              obtain ⟨xi, xt, xg⟩ := x
              obtain ⟨mt, mg, mp, mz, ml⟩ := m
              simp only at c0 c1 c2 hxt hxg hxi ht0 ht1 HLD
              obtain rfl : xt = mt := hxt
              obtain rfl : xg = mg := hxg
              have HDX := Lib.hid (fun w1 => Date_any xt ht0 ht1 w1)
              have HT01 := Lib.hid (And.intro ht0 ht1)
              clear hx hld hm0 hbl hxi
              have HB16 := Aside0.mk (show Row (wr.alloc (Obj.cells #[.string xi, .int .i64 xt, .string xg] 38)) wr.heap.size #[.string xi, .int .i64 xt, .string xg] 38 from Row.alloc _ _)
              have hb6 : Below wr.heap.size wr (wr.alloc (Obj.cells #[.string xi, .int .i64 xt, .string xg] 38)) := Below.alloc' (Nat.le_refl _) _
              have HB6 := Aside0.mk (below_step HBK.out hb6)
              have HC6 := Aside0.mk (show (wr.alloc (Obj.cells #[.string xi, .int .i64 xt, .string xg] 38)).heap.size = wr.heap.size + 1 by simp)
              clear hb6
              go_wp2_with fail
              obtain ⟨b16, hb16⟩ : ∃ q, wr.heap.size = q := ⟨_, rfl⟩
              rw [hb16] at HB16 HC6 ⊢
              generalize wr.alloc (Obj.cells #[.string xi, .int .i64 xt, .string xg] 38) = w6 at HB16 HB6 HC6 ⊢
              refine (HLD.out w6 HB6.out).mono ?_
              rintro e w7 ⟨v, rfl, hR, hb⟩
              obtain ⟨A3, cs3, e3⟩ := Kd.R_slice hR
              subst e3
              generalize ml.length = nl
              have R16 := Aside0.mk (HB16.out.move (hb.block _ (Row.lt HB16.out)))
              have B7 := Aside0.mk (below_step HB6.out hb)
              clear hR hb HB16 HB6 HLD c0 c1 c2
              have hb7 : Below w7.heap.size w7 (w7.alloc (Obj.cells #[.int .i64 xt, .string xg, .string mp, .int .i64 mz, .slice A3 nl cs3] 32)) := Below.alloc' (Nat.le_refl _) _
              have R17 := Aside0.mk (show Row (w7.alloc (Obj.cells #[.int .i64 xt, .string xg, .string mp, .int .i64 mz, .slice A3 nl cs3] 32)) w7.heap.size #[.int .i64 xt, .string xg, .string mp, .int .i64 mz, .slice A3 nl cs3] 32 from Row.alloc _ _)
              have R16b := Aside0.mk (R16.out.move (hb7.block _ (Row.lt R16.out)))
              have B8 := Aside0.mk (below_step B7.out hb7)
              clear hb7 R16 B7
              have r16c : (w7.alloc (Obj.cells #[.int .i64 xt, .string xg, .string mp, .int .i64 mz, .slice A3 nl cs3] 32)).cell? ⟨b16, 1, none⟩ = some (.int .i64 xt) := by have := R16b.out; unfold Row at this; simp [World.cell?, this]
              obtain ⟨b17, hb17⟩ : ∃ q, w7.heap.size = q := ⟨_, rfl⟩
              go_wp2_with fail
              rw [hb17] at R17
              clear hb17
              generalize w7.alloc (Obj.cells #[.int .i64 xt, .string xg, .string mp, .int .i64 mz, .slice A3 nl cs3] 32) = w8 at R17 R16b B8 ⊢
              clear r16c
              refine (HDX.out w8).mono ?_
              rintro e w9 ⟨rfl, hb⟩
              have S16 := Aside0.mk (R16b.out.move (hb.block _ (Row.lt R16b.out)))
              have S17 := Aside0.mk (R17.out.move (hb.block _ (Row.lt R17.out)))
              have B9 := Aside0.mk (below_step B8.out hb)
              clear hb R16b R17 B8
              obtain ⟨m0, m1, m2, m3, m4⟩ := row5 S17.out
              go_wp2_with fail
              refine (HDX.out w9).mono ?_
              rintro e w10 ⟨rfl, hb⟩
              have T16 := Aside0.mk (S16.out.move (hb.block _ (Row.lt S16.out)))
              have T17 := Aside0.mk (S17.out.move (hb.block _ (Row.lt S17.out)))
              have B10 := Aside0.mk (below_step B9.out hb)
              clear hb S16 S17 B9 m0 m1 m2 m3 m4
              obtain ⟨m0, m1, m2, m3, m4⟩ := row5 T17.out
              have n1 : w10.cell? ⟨b16, 1, none⟩ = some (.int .i64 xt) := by have := T16.out; unfold Row at this; simp [World.cell?, this]
              have n2 : w10.cell? ⟨b16, 2, none⟩ = some (.string xg) := by have := T16.out; unfold Row at this; simp [World.cell?, this]
              have HLN := Lib.hid (show (k + 1 = 0 ∧ dateS (dateR xt) = ⟨#[]⟩) ∨ ∃ x, 0 < k + 1 ∧ L[k + 1 - 1]? = some x ∧ dateS (dateR xt) = dateS (dateR x.time) from .inr ⟨_, by omega, HX.out, rfl⟩)
              rcases HLA.out with ⟨hk0, hle⟩ | ⟨y, hk0, hy, hle⟩
              · have hless : Op.bytesLess (dateS (dateR xt)).toList last.toList = false := by rw [hle]; exact empty_less _
                obtain rfl : k = 0 := hk0
                clear hle
                generalize dateS (dateR xt) = ds at hless HLN ⊢
                go_wp2_with fail
                go_quiet (fail)
                go_wp2
                go_roundw
                case rel => exact ⟨0 + 1, ds, rfl, rfl, Lib.hid (by omega), HLN, ⟨pw_below_drewN B10.out _⟩⟩
                case measure => simp [intOf]; omega
              · obtain ⟨mm, g1, g2, g3, g4, g5, hy0, hy1⟩ := HTA5.out y (List.mem_of_getElem? hy)
                clear g1 g2 g3 g4 g5 mm
                have hyx : y.time ≤ xt := by
                  have h1 := (List.getElem?_eq_some_iff.1 hy)
                  have h2 := (List.getElem?_eq_some_iff.1 HX.out)
                  obtain ⟨l1, e1⟩ := h1
                  obtain ⟨l2, e2⟩ := h2
                  have h3 := (List.pairwise_iff_getElem.1 HS5.out) (k - 1) k l1 l2 (by omega)
                  rw [e1, e2] at h3
                  exact before_time h3
                have hless : Op.bytesLess (dateS (dateR xt)).toList last.toList = false := by rw [hle]; exact date_less _ _ hy0 hyx HT01.out.2
                have hwk := week_mono y.time xt hy0 hyx HT01.out.2
                obtain ⟨bs', hAe', _, _, d1, _⟩ := snap_cells (Kd.R_below HR5.out B10.out) (k - 1) y hy
                obtain rfl : bs = bs' := by injection hAe' with e; injection e
                obtain ⟨yi, yt, yg⟩ := y
                simp only at hy0 hy1 hyx hwk d1 hle
                have HWX := Lib.hid (fun t1 w1 => week_dr t1 w1)
                have hwkd : decide (weekF xt < weekF yt) = false := decide_eq_false (by omega)
                clear hwk
                clear hle hy hAe' hy0 hy1 hyx HLA HX
                obtain ⟨j, rfl⟩ : ∃ j, k = j + 1 := ⟨k - 1, by omega⟩
                rw [Nat.add_sub_cancel] at d1
                have hj0 : (0 : Int) ≤ (j : Int) := by omega
                have hj1 : (j : Int) < (Nn : Int) := by omega
                have hkd : decide ((0 : Int) < (j : Int) + 1) = true := decide_eq_true (by omega)
                have hkd2 : decide (0 < j + 1) = true := decide_eq_true (by omega)
                generalize dateS (dateR xt) = ds at hless HLN ⊢
                clear hk0
                go_wp2_with fail
                go_quiet ((go_at_call 13; exact Calls.quiet_of (HWX.out _ _)))
                go_wp2
                go_roundw
                case rel => exact ⟨j + 1 + 1, ds, by go_num, rfl, Lib.hid (by omega), HLN, ⟨pw_below_drewN B10.out _⟩⟩
                case measure => simp [intOf]; omega
            · have hltI2 : ¬ (k : Int) < (Nn : Int) := by omega
              have HBE := Aside0.mk (HB5.out.trans (HBK.out.mono HB5.out.size))
              clear HBK HLA
              go_wp2
              go_ret
              exact ⟨rfl, HBE.out⟩
    · have hltI : ¬ (i : Int) < (len : Int) := by omega
      have hw := HBW.out _ _ _ HG.out
      have hml := mans_list HM.out HG.out.disk
      have hdl := disk_list HG.out.disk
      have HLM := Lib.hid (List_man HG.out.disk (by omega) HM.out.calm.live (utf8_below HT.out hw) (fun s hs => by
        obtain ⟨m, _, _, h3, _⟩ := hml.2.2 s hs
        rw [h3, file_size]; omega) (by have := hdl.2.2; omega))
      rw [hml.1] at HLM
      have HBD := Lib.hid hml.2.1
      have HTA := Aside0.mk (fun (L : List SN) (hp : L.Perm ((listOf a.fm).filterMap (snapOf a))) => told_all HM.out HG.out.disk hp)
      have HW := Aside0.mk hw
      have HDK := Aside0.mk HG.out.disk
      clear hw hml hdl HG HM
      go_wp2_with fail
      refine HLM.out.mono ?_
      rintro e w5 ⟨v1, v2, L, rfl, hp, hs, hR1, hR2, hb5⟩
      rw [HBD.out] at hR2
      obtain ⟨A1, k1, e1⟩ := Kd.R_slice hR1
      obtain ⟨A2, k2, e2⟩ := Kd.R_slice hR2
      subst e1
      subst e2
      obtain ⟨hta, hlen⟩ := HTA.out L hp
      have HTA5 := Aside0.mk hta
      have HS5 := Aside0.mk hs
      have HR5 := Aside0.mk hR1
      have HB5 := Aside0.mk (below_step HW.out hb5)
      have HD5 := Aside0.mk (disk_below HDK.out hb5)
      have hN1 : L.length ≤ n := by have := HC.out.1; omega
      have hN2 : 0 < n → 0 < L.length := fun h => by
        have h2 := HC.out.2 h
        have h3 := List.length_pos_iff.2 h2
        omega
      clear hta hs hR1 hR2 hb5 hp hlen HTA HLM HBD HW HDK HC
      obtain ⟨Nn, hNn⟩ : ∃ k, L.length = k := ⟨_, rfl⟩
      have HNN := Lib.hid hNn
      rw [hNn] at hN1 hN2 HR5 ⊢
      clear hNn
      have hn0 : ¬ ((n : Int) < (Nn : Int)) := by omega
      have hn1 : decide (n < Nn) = false := decide_eq_false (by omega)
      have hn3 : (0 : Int) < (n : Int) → ((Nn : Int) == 0) = false := fun h => by
        have := hN2 (by omega)
        simp; omega
      have HN2 := Lib.hid hN2
      clear hN2
      have hsplit : n = 0 ∨ 0 < n := by omega
      have HSP := Lib.hid hsplit
      clear hsplit
      rcases HSP.out with hz | hz
      · subst hz
        clear hn3
        go_wp2_with fail
        go_loopw [14, 99] (fun v14 v99 wr => ∃ (k : Nat) (last : ByteArray), v99 = .int .i64 k ∧ v14 = .string last ∧ Hid (k ≤ Nn) ∧ Hid ((k = 0 ∧ last = ⟨#[]⟩) ∨ ∃ x, 0 < k ∧ L[k - 1]? = some x ∧ last = dateS (dateR x.time)) ∧ Aside0 (Below w5.heap.size w5 wr)) (fun _ v99 _ => Nn - (intOf v99).toNat)
        case atStart => exact ⟨0, _, rfl, rfl, Lib.hid (by omega), Lib.hid (.inl ⟨rfl, rfl⟩), ⟨Below.refl _ _⟩⟩
        case round =>
          obtain ⟨k, last, rfl, rfl, HK, HLA, HBK⟩ := hrel
          have hkN := HK.out
          have hkb : (k : Int) ≤ 10 := by omega
          by_cases hlt : k < Nn
          · have hltI2 : (k : Int) < (Nn : Int) := by omega
            exfalso; omega
          · have hltI2 : ¬ (k : Int) < (Nn : Int) := by omega
            have HBE := Aside0.mk (HB5.out.trans (HBK.out.mono HB5.out.size))
            clear HBK HLA
            go_wp2
            go_ret
            exact ⟨rfl, HBE.out⟩
      · have hzI : (0 : Int) < (n : Int) := by omega
        have hn4 := hn3 hzI
        have hnz : 0 < Nn := HN2.out hz
        clear hn3
        go_wp2_with fail
        go_loopw [14, 99] (fun v14 v99 wr => ∃ (k : Nat) (last : ByteArray), v99 = .int .i64 k ∧ v14 = .string last ∧ Hid (k ≤ Nn) ∧ Hid ((k = 0 ∧ last = ⟨#[]⟩) ∨ ∃ x, 0 < k ∧ L[k - 1]? = some x ∧ last = dateS (dateR x.time)) ∧ Aside0 (Below w5.heap.size w5 wr)) (fun _ v99 _ => Nn - (intOf v99).toNat)
        case atStart => exact ⟨0, _, rfl, rfl, Lib.hid (by omega), Lib.hid (.inl ⟨rfl, rfl⟩), ⟨Below.refl _ _⟩⟩
        case round =>
          obtain ⟨k, last, rfl, rfl, HK, HLA, HBK⟩ := hrel
          have hkN := HK.out
          have hkb : (k : Int) ≤ 10 := by omega
          by_cases hlt : k < Nn
          · have hltI2 : (k : Int) < (Nn : Int) := by omega
            obtain ⟨x, hx⟩ : ∃ x, L[k]? = some x := ⟨_, List.getElem?_eq_getElem (by rw [HNN.out]; exact hlt)⟩
            have HX := Lib.hid hx
            obtain ⟨m, hm0, hld, hxt, hxg, hxi, ht0, ht1⟩ := HTA5.out x (List.mem_of_getElem? hx)
            have HLD := Lib.hid (fun (w7 : World) (hb : Below w5.heap.size w5 w7) => Load_any (disk_below HD5.out hb) x.id (by omega) (utf8_below HT.out (below_step HB5.out hb)))
            rw [hld] at HLD
            obtain ⟨bs, hAe, hbl, c0, c1, c2⟩ := snap_cells (Kd.R_below HR5.out HBK.out) k x hx
            subst hAe
            have HBS := Lib.hid hbl
            obtain ⟨xi, xt, xg⟩ := x
            obtain ⟨mt, mg, mp, mz, ml⟩ := m
            simp only at c0 c1 c2 hxt hxg hxi ht0 ht1 HLD
            obtain rfl : xt = mt := hxt
            obtain rfl : xg = mg := hxg
            have HDX := Lib.hid (fun w1 => Date_any xt ht0 ht1 w1)
            have HT01 := Lib.hid (And.intro ht0 ht1)
            clear hx hld hm0 hbl hxi
            have HB16 := Aside0.mk (show Row (wr.alloc (Obj.cells #[.string xi, .int .i64 xt, .string xg] 38)) wr.heap.size #[.string xi, .int .i64 xt, .string xg] 38 from Row.alloc _ _)
            have hb6 : Below wr.heap.size wr (wr.alloc (Obj.cells #[.string xi, .int .i64 xt, .string xg] 38)) := Below.alloc' (Nat.le_refl _) _
            have HB6 := Aside0.mk (below_step HBK.out hb6)
            have HC6 := Aside0.mk (show (wr.alloc (Obj.cells #[.string xi, .int .i64 xt, .string xg] 38)).heap.size = wr.heap.size + 1 by simp)
            clear hb6
            go_wp2_with fail
            obtain ⟨b16, hb16⟩ : ∃ q, wr.heap.size = q := ⟨_, rfl⟩
            rw [hb16] at HB16 HC6 ⊢
            generalize wr.alloc (Obj.cells #[.string xi, .int .i64 xt, .string xg] 38) = w6 at HB16 HB6 HC6 ⊢
            refine (HLD.out w6 HB6.out).mono ?_
            rintro e w7 ⟨v, rfl, hR, hb⟩
            obtain ⟨A3, cs3, e3⟩ := Kd.R_slice hR
            subst e3
            generalize ml.length = nl
            have R16 := Aside0.mk (HB16.out.move (hb.block _ (Row.lt HB16.out)))
            have B7 := Aside0.mk (below_step HB6.out hb)
            clear hR hb HB16 HB6 HLD c0 c1 c2
            have hb7 : Below w7.heap.size w7 (w7.alloc (Obj.cells #[.int .i64 xt, .string xg, .string mp, .int .i64 mz, .slice A3 nl cs3] 32)) := Below.alloc' (Nat.le_refl _) _
            have R17 := Aside0.mk (show Row (w7.alloc (Obj.cells #[.int .i64 xt, .string xg, .string mp, .int .i64 mz, .slice A3 nl cs3] 32)) w7.heap.size #[.int .i64 xt, .string xg, .string mp, .int .i64 mz, .slice A3 nl cs3] 32 from Row.alloc _ _)
            have R16b := Aside0.mk (R16.out.move (hb7.block _ (Row.lt R16.out)))
            have B8 := Aside0.mk (below_step B7.out hb7)
            clear hb7 R16 B7
            have r16c : (w7.alloc (Obj.cells #[.int .i64 xt, .string xg, .string mp, .int .i64 mz, .slice A3 nl cs3] 32)).cell? ⟨b16, 1, none⟩ = some (.int .i64 xt) := by have := R16b.out; unfold Row at this; simp [World.cell?, this]
            obtain ⟨b17, hb17⟩ : ∃ q, w7.heap.size = q := ⟨_, rfl⟩
            go_wp2_with fail
            rw [hb17] at R17
            clear hb17
            generalize w7.alloc (Obj.cells #[.int .i64 xt, .string xg, .string mp, .int .i64 mz, .slice A3 nl cs3] 32) = w8 at R17 R16b B8 ⊢
            clear r16c
            refine (HDX.out w8).mono ?_
            rintro e w9 ⟨rfl, hb⟩
            have S16 := Aside0.mk (R16b.out.move (hb.block _ (Row.lt R16b.out)))
            have S17 := Aside0.mk (R17.out.move (hb.block _ (Row.lt R17.out)))
            have B9 := Aside0.mk (below_step B8.out hb)
            clear hb R16b R17 B8
            obtain ⟨m0, m1, m2, m3, m4⟩ := row5 S17.out
            go_wp2_with fail
            refine (HDX.out w9).mono ?_
            rintro e w10 ⟨rfl, hb⟩
            have T16 := Aside0.mk (S16.out.move (hb.block _ (Row.lt S16.out)))
            have T17 := Aside0.mk (S17.out.move (hb.block _ (Row.lt S17.out)))
            have B10 := Aside0.mk (below_step B9.out hb)
            clear hb S16 S17 B9 m0 m1 m2 m3 m4
            obtain ⟨m0, m1, m2, m3, m4⟩ := row5 T17.out
            have n1 : w10.cell? ⟨b16, 1, none⟩ = some (.int .i64 xt) := by have := T16.out; unfold Row at this; simp [World.cell?, this]
            have n2 : w10.cell? ⟨b16, 2, none⟩ = some (.string xg) := by have := T16.out; unfold Row at this; simp [World.cell?, this]
            have HLN := Lib.hid (show (k + 1 = 0 ∧ dateS (dateR xt) = ⟨#[]⟩) ∨ ∃ x, 0 < k + 1 ∧ L[k + 1 - 1]? = some x ∧ dateS (dateR xt) = dateS (dateR x.time) from .inr ⟨_, by omega, HX.out, rfl⟩)
            rcases HLA.out with ⟨hk0, hle⟩ | ⟨y, hk0, hy, hle⟩
            · have hless : Op.bytesLess (dateS (dateR xt)).toList last.toList = false := by rw [hle]; exact empty_less _
              obtain rfl : k = 0 := hk0
              clear hle
              generalize dateS (dateR xt) = ds at hless HLN ⊢
              go_wp2_with fail
              go_quiet (fail)
              go_wp2
              go_roundw
              case rel => exact ⟨0 + 1, ds, rfl, rfl, Lib.hid (by omega), HLN, ⟨pw_below_drewN B10.out _⟩⟩
              case measure => simp [intOf]; omega
            · obtain ⟨mm, g1, g2, g3, g4, g5, hy0, hy1⟩ := HTA5.out y (List.mem_of_getElem? hy)
              clear g1 g2 g3 g4 g5 mm
              have hyx : y.time ≤ xt := by
                have h1 := (List.getElem?_eq_some_iff.1 hy)
                have h2 := (List.getElem?_eq_some_iff.1 HX.out)
                obtain ⟨l1, e1⟩ := h1
                obtain ⟨l2, e2⟩ := h2
                have h3 := (List.pairwise_iff_getElem.1 HS5.out) (k - 1) k l1 l2 (by omega)
                rw [e1, e2] at h3
                exact before_time h3
              have hless : Op.bytesLess (dateS (dateR xt)).toList last.toList = false := by rw [hle]; exact date_less _ _ hy0 hyx HT01.out.2
              have hwk := week_mono y.time xt hy0 hyx HT01.out.2
              obtain ⟨bs', hAe', _, _, d1, _⟩ := snap_cells (Kd.R_below HR5.out B10.out) (k - 1) y hy
              obtain rfl : bs = bs' := by injection hAe' with e; injection e
              obtain ⟨yi, yt, yg⟩ := y
              simp only at hy0 hy1 hyx hwk d1 hle
              have HWX := Lib.hid (fun t1 w1 => week_dr t1 w1)
              have hwkd : decide (weekF xt < weekF yt) = false := decide_eq_false (by omega)
              clear hwk
              clear hle hy hAe' hy0 hy1 hyx HLA HX
              obtain ⟨j, rfl⟩ : ∃ j, k = j + 1 := ⟨k - 1, by omega⟩
              rw [Nat.add_sub_cancel] at d1
              have hj0 : (0 : Int) ≤ (j : Int) := by omega
              have hj1 : (j : Int) < (Nn : Int) := by omega
              have hkd : decide ((0 : Int) < (j : Int) + 1) = true := decide_eq_true (by omega)
              have hkd2 : decide (0 < j + 1) = true := decide_eq_true (by omega)
              generalize dateS (dateR xt) = ds at hless HLN ⊢
              clear hk0
              go_wp2_with fail
              go_quiet ((go_at_call 13; exact Calls.quiet_of (HWX.out _ _)))
              go_wp2
              go_roundw
              case rel => exact ⟨j + 1 + 1, ds, by go_num, rfl, Lib.hid (by omega), HLN, ⟨pw_below_drewN B10.out _⟩⟩
              case measure => simp [intOf]; omega
          · have hltI2 : ¬ (k : Int) < (Nn : Int) := by omega
            have HBE := Aside0.mk (HB5.out.trans (HBK.out.mono HB5.out.size))
            clear HBK HLA
            go_wp2
            go_ret
            exact ⟨rfl, HBE.out⟩
end Go.Proofs.YtlilkfnfcaepiaaGreatDoor.M
