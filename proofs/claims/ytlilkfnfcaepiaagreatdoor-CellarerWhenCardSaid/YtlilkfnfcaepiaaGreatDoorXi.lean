/- digest: Write, Sum and Name answer what their Lean functions do. -/
import Derived.Test.YtlilkfnfcaepiaaGreatDoorXg
import Derived.Test.YtlilkfnfcaepiaaGreatDoorXp
import Derived.Laws.Tables
set_option linter.unusedSimpArgs false
set_option linter.unusedVariables false
namespace Go.Proofs.YtlilkfnfcaepiaaGreatDoor.G
open Go.RowKit Go.Proofs.YtlilkfnfcaepiaaGreatDoorW.PrintWords Go.Proofs.YtlilkfnfcaepiaaGreatDoorW.PrintLast Go.Proofs.YtlilkfnfcaepiaaGreatDoorW.PrintMore PB H D

def K64 : List Int := [1116352408, 1899447441, 3049323471, 3921009573, 961987163, 1508970993, 2453635748, 2870763221, 3624381080, 310598401, 607225278, 1426881987, 1925078388, 2162078206, 2614888103, 3248222580, 3835390401, 4022224774, 264347078, 604807628, 770255983, 1249150122, 1555081692, 1996064986, 2554220882, 2821834349, 2952996808, 3210313671, 3336571891, 3584528711, 113926993, 338241895, 666307205, 773529912, 1294757372, 1396182291, 1695183700, 1986661051, 2177026350, 2456956037, 2730485921, 2820302411, 3259730800, 3345764771, 3516065817, 3600352804, 4094571909, 275423344, 430227734, 506948616, 659060556, 883997877, 958139571, 1322822218, 1537002063, 1747873779, 1955562222, 2024104815, 2227730452, 2361852424, 2428436474, 2756734187, 3204031479, 3329325298]
def H8 : List Int := [1779033703, 3144134277, 1013904242, 2773480762, 1359893119, 2600822924, 528734635, 1541459225]
theorem root_true : ∀ i : Fin 64, PC.digest_root.f 40 (P64.getD i 0) true = some (K64.getD i 0) := by decide +kernel
theorem root_false : ∀ i : Fin 8, PC.digest_root.f 40 (P64.getD i 0) false = some (H8.getD i 0) := by decide +kernel

/-- What a text's whole blocks make of the words, and what is left of it. -/
def absorb (st : List Int) : Nat → List Int × ByteArray → List Int × ByteArray
  | 0, p => p
  | k + 1, (ws, t) => absorb st k (blockF st ws (t.extract 0 64), t.extract 64 t.size)
def begunF (s : HS) : HS := if s.begun then s else { s with step := K64, words := H8, begun := true }
def writeF (s : HS) (t : ByteArray) : HS :=
  let s1 := begunF s
  let r := absorb s1.step ((s1.rest ++ t).size / 64) (s1.words, s1.rest ++ t)
  { s1 with n := IntKind.u64.wrap (s1.n + (t.size : Int)), words := r.1, rest := r.2 }
def sizeV : Value → Nat
  | .string t => t.size
  | _ => 0
/-- The constants on the way. -/
def stepAt (s : HS) (i : Nat) : HS := { s with step := K64.take i ++ s.step.drop i, words := H8.take i ++ s.words.drop i }

theorem K64_length : K64.length = 64 := by decide
theorem H8_length : H8.length = 8 := by decide
theorem set_at_take (l m : List Int) (i : Nat) (x : Int) (hi : i < l.length) (hm : i < m.length) (hx : l.getD i 0 = x) : (l.take i ++ m.drop i).set i x = l.take (i + 1) ++ m.drop (i + 1) := by
  have hx2 : l[i] = x := by rw [← hx]; simp [List.getD, hi]
  rw [List.set_append_right _ _ (by simp; omega)]
  have e : i - (l.take i).length = 0 := by simp; omega
  rw [e, List.drop_eq_getElem_cons hm, List.set_cons_zero, List.take_succ_eq_append_getElem hi, hx2]
  simp
theorem stepAt_next (s : HS) (i : Nat) (hi : i < 64) (K H : Int) (h8 : s.words.length = 8) (h64 : s.step.length = 64) (hK : K64.getD i 0 = K) (hH : i < 8 → H8.getD i 0 = H) (hn : ¬ i < 8 → False) :
    stepAt s (i + 1) = { stepAt s i with step := (stepAt s i).step.set i K, words := (stepAt s i).words.set i H } := by
  have h : i < 8 := Classical.byContradiction hn
  unfold stepAt
  rw [set_at_take K64 s.step i K (by rw [K64_length]; omega) (by omega) hK, set_at_take H8 s.words i H (by rw [H8_length]; omega) (by omega) (hH h)]
theorem stepAt_next' (s : HS) (i : Nat) (hi : i < 64) (K : Int) (h8 : s.words.length = 8) (h64 : s.step.length = 64) (hK : K64.getD i 0 = K) (hn : ¬ i < 8) :
    stepAt s (i + 1) = { stepAt s i with step := (stepAt s i).step.set i K } := by
  unfold stepAt
  rw [set_at_take K64 s.step i K (by rw [K64_length]; omega) (by omega) hK]
  simp only [HS.mk.injEq, true_and, and_true]
  rw [List.take_of_length_le (by rw [H8_length]; omega), List.take_of_length_le (by rw [H8_length]; omega), List.drop_of_length_le (by omega), List.drop_of_length_le (by omega)]

set_option maxRecDepth 100000 in
set_option maxHeartbeats 2000000 in
theorem write_any (w : World) (b : Nat) (s : HS) (h : HAt w b s) (t : ByteArray) (ht : s.rest.size + t.size ≤ 1099511627776) : Calls Tryz.prog 97 #[.pointer (some ⟨b, 0, none⟩), .string t] w (fun e w' => e = .returned (.tuple #[]) ∧ HAt w' b (writeF s t) ∧ Chg (fun k => k = b) w w') := by
  have cb := h.beg
  have f0 := h.free 0
  cases hb : s.begun with
  | false =>
    rw [hb] at cb
    go_enter Tryz.func97, Tryz.ntmps97
    go_wp2_with fail
    refine (primes_64 w).mono ?_
    rintro e w1 ⟨v, rfl, hR, hB⟩
    have HR1 := Aside0.mk (Kd.R_mono (Kd.R_bound hR) (fun k (hk : _ ∧ _ ∧ _) => (show k ≠ b from fun e => by have := hk.2.1; have := h.lt; omega)))
    have HH1 := Aside0.mk (h.move (hB.block b h.lt))
    have HC1 := Aside0.mk (Chg.of_below (F := fun k => k = b) hB)
    clear hR hB
    obtain ⟨A, c, rfl⟩ := Kd.R_slice HR1.out
    obtain ⟨g, cap, he, _, _, _⟩ := Kd.R_form HR1.out (by decide)
    injection he with he1 he2 he3
    subst he1
    clear he2 he3
    change Aside0 (Kd.R _ _ _ _ _ (.slice _ 64 c) _) at HR1
    go_wp2
    go_loopw [13] (fun v13 wr => ∃ i : Nat, i ≤ 64 ∧ v13 = .int .i64 i ∧ Aside0 (HAt wr b (stepAt s i)) ∧ Aside0 (Kd.R (Kd.int .u64) 86 wr w.heap.size (fun k => k ≠ b) (.slice (some ⟨g, 0, none⟩) 64 c) P64) ∧ Aside0 (Chg (fun k => k = b) w wr)) (fun v13 _ => 64 - (intOf v13).toNat)
    case atStart => exact ⟨0, by omega, rfl, HH1, HR1, HC1⟩
    case round =>
      clear HH1 HR1 HC1
      obtain ⟨i, hi, rfl, HH, HR, HC⟩ := hrel
      by_cases hlt : i < 64
      · have i64 : (i : Int) < 64 := by omega
        have hc := (Kd.R_celln (0 : Int) HR.out (i : Int) (by omega) (by omega)).1
        rw [Int.toNat_natCast] at hc
        have cs := HH.out.stp i hlt
        have fs := HH.out.free (8 + i)
        generalize (stepAt s i).step.getD i 0 = y at cs
        have hr := Lib.hid (root_true ⟨i, hlt⟩)
        have hp : rdOf (0 : Int) P64 (i : Int) = P64.getD i 0 := by unfold rdOf; rw [Int.toNat_natCast]
        rw [hp] at hc
        clear hp
        obtain ⟨p, hpe⟩ : ∃ p, P64.getD i 0 = p := ⟨_, rfl⟩
        rw [hpe] at hc
        have hr2 := hr.out
        rw [hpe] at hr2
        obtain ⟨K, hK⟩ : ∃ K, K64.getD i 0 = K := ⟨_, rfl⟩
        rw [hK] at hr2
        have HR2 := Lib.hid (fun w1 => PC.digest_root.calls 40 p true K w1 hr2)
        clear hr2 hr
        have HPE := Lib.hid (And.intro hpe hK)
        clear hpe hK
        go_wp2
        go_region_with (go_at_call 119; refine (HR2.out _).mono ?_; rintro e w3 ⟨rfl, m, rfl⟩)
        have HH2 := Aside0.mk ((HH.out.move (w1 := wr.drewN (1 + m)) rfl).setStep i hlt K)
        have HR3 := Aside0.mk (Kd.R_far (p := ⟨b, 8 + i, none⟩) (Kd.R_drewN HR.out (1 + m)) (fun k hk => hk) (.int .u32 K))
        have HC2 := Aside0.mk ((HC.out.trans (show Chg (fun k => k = b) wr (wr.drewN (1 + m)) from ⟨rfl, rfl, rfl, Nat.le_refl _, fun _ _ _ => rfl⟩)).setCell (p := ⟨b, 8 + i, none⟩) rfl (.int .u32 K))
        generalize (wr.drewN (1 + m)).setCell ⟨b, 8 + i, none⟩ (.int .u32 K) = w2 at HH2 HR3 HC2 ⊢
        clear HH HR HC hc cs fs
        by_cases h8 : i < 8
        · have h8i : (i : Int) < 8 := by omega
          have cs := HH2.out.word i h8
          have fs := HH2.out.free i
          generalize ({ stepAt s i with step := (stepAt s i).step.set i K } : HS).words.getD i 0 = y2 at cs
          obtain ⟨H, hH⟩ : ∃ H, H8.getD i 0 = H := ⟨_, rfl⟩
          have HRF := Lib.hid (fun w1 => PC.digest_root.calls 40 p false H w1 (by have := root_false ⟨i, h8⟩; simp only at this; rw [HPE.out.1, hH] at this; exact this))
          have HHE := Lib.hid hH
          clear hH
          go_wp2
          go_region_with (go_at_call 119; refine (HRF.out _).mono ?_; rintro e w3 ⟨rfl, m2, rfl⟩)
          have HH3 := Aside0.mk ((HH2.out.move (w1 := w2.drewN (1 + m2)) rfl).setWord i h8 H)
          have HR4 := Aside0.mk (Kd.R_far (p := ⟨b, i, none⟩) (Kd.R_drewN HR3.out (1 + m2)) (fun k hk => hk) (.int .u32 H))
          have HC3 := Aside0.mk ((HC2.out.trans (show Chg (fun k => k = b) w2 (w2.drewN (1 + m2)) from ⟨rfl, rfl, rfl, Nat.le_refl _, fun _ _ _ => rfl⟩)).setCell (p := ⟨b, i, none⟩) rfl (.int .u32 H))
          generalize (w2.drewN (1 + m2)).setCell ⟨b, i, none⟩ (.int .u32 H) = w5 at HH3 HR4 HC3 ⊢
          clear HH2 HR3 HC2 cs fs
          have HE := Lib.hid (show stepAt s (i + 1) = { stepAt s i with step := (stepAt s i).step.set i K, words := (stepAt s i).words.set i H } from stepAt_next s i hlt K H h.l8 h.l64 HPE.out.2 (fun _ => HHE.out) (fun hn => absurd h8 hn))
          go_wp2
          go_roundw
          case rel => exact ⟨i + 1, by omega, by go_num, ⟨by rw [HE.out]; exact HH3.out⟩, HR4, HC3⟩
          case measure => simp [intOf]; omega
        · have h8i : decide ((i : Int) < 8) = false := decide_eq_false (by omega)
          have HE := Lib.hid (show stepAt s (i + 1) = { stepAt s i with step := (stepAt s i).step.set i K } from stepAt_next' s i hlt K h.l8 h.l64 HPE.out.2 h8)
          go_wp2
          go_roundw
          case rel => exact ⟨i + 1, by omega, by go_num, ⟨by rw [HE.out]; exact HH2.out⟩, HR3, HC2⟩
          case measure => simp [intOf]; omega
      · have h64 : i = 64 := by omega
        subst h64
        clear hi hlt
        have HS1 : stepAt s 64 = { s with step := K64, words := H8 } := by
          unfold stepAt
          rw [show K64.take 64 = K64 from rfl, show H8.take 64 = H8 from rfl, List.drop_of_length_le (by rw [h.l8]; omega), List.drop_of_length_le (by rw [h.l64]; omega), List.append_nil, List.append_nil]
        rw [HS1] at HH
        have cb2 := HH.out.beg
        have cn2 := HH.out.cn
        have cr2 := HH.out.rst
        have fb := HH.out.free 74
        have fn := HH.out.free 73
        simp only at cb2 cn2 cr2
        go_wp2
        have hH2 := (HH.out.setBegun true).setN (IntKind.u64.wrap (s.n + (t.size : Int)))
        have hC2 := (HC.out.setCell (p := ⟨b, 74, none⟩) rfl (.bool true)).setCell (p := ⟨b, 73, none⟩) rfl (.int .u64 (IntKind.u64.wrap (s.n + (t.size : Int))))
        obtain ⟨s2, hs2⟩ : ∃ s2 : HS, s2 = { s with step := K64, words := H8, begun := true, n := IntKind.u64.wrap (s.n + (t.size : Int)) } := ⟨_, rfl⟩
        have HH2 := Aside0.mk (show HAt ((wr.setCell ⟨b, 74, none⟩ (.bool true)).setCell ⟨b, 73, none⟩ (.int .u64 (IntKind.u64.wrap (s.n + (t.size : Int))))) b { s2 with words := s2.words } by rw [hs2]; exact hH2)
        have HC2 := Aside0.mk hC2
        obtain ⟨res, hres⟩ : ∃ res, absorb s2.step ((s.rest ++ t).size / 64) (s2.words, s.rest ++ t) = res := ⟨_, rfl⟩
        have HRES := Aside0.mk hres
        have HSZ := Aside0.mk (show (s.rest ++ t).size ≤ 1099511627776 by simp; omega)
        have HW := Lib.hid (show writeF s t = { s2 with words := res.1, rest := res.2 } by
          unfold writeF begunF; rw [hb, ← hres, hs2]; rfl)
        clear hH2 hC2 hres hs2
        generalize (wr.setCell ⟨b, 74, none⟩ (.bool true)).setCell ⟨b, 73, none⟩ (.int .u64 (IntKind.u64.wrap (s.n + (t.size : Int)))) = w5 at HH2 HC2 ⊢
        clear cb2 cn2 cr2 fb fn HH HR HC
        go_loopw [1] (fun v1 wr => ∃ (ws : List Int) (x : ByteArray), v1 = .string x ∧ Aside0 (x.size ≤ 1099511627776) ∧ Aside0 (HAt wr b { s2 with words := ws }) ∧ Aside0 (absorb s2.step (x.size / 64) (ws, x) = res) ∧ Aside0 (Chg (fun k => k = b) w wr)) (fun v1 _ => sizeV v1)
        case atStart => exact ⟨s2.words, s.rest ++ t, rfl, HSZ, HH2, HRES, HC2⟩
        case round =>
          clear HH2 HC2 HRES HSZ
          obtain ⟨ws, x, rfl, HSZ, HH, HRES, HC⟩ := hrel
          by_cases hlt : 64 ≤ x.size
          · have h64 : (64 : Int) ≤ x.size := by omega
            have HLT := Lib.hid hlt
            clear hlt
            go_wp2_with fail
            refine (block_any wr b { s2 with words := ws } HH.out (x.extract 0 64) (by have := HLT.out; simp; omega)).mono ?_
            rintro e w6 ⟨rfl, hH, hC⟩
            have HH3 := Aside0.mk hH
            have HC3 := Aside0.mk (HC.out.trans (hC.mono (fun k _ hk => hk)))
            clear hH hC HH HC
            go_wp2
            refine ⟨?_, ?measure⟩
            (repeat apply Exists.intro)
            refine ⟨?rel, rfl⟩
            case rel =>
              refine ⟨blockF s2.step ws (x.extract 0 64), x.extract 64 x.size, rfl, ⟨by have := HSZ.out; simp; omega⟩, HH3, ⟨?_⟩, HC3⟩
              have e1 : x.size / 64 = (x.extract 64 x.size).size / 64 + 1 := by have := HLT.out; simp; omega
              have := HRES.out
              rw [e1, absorb] at this
              exact this
            case measure => have := HLT.out; simp [sizeV]; omega
          · have h64 : ¬ (64 : Int) ≤ x.size := by omega
            have HE := Lib.hid (show (ws, x) = res by have := HRES.out; rw [show x.size / 64 = 0 by omega, absorb] at this; exact this)
            have hcr := HH.out.rst
            have hfr := HH.out.free 72
            simp only at hcr
            have hd : decide ((64 : Int) ≤ x.size) = false := decide_eq_false h64
            go_wp2
            go_end0
            refine ⟨rfl, ?_, HC.out.setCell (p := ⟨b, 72, none⟩) rfl _⟩
            have := HH.out.setRest x
            rw [HW.out, ← HE.out]
            exact this
  | true =>
    rw [hb] at cb
    have cn2 := h.cn
    have cr2 := h.rst
    have fn := h.free 73
    have HH := Aside0.mk h
    go_enter Tryz.func97, Tryz.ntmps97
    go_wp2
    obtain ⟨s2, hs2⟩ : ∃ s2 : HS, s2 = { s with n := IntKind.u64.wrap (s.n + (t.size : Int)) } := ⟨_, rfl⟩
    have HH2 := Aside0.mk (show HAt (w.setCell ⟨b, 73, none⟩ (.int .u64 (IntKind.u64.wrap (s.n + (t.size : Int))))) b { s2 with words := s2.words } by rw [hs2]; exact HH.out.setN _)
    have HC2 := Aside0.mk ((Chg.refl (fun k => k = b) w).setCell (p := ⟨b, 73, none⟩) rfl (.int .u64 (IntKind.u64.wrap (s.n + (t.size : Int)))))
    obtain ⟨res, hres⟩ : ∃ res, absorb s2.step ((s.rest ++ t).size / 64) (s2.words, s.rest ++ t) = res := ⟨_, rfl⟩
    have HRES := Aside0.mk hres
    have HSZ := Aside0.mk (show (s.rest ++ t).size ≤ 1099511627776 by simp; omega)
    have HW := Lib.hid (show writeF s t = { s2 with words := res.1, rest := res.2 } by
      unfold writeF begunF; rw [hb, ← hres, hs2]; rfl)
    clear hres hs2
    generalize w.setCell ⟨b, 73, none⟩ (.int .u64 (IntKind.u64.wrap (s.n + (t.size : Int)))) = w5 at HH2 HC2 ⊢
    clear cb cn2 cr2 fn f0 HH h
    go_loopw [1] (fun v1 wr => ∃ (ws : List Int) (x : ByteArray), v1 = .string x ∧ Aside0 (x.size ≤ 1099511627776) ∧ Aside0 (HAt wr b { s2 with words := ws }) ∧ Aside0 (absorb s2.step (x.size / 64) (ws, x) = res) ∧ Aside0 (Chg (fun k => k = b) w wr)) (fun v1 _ => sizeV v1)
    case atStart => exact ⟨s2.words, s.rest ++ t, rfl, HSZ, HH2, HRES, HC2⟩
    case round =>
      clear HH2 HC2 HRES HSZ
      obtain ⟨ws, x, rfl, HSZ, HH, HRES, HC⟩ := hrel
      by_cases hlt : 64 ≤ x.size
      · have h64 : (64 : Int) ≤ x.size := by omega
        have HLT := Lib.hid hlt
        clear hlt
        go_wp2_with fail
        refine (block_any wr b { s2 with words := ws } HH.out (x.extract 0 64) (by have := HLT.out; simp; omega)).mono ?_
        rintro e w6 ⟨rfl, hH, hC⟩
        have HH3 := Aside0.mk hH
        have HC3 := Aside0.mk (HC.out.trans (hC.mono (fun k _ hk => hk)))
        clear hH hC HH HC
        go_wp2
        go_roundw
        case rel =>
          refine ⟨blockF s2.step ws (x.extract 0 64), x.extract 64 x.size, rfl, ⟨by have := HSZ.out; simp; omega⟩, HH3, ⟨?_⟩, HC3⟩
          have e1 : x.size / 64 = (x.extract 64 x.size).size / 64 + 1 := by have := HLT.out; simp; omega
          have := HRES.out
          rw [e1, absorb] at this
          exact this
        case measure => have := HLT.out; simp [sizeV]; omega
      · have h64 : ¬ (64 : Int) ≤ x.size := by omega
        have HE := Lib.hid (show (ws, x) = res by have := HRES.out; rw [show x.size / 64 = 0 by omega, absorb] at this; exact this)
        have hcr := HH.out.rst
        have hfr := HH.out.free 72
        simp only at hcr
        have hd : decide ((64 : Int) ≤ x.size) = false := decide_eq_false h64
        go_wp2
        go_end0
        refine ⟨rfl, ?_, HC.out.setCell (p := ⟨b, 72, none⟩) rfl _⟩
        have := HH.out.setRest x
        rw [HW.out, ← HE.out]
        exact this
end Go.Proofs.YtlilkfnfcaepiaaGreatDoor.G
set_option linter.unusedSimpArgs false
set_option linter.unusedVariables false
namespace Go.Proofs.YtlilkfnfcaepiaaGreatDoor.G
open Go.RowKit Go.Proofs.YtlilkfnfcaepiaaGreatDoorW.PrintWords Go.Proofs.YtlilkfnfcaepiaaGreatDoorW.PrintLast Go.Proofs.YtlilkfnfcaepiaaGreatDoorW.PrintMore PB H D

def HS.zero : HS := ⟨List.replicate 8 0, List.replicate 64 0, ByteArray.empty, 0, false⟩
theorem info152 : (Tryz.prog.info? 152).map (fun i => (i.zero, i.size)) = some (some (.agg HS.zero.cells), 75) := by kernel_rfl
theorem HS.size (s : HS) (h8 : s.words.length = 8) (h64 : s.step.length = 64) : s.cells.size = 75 := by simp [HS.cells, h8, h64]
theorem HS.one (s : HS) : s.cells.all (·.oneCell') = true := by
  unfold HS.cells
  rw [Array.all_eq_true_iff_forall_mem]
  intro v hv
  simp only [List.mem_toArray, List.mem_append, List.mem_map, List.mem_cons, List.not_mem_nil, or_false] at hv
  rcases hv with ⟨x, _, rfl⟩ | ⟨x, _, rfl⟩ | rfl | rfl | rfl <;> rfl
theorem load_hash {w : World} {b : Nat} {s : HS} (h : HAt w b s) : (Instr.loadAt 152 (.pointer (some ⟨b, 0, none⟩))).run Tryz.prog w = .ok (.agg s.cells) w := by
  simp only [Instr.loadAt, Instr.sureAddr, Sem.run_bind, Sem.run_pure, Result.andThen]
  exact run_loadVar_row w b 152 152 s.cells (0, 0) _ h.row Tryz.underlying152 rfl (by rw [s.size h.l8 h.l64]; have := info152; revert this; cases Tryz.prog.info? 152 <;> simp)
theorem zero_hash (w : World) : (zeroValue 152).run Tryz.prog w = .ok (.agg HS.zero.cells) w := (zero_of_info info152).1 w

theorem make_n (n : Nat) (hn : n ≤ 281474976710656) (W : World) : (Instr.makeSlice 76 (.int .i64 (n : Int)) (.int .i64 (n : Int))).run Tryz.prog W = .ok (.slice (some ⟨W.heap.size, 0, none⟩) n n) (W.alloc (.cells (madeCells #[.int .u8 0] n) 5)) :=
  print_make 76 5 .u8 1 Tryz.underlying76 PB.info5 (by decide) n (by omega) W
theorem made_R (W : World) (base n : Nat) (hb : base ≤ W.heap.size) (hm : n ≤ 9223372036854775807) (ok : Nat → Prop) (hok : ok W.heap.size) :
    Kd.R (Kd.int .u8) 5 (W.alloc (.cells (madeCells #[.int .u8 0] n) 5)) base ok (.slice (some ⟨W.heap.size, 0, none⟩) n n) (List.replicate n 0) := by
  have h := own_made W base 5 .u8 n hb hm
  refine Kd.R_of_own (enc := Value.int .u8) (h1 := fun _ => rfl) ?_ (fun k hk => by simp [Value.ownBlock] at hk; subst hk; exact hok)
  rw [List.length_replicate]
  exact h
/-- The pad. -/
def padN (r : Nat) : Nat := 1 + (119 - r) % 64
def byteAt (z : Int) (k : Nat) : Int := z / 2 ^ (56 - 8 * k) % 256
def sizeL (z : Int) : Nat → List Int
  | 0 => []
  | k + 1 => sizeL z k ++ [byteAt z k]
theorem sizeL_length (z : Int) : ∀ k, (sizeL z k).length = k
  | 0 => rfl
  | k + 1 => by simp [sizeL, sizeL_length z k]
def word4 (x : Int) : List Int := [x / 16777216 % 256, x / 65536 % 256, x / 256 % 256, x % 256]
def padL (s : HS) : List Int := (List.replicate (padN s.rest.size) 0).set 0 128
/-- What Sum writes at the end, and what it answers. -/
def endS (s : HS) : HS := writeF s (strOfNums (padL s ++ sizeL (IntKind.u64.wrap (s.n * 8)) 8))
def outL (ws : List Int) (k : Nat) : List Int := (ws.take k).flatMap word4
theorem outL_next (ws : List Int) (k : Nat) (h : k < ws.length) : outL ws (k + 1) = outL ws k ++ word4 (ws.getD k 0) := by
  unfold outL; rw [List.take_succ_eq_append_getElem h, List.flatMap_append]; simp [List.getD, h]
theorem outL_length (ws : List Int) (k : Nat) (h : k ≤ ws.length) : (outL ws k).length = 4 * k := by
  induction k with
  | zero => simp [outL]
  | succ k ih => rw [outL_next ws k (by omega), List.length_append, ih (by omega)]; simp [word4]; omega
def hsumF (s : HS) : ByteArray := strOfNums (outL (endS s).words 8)
theorem strOfNums_size (l : List Int) : (strOfNums l).size = l.length := by
  show ((l.map fun n => UInt8.ofNat n.toNat).toArray).size = l.length
  simp
theorem lit_R (W : World) (ys : List Int) (hy : ys.length ≤ 1000) : Kd.R (Kd.int .u8) 5 (W.alloc (.cells (nums .u8 ys).toArray 5)) W.heap.size (fun _ => True) (.slice (some ⟨W.heap.size, 0, none⟩) ys.length ys.length) ys :=
  Kd.R_of_own (enc := Value.int .u8) (h1 := fun _ => rfl) (own_lit W W.heap.size 5 .u8 ys (Nat.le_refl _) (by omega)) (fun _ _ => trivial)

set_option maxRecDepth 100000 in
set_option maxHeartbeats 2000000 in
theorem hsum_any (w : World) (b : Nat) (s : HS) (h : HAt w b s) (ht : s.rest.size < 64) : Calls Tryz.prog 98 #[.pointer (some ⟨b, 0, none⟩)] w (fun e w' => e = .returned (.string (hsumF s)) ∧ Below w.heap.size w w') := by
  have hbl : b < w.heap.size := h.lt
  have hlc : (loadCellsFrom ⟨b, 0, none⟩ 0 75 #[]).run Tryz.prog w = .ok s.cells w := by
    have hs := s.size h.l8 h.l64
    have := run_loadCells_list (P := Tryz.prog) w ⟨b, 0, none⟩ s.cells.toList (fun j v hv => by
      have hadd : (⟨b, 0, none⟩ : Addr).add j = ⟨b, j, none⟩ := by unfold Addr.add; split <;> simp_all
      rw [hadd, h.at j]; simpa using hv)
    simpa [loadCells, hs] using this
  have hsc := run_storeCells_new (P := Tryz.prog) w 152 Tryz.zeroCells152 s.cells (by rw [s.size h.l8 h.l64]; have := info152; revert this; cases Tryz.prog.info? 152 <;> simp) (by rw [Tryz.zeroCells152_size, s.size h.l8 h.l64]) s.one
  have hsz := s.size h.l8 h.l64
  have cr := h.rst
  have cn := h.cn
  obtain ⟨y, hy⟩ : ∃ y : Nat, y = 152 := ⟨_, rfl⟩
  have HY := Lib.hid hy
  have hl1 : Op.load 152 (Operand.tmp 11) = Op.load y (Operand.tmp 11) := by rw [hy]
  have hl2 : Op.store 152 (Operand.tmp 3) (Operand.tmp 12) = Op.store y (Operand.tmp 3) (Operand.tmp 12) := by rw [hy]
  clear hy
  go_enter Tryz.func98, Tryz.ntmps98
  rw [hl1, hl2]
  clear hl1 hl2
  go_wp2
  simp only [HY.out, Tryz.isAgg152, Tryz.sizeOf152, Result.andThen, ↓reduceIte, hlc]
  rw [Oper.upon_value]
  go_wp2
  simp only [HY.out, Tryz.isAgg152, Tryz.sizeOf152, Result.andThen, ↓reduceIte, hsc, hsz]
  rw [Oper.upon_skip]
  have hb1 : Below w.heap.size w (w.alloc (Obj.cells s.cells 152)) := Below.alloc' (Nat.le_refl _) _
  have HS := Aside0.mk (show HAt (w.alloc (Obj.cells s.cells 152)) b s from h.move (hb1.block _ h.lt))
  have HE := Aside0.mk (show HAt (w.alloc (Obj.cells s.cells 152)) w.heap.size s from ⟨Row.alloc _ _, h.l8, h.l64⟩)
  have HB := Aside0.mk hb1
  clear hb1 hlc hsc hsz cr cn h HY
  generalize w.alloc (Obj.cells s.cells 152) = w1 at HS HE HB ⊢
  have cr := HS.out.rst
  have cn := HS.out.cn
  obtain ⟨r, hr⟩ : ∃ r, s.rest.size = r := ⟨_, rfl⟩
  have hr64 : r < 64 := by omega
  have e1 : (s.rest.size : Int) = (r : Int) := by omega
  have hnp : padN r ≤ 281474976710656 := by unfold padN; omega
  have e2 : 1 + (119 - (r : Int)) % 64 = (padN r : Int) := by unfold padN; omega
  have hmk := make_n (padN r) hnp w1
  rw [← e2] at hmk
  have HMK := Lib.hid hmk
  have E2 := Lib.hid e2
  clear hmk e2
  go_wp2
  rw [HMK.out]
  simp only [Result.andThen]
  rw [Oper.upon_value]
  have hz1 : w.heap.size < w1.heap.size := HE.out.lt
  have hb2 : Below w1.heap.size w1 (w1.alloc (.cells (madeCells #[.int .u8 0] (padN r)) 5)) := Below.alloc' (Nat.le_refl _) _
  have HR := Aside0.mk (made_R w1 w.heap.size (padN r) (by omega) (by omega) (fun k => w.heap.size < k) hz1)
  have HS1 := Aside0.mk (HS.out.move (hb2.block _ HS.out.lt))
  have HE1 := Aside0.mk (HE.out.move (hb2.block _ HE.out.lt))
  have HB1 := Aside0.mk (below_step HB.out hb2)
  clear hb2 HS HE HB cr cn
  generalize w1.alloc (.cells (madeCells #[.int .u8 0] (padN r)) 5) = w2 at HR HS1 HE1 HB1 ⊢
  obtain ⟨g, hg⟩ : ∃ g, w1.heap.size = g := ⟨_, rfl⟩
  rw [hg] at HR hz1 ⊢
  clear hg HMK
  clear w1
  have hc0 := Kd.R_celln (0 : Int) HR.out 0 (by omega) (by have := E2.out; omega)
  rw [Int.toNat_zero] at hc0
  obtain ⟨hc0, hf0⟩ := hc0
  generalize rdOf (0 : Int) (List.replicate (padN r) 0) 0 = x0 at hc0
  have hp0 : (0 : Int) < (padN r : Int) := by have := E2.out; omega
  have hp1 : 0 < padN r := by omega
  have HP := Aside0.mk (Kd.R_putn HR.out 0 (128 : Int))
  rw [Int.toNat_zero] at HP
  have cn := HS1.out.cn
  have hgb : b ≠ g := by omega
  have hge : w.heap.size ≠ g := by omega
  have HS2 := Aside0.mk (HS1.out.move (Below.heap_setCell _ ⟨g, 0, none⟩ (.int .u8 128) _ hgb))
  have HE2 := Aside0.mk (HE1.out.move (Below.heap_setCell _ ⟨g, 0, none⟩ (.int .u8 128) _ hge))
  have HB2 := Aside0.mk (belowSetNew HB1.out (q := ⟨g, 0, none⟩) (by show w.heap.size ≤ g; omega) (.int .u8 128))
  have HPL : Aside0 (Kd.R (Kd.int .u8) 5 (w2.setCell ⟨g, 0, none⟩ (.int .u8 128)) w.heap.size (fun k => w.heap.size < k) (.slice (some ⟨g, 0, none⟩) (padN r) (padN r)) (padL s ++ sizeL (IntKind.u64.wrap (s.n * 8)) 0)) := by
    unfold padL sizeL; rw [hr, List.append_nil]; exact HP
  have HLP := Lib.hid (show (padL s).length = padN r by unfold padL; simp [hr])
  clear HS1 HE1 HB1 HR HP
  go_wp2
  generalize w2.setCell ⟨g, 0, none⟩ (.int .u8 128) = w3 at HS2 HE2 HB2 HPL ⊢
  clear hc0 hf0 hp0 hp1 cn
  generalize hzz : IntKind.u64.wrap (s.n * 8) = z at HPL ⊢
  have HZ := Lib.hid hzz
  clear hzz
  generalize hpl : padL s = pl at HPL HLP
  have HPE := Lib.hid hpl
  clear hpl
  go_loopw [4, 6] (fun v4 v6 wr => ∃ k : Nat, k ≤ 8 ∧ v6 = .int .i64 (56 - 8 * (k : Int)) ∧ Aside0 (Kd.R (Kd.int .u8) 5 wr w.heap.size (fun k => w.heap.size < k) v4 (pl ++ sizeL z k)) ∧ Aside0 (HAt wr b s) ∧ Aside0 (HAt wr w.heap.size s) ∧ Aside0 (Below w.heap.size w wr)) (fun _ v6 _ => (intOf v6 + 8).toNat)
  case atStart => exact ⟨0, by omega, rfl, HPL, HS2, HE2, HB2⟩
  case round =>
    clear HPL HS2 HE2 HB2 w3 w2
    obtain ⟨k, hk, rfl, HR, HS, HE, HB⟩ := hrel
    obtain ⟨A, c, rfl⟩ := Kd.R_slice HR.out
    by_cases hlt : k < 8
    · obtain ⟨j, hj⟩ : ∃ j : Nat, j = 56 - 8 * k := ⟨_, rfl⟩
      have ej : 56 - 8 * (k : Int) = (j : Int) := by omega
      rw [ej]
      have hj64 : j < 64 := by omega
      have ej8 : IntKind.i64.wrap ((j : Int) - 8) = 56 - 8 * ((k + 1 : Nat) : Int) := by rw [IntWalk.i64_in _ (by omega)]; omega
      have HJ := Lib.hid (And.intro hj hlt)
      clear hj ej hlt
      obtain ⟨l, hl⟩ : ∃ l, pl ++ sizeL z k = l := ⟨_, rfl⟩
      rw [hl] at HR ⊢
      have hll : l.length ≤ 1000 := by rw [← hl, List.length_append, HLP.out, sizeL_length]; have := E2.out; omega
      have HL := Aside0.mk (show (l.length + 1) * 1 ≤ 140737488355328 by omega)
      have HNX := Lib.hid (show pl ++ sizeL z (k + 1) = l ++ [z / 2 ^ j % 256] by rw [sizeL, ← List.append_assoc, hl, byteAt, HJ.out.1])
      clear hl hll
      have hsz := HE.out.lt
      go_wp2_with (first | ((with_reducible refine gate_builtin (b := .append) (xs := #[.tmp 34, .tmp 39]) rfl ?_); at_builtin; refine Kd.R_append (Kd.int .u8) (w0 := w) w.heap.size rfl (.tmp 34) (.tmp 39) 76 5 (.int .u8 0) 1 rfl Tryz.underlying76 PB.info5 rfl (by decide) (by omega) (.slice A l.length c) l (z / 2 ^ j % 256) [.int .u8 (z / 2 ^ j % 256)] (fun k => w.heap.size < k) (fun _ => False) rfl rfl ?aP (fun _ hk => hk.elim) ?aF ?aO ?aB ?aS ?aL ?_; (case aP => exact rfl); (case aB => exact HB.out); (case aF => intro k hk; omega); (case aO => exact HR.out); (case aS => exact HB.out.size); (case aL => exact HL.out); intro v3 w3 ho hb hg hat; have HB3 := Aside0.mk hb; have HR3 := Aside0.mk ho; have HS3 := Aside0.mk (HS.out.move (hg.block b HS.out.lt (fun e => by have := HR.out.1 b e.symm; omega))); have HE3 := Aside0.mk (HE.out.move (hg.block w.heap.size HE.out.lt (fun e => by have := HR.out.1 w.heap.size e.symm; omega))); clear ho hb hg hat) | fail)
      go_roundw
      case rel => exact ⟨k + 1, by have := HJ.out.2; omega, rfl, ⟨by rw [HNX.out]; exact HR3.out⟩, HS3, HE3, HB3⟩
      case measure => simp [intOf]; have := HJ.out; omega
    · have hk8 : k = 8 := by omega
      subst hk8
      clear hk hlt
      obtain ⟨l, hl⟩ : ∃ l, pl ++ sizeL z 8 = l := ⟨_, rfl⟩
      rw [hl] at HR ⊢
      have hll : l.length ≤ 1000 := by rw [← hl, List.length_append, HLP.out, sizeL_length]; have := E2.out; omega
      have hcvs := own_string (P := Tryz.prog) Tryz.underlying76 Tryz.underlying5 Tryz.underlying9 (Kd.own_of_R HR.out)
      obtain ⟨t, ht2⟩ : ∃ t, strOfNums l = t := ⟨_, rfl⟩
      rw [ht2] at hcvs
      have HT := Lib.hid ht2
      have HEND := Lib.hid (show endS s = writeF s t by rw [← ht2, ← hl]; unfold endS; rw [HPE.out, HZ.out])
      have HTS := Lib.hid (show t.size ≤ 1000 by rw [← ht2, strOfNums_size]; exact hll)
      clear ht2 hl hll
      go_wp2_with fail
      refine (write_any wr w.heap.size s HE.out t (by have := HTS.out; omega)).mono ?_
      rintro e w4 ⟨rfl, hh4, hc4⟩
      rw [← HEND.out] at hh4
      have HE4 := Aside0.mk hh4
      have HB4 := Aside0.mk (show Below w.heap.size w w4 from (HB.out.trans (hc4.toBelow (Nat.le_of_lt HE.out.lt) (fun k hk => by omega))))
      clear hh4 hc4 HS HE HR HB hcvs
      obtain ⟨w5, v5, hmk, hR5, hb5, hz5, hv5⟩ := make_bytes w4 w.heap.size 32 (by omega) (Nat.le_of_lt HE4.out.lt) (fun k => w.heap.size < k) HE4.out.lt
      have hmk2 : (Instr.makeSlice 76 (.int .i64 0) (.int .i64 32)).run Tryz.prog w4 = .ok v5 w5 := hmk
      clear hmk
      have HL5 := Aside0.mk (show w.heap.size < w5.heap.size from Nat.lt_of_lt_of_le HE4.out.lt hb5.size)
      have HE5 := Aside0.mk (HE4.out.move (hb5.block _ HE4.out.lt))
      have HB5 := Aside0.mk (below_step HB4.out hb5)
      have HR5 := Aside0.mk hR5
      clear hb5 hz5 hv5 hR5 HB4 HE4
      obtain ⟨ws, hws⟩ : ∃ ws, (endS s).words = ws := ⟨_, rfl⟩
      have hw8 : ws.length = 8 := by rw [← hws]; exact HE5.out.l8
      obtain ⟨v, hv⟩ : ∃ v, v = V8.of ws := ⟨_, rfl⟩
      have hvl : v.l = ws := by rw [hv]; exact V8.l_of ws hw8
      have c0 : w5.cell? ⟨w.heap.size, 0, none⟩ = some (.int .u32 v.a) := by rw [hv, ← hws]; exact HE5.out.word 0 (by omega)
      have c1 : w5.cell? ⟨w.heap.size, 1, none⟩ = some (.int .u32 v.b) := by rw [hv, ← hws]; exact HE5.out.word 1 (by omega)
      have c2 : w5.cell? ⟨w.heap.size, 2, none⟩ = some (.int .u32 v.c) := by rw [hv, ← hws]; exact HE5.out.word 2 (by omega)
      have c3 : w5.cell? ⟨w.heap.size, 3, none⟩ = some (.int .u32 v.d) := by rw [hv, ← hws]; exact HE5.out.word 3 (by omega)
      have c4 : w5.cell? ⟨w.heap.size, 4, none⟩ = some (.int .u32 v.e) := by rw [hv, ← hws]; exact HE5.out.word 4 (by omega)
      have c5 : w5.cell? ⟨w.heap.size, 5, none⟩ = some (.int .u32 v.f) := by rw [hv, ← hws]; exact HE5.out.word 5 (by omega)
      have c6 : w5.cell? ⟨w.heap.size, 6, none⟩ = some (.int .u32 v.g) := by rw [hv, ← hws]; exact HE5.out.word 6 (by omega)
      have c7 : w5.cell? ⟨w.heap.size, 7, none⟩ = some (.int .u32 v.h) := by rw [hv, ← hws]; exact HE5.out.word 7 (by omega)
      have HV := Lib.hid (And.intro hvl hws)
      clear hv hvl hws
      go_wp2
      clear c0 c1 c2 c3 c4 c5 c6 c7
      have hA : ∀ i, i < 8 → (#[Value.int IntKind.u32 v.a, Value.int IntKind.u32 v.b, Value.int IntKind.u32 v.c, Value.int IntKind.u32 v.d, Value.int IntKind.u32 v.e, Value.int IntKind.u32 v.f, Value.int IntKind.u32 v.g, Value.int IntKind.u32 v.h] : Array Value)[i]? = some (.int .u32 (v.l.getD i 0)) := by
        intro i hi
        match i, hi with
        | 0, _ => rfl
        | 1, _ => rfl
        | 2, _ => rfl
        | 3, _ => rfl
        | 4, _ => rfl
        | 5, _ => rfl
        | 6, _ => rfl
        | 7, _ => rfl
      generalize #[Value.int IntKind.u32 v.a, Value.int IntKind.u32 v.b, Value.int IntKind.u32 v.c, Value.int IntKind.u32 v.d, Value.int IntKind.u32 v.e, Value.int IntKind.u32 v.f, Value.int IntKind.u32 v.g, Value.int IntKind.u32 v.h] = AA at hA ⊢
      rw [HV.out.1] at hA
      have HA := Aside0.mk hA
      clear hA hmk2 HE5
      go_loopw [7, 47] (fun v7 v47 wr => ∃ i : Nat, i ≤ 8 ∧ v47 = .int .i64 i ∧ Aside0 (Kd.R (Kd.int .u8) 5 wr w.heap.size (fun k => w.heap.size < k) v7 (outL ws i)) ∧ Aside0 (w.heap.size < wr.heap.size) ∧ Aside0 (Below w.heap.size w wr)) (fun _ v47 _ => 8 - (intOf v47).toNat)
      case atStart => exact ⟨0, by omega, rfl, HR5, HL5, HB5⟩
      case round =>
        clear HR5 HB5 HL5
        obtain ⟨i, hi, rfl, HR, HLT, HB⟩ := hrel
        obtain ⟨A2, c, rfl⟩ := Kd.R_slice HR.out
        by_cases hlt : i < 8
        · have i64 : (i : Int) < 8 := by omega
          have ha := HA.out i hlt
          generalize hy : ws.getD i 0 = y at ha
          have HNX := Lib.hid (show outL ws (i + 1) = outL ws i ++ word4 y by rw [outL_next ws i (by omega), hy])
          have hol : (outL ws i).length ≤ 32 := by rw [outL_length ws i (by omega)]; omega
          have hidx := fun w => idx8 AA i hlt y ha w
          clear ha hy
          obtain ⟨l2, hl2⟩ : ∃ l2, outL ws i = l2 := ⟨_, rfl⟩
          rw [hl2] at HR HNX hol ⊢
          clear hl2
          have HL4 := Aside0.mk (Kd.R_reads' (lit_R wr (word4 y) (by simp [word4]))).2.2
          have HL := Aside0.mk (show (l2.length + 4) * 1 ≤ 140737488355328 by omega)
          clear hol
          go_wp2_with (first | ((with_reducible refine gate_builtin (b := .append) (xs := #[.tmp 50, .tmp 62]) rfl ?_); at_builtin; refine Kd.R_append_rows (Kd.int .u8) (w0 := w) w.heap.size rfl (.tmp 50) (.tmp 62) 76 5 (.int .u8 0) 1 rfl Tryz.underlying76 PB.info5 rfl (by decide) (by omega) (.slice A2 l2.length c) l2 (word4 y) _ _ _ (fun k => w.heap.size < k) (fun _ => False) rfl rfl ?aO ?aR (fun _ _ h => h) (fun _ h => h.elim) ?aF ?aB ?aS ?aL ?_; (case aR => exact HL4.out); (case aB => exact HB.out.alloc (Nat.le_of_lt HLT.out) _); (case aF => (intro k hk; have := HLT.out; simp at hk; omega)); (case aO => exact Kd.R_alloc HR.out _); (case aS => (have := HLT.out; simp; omega)); (case aL => exact HL.out); intro v3 w3 ho hb hg hat; have HB3 := Aside0.mk hb; have HR3 := Aside0.mk ho; have HLT3 := Aside0.mk (show w.heap.size < w3.heap.size from Nat.lt_of_lt_of_le (by have := HLT.out; simp; omega) hg.size); clear ho hb hg hat) | fail)
          go_roundw
          case rel => exact ⟨i + 1, by omega, by go_num, ⟨by rw [HNX.out]; exact HR3.out⟩, HLT3, HB3⟩
          case measure => simp [intOf]; omega
        · have hi8 : i = 8 := by omega
          subst hi8
          clear hi hlt
          obtain ⟨l2, hl2⟩ : ∃ l2, outL ws 8 = l2 := ⟨_, rfl⟩
          rw [hl2] at HR ⊢
          have HF := Lib.hid (show hsumF s = strOfNums l2 by unfold hsumF; rw [HV.out.2, hl2])
          clear hl2
          have hcvs := own_string (P := Tryz.prog) Tryz.underlying76 Tryz.underlying5 Tryz.underlying9 (Kd.own_of_R HR.out)
          go_wp2
          go_ret
          exact ⟨congrArg (fun z => Ending.returned (Value.string z)) HF.out.symm, HB.out⟩

/-- What Sum of a text, and Name, answer. -/
def sumF (t : ByteArray) : ByteArray := hsumF (writeF HS.zero t)
def nameF (t : ByteArray) : ByteArray := hexS (sumF t)
end Go.Proofs.YtlilkfnfcaepiaaGreatDoor.G
set_option linter.unusedSimpArgs false
set_option linter.unusedVariables false
namespace Go.Proofs.YtlilkfnfcaepiaaGreatDoor.G
open Go.RowKit Go.Proofs.YtlilkfnfcaepiaaGreatDoorW.PrintWords Go.Proofs.YtlilkfnfcaepiaaGreatDoorW.PrintLast Go.Proofs.YtlilkfnfcaepiaaGreatDoorW.PrintMore PB H D

theorem absorb_rest (st : List Int) : ∀ (k : Nat) (ws : List Int) (t : ByteArray), t.size / 64 = k → (absorb st k (ws, t)).2.size = t.size % 64
  | 0, ws, t, h => by rw [absorb]; show t.size = _; omega
  | k + 1, ws, t, h => by
    rw [absorb, absorb_rest st k _ _ (by simp; omega)]; simp; omega
theorem absorb_words (st : List Int) (b : Nat) : ∀ (k : Nat) (ws : List Int) (t : ByteArray), ws.length = 8 → (absorb st k (ws, t)).1.length = 8
  | 0, ws, t, h => h
  | k + 1, ws, t, h => by
    rw [absorb]
    exact absorb_words st b k _ _ (by unfold blockF; rw [addW_length, h])
theorem writeF_rest (s : HS) (t : ByteArray) : (writeF s t).rest.size < 64 := by
  unfold writeF; simp only; rw [absorb_rest _ _ _ _ rfl]; omega
theorem writeF_words (s : HS) (t : ByteArray) (h : s.words.length = 8) : (writeF s t).words.length = 8 := by
  unfold writeF; simp only
  exact absorb_words _ 0 _ _ _ (by unfold begunF; split <;> simp [h, H8_length])
theorem sumF_size (t : ByteArray) : (sumF t).size = 32 := by
  unfold sumF hsumF
  rw [strOfNums_size, outL_length]
  unfold endS
  rw [writeF_words _ _ (writeF_words _ _ (by simp [HS.zero]))]; omega
theorem hexS_size (s : ByteArray) : (hexS s).size = 2 * s.size := by
  unfold hexS; rw [strOfNums_size, hexL_length]; simp
theorem nameF_size (t : ByteArray) : (nameF t).size = 64 := by unfold nameF; rw [hexS_size, sumF_size]

theorem zero152 : Tryz.zeroCells152 = HS.zero.cells := by kernel_rfl

set_option maxRecDepth 100000 in
set_option maxHeartbeats 1000000 in
theorem sum_any (t : ByteArray) (ht : t.size ≤ 1099511627776) (w : World) : Calls Tryz.prog 66 #[.string t] w (fun e w' => e = .returned (.string (sumF t)) ∧ Below w.heap.size w w') := by
  go_enter Tryz.func66, Tryz.ntmps66
  go_wp2_with fail
  have HA : HAt (w.alloc (.cells Tryz.zeroCells152 152)) w.heap.size HS.zero := ⟨by rw [zero152]; exact Row.alloc _ _, by simp [HS.zero], by simp [HS.zero]⟩
  refine (write_any _ w.heap.size HS.zero HA t (by simp [HS.zero]; omega)).mono ?_
  rintro e w2 ⟨rfl, hh, hc⟩
  have HB := Aside0.mk (show Below w.heap.size w w2 from (Below.alloc' (Nat.le_refl _) _).trans (hc.toBelow (by simp) (fun k hk => by omega)))
  have HH := Aside0.mk hh
  clear hh hc HA
  go_wp2_with fail
  refine (hsum_any w2 w.heap.size _ HH.out (writeF_rest _ _)).mono ?_
  rintro e w3 ⟨rfl, hb⟩
  have HB2 := Aside0.mk (below_step HB.out hb)
  clear hb
  go_wp2
  go_ret
  exact ⟨rfl, HB2.out⟩

set_option maxRecDepth 100000 in
theorem name_any (t : ByteArray) (ht : t.size ≤ 1099511627776) (w : World) : Calls Tryz.prog 31 #[.string t] w (fun e w' => e = .returned (.string (nameF t)) ∧ Below w.heap.size w w') := by
  go_enter Tryz.func31, Tryz.ntmps31
  go_wp2_with fail
  refine (sum_any t ht w).mono ?_
  rintro e w2 ⟨rfl, hb⟩
  have HB := Aside0.mk hb
  clear hb
  go_wp2_with fail
  refine (bits_Hex (sumF t) (by rw [sumF_size]; omega) w2).mono ?_
  rintro e w3 ⟨rfl, hb⟩
  have HB2 := Aside0.mk (below_step HB.out hb)
  clear hb
  go_wp2
  go_ret
  exact ⟨rfl, HB2.out⟩
end Go.Proofs.YtlilkfnfcaepiaaGreatDoor.G
