/- The disk: Settle and List. -/
import Derived.Test.YtlilkfnfcaepiaaGreatDoorXe
import Derived.Test.YtlilkfnfcaepiaaGreatDoorXs
set_option linter.unusedSimpArgs false
set_option linter.unusedVariables false
namespace Go.Proofs.YtlilkfnfcaepiaaGreatDoor.D
open Go.RowKit Go.Proofs.YtlilkfnfcaepiaaGreatDoorW.PrintWords
open Go.ChangeMaps Go.MapKept

/-- maps.Clone, of a folder. -/
theorem Clone_any {w : World} {m n : Nat} {D : DataW Unit} (h : FMap w m n D) :
    Calls Tryz.prog 48 #[.map (some m)] w fun e w' => e = .returned (.map (some w.heap.size)) ∧ FMap w' w.heap.size n D ∧ Below w.heap.size w w' ∧ w'.heap.size = w.heap.size + 1 := by
  obtain ⟨es, clock, hb, F, hs, hD⟩ := h
  refine (AnyW.maps_Clone Tryz.cloneM m es clock w hb).mono ?_
  rintro e w' ⟨he, rfl⟩
  exact ⟨he, ⟨es, clock, (MapKept.heap_alloc w _).1, F, hs, hD⟩, (Below.refl _ _).alloc (Nat.le_refl _) _, by simp⟩

/-- Settle: the error's number, the disk behind it. -/
def AD.settleB (b : AD) : Int × AD := if b.dead then (10, b) else (0, { b with sm := b.fm, st := [] })
def AD.settle (a : AD) : Int × AD := a.alive.settleB

/-- The folder's entries are safe. -/
theorem Parts.settled {w w1 : World} {F : Nat → Prop} {base d n : Nat} {a : AD} {mf ms : Nat} {sv : Value} (p : Parts w F base d n a mf ms sv)
    (hm : FMap w1 w.heap.size n a.fm) (hb : Below w.heap.size w w1) (hz : w1.heap.size = w.heap.size + 1) :
    Parts ((w1.setCell ⟨d, 2, none⟩ (.map (some w.heap.size))).setCell ⟨d, 3, none⟩ (.slice none 0 0)) (Grow F w ((w1.setCell ⟨d, 2, none⟩ (.map (some w.heap.size))).setCell ⟨d, 3, none⟩ (.slice none 0 0))) base d n { a with sm := a.fm, st := [] } mf w.heap.size (.slice none 0 0) ∧
    Chg F w ((w1.setCell ⟨d, 2, none⟩ (.map (some w.heap.size))).setCell ⟨d, 3, none⟩ (.slice none 0 0)) := by
  have hdl := p.high d p.fd
  have hb1 : DB w1 d a.room mf ms sv a.arm a.dead := p.blk.move (hb.block d hdl)
  have hz2 : ((w1.setCell ⟨d, 2, none⟩ (.map (some w.heap.size))).setCell ⟨d, 3, none⟩ (.slice none 0 0)).heap.size = w.heap.size + 1 := by simp [World.setCell, hz]
  have hne : ∀ k y, w1.heap[k]? = some y → (∀ c f, y ≠ Obj.cells c 72 f) → ((w1.setCell ⟨d, 2, none⟩ (.map (some w.heap.size))).setCell ⟨d, 3, none⟩ (.slice none 0 0)).heap[k]? = some y := fun k y hy ht => by
    have hk : k ≠ d := ne_obj hy hb1 (ht _ _)
    rw [Below.heap_setCell _ _ _ _ hk, Below.heap_setCell _ _ _ _ hk]; exact hy
  have live : ∀ id, ({ a with sm := a.fm, st := [] } : AD).Live id → a.Live id := by
    rintro id (h | h | ⟨s, h, _⟩ | h)
    · exact .inl h
    · exact .inl h
    · cases h
    · exact .inr (.inr (.inr h))
  refine ⟨{ p with blk := (hb1.setSafe w.heap.size).setSteps _, files := ?_, safe := ?_, ne := ?_, steps := World.ownsRow_nil _ _ _ _, len := Nat.zero_le _, obj := fun id h => ?_, big := fun id h => p.big id (live id h), fd := .inl p.fd, ff := .inl p.ff, fs := .inr ⟨Nat.le_refl _, by omega⟩, ft := fun k hk => by simp [Value.ownBlock] at hk, fo := fun id h => .inl (p.fo id (live id h)), low := ?_, high := ?_ }, ?_⟩
  · obtain ⟨es, cl, hx⟩ := p.files.at
    have hx1 := (hb.block mf (p.high mf p.ff)).trans hx
    exact p.files.move ((hne _ _ hx1 (by simp)).trans hx.symm)
  · obtain ⟨es, cl, hx⟩ := hm.at
    exact hm.move ((hne _ _ hx (by simp)).trans hx.symm)
  · have := p.high mf p.ff; omega
  · exact hne _ _ ((hb.block id (p.high id (p.fo id (live id h)))).trans (p.obj id (live id h))) (by simp)
  · intro b hb
    rcases hb with hb | ⟨hb, _⟩
    · exact p.low b hb
    · exact Nat.le_trans (Nat.le_of_lt (Nat.lt_of_le_of_lt (p.low d p.fd) hdl)) hb
  · intro b hb
    rcases hb with hb | ⟨_, hb⟩
    · have := p.high b hb; omega
    · exact hb
  · exact ((Chg.of_below hb).setCell (p := ⟨d, 2, none⟩) p.fd _).setCell (p := ⟨d, 3, none⟩) p.fd _

set_option maxRecDepth 100000 in
set_option maxHeartbeats 1000000 in
theorem Settle_any {w : World} {F : Nat → Prop} {base d n : Nat} {a : AD} (h : DiskAt w F base d n a) :
    Calls Tryz.prog 46 #[.pointer (some ⟨d, 0, none⟩)] w (OpPost2 F base d n w a.settle) := by
  obtain ⟨mf, ms, sv, p⟩ := h
  have hbase : base ≤ w.heap.size := Nat.le_of_lt (Nat.lt_of_le_of_lt (p.low d p.fd) (p.high d p.fd))
  have hS : a.settle = a.alive.settleB := rfl
  have HA := Lib.hid (alive_disk p)
  clear p
  generalize a.alive = b at HA hS
  have HS := Lib.hid hS
  clear hS
  go_enter Tryz.func46, Tryz.ntmps46
  go_wp2_with fail
  refine HA.out.mono ?_
  rintro e w1 ⟨rfl, p1, hc1⟩
  have h1 := p1.blk.c1
  have P1 := Lib.hid p1
  have HC := Lib.hid hc1
  clear HA p1 hc1
  cases hd : b.dead with
  | true =>
    have HR := Lib.hid (show a.settle = (10, b) by rw [HS.out, AD.settleB, hd]; rfl)
    clear hd HS
    go_wp2
    go_ret
    exact ⟨ret_i (by rw [HR.out]), by rw [HR.out]; exact DiskAt.grow P1.out (Nat.le_refl _) HC.out.size hbase, HC.out⟩
  | false =>
    have HR := Lib.hid (show a.settle = (0, { b with sm := b.fm, st := [] }) by rw [HS.out, AD.settleB, hd]; rfl)
    clear hd HS
    go_wp2_with fail
    refine (Clone_any P1.out.files).mono ?_
    rintro e w2 ⟨rfl, hm, hb, hz⟩
    have hb2 := P1.out.blk.move (hb.block d (P1.out.high d P1.out.fd))
    have c2 := hb2.c2
    have f2 := hb2.free 2
    have c3 := hb2.c3
    have f3 := hb2.free 3
    have HP := Lib.hid (P1.out.settled hm hb hz)
    clear hm hb hz hb2 h1
    go_wp2
    go_ret
    have hp := HP.out.1
    exact ⟨ret_i (by rw [HR.out]), by rw [HR.out]; exact ⟨mf, _, _, hp.widen (fun k hk => hk.elim .inl (fun x => .inr ⟨Nat.le_trans HC.out.size x.1, x.2⟩)) (fun k hk => hk.elim (fun x => ⟨hp.low k (.inl x), hp.high k (.inl x)⟩) (fun x => ⟨Nat.le_trans hbase x.1, x.2⟩))⟩, HC.out.trans HP.out.2⟩
end Go.Proofs.YtlilkfnfcaepiaaGreatDoor.D
set_option linter.unusedSimpArgs false
set_option linter.unusedVariables false
namespace Go.Proofs.YtlilkfnfcaepiaaGreatDoor.D
open Go.RowKit Go.Proofs.YtlilkfnfcaepiaaGreatDoorW.PrintWords
open Go.ChangeMaps Go.MapKept Go.Maps Go.Sort

theorem reps_map {α : Type} {R : α → List Value → Prop} {enc : α → Value} (h : ∀ p, R p [enc p]) (ps : List α) : Reps R 1 ps (ps.map enc) := by
  refine ⟨by simp, fun j p hp => ?_⟩
  have e : ((ps.map enc).drop (j * 1)).take 1 = [enc p] := by
    rw [Nat.mul_one]
    have hlt : j < (ps.map enc).length := by rw [List.length_map]; exact (List.getElem?_eq_some_iff.1 hp).1
    rw [List.drop_eq_getElem_cons hlt]
    simp only [List.take_succ_cons, List.take_zero, List.getElem_map]
    rw [(List.getElem?_eq_some_iff.1 hp).2]
  rw [e]; exact h p

/-- The names of a folder, rising. -/
def listOf (D : DataW Unit) : List ByteArray := ((strKeys D).mergeSort (fun x y => decide (x ≤ y))).map fun l => ⟨l.toArray⟩

theorem le_trans_b (a b c : List UInt8) : decide (a ≤ b) = true → decide (b ≤ c) = true → decide (a ≤ c) = true := by
  simp only [decide_eq_true_eq]; exact fun h1 h2 => List.le_trans h1 h2
theorem le_total_b (a b : List UInt8) : (decide (a ≤ b) || decide (b ≤ a)) = true := by
  simp only [Bool.or_eq_true, decide_eq_true_eq]; exact List.le_total a b
theorem merge_perm (l l' : List (List UInt8)) (h : l.Perm l') : l.mergeSort (fun x y => decide (x ≤ y)) = l'.mergeSort (fun x y => decide (x ≤ y)) := by
  have h1 := List.pairwise_mergeSort (le := fun x y : List UInt8 => decide (x ≤ y)) le_trans_b le_total_b l
  have h2 := List.pairwise_mergeSort (le := fun x y : List UInt8 => decide (x ≤ y)) le_trans_b le_total_b l'
  exact List.Perm.eq_of_pairwise (fun a b _ _ hab hba => List.le_antisymm (of_decide_eq_true hab) (of_decide_eq_true hba)) h1 h2 ((List.mergeSort_perm _ _).trans (h.trans (List.mergeSort_perm _ _).symm))

set_option maxRecDepth 100000 in
set_option maxHeartbeats 1000000 in
theorem List_any {w : World} {F : Nat → Prop} {base d n : Nat} {a : AD} (h : DiskAt w F base d n a) (hn : n ≤ 1000000) (hd : a.dead = false) :
    Calls Tryz.prog 22 #[.pointer (some ⟨d, 0, none⟩)] w fun e w' => ∃ v, e = .returned (.tuple #[v, .int .i64 0]) ∧ Kd.R Kd.string 9 w' w.heap.size (fun _ => True) v (listOf a.fm) ∧ Below w.heap.size w w' := by
  obtain ⟨mf, ms, sv, p⟩ := h
  have h1 := p.blk.c1
  have h5 := p.blk.c5
  rw [hd] at h5
  have hsz := World.ownsMap.size_le p.files
  have HK := Lib.hid (callsIn_wide.1 (Tryz.maps_Keys_51 (some mf) w))
  have HSo := Lib.hid (callsIn_wide.1 (Tryz.slices_Sorted_keys_50_51 mf n a.fm Rf w p.files (by unfold maxLen; omega) (by omega)))
  clear hd hsz
  go_enter Tryz.func22, Tryz.ntmps22
  go_wp2_with fail
  refine HK.out.mono ?_
  rintro e w1 ⟨rfl, rfl⟩
  go_wp2_with fail
  refine HSo.out.mono ?_
  rintro e w2 ⟨v, ss, rfl, hS, hrow, hnil, hb⟩
  have HB := Lib.hid (show Below w.heap.size w w2 from below_step ((Below.refl _ _).alloc (Nat.le_refl _) _) hb)
  have hsl : ∃ A c, v = .slice A ss.length c := own_slice hrow
  obtain ⟨A, c, hv⟩ := hsl
  have HR := Lib.hid (show Kd.R Kd.string 9 w2 w.heap.size (fun _ => True) v (listOf a.fm) from by
    refine ⟨fun _ _ => trivial, (listOf a.fm).map Value.string, ?_, reps_map (R := Kd.string.M w2 w.heap.size _) (fun p => rfl) _⟩
    have e1 : (listOf a.fm).length = ss.length := by unfold listOf; rw [List.length_map, List.length_mergeSort]; exact hS.length_eq.symm
    have e2 : (listOf a.fm).map Value.string = (ss.mergeSort (fun x y => decide (x ≤ y))).map Go.Proofs.encStr := by
      unfold listOf; rw [merge_perm _ _ hS, List.map_map]; rfl
    rw [e1, e2]
    exact own_weaken hrow (by show w.heap.size ≤ (w.heap.push _).size; simp))
  clear hS hrow hnil hb
  subst hv
  go_wp2
  go_ret2
  exact ⟨_, rfl, HR.out, HB.out⟩

theorem List_dead {w : World} {F : Nat → Prop} {base d n : Nat} {a : AD} (h : DiskAt w F base d n a) (hd : a.dead = true) :
    Calls Tryz.prog 22 #[.pointer (some ⟨d, 0, none⟩)] w fun e w' => e = .returned (.tuple #[.slice none 0 0, .int .i64 10]) ∧ w = w' := by
  obtain ⟨mf, ms, sv, p⟩ := h
  have h5 := p.blk.c5
  rw [hd] at h5
  clear hd
  go_enter Tryz.func22, Tryz.ntmps22
  go_wp2
  go_ret2
  exact ⟨rfl, rfl⟩
end Go.Proofs.YtlilkfnfcaepiaaGreatDoor.D
