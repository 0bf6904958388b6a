/- An argument that is a slice of manifests, opened. -/
import Derived.Test.YtlilkfnfcaepiaaGreatDoorXWa
import Derived.Test.YtlilkfnfcaepiaaGreatDoorXRa
import Derived.Deep.Slices
import Derived.Deep.Fields
import Derived.ChangeSame
import Derived.SizedLaws
set_option linter.unusedSimpArgs false
set_option linter.unusedVariables false
namespace Go.Proofs.YtlilkfnfcaepiaaGreatDoor.M
open Go.ChangeShapes Go.WideShapes Go.Deep Go.RowKit Go.Proofs.YtlilkfnfcaepiaaGreatDoorW.PrintWords Go.Proofs.YtlilkfnfcaepiaaGreatDoorW.PrintLast

section
variable {H : Type} {enc : TypeId × Value → H} {P : Program} {w : World} {base : Nat} {spare : Nat → Bool} {held : Bool}
theorem open_slice_fields {t e : TypeId} {fs : Array Field} {fuel : Nat} {cs : List Value} {x : DataW H × List MemPlace} (ht : P.underlying t = some (.slice e)) (he : P.underlying e = some (.struct fs))
    (hone : oneCellFields P fs = true) (hC : P.cellsOf e = fs.size) (h : DataW.trod enc P w base spare held fuel t cs = some x) :
    (cs = [.slice none 0 0] ∧ x = (.nil, [])) ∨
    ∃ (a : Addr) (len cap m : Nat) (D : Nat → DataW H) (Pl : Nat → List MemPlace), cs = [.slice (some a) len cap] ∧ base ≤ a.block ∧ len ≤ cap ∧ cap ≤ maxLen ∧ m = (if spare a.block then cap else len) ∧
      x = (.slice ((List.range len).map D) ((List.range (m - len)).map fun j => D (len + j)), MemPlace.row a (m * fs.size) ++ (List.range m).flatMap Pl) ∧
      ∀ i, i < m → ∃ (ys : List (DataW H × List MemPlace)) (n : Nat), D i = .agg (ys.map (·.1)) ∧ Pl i = ys.flatMap (·.2) ∧ ys.length = fs.size ∧
        ∀ (j : Nat) (f : Field), fs[j]? = some f → ∃ (v : Value) (y : DataW H × List MemPlace), w.cell? (a.add (i * fs.size + j)) = some v ∧ ys[j]? = some y ∧ DataW.trod enc P w base spare held n f.type [v] = some y := by
  rcases open_slice ht h with h0 | ⟨a, len, cap, m, n, D, Pl, hcs, hb, hl, hm, hmm, hx, hi⟩
  · exact .inl h0
  · refine .inr ⟨a, len, cap, m, D, Pl, hcs, hb, hl, hm, hmm, by rw [hC] at hx; exact hx, fun i him => ?_⟩
    obtain ⟨cs', hc, ht'⟩ := hi i him
    rw [hC] at hc
    obtain ⟨ys, n', hn', hy, hlen, hyl, hf⟩ := DataW.trod_struct he ht'
    obtain ⟨_, hcl, hat⟩ := World.cells?_some hc
    simp only [Prod.mk.injEq] at hy
    refine ⟨ys, n', hy.1, hy.2, hyl, fun j f hj => ?_⟩
    obtain ⟨ho, hk⟩ := hone_of hone j f hj
    have hjl : j < fs.size := (Array.getElem?_eq_some_iff.1 hj).1
    have hcell := hat j hjl
    have hv : cs'[j]? = some (cs'[j]'(by omega)) := List.getElem?_eq_getElem (by omega)
    have h1 := hf j f hj
    rw [ho, hk] at h1
    have hone' : (cs'.drop j).take 1 = [cs'[j]'(by omega)] := by
      rw [List.drop_eq_getElem_cons (by omega)]
      rfl
    rw [hone'] at h1
    have hys : ys[j]? = some (ys[j]'(by omega)) := List.getElem?_eq_getElem (by omega)
    refine ⟨_, _, ?_, hys, h1.trans hys⟩
    rw [← Go.Deep.add_add, hcell, hv]
end
section
variable {H : Type} {enc : TypeId × Value → H} {W : World}
def strV : Value → ByteArray
  | .string s => s
  | _ => ⟨#[]⟩
theorem c9 : Tryz.prog.cellsOf 9 = 1 := by kernel_rfl
theorem open_strs {n : Nat} {v : Value} {y : DataW H × List MemPlace} (h : DataW.trod enc Tryz.prog W 0 (fun _ => true) true n 30 [v] = some y) :
    ∃ A k c l, v = .slice A k c ∧ k ≤ c ∧ l.length = k ∧ Kd.C Kd.string W A k l ∧ (k = 0 ∨ ∃ es sp, y.1 = .slice es sp ∧ es.length = k) := by
  rcases open_slice1 Tryz.underlying30 c9 h with ⟨h0, _⟩ | ⟨a, len, cap, m, n', V, D, Pl, hcs, _, hl, hm, hmm, hx, hi⟩
  · obtain rfl : v = .slice none 0 0 := by simpa using h0
    exact ⟨none, 0, 0, [], rfl, Nat.le_refl _, rfl, ⟨rfl, by omega, fun h => by omega⟩, .inl rfl⟩
  · obtain rfl : v = .slice (some a) len cap := by simpa using hcs
    have hmc : m = cap := by simpa using hmm
    subst hmc
    refine ⟨some a, len, m, (List.range len).map (fun i => strV (V i)), rfl, hl, by simp, ⟨by simp, by unfold maxLen at hm; omega, fun hp => ⟨a, rfl, fun j p hj => ?_⟩⟩, .inr ⟨_, _, by rw [hx], by simp⟩⟩
    have hjl : j < len := by
      have := (List.getElem?_eq_some_iff.1 hj).1
      simpa using this
    obtain ⟨hc, htr⟩ := hi j (by omega)
    obtain ⟨s, hs, _, _⟩ := DataW.trod_string Tryz.underlying9 htr
    have hV : V j = .string s := by simpa using hs
    have hp2 : p = s := by
      rw [List.getElem?_map, List.getElem?_range hjl] at hj
      simp only [Option.map_some, Option.some.injEq] at hj
      rw [← hj, hV]; rfl
    subst hp2
    refine ⟨[.string p], rfl, rfl, fun i u hu => ?_⟩
    have hi0 : i = 0 := by
      have := (List.getElem?_eq_some_iff.1 hu).1
      simpa using this
    subst hi0
    have hu2 : u = .string p := by simpa using hu.symm
    subst hu2
    show W.cell? (a.add (j * 1 + 0)) = _
    rw [Nat.mul_one, Nat.add_zero, hc, hV]
theorem weights_all {t : TypeId} : ∀ (l : List (DataW H)) (d : DataW H), d ∈ l → ∀ n ∈ d.weights Tryz.prog t, n ∈ DataW.weightsAll Tryz.prog t l
  | [], _, h, _, _ => by cases h
  | x :: l, d, h, n, hn => by
    rw [DataW.weightsAll]
    rcases List.mem_cons.1 h with rfl | h
    · exact List.mem_append_left _ hn
    · exact List.mem_append_right _ (weights_all l d h n hn)
def F32 : Array Field := #[{ name := "Time", type := 3, offset := 0, embedded := false, tag := "", pkgPath := "", byteOffset := 0 },
        { name := "Tag", type := 9, offset := 1, embedded := false, tag := "", pkgPath := "", byteOffset := 8 },
        { name := "Parent", type := 9, offset := 2, embedded := false, tag := "", pkgPath := "", byteOffset := 24 },
        { name := "Size", type := 3, offset := 3, embedded := false, tag := "", pkgPath := "", byteOffset := 40 },
        { name := "Chunks", type := 30, offset := 4, embedded := false, tag := "", pkgPath := "", byteOffset := 48 }]
theorem u32 : Tryz.prog.underlying 32 = some (.struct F32) := Tryz.underlying32
theorem one32 : oneCellFields Tryz.prog F32 = true := by kernel_rfl
theorem c32 : Tryz.prog.cellsOf 32 = F32.size := by kernel_rfl
theorem bytes9 : Tryz.prog.bytesOf 9 = 16 := by kernel_rfl
theorem reach_num : reachBytes ≤ 140737488351232 := by decide
/-- The argument's manifests. -/
theorem open_mans {A : Option Addr} {len cap : Nat} {d : DataW H} {p : List MemPlace} (h : DataW.Trod enc Tryz.prog W 0 (fun _ => true) true 22 (.slice A len cap) d p) (hw : ∀ n ∈ d.weights Tryz.prog 22, n ≤ reachBytes) :
    ∃ l : List MF, l.length = len ∧ MansAt W A l ∧ l.length ≤ 9223372036854775807 := by
  obtain ⟨fuel, hf⟩ := h
  rcases open_slice_fields Tryz.underlying22 u32 one32 c32 hf with ⟨h0, _⟩ | ⟨a, ln, cp, m, D, Pl, hcs, _, hl, hm, hmm, hx, hi⟩
  · simp [Value.cells] at h0
    obtain ⟨rfl, rfl, rfl⟩ := h0
    exact ⟨[], rfl, fun i m h => by simp at h, by simp⟩
  · simp [Value.cells] at hcs
    obtain ⟨rfl, rfl, rfl⟩ := hcs
    have hmc : m = cap := by simpa using hmm
    subst hmc
    have key : ∀ i, i < len → ∃ mf : MF, ∃ A' c', W.cell? (a.add (i * 5 + 0)) = some (.int .i64 mf.time) ∧ W.cell? (a.add (i * 5 + 1)) = some (.string mf.tag) ∧ W.cell? (a.add (i * 5 + 2)) = some (.string mf.parent) ∧ W.cell? (a.add (i * 5 + 3)) = some (.int .i64 mf.size) ∧ W.cell? (a.add (i * 5 + 4)) = some (.slice A' mf.chunks.length c') ∧
        Kd.C Kd.string W A' mf.chunks.length mf.chunks ∧ mf.chunks.length ≤ c' ∧ mf.parent.size ≤ 140737488351232 ∧ mf.chunks.length ≤ 140737488351232 := by
      intro i hil
      obtain ⟨ys, n, hD, _, hyl, hfd⟩ := hi i (by omega)
      obtain ⟨v0, y0, k0, g0, t0⟩ := hfd 0 _ rfl
      obtain ⟨v1, y1, k1, g1, t1⟩ := hfd 1 _ rfl
      obtain ⟨v2, y2, k2, g2, t2⟩ := hfd 2 _ rfl
      obtain ⟨v3, y3, k3, g3, t3⟩ := hfd 3 _ rfl
      obtain ⟨v4, y4, k4, g4, t4⟩ := hfd 4 _ rfl
      obtain ⟨x0, e0, _, _⟩ := DataW.trod_int Tryz.underlying3 t0
      obtain ⟨x1, e1, _, _⟩ := DataW.trod_string Tryz.underlying9 t1
      obtain ⟨x2, e2, q2, _⟩ := DataW.trod_string Tryz.underlying9 t2
      obtain ⟨x3, e3, _, _⟩ := DataW.trod_int Tryz.underlying3 t3
      obtain ⟨A', k, c', l, e4, hkc, hlk, hC, hq4⟩ := open_strs t4
      obtain rfl : v0 = .int .i64 x0 := by simpa using e0
      obtain rfl : v1 = .string x1 := by simpa using e1
      obtain rfl : v2 = .string x2 := by simpa using e2
      obtain rfl : v3 = .int .i64 x3 := by simpa using e3
      subst e4
      have hwD : ∀ z ∈ (D i).weights Tryz.prog 32, z ≤ reachBytes := by
        intro z hz
        refine hw z ?_
        have hd : d = .slice ((List.range len).map D) ((List.range (m - len)).map fun j => D (len + j)) := (Prod.mk.inj hx).1
        rw [hd]
        simp only [DataW.weights, Tryz.underlying22]
        refine List.mem_cons_of_mem _ (List.mem_append_left _ ?_)
        exact weights_all _ (D i) (List.mem_map.2 ⟨i, List.mem_range.2 hil, rfl⟩) z hz
      have hwE : ∀ (j : Nat) (f : Field) (y : DataW H × List MemPlace), F32[j]? = some f → ys[j]? = some y → ∀ z ∈ y.1.weights Tryz.prog f.type, z ≤ reachBytes := by
        intro j f y hf hy z hz
        refine hwD z ?_
        rw [hD]
        simp only [DataW.weights, u32]
        refine DataW.weights_mem_each (j := j) (t := f.type) (d := y.1) ?_ ?_ z hz
        · rw [List.getElem?_map, Array.getElem?_toList, hf]; rfl
        · rw [List.getElem?_map, hy]; rfl
      refine ⟨⟨x0, x1, x2, x3, l⟩, A', c', k0, k1, k2, k3, ?_, ?_, ?_, ?_, ?_⟩
      · simp only; rw [hlk]; exact k4
      · simp only; rw [hlk]; exact hC
      · simp only; rw [hlk]; exact hkc
      · simp only
        have := hwE 2 _ y2 rfl g2 x2.data.toList.length (by rw [q2]; simp [DataW.weights])
        have h2 := reach_num
        have h3 : x2.size = x2.data.toList.length := by simp
        omega
      · simp only
        rcases hq4 with hz | ⟨es, sp, hes, hel⟩
        · omega
        · have := hwE 4 _ y4 rfl g4 ((es.length + sp.length) * Tryz.prog.bytesOf 9) (by
            rw [hes]
            simp only [DataW.weights]
            rw [show F32[4].type = 30 from rfl, Tryz.underlying30]
            exact List.mem_cons_self)
          rw [bytes9] at this
          have h2 := reach_num
          omega
    have hmf : ∀ i : Nat, ∃ mf : MF, i < len → ∃ A' c', W.cell? (a.add (i * 5 + 0)) = some (.int .i64 mf.time) ∧ W.cell? (a.add (i * 5 + 1)) = some (.string mf.tag) ∧ W.cell? (a.add (i * 5 + 2)) = some (.string mf.parent) ∧ W.cell? (a.add (i * 5 + 3)) = some (.int .i64 mf.size) ∧ W.cell? (a.add (i * 5 + 4)) = some (.slice A' mf.chunks.length c') ∧
        Kd.C Kd.string W A' mf.chunks.length mf.chunks ∧ mf.chunks.length ≤ c' ∧ mf.parent.size ≤ 140737488351232 ∧ mf.chunks.length ≤ 140737488351232 := by
      intro i
      by_cases hil : i < len
      · obtain ⟨mf, hmf⟩ := key i hil
        exact ⟨mf, fun _ => hmf⟩
      · exact ⟨⟨0, ⟨#[]⟩, ⟨#[]⟩, 0, []⟩, fun h => absurd h hil⟩
    refine ⟨(List.range len).map (fun i => (hmf i).choose), by simp, fun i mf him => ?_, by simp; unfold maxLen at hm; omega⟩
    have hil : i < len := by
      have := (List.getElem?_eq_some_iff.1 him).1
      simpa using this
    have hme : mf = (hmf i).choose := by
      rw [List.getElem?_map, List.getElem?_range hil] at him
      simpa using him.symm
    obtain ⟨A', c', k0, k1, k2, k3, k4, rest⟩ := (hmf i).choose_spec hil
    rw [← hme] at k0 k1 k2 k3 k4 rest
    obtain ⟨mf0, A0, c0, z0, _⟩ := key 0 (by omega)
    have hsp : a.spot = none := by
      rw [Nat.zero_mul] at z0
      have : a.add 0 = a := rfl
      rw [this] at z0
      exact World.cell?_spot z0
    obtain ⟨ab, ao, asp⟩ := a
    simp only at hsp
    subst hsp
    have hadd : ∀ k, (⟨ab, ao, none⟩ : Addr).add k = ⟨ab, ao + k, none⟩ := by
      intro k
      unfold Addr.add
      split
      · next h => subst h; rfl
      · rfl
    rw [hadd] at k0 k1 k2 k3 k4
    have hbl := block_lt_of_cell k0
    exact ⟨ab, ao, rfl, hbl, A', c', k0, by rw [Nat.add_assoc]; exact k1, by rw [Nat.add_assoc]; exact k2, by rw [Nat.add_assoc]; exact k3, by rw [Nat.add_assoc]; exact k4, rest⟩
end
end Go.Proofs.YtlilkfnfcaepiaaGreatDoor.M
