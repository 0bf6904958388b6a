/- Parts of SHA-256 as the program reckons it. -/
import Derived.Test.YtlilkfnfcaepiaaGreatDoorXh
import Derived.StillTailTactics
import Derived.Test.YtlilkfnfcaepiaaGreatDoorXd
import Derived.Deep.WholeRow
import Derived.Deep.QuietTactic
import Derived.BigQuiet
set_option linter.unusedSimpArgs false
set_option linter.unusedVariables false
namespace Go.Proofs.YtlilkfnfcaepiaaGreatDoor.G
open Go.RowKit Go.Proofs.YtlilkfnfcaepiaaGreatDoorW.PrintWords Go.Proofs.YtlilkfnfcaepiaaGreatDoorW.PrintLast Go.Proofs.YtlilkfnfcaepiaaGreatDoorW.PrintMore PB H

/-- A turn to the right, as Go reckons it. -/
def rotr (x : Int) (r : Nat) : Int := Go.bits .or .u32 (x * ((2 ^ (32 - r) : Nat) : Int) % 4294967296) (x / ((2 ^ r : Nat) : Int))

set_option maxRecDepth 100000 in
theorem rot2 (x : Int) (w : World) : Calls Tryz.prog 142 #[.int .u32 x, .int .i64 (-2)] w (fun e w' => e = .returned (.int .u32 (rotr x 2)) ∧ w' = w) := by
  have e1 : IntKind.u64.wrap (-2) = 18446744073709551614 := by decide
  have e2 : Go.bits .and .u64 18446744073709551614 31 = 30 := by decide
  go_enter Tryz.func142, Tryz.ntmps142
  go_wp2
  go_ret
  exact ⟨rfl, rfl⟩

set_option maxRecDepth 100000 in
theorem rot6 (x : Int) (w : World) : Calls Tryz.prog 142 #[.int .u32 x, .int .i64 (-6)] w (fun e w' => e = .returned (.int .u32 (rotr x 6)) ∧ w' = w) := by
  have e1 : IntKind.u64.wrap (-6) = 18446744073709551610 := by decide
  have e2 : Go.bits .and .u64 18446744073709551610 31 = 26 := by decide
  go_enter Tryz.func142, Tryz.ntmps142
  go_wp2
  go_ret
  exact ⟨rfl, rfl⟩

set_option maxRecDepth 100000 in
theorem rot7 (x : Int) (w : World) : Calls Tryz.prog 142 #[.int .u32 x, .int .i64 (-7)] w (fun e w' => e = .returned (.int .u32 (rotr x 7)) ∧ w' = w) := by
  have e1 : IntKind.u64.wrap (-7) = 18446744073709551609 := by decide
  have e2 : Go.bits .and .u64 18446744073709551609 31 = 25 := by decide
  go_enter Tryz.func142, Tryz.ntmps142
  go_wp2
  go_ret
  exact ⟨rfl, rfl⟩

set_option maxRecDepth 100000 in
theorem rot11 (x : Int) (w : World) : Calls Tryz.prog 142 #[.int .u32 x, .int .i64 (-11)] w (fun e w' => e = .returned (.int .u32 (rotr x 11)) ∧ w' = w) := by
  have e1 : IntKind.u64.wrap (-11) = 18446744073709551605 := by decide
  have e2 : Go.bits .and .u64 18446744073709551605 31 = 21 := by decide
  go_enter Tryz.func142, Tryz.ntmps142
  go_wp2
  go_ret
  exact ⟨rfl, rfl⟩

set_option maxRecDepth 100000 in
theorem rot13 (x : Int) (w : World) : Calls Tryz.prog 142 #[.int .u32 x, .int .i64 (-13)] w (fun e w' => e = .returned (.int .u32 (rotr x 13)) ∧ w' = w) := by
  have e1 : IntKind.u64.wrap (-13) = 18446744073709551603 := by decide
  have e2 : Go.bits .and .u64 18446744073709551603 31 = 19 := by decide
  go_enter Tryz.func142, Tryz.ntmps142
  go_wp2
  go_ret
  exact ⟨rfl, rfl⟩

set_option maxRecDepth 100000 in
theorem rot17 (x : Int) (w : World) : Calls Tryz.prog 142 #[.int .u32 x, .int .i64 (-17)] w (fun e w' => e = .returned (.int .u32 (rotr x 17)) ∧ w' = w) := by
  have e1 : IntKind.u64.wrap (-17) = 18446744073709551599 := by decide
  have e2 : Go.bits .and .u64 18446744073709551599 31 = 15 := by decide
  go_enter Tryz.func142, Tryz.ntmps142
  go_wp2
  go_ret
  exact ⟨rfl, rfl⟩

set_option maxRecDepth 100000 in
theorem rot18 (x : Int) (w : World) : Calls Tryz.prog 142 #[.int .u32 x, .int .i64 (-18)] w (fun e w' => e = .returned (.int .u32 (rotr x 18)) ∧ w' = w) := by
  have e1 : IntKind.u64.wrap (-18) = 18446744073709551598 := by decide
  have e2 : Go.bits .and .u64 18446744073709551598 31 = 14 := by decide
  go_enter Tryz.func142, Tryz.ntmps142
  go_wp2
  go_ret
  exact ⟨rfl, rfl⟩

set_option maxRecDepth 100000 in
theorem rot19 (x : Int) (w : World) : Calls Tryz.prog 142 #[.int .u32 x, .int .i64 (-19)] w (fun e w' => e = .returned (.int .u32 (rotr x 19)) ∧ w' = w) := by
  have e1 : IntKind.u64.wrap (-19) = 18446744073709551597 := by decide
  have e2 : Go.bits .and .u64 18446744073709551597 31 = 13 := by decide
  go_enter Tryz.func142, Tryz.ntmps142
  go_wp2
  go_ret
  exact ⟨rfl, rfl⟩

set_option maxRecDepth 100000 in
theorem rot22 (x : Int) (w : World) : Calls Tryz.prog 142 #[.int .u32 x, .int .i64 (-22)] w (fun e w' => e = .returned (.int .u32 (rotr x 22)) ∧ w' = w) := by
  have e1 : IntKind.u64.wrap (-22) = 18446744073709551594 := by decide
  have e2 : Go.bits .and .u64 18446744073709551594 31 = 10 := by decide
  go_enter Tryz.func142, Tryz.ntmps142
  go_wp2
  go_ret
  exact ⟨rfl, rfl⟩

set_option maxRecDepth 100000 in
theorem rot25 (x : Int) (w : World) : Calls Tryz.prog 142 #[.int .u32 x, .int .i64 (-25)] w (fun e w' => e = .returned (.int .u32 (rotr x 25)) ∧ w' = w) := by
  have e1 : IntKind.u64.wrap (-25) = 18446744073709551591 := by decide
  have e2 : Go.bits .and .u64 18446744073709551591 31 = 7 := by decide
  go_enter Tryz.func142, Tryz.ntmps142
  go_wp2
  go_ret
  exact ⟨rfl, rfl⟩

end Go.Proofs.YtlilkfnfcaepiaaGreatDoor.G
set_option linter.unusedSimpArgs false
set_option linter.unusedVariables false
namespace Go.Proofs.YtlilkfnfcaepiaaGreatDoor.G
open Go.RowKit Go.Proofs.YtlilkfnfcaepiaaGreatDoorW.PrintWords Go.Proofs.YtlilkfnfcaepiaaGreatDoorW.PrintLast Go.Proofs.YtlilkfnfcaepiaaGreatDoorW.PrintMore PB H D

def u32s (W : List Int) : Array Value := (W.map (Value.int .u32)).toArray
def Row (w : World) (b : Nat) (cs : Array Value) (t : Nat) : Prop := w.heap[b]? = some (.cells cs t (0, 0))
theorem Row.free {w : World} {b : Nat} {cs : Array Value} {t : Nat} (h : Row w b cs t) (k : Nat) : w.frozen? ⟨b, k, none⟩ = false := by unfold Row at h; simp [World.frozen?, h]
theorem Row.cell {w : World} {b : Nat} {W : List Int} {t : Nat} (h : Row w b (u32s W) t) (k : Nat) (hk : k < W.length) : w.cell? ⟨b, k, none⟩ = some (.int .u32 (W.getD k 0)) := by
  unfold Row at h; simp [World.cell?, h, u32s, hk, List.getD]
theorem Row.set {w : World} {b : Nat} {W : List Int} {t : Nat} (h : Row w b (u32s W) t) (k : Nat) (x : Int) : Row (w.setCell ⟨b, k, none⟩ (.int .u32 x)) b (u32s (W.set k x)) t := by
  have := set_at h k (.int .u32 x)
  unfold Row; rw [this]; simp [u32s, List.map_set]
theorem Row.lt {w : World} {b : Nat} {cs : Array Value} {t : Nat} (h : Row w b cs t) : b < w.heap.size := (Array.getElem?_eq_some_iff.1 h).1
theorem Row.move {w w1 : World} {b : Nat} {cs : Array Value} {t : Nat} (h : Row w b cs t) (hm : w1.heap[b]? = w.heap[b]?) : Row w1 b cs t := hm.trans h

/-- A Hash, and where it lies. -/
structure HS where
  words : List Int
  step : List Int
  rest : ByteArray
  n : Int
  begun : Bool
def HS.cells (s : HS) : Array Value := (s.words.map (Value.int .u32) ++ (s.step.map (Value.int .u32) ++ ([.string s.rest, .int .u64 s.n, .bool s.begun] : List Value))).toArray
structure HAt (w : World) (b : Nat) (s : HS) : Prop where
  row : Row w b s.cells 152
  l8 : s.words.length = 8
  l64 : s.step.length = 64

section
variable {w : World} {b : Nat} {s : HS}
theorem HAt.free (h : HAt w b s) (k : Nat) : w.frozen? ⟨b, k, none⟩ = false := h.row.free k
theorem HAt.lt (h : HAt w b s) : b < w.heap.size := h.row.lt
theorem HAt.move (h : HAt w b s) {w1 : World} (hm : w1.heap[b]? = w.heap[b]?) : HAt w1 b s := ⟨h.row.move hm, h.l8, h.l64⟩
theorem HAt.at (h : HAt w b s) (k : Nat) : w.cell? ⟨b, k, none⟩ = s.cells[k]? := by
  have := h.row; unfold Row at this; simp [World.cell?, this]
theorem HAt.word (h : HAt w b s) (k : Nat) (hk : k < 8) : w.cell? ⟨b, k, none⟩ = some (.int .u32 (s.words.getD k 0)) := by
  have h8 := h.l8
  rw [h.at]; simp [HS.cells, List.getElem?_append, h8, hk, List.getD]
theorem HAt.stp (h : HAt w b s) (k : Nat) (hk : k < 64) : w.cell? ⟨b, 8 + k, none⟩ = some (.int .u32 (s.step.getD k 0)) := by
  have h8 := h.l8; have h64 := h.l64
  rw [h.at]; simp [HS.cells, List.getElem?_append, h8, h64, hk, List.getD]
theorem HAt.rst (h : HAt w b s) : w.cell? ⟨b, 72, none⟩ = some (.string s.rest) := by
  have h8 := h.l8; have h64 := h.l64
  rw [h.at]; simp [HS.cells, List.getElem?_append, h8, h64]
theorem HAt.cn (h : HAt w b s) : w.cell? ⟨b, 73, none⟩ = some (.int .u64 s.n) := by
  have h8 := h.l8; have h64 := h.l64
  rw [h.at]; simp [HS.cells, List.getElem?_append, h8, h64]
theorem HAt.beg (h : HAt w b s) : w.cell? ⟨b, 74, none⟩ = some (.bool s.begun) := by
  have h8 := h.l8; have h64 := h.l64
  rw [h.at]; simp [HS.cells, List.getElem?_append, h8, h64]
theorem HAt.setWord (h : HAt w b s) (k : Nat) (hk : k < 8) (x : Int) : HAt (w.setCell ⟨b, k, none⟩ (.int .u32 x)) b { s with words := s.words.set k x } := by
  have h8 := h.l8
  refine ⟨?_, by simpa using h.l8, h.l64⟩
  unfold Row; rw [set_at h.row k]; simp [HS.cells, List.set_append, h8, hk, List.map_set]
theorem HAt.setStep (h : HAt w b s) (k : Nat) (hk : k < 64) (x : Int) : HAt (w.setCell ⟨b, 8 + k, none⟩ (.int .u32 x)) b { s with step := s.step.set k x } := by
  have h8 := h.l8; have h64 := h.l64
  refine ⟨?_, h.l8, by simpa using h.l64⟩
  unfold Row; rw [set_at h.row (8 + k)]; simp [HS.cells, List.set_append, h8, h64, hk, List.map_set]
theorem HAt.setRest (h : HAt w b s) (x : ByteArray) : HAt (w.setCell ⟨b, 72, none⟩ (.string x)) b { s with rest := x } := by
  have h8 := h.l8; have h64 := h.l64
  refine ⟨?_, h.l8, h.l64⟩
  unfold Row; rw [set_at h.row 72]; simp [HS.cells, List.set_append, h8, h64]
theorem HAt.setN (h : HAt w b s) (x : Int) : HAt (w.setCell ⟨b, 73, none⟩ (.int .u64 x)) b { s with n := x } := by
  have h8 := h.l8; have h64 := h.l64
  refine ⟨?_, h.l8, h.l64⟩
  unfold Row; rw [set_at h.row 73]; simp [HS.cells, List.set_append, h8, h64]
theorem HAt.setBegun (h : HAt w b s) (x : Bool) : HAt (w.setCell ⟨b, 74, none⟩ (.bool x)) b { s with begun := x } := by
  have h8 := h.l8; have h64 := h.l64
  refine ⟨?_, h.l8, h.l64⟩
  unfold Row; rw [set_at h.row 74]; simp [HS.cells, List.set_append, h8, h64]
end

def pb (p : ByteArray) (k : Nat) : Int := if h : k < p.size then (p[k].toNat : Int) else 0
def be32 (x0 x1 x2 x3 : Int) : Int := bits BinOp.or IntKind.u32 (bits BinOp.or IntKind.u32 (bits BinOp.or IntKind.u32 (IntKind.u32.wrap (IntKind.u32.wrap x0 * 16777216)) (IntKind.u32.wrap (IntKind.u32.wrap x1 * 65536))) (IntKind.u32.wrap (IntKind.u32.wrap x2 * 256))) (IntKind.u32.wrap x3)
/-- The schedule's first sixteen words. -/
def sch0 (p : ByteArray) : Nat → List Int
  | 0 => List.replicate 64 0
  | i + 1 => (sch0 p i).set i (be32 (pb p (4 * i)) (pb p (4 * i + 1)) (pb p (4 * i + 2)) (pb p (4 * i + 3)))
/-- The schedule's next word. -/
def nextW (xa xb xc xd : Int) : Int := IntKind.u32.wrap (IntKind.u32.wrap (IntKind.u32.wrap (xa + bits BinOp.xor IntKind.u32 (bits BinOp.xor IntKind.u32 (rotr xb 7) (rotr xb 18)) (xb / 8)) + xc) + bits BinOp.xor IntKind.u32 (bits BinOp.xor IntKind.u32 (rotr xd 17) (rotr xd 19)) (xd / 1024))
def sch1 (p : ByteArray) : Nat → List Int
  | 0 => sch0 p 16
  | n + 1 => (sch1 p n).set (n + 16) (nextW ((sch1 p n).getD n 0) ((sch1 p n).getD (n + 1) 0) ((sch1 p n).getD (n + 9) 0) ((sch1 p n).getD (n + 14) 0))
theorem sch0_length (p : ByteArray) : ∀ i, (sch0 p i).length = 64
  | 0 => by simp [sch0]
  | i + 1 => by simp [sch0, sch0_length p i]
theorem sch1_length (p : ByteArray) : ∀ i, (sch1 p i).length = 64
  | 0 => by simp [sch1, sch0_length]
  | i + 1 => by simp [sch1, sch1_length p i]
theorem rot_any (x k : Int) (hk : k = -2 ∨ k = -6 ∨ k = -7 ∨ k = -11 ∨ k = -13 ∨ k = -17 ∨ k = -18 ∨ k = -19 ∨ k = -22 ∨ k = -25) (w : World) : Calls Tryz.prog 142 #[.int .u32 x, .int .i64 k] w (fun e w' => e = .returned (.int .u32 (rotr x (-k).toNat)) ∧ w' = w) := by
  rcases hk with rfl | rfl | rfl | rfl | rfl | rfl | rfl | rfl | rfl | rfl
  · exact rot2 x w
  · exact rot6 x w
  · exact rot7 x w
  · exact rot11 x w
  · exact rot13 x w
  · exact rot17 x w
  · exact rot18 x w
  · exact rot19 x w
  · exact rot22 x w
  · exact rot25 x w
theorem idx8 (A : Array Value) (i : Nat) (hi : i < 8) (y : Int) (h : A[i]? = some (.int .u32 y)) (w : World) : (Instr.index 149 (.agg A) (.int .i64 (i : Int))).run Tryz.prog w = .ok (.int .u32 y) w := by
  have hu : Tryz.prog.underlying 149 = some (.array 8 148) := by kernel_rfl
  have hu2 : Tryz.prog.underlying 148 = some (.int .u32) := by kernel_rfl
  have hi2 : (Tryz.prog.info? 148).map (·.size) = some 1 := by kernel_rfl
  obtain ⟨j, hj⟩ : ∃ j, Tryz.prog.info? 148 = some j := by cases h : Tryz.prog.info? 148 <;> simp_all
  have hj1 : j.size = 1 := by rw [hj] at hi2; simpa using hi2
  simp [Instr.index, asIntOf, underlying, hu, hu2, sizeOf, typeInfo, hj, hj1, part, isAgg, h]
  intro; omega
/-- The eight words on the way. -/
structure V8 where
  (a b c d e f g h : Int)
def V8.l (v : V8) : List Int := [v.a, v.b, v.c, v.d, v.e, v.f, v.g, v.h]
def V8.of (l : List Int) : V8 := ⟨l.getD 0 0, l.getD 1 0, l.getD 2 0, l.getD 3 0, l.getD 4 0, l.getD 5 0, l.getD 6 0, l.getD 7 0⟩
def tOf (v : V8) (k w : Int) : Int := v.h + bits BinOp.xor IntKind.u32 (bits BinOp.xor IntKind.u32 (rotr v.e 6) (rotr v.e 11)) (rotr v.e 25) + bits BinOp.xor IntKind.u32 (bits BinOp.and IntKind.u32 v.e v.f) (bits BinOp.and IntKind.u32 (bits BinOp.xor IntKind.u32 IntKind.u32.max v.e) v.g) + k + w
def uOf (v : V8) : Int := bits BinOp.xor IntKind.u32 (bits BinOp.xor IntKind.u32 (rotr v.a 2) (rotr v.a 13)) (rotr v.a 22) + bits BinOp.xor IntKind.u32 (bits BinOp.xor IntKind.u32 (bits BinOp.and IntKind.u32 v.a v.b) (bits BinOp.and IntKind.u32 v.a v.c)) (bits BinOp.and IntKind.u32 v.b v.c)
def V8.next (v : V8) (k w : Int) : V8 := ⟨(tOf v k w + uOf v) % 4294967296, v.a, v.b, v.c, (v.d + tOf v k w) % 4294967296, v.e, v.f, v.g⟩
def rounds (st W : List Int) (v : V8) : Nat → V8
  | 0 => v
  | n + 1 => (rounds st W v n).next (st.getD n 0) (W.getD n 0)
def addW (ws vs : List Int) : Nat → List Int
  | 0 => ws
  | i + 1 => (addW ws vs i).set i (IntKind.u32.wrap ((addW ws vs i).getD i 0 + vs.getD i 0))
theorem addW_length (ws vs : List Int) : ∀ i, (addW ws vs i).length = ws.length
  | 0 => rfl
  | i + 1 => by simp [addW, addW_length ws vs i]
theorem V8.l_of (l : List Int) (h : l.length = 8) : (V8.of l).l = l := by
  match l, h with
  | [_, _, _, _, _, _, _, _], _ => rfl
/-- What a block makes of the words. -/
def blockF (st ws : List Int) (p : ByteArray) : List Int := addW ws (rounds st (sch1 p 48) (V8.of ws) 64).l 8
theorem Row.alloc {w : World} (cs : Array Value) (t : Nat) : Row (w.alloc (.cells cs t (0, 0))) w.heap.size cs t := heap_alloc_last w _
theorem Below.alloc' {B : Nat} {w : World} (hB : B ≤ w.heap.size) (o : Obj) : Below B w (w.alloc o) := (Below.refl B w).alloc hB o
theorem belowSetNew {B : Nat} {a w : World} (h : Below B a w) {q : Addr} (hq : B ≤ q.block) (u : Value) : Below B a (w.setCell q u) :=
  ⟨h.os, h.tape, h.output, by simpa [World.setCell] using h.size, fun k hk => (Below.heap_setCell _ _ _ _ (by omega)).trans (h.block k hk)⟩

set_option maxRecDepth 100000 in
set_option maxHeartbeats 8000000 in
theorem block_any (w : World) (b : Nat) (s : HS) (h : HAt w b s) (p : ByteArray) (hp : p.size = 64) : Calls Tryz.prog 120 #[.pointer (some ⟨b, 0, none⟩), .string p] w (fun e w' => e = .returned (.tuple #[]) ∧ HAt w' b { s with words := blockF s.step s.words p } ∧ Chg (fun k => k = b) w w') := by
  have hp' : (p.size : Int) = 64 := by rw [hp]; rfl
  go_enter Tryz.func120, Tryz.ntmps120
  go_wp2
  go_loopw [18] (fun v18 wr => ∃ i : Nat, i ≤ 16 ∧ v18 = .int .i64 i ∧ Aside0 (Row wr w.heap.size (u32s (sch0 p i)) 150) ∧ Aside0 (Below w.heap.size w wr)) (fun v18 _ => 16 - (intOf v18).toNat)
  case atStart =>
    refine ⟨0, by omega, rfl, ⟨?_⟩, ⟨Below.alloc' (Nat.le_refl _) _⟩⟩
    exact Row.alloc _ _
  case round =>
    obtain ⟨i, hi, rfl, HW, HB⟩ := hrel
    by_cases hlt : i < 16
    · have i64 : (i : Int) < 64 := by omega
      have f0 := HW.out.free i
      have hx := HW.out.cell i (by rw [sch0_length]; omega)
      generalize hxx : (sch0 p i).getD i 0 = x at hx
      clear hxx
      obtain ⟨q0, hq0⟩ : ∃ q : Nat, q = 4 * i := ⟨_, rfl⟩
      obtain ⟨q1, hq1⟩ : ∃ q : Nat, q = 4 * i + 1 := ⟨_, rfl⟩
      obtain ⟨q2, hq2⟩ : ∃ q : Nat, q = 4 * i + 2 := ⟨_, rfl⟩
      obtain ⟨q3, hq3⟩ : ∃ q : Nat, q = 4 * i + 3 := ⟨_, rfl⟩
      have e0 : IntKind.i64.wrap (4 * (i : Int)) = (q0 : Int) := by rw [hq0, IntWalk.i64_in _ (by omega)]; omega
      have e1 : IntKind.i64.wrap ((q0 : Int) + 1) = (q1 : Int) := by rw [hq0, hq1, IntWalk.i64_in _ (by omega)]; omega
      have e2 : IntKind.i64.wrap ((q0 : Int) + 2) = (q2 : Int) := by rw [hq0, hq2, IntWalk.i64_in _ (by omega)]; omega
      have e3 : IntKind.i64.wrap ((q0 : Int) + 3) = (q3 : Int) := by rw [hq0, hq3, IntWalk.i64_in _ (by omega)]; omega
      have p0 : (q0 : Int) < 64 := by omega
      have p1 : (q1 : Int) < 64 := by omega
      have p2 : (q2 : Int) < 64 := by omega
      have p3 : (q3 : Int) < 64 := by omega
      have s0 : q0 < p.size := by omega
      obtain ⟨x0, y0⟩ : ∃ x : Int, ((p[q0]'s0).toNat : Int) = x := ⟨_, rfl⟩
      have s1 : q1 < p.size := by omega
      obtain ⟨x1, y1⟩ : ∃ x : Int, ((p[q1]'s1).toNat : Int) = x := ⟨_, rfl⟩
      have s2 : q2 < p.size := by omega
      obtain ⟨x2, y2⟩ : ∃ x : Int, ((p[q2]'s2).toNat : Int) = x := ⟨_, rfl⟩
      have s3 : q3 < p.size := by omega
      obtain ⟨x3, y3⟩ : ∃ x : Int, ((p[q3]'s3).toNat : Int) = x := ⟨_, rfl⟩
      have HX := Lib.hid (show sch0 p (i + 1) = (sch0 p i).set i (be32 x0 x1 x2 x3) by
        rw [sch0, ← hq3, ← hq2, ← hq1, ← hq0]; unfold pb; rw [dif_pos s0, dif_pos s1, dif_pos s2, dif_pos s3, y0, y1, y2, y3])
      clear hq0 hq1 hq2 hq3
      go_wp2
      go_still_tail 31, (by kernel_rfl)
      change wpList _ _ _ _ _ wr.drew
      have hx' : wr.drew.cell? ⟨w.heap.size, i, none⟩ = some (.int .u32 x) := hx
      have f0' : wr.drew.frozen? ⟨w.heap.size, i, none⟩ = false := f0
      have HW1 := Aside0.mk (show Row wr.drew w.heap.size (u32s (sch0 p i)) 150 from HW.out)
      have HB1 := Aside0.mk (HB.out.drew)
      clear hx f0 HW HB y0 y1 y2 y3
      generalize wr.drew = w2 at hx' f0' HW1 HB1 ⊢
      generalize hX : bits BinOp.or IntKind.u32 (bits BinOp.or IntKind.u32 (bits BinOp.or IntKind.u32 (IntKind.u32.wrap (IntKind.u32.wrap x0 * 16777216)) (IntKind.u32.wrap (IntKind.u32.wrap x1 * 65536))) (IntKind.u32.wrap (IntKind.u32.wrap x2 * 256))) (IntKind.u32.wrap x3) = X
      have HX2 := Lib.hid hX
      clear hX e0 e1 e2 e3 p0 p1 p2 p3 s0 s1 s2 s3
      go_wp2
      go_roundw
      case rel =>
        refine ⟨i + 1, by omega, by go_num, ⟨?_⟩, ⟨belowSetNew HB1.out (Nat.le_refl _) _⟩⟩
        rw [HX.out, show be32 x0 x1 x2 x3 = X from HX2.out]
        exact HW1.out.set i X
      case measure => simp [intOf]; omega
    · have hi16 : i = 16 := by omega
      subst hi16
      clear hi hlt
      have HW1 := HW
      have HB1 := HB
      clear HW HB
      go_wp2
      go_loopw [7] (fun v7 wr => ∃ n j : Nat, n ≤ 48 ∧ j = n + 16 ∧ v7 = .int .i64 j ∧ Aside0 (Row wr w.heap.size (u32s (sch1 p n)) 150) ∧ Aside0 (Below w.heap.size w wr)) (fun v7 _ => 64 - (intOf v7).toNat)
      case atStart => exact ⟨0, 16, by omega, rfl, rfl, HW1, HB1⟩
      case round =>
        clear HW1 HB1
        obtain ⟨n, j, hn, hj, rfl, HW, HB⟩ := hrel
        by_cases hlt : n < 48
        · have f0 := HW.out.free j
          have hx := HW.out.cell j (by rw [sch1_length]; omega)
          have ha := HW.out.cell n (by rw [sch1_length]; omega)
          obtain ⟨n1, hn1⟩ : ∃ q : Nat, q = n + 1 := ⟨_, rfl⟩
          obtain ⟨n9, hn9⟩ : ∃ q : Nat, q = n + 9 := ⟨_, rfl⟩
          obtain ⟨n14, hn14⟩ : ∃ q : Nat, q = n + 14 := ⟨_, rfl⟩
          have hb := HW.out.cell n1 (by rw [sch1_length]; omega)
          have hc := HW.out.cell n9 (by rw [sch1_length]; omega)
          have hd := HW.out.cell n14 (by rw [sch1_length]; omega)
          generalize hxx : (sch1 p n).getD j 0 = x at hx
          generalize haa : (sch1 p n).getD n 0 = xa at ha
          generalize hbb : (sch1 p n).getD n1 0 = xb at hb
          generalize hcc : (sch1 p n).getD n9 0 = xc at hc
          generalize hdd : (sch1 p n).getD n14 0 = xd at hd
          have HX := Lib.hid (show sch1 p (n + 1) = (sch1 p n).set j (nextW xa xb xc xd) by
            rw [sch1, haa, ← hn1, ← hn9, ← hn14, hbb, hcc, hdd, hj])
          have i64 : (j : Int) < 64 := by omega
          have j64 : j < 64 := by omega
          have e15 : IntKind.i64.wrap ((j : Int) - 15) = (n1 : Int) := by rw [IntWalk.i64_in _ (by omega)]; omega
          have e2 : IntKind.i64.wrap ((j : Int) - 2) = (n14 : Int) := by rw [IntWalk.i64_in _ (by omega)]; omega
          have e16 : IntKind.i64.wrap ((j : Int) - 16) = (n : Int) := by rw [IntWalk.i64_in _ (by omega)]; omega
          have e7 : IntKind.i64.wrap ((j : Int) - 7) = (n9 : Int) := by rw [IntWalk.i64_in _ (by omega)]; omega
          have p0 : (n : Int) < 64 := by omega
          have p1 : (n1 : Int) < 64 := by omega
          have p9 : (n9 : Int) < 64 := by omega
          have p14 : (n14 : Int) < 64 := by omega
          clear hxx haa hbb hcc hdd hn1 hn9 hn14
          have HN := Lib.hid (And.intro hn (And.intro hj hlt))
          clear hn hj hlt
          go_wp2
          go_quiet (fail)
          have hx' : (wr.drewN nq).cell? ⟨w.heap.size, j, none⟩ = some (.int .u32 x) := hx
          have f0' : (wr.drewN nq).frozen? ⟨w.heap.size, j, none⟩ = false := f0
          have ha' : (wr.drewN nq).cell? ⟨w.heap.size, n, none⟩ = some (.int .u32 xa) := ha
          have hc' : (wr.drewN nq).cell? ⟨w.heap.size, n9, none⟩ = some (.int .u32 xc) := hc
          have HW2 := Aside0.mk (show Row (wr.drewN nq) w.heap.size (u32s (sch1 p n)) 150 from HW.out)
          have HB2 := Aside0.mk (show Below w.heap.size w (wr.drewN nq) from ⟨HB.out.os, HB.out.tape, HB.out.output, HB.out.size, HB.out.block⟩)
          clear HW HB hx f0 ha hb hc hd
          generalize wr.drewN nq = w2 at hx' f0' ha' hc' HW2 HB2 ⊢
          go_wp2
          go_still_tail 33, (by kernel_rfl)
          repeat
            (refine wpStill_step (fun K hK => ?_)
             go_simp
             (first
               | with_reducible refine hK _ ?_
               | (refine ⟨_, rot_any _ _ (by decide) _, hK _ ?_⟩; simp only [Int.neg_neg, Int.reduceNeg, Int.reduceToNat]))
             clear hK K)
          refine wpStill_nil ?_
          change wpList _ _ _ _ _ w2.drew
          have hx2 : w2.drew.cell? ⟨w.heap.size, j, none⟩ = some (.int .u32 x) := hx'
          have f02 : w2.drew.frozen? ⟨w.heap.size, j, none⟩ = false := f0'
          have HW3 := Aside0.mk (show Row w2.drew w.heap.size (u32s (sch1 p n)) 150 from HW2.out)
          have HB3 := Aside0.mk (HB2.out.drew)
          clear HW2 HB2 hx' f0' ha' hc'
          generalize w2.drew = w3 at hx2 f02 HW3 HB3 ⊢
          generalize hX : IntKind.u32.wrap (IntKind.u32.wrap (IntKind.u32.wrap (xa + bits BinOp.xor IntKind.u32 (bits BinOp.xor IntKind.u32 (rotr xb 7) (rotr xb 18)) (xb / 8)) + xc) + bits BinOp.xor IntKind.u32 (bits BinOp.xor IntKind.u32 (rotr xd 17) (rotr xd 19)) (xd / 1024)) = X
          have HX2 := Lib.hid hX
          clear hX e15 e2 e16 e7 p0 p1 p9 p14
          go_wp2
          refine ⟨?_, ?measure⟩
          (repeat apply Exists.intro)
          refine ⟨?rel, rfl⟩
          case rel =>
            refine ⟨n + 1, j + 1, by have := HN.out; omega, by have := HN.out; omega, by go_num, ⟨?_⟩, ⟨belowSetNew HB3.out (Nat.le_refl _) _⟩⟩
            rw [HX.out, show nextW xa xb xc xd = X from HX2.out]
            exact HW3.out.set j X
          case measure => simp [intOf]; omega
        · have hn48 : n = 48 := by omega
          subst hn48
          subst hj
          clear hn hlt
          have hbw : b < w.heap.size := h.lt
          have HH := Aside0.mk (show HAt wr b s from h.move (HB.out.block b hbw))
          obtain ⟨v0, hv0⟩ : ∃ v, v = V8.of s.words := ⟨_, rfl⟩
          have c0 : wr.cell? ⟨b, 0, none⟩ = some (.int .u32 v0.a) := by rw [hv0]; exact HH.out.word 0 (by omega)
          have c1 : wr.cell? ⟨b, 1, none⟩ = some (.int .u32 v0.b) := by rw [hv0]; exact HH.out.word 1 (by omega)
          have c2 : wr.cell? ⟨b, 2, none⟩ = some (.int .u32 v0.c) := by rw [hv0]; exact HH.out.word 2 (by omega)
          have c3 : wr.cell? ⟨b, 3, none⟩ = some (.int .u32 v0.d) := by rw [hv0]; exact HH.out.word 3 (by omega)
          have c4 : wr.cell? ⟨b, 4, none⟩ = some (.int .u32 v0.e) := by rw [hv0]; exact HH.out.word 4 (by omega)
          have c5 : wr.cell? ⟨b, 5, none⟩ = some (.int .u32 v0.f) := by rw [hv0]; exact HH.out.word 5 (by omega)
          have c6 : wr.cell? ⟨b, 6, none⟩ = some (.int .u32 v0.g) := by rw [hv0]; exact HH.out.word 6 (by omega)
          have c7 : wr.cell? ⟨b, 7, none⟩ = some (.int .u32 v0.h) := by rw [hv0]; exact HH.out.word 7 (by omega)
          have HV0 := Lib.hid hv0
          clear hv0
          go_wp2
          clear c0 c1 c2 c3 c4 c5 c6 c7
          have hb1 : Below wr.heap.size wr (wr.alloc (Obj.cells #[Value.int IntKind.u32 v0.a, Value.int IntKind.u32 v0.b, Value.int IntKind.u32 v0.c, Value.int IntKind.u32 v0.d, Value.int IntKind.u32 v0.e, Value.int IntKind.u32 v0.f, Value.int IntKind.u32 v0.g, Value.int IntKind.u32 v0.h] 149)) := Below.alloc' (Nat.le_refl _) _
          have HW1 := Aside0.mk (HW.out.move (hb1.block _ HW.out.lt))
          have HH1 := Aside0.mk (HH.out.move (hb1.block _ HH.out.lt))
          have HB1 := Aside0.mk (below_step HB.out hb1)
          have HV1 := Aside0.mk (Row.alloc (w := wr) (u32s v0.l) 149)
          have HVB := Lib.hid (show w.heap.size < wr.heap.size from HW.out.lt)
          change Aside0 (Row (wr.alloc (Obj.cells #[Value.int IntKind.u32 v0.a, Value.int IntKind.u32 v0.b, Value.int IntKind.u32 v0.c, Value.int IntKind.u32 v0.d, Value.int IntKind.u32 v0.e, Value.int IntKind.u32 v0.f, Value.int IntKind.u32 v0.g, Value.int IntKind.u32 v0.h] 149)) wr.heap.size (u32s v0.l) 149) at HV1
          clear hb1 HW HH HB
          generalize wr.alloc (Obj.cells #[Value.int IntKind.u32 v0.a, Value.int IntKind.u32 v0.b, Value.int IntKind.u32 v0.c, Value.int IntKind.u32 v0.d, Value.int IntKind.u32 v0.e, Value.int IntKind.u32 v0.f, Value.int IntKind.u32 v0.g, Value.int IntKind.u32 v0.h] 149) = w3 at HW1 HH1 HB1 HV1 ⊢
          generalize wr.heap.size = vb at HV1 HVB ⊢
          clear wr
          go_loopw [102] (fun v102 wr => ∃ n : Nat, n ≤ 64 ∧ v102 = .int .i64 n ∧ Aside0 (Row wr w.heap.size (u32s (sch1 p 48)) 150) ∧ Aside0 (HAt wr b s) ∧ Aside0 (Row wr vb (u32s (rounds s.step (sch1 p 48) v0 n).l) 149) ∧ Aside0 (Below w.heap.size w wr)) (fun v102 _ => 64 - (intOf v102).toNat)
          case atStart => exact ⟨0, by omega, rfl, HW1, HH1, HV1, HB1⟩
          case round =>
            clear HW1 HH1 HV1 HB1 w3
            obtain ⟨n, hn, rfl, HW, HH, HV, HB⟩ := hrel
            by_cases hlt : n < 64
            · obtain ⟨v, hv⟩ : ∃ v, rounds s.step (sch1 p 48) v0 n = v := ⟨_, rfl⟩
              rw [hv] at HV
              have c0 : wr.cell? ⟨vb, 0, none⟩ = some (.int .u32 v.a) := HV.out.cell 0 (by simp [V8.l])
              have c1 : wr.cell? ⟨vb, 1, none⟩ = some (.int .u32 v.b) := HV.out.cell 1 (by simp [V8.l])
              have c2 : wr.cell? ⟨vb, 2, none⟩ = some (.int .u32 v.c) := HV.out.cell 2 (by simp [V8.l])
              have c3 : wr.cell? ⟨vb, 3, none⟩ = some (.int .u32 v.d) := HV.out.cell 3 (by simp [V8.l])
              have c4 : wr.cell? ⟨vb, 4, none⟩ = some (.int .u32 v.e) := HV.out.cell 4 (by simp [V8.l])
              have c5 : wr.cell? ⟨vb, 5, none⟩ = some (.int .u32 v.f) := HV.out.cell 5 (by simp [V8.l])
              have c6 : wr.cell? ⟨vb, 6, none⟩ = some (.int .u32 v.g) := HV.out.cell 6 (by simp [V8.l])
              have c7 : wr.cell? ⟨vb, 7, none⟩ = some (.int .u32 v.h) := HV.out.cell 7 (by simp [V8.l])
              have f0 := HV.out.free 0
              have f1 := HV.out.free 1
              have f2 := HV.out.free 2
              have f3 := HV.out.free 3
              have f4 := HV.out.free 4
              have f5 := HV.out.free 5
              have f6 := HV.out.free 6
              have f7 := HV.out.free 7
              have cs := HH.out.stp n hlt
              have cw := HW.out.cell n (by rw [sch1_length]; omega)
              generalize hkk : s.step.getD n 0 = kk at cs
              generalize hww : (sch1 p 48).getD n 0 = ww at cw
              have HX := Lib.hid (show rounds s.step (sch1 p 48) v0 (n + 1) = v.next kk ww by rw [rounds, hv, hkk, hww])
              clear hv hkk hww
              have i64 : (n : Int) < 64 := by omega
              go_wp2
              go_quiet (fail)
              (simp only [← show ∀ x, (World.drewN wr nq).cell? x = World.cell? wr x from fun _ => rfl, ← show ∀ x, (World.drewN wr nq).frozen? x = World.frozen? wr x from fun _ => rfl] at c0 c1 c2 c3 c4 c5 c6 c7 f0 f1 f2 f3 f4 f5 f6 f7 cs cw)
              generalize hw1 : World.drewN wr nq = w2 at c0 c1 c2 c3 c4 c5 c6 c7 f0 f1 f2 f3 f4 f5 f6 f7 cs cw ⊢
              have HQ1 := Lib.hid hw1
              clear hw1
              go_wp2
              go_quiet ((refine Calls.quiet_of_same (rot_any _ _ ?_ _); decide))
              (simp only [← show ∀ x, (World.drewN w2 nq).cell? x = World.cell? w2 x from fun _ => rfl, ← show ∀ x, (World.drewN w2 nq).frozen? x = World.frozen? w2 x from fun _ => rfl] at c0 c1 c2 c3 c4 c5 c6 c7 f0 f1 f2 f3 f4 f5 f6 f7 cs cw)
              generalize hw2 : World.drewN w2 nq = w3 at c0 c1 c2 c3 c4 c5 c6 c7 f0 f1 f2 f3 f4 f5 f6 f7 cs cw ⊢
              have HQ2 := Lib.hid hw2
              clear hw2
              go_wp2
              go_quiet ((refine Calls.quiet_of_same (rot_any _ _ ?_ _); decide))
              (simp only [← show ∀ x, (World.drewN w3 nq).cell? x = World.cell? w3 x from fun _ => rfl, ← show ∀ x, (World.drewN w3 nq).frozen? x = World.frozen? w3 x from fun _ => rfl] at c0 c1 c2 c3 c4 c5 c6 c7 f0 f1 f2 f3 f4 f5 f6 f7 cs cw)
              generalize hw3 : World.drewN w3 nq = w4 at c0 c1 c2 c3 c4 c5 c6 c7 f0 f1 f2 f3 f4 f5 f6 f7 cs cw ⊢
              have HQ3 := Lib.hid hw3
              clear hw3
              go_wp2
              refine ⟨?_, ?measure⟩
              (repeat apply Exists.intro)
              refine ⟨?rel, rfl⟩
              case rel =>
                have hvw : vb ≠ w.heap.size := by have := HVB.out; omega
                have hvb2 : vb ≠ b := by have := HVB.out; omega
                have HW2 : Row w4 w.heap.size (u32s (sch1 p 48)) 150 := by rw [← HQ3.out, ← HQ2.out, ← HQ1.out]; exact HW.out
                have HH2 : HAt w4 b s := by rw [← HQ3.out, ← HQ2.out, ← HQ1.out]; exact HH.out.move rfl
                have HV2 : Row w4 vb (u32s v.l) 149 := by rw [← HQ3.out, ← HQ2.out, ← HQ1.out]; exact HV.out
                have HB2 : Below w.heap.size w w4 := by rw [← HQ3.out, ← HQ2.out, ← HQ1.out]; exact ⟨HB.out.os, HB.out.tape, HB.out.output, HB.out.size, HB.out.block⟩
                have hsv : w.heap.size ≤ vb := by have := HVB.out; omega
                refine ⟨n + 1, by omega, by go_num, ⟨HW2.move ?_⟩, ⟨HH2.move ?_⟩, ⟨?_⟩, ⟨?_⟩⟩
                · rw [Below.heap_setCell _ _ _ _ (Ne.symm hvw), Below.heap_setCell _ _ _ _ (Ne.symm hvw), Below.heap_setCell _ _ _ _ (Ne.symm hvw), Below.heap_setCell _ _ _ _ (Ne.symm hvw), Below.heap_setCell _ _ _ _ (Ne.symm hvw), Below.heap_setCell _ _ _ _ (Ne.symm hvw), Below.heap_setCell _ _ _ _ (Ne.symm hvw), Below.heap_setCell _ _ _ _ (Ne.symm hvw)]
                · rw [Below.heap_setCell _ _ _ _ (Ne.symm hvb2), Below.heap_setCell _ _ _ _ (Ne.symm hvb2), Below.heap_setCell _ _ _ _ (Ne.symm hvb2), Below.heap_setCell _ _ _ _ (Ne.symm hvb2), Below.heap_setCell _ _ _ _ (Ne.symm hvb2), Below.heap_setCell _ _ _ _ (Ne.symm hvb2), Below.heap_setCell _ _ _ _ (Ne.symm hvb2), Below.heap_setCell _ _ _ _ (Ne.symm hvb2)]
                · rw [HX.out]
                  exact (((((((HV2.set 0 ((tOf v kk ww + uOf v) % 4294967296)).set 1 v.a).set 2 v.b).set 3 v.c).set 4 ((v.d + tOf v kk ww) % 4294967296)).set 5 v.e).set 6 v.f).set 7 v.g
                · exact belowSetNew (belowSetNew (belowSetNew (belowSetNew (belowSetNew (belowSetNew (belowSetNew (belowSetNew HB2 hsv _) hsv _) hsv _) hsv _) hsv _) hsv _) hsv _) hsv _
              case measure => simp [intOf]; omega
            · have hn64 : n = 64 := by omega
              subst hn64
              clear hn hlt
              obtain ⟨v, hv⟩ : ∃ v, rounds s.step (sch1 p 48) v0 64 = v := ⟨_, rfl⟩
              rw [hv] at HV
              have c0 : wr.cell? ⟨vb, 0, none⟩ = some (.int .u32 v.a) := HV.out.cell 0 (by simp [V8.l])
              have c1 : wr.cell? ⟨vb, 1, none⟩ = some (.int .u32 v.b) := HV.out.cell 1 (by simp [V8.l])
              have c2 : wr.cell? ⟨vb, 2, none⟩ = some (.int .u32 v.c) := HV.out.cell 2 (by simp [V8.l])
              have c3 : wr.cell? ⟨vb, 3, none⟩ = some (.int .u32 v.d) := HV.out.cell 3 (by simp [V8.l])
              have c4 : wr.cell? ⟨vb, 4, none⟩ = some (.int .u32 v.e) := HV.out.cell 4 (by simp [V8.l])
              have c5 : wr.cell? ⟨vb, 5, none⟩ = some (.int .u32 v.f) := HV.out.cell 5 (by simp [V8.l])
              have c6 : wr.cell? ⟨vb, 6, none⟩ = some (.int .u32 v.g) := HV.out.cell 6 (by simp [V8.l])
              have c7 : wr.cell? ⟨vb, 7, none⟩ = some (.int .u32 v.h) := HV.out.cell 7 (by simp [V8.l])
              have HVF := Lib.hid hv
              clear hv
              go_wp2
              clear c0 c1 c2 c3 c4 c5 c6 c7
              have hA : ∀ i, i < 8 → (#[Value.int IntKind.u32 v.a, Value.int IntKind.u32 v.b, Value.int IntKind.u32 v.c, Value.int IntKind.u32 v.d, Value.int IntKind.u32 v.e, Value.int IntKind.u32 v.f, Value.int IntKind.u32 v.g, Value.int IntKind.u32 v.h] : Array Value)[i]? = some (.int .u32 (v.l.getD i 0)) := by
                intro i hi
                match i, hi with
                | 0, _ => rfl
                | 1, _ => rfl
                | 2, _ => rfl
                | 3, _ => rfl
                | 4, _ => rfl
                | 5, _ => rfl
                | 6, _ => rfl
                | 7, _ => rfl
              generalize #[Value.int IntKind.u32 v.a, Value.int IntKind.u32 v.b, Value.int IntKind.u32 v.c, Value.int IntKind.u32 v.d, Value.int IntKind.u32 v.e, Value.int IntKind.u32 v.f, Value.int IntKind.u32 v.g, Value.int IntKind.u32 v.h] = A at hA ⊢
              have HA := Aside0.mk hA
              have HC1 := Aside0.mk (Chg.of_below (F := fun k => k = b) HB.out)
              have HH1 := HH
              clear hA HW HV HB HH
              go_loopw [194] (fun v194 wr => ∃ i : Nat, i ≤ 8 ∧ v194 = .int .i64 i ∧ Aside0 (HAt wr b { s with words := addW s.words v.l i }) ∧ Aside0 (Chg (fun k => k = b) w wr)) (fun v194 _ => 8 - (intOf v194).toNat)
              case atStart => exact ⟨0, by omega, rfl, HH1, HC1⟩
              case round =>
                clear HH1 HC1
                obtain ⟨i, hi, rfl, HH, HC⟩ := hrel
                by_cases hlt : i < 8
                · have i64 : (i : Int) < 8 := by omega
                  have f0 := HH.out.free i
                  have ci := HH.out.word i hlt
                  have ha := HA.out i hlt
                  have HX := Lib.hid (show addW s.words v.l (i + 1) = (addW s.words v.l i).set i (IntKind.u32.wrap ((addW s.words v.l i).getD i 0 + v.l.getD i 0)) from rfl)
                  generalize hx : (addW s.words v.l i).getD i 0 = x at ci HX
                  generalize hy : v.l.getD i 0 = y at ha HX
                  clear hx hy
                  have hidx := fun w => idx8 A i hlt y ha w
                  clear ha
                  go_wp2
                  clear hidx
                  go_still_tail 11, (by kernel_rfl)
                  change wpList _ _ _ _ _ wr.drew
                  have hx' : wr.drew.cell? ⟨b, i, none⟩ = some (.int .u32 x) := ci
                  have f0' : wr.drew.frozen? ⟨b, i, none⟩ = false := f0
                  have HH1 := Aside0.mk (show HAt wr.drew b { s with words := addW s.words v.l i } from HH.out.move rfl)
                  have HC1 := Aside0.mk (show Chg (fun k => k = b) w wr.drew from ⟨HC.out.os, HC.out.tape, HC.out.output, HC.out.size, HC.out.block⟩)
                  clear ci f0 HH HC
                  generalize wr.drew = w2 at hx' f0' HH1 HC1 ⊢
                  go_wp2
                  refine ⟨?_, ?measure⟩
                  (repeat apply Exists.intro)
                  refine ⟨?rel, rfl⟩
                  case rel =>
                    refine ⟨i + 1, by omega, by go_num, ⟨?_⟩, ⟨HC1.out.setCell (by rfl) _⟩⟩
                    rw [HX.out]
                    exact HH1.out.setWord i hlt _
                  case measure => simp [intOf]; omega
                · have hi8 : i = 8 := by omega
                  subst hi8
                  clear hi hlt
                  go_wp2
                  go_end0
                  refine ⟨rfl, ?_, HC.out⟩
                  have e : blockF s.step s.words p = addW s.words v.l 8 := by unfold blockF; rw [← HV0.out, HVF.out]
                  rw [e]; exact HH.out
end Go.Proofs.YtlilkfnfcaepiaaGreatDoor.G
set_option linter.unusedSimpArgs false
set_option linter.unusedVariables false
namespace Go.Proofs.YtlilkfnfcaepiaaGreatDoor.G
open Go.RowKit Go.Proofs.YtlilkfnfcaepiaaGreatDoorW.PrintWords Go.Proofs.YtlilkfnfcaepiaaGreatDoorW.PrintLast Go.Proofs.YtlilkfnfcaepiaaGreatDoorW.PrintMore PB H

/-- The first 64 primes. -/
def P64 : List Int := [2, 3, 5, 7, 11, 13, 17, 19, 23, 29, 31, 37, 41, 43, 47, 53, 59, 61, 67, 71, 73, 79, 83, 89, 97, 101, 103, 107, 109, 113, 127, 131, 137, 139, 149, 151, 157, 163, 167, 173, 179, 181, 191, 193, 197, 199, 211, 223, 227, 229, 233, 239, 241, 251, 257, 263, 269, 271, 277, 281, 283, 293, 307, 311]
def outAt (p : Nat) : List Int := P64.filter (fun q => decide (q < (p : Int)))
def isAt (p k : Nat) : Bool := ((outAt p).take k).all (fun q => (p : Int) % q != 0)
theorem outAt_len : ∀ p : Fin 312, (outAt p).length < 64 := by decide +kernel
theorem outAt_end : outAt 312 = P64 := by decide +kernel
theorem outAt_two : outAt 2 = [] := by decide +kernel
theorem outAt_next : ∀ p : Fin 312, 2 ≤ p.val → outAt (p + 1) = if isAt p (outAt p).length then outAt p ++ [(p.val : Int)] else outAt p := by decide +kernel
theorem outAt_ge : ∀ q ∈ P64, 2 ≤ q := by decide +kernel
theorem isAt_next (p k : Nat) (hk : k < (outAt p).length) : isAt p (k + 1) = (isAt p k && ((p : Int) % (outAt p)[k] != 0)) := by
  unfold isAt; rw [List.take_succ_eq_append_getElem hk, List.all_append]; simp

set_option maxRecDepth 100000 in
set_option maxHeartbeats 1000000 in
theorem primes_64 (w : World) : Calls Tryz.prog 118 #[.int .i64 64] w (fun e w' => ∃ v, e = .returned v ∧ Kd.R (Kd.int .u64) 86 w' w.heap.size (fun _ => True) v P64 ∧ Below w.heap.size w w') := by
  go_enter Tryz.func118, Tryz.ntmps118
  go_wp2
  go_loopw [3, 4] (fun v3 v4 wr => ∃ p : Nat, 2 ≤ p ∧ p ≤ 312 ∧ v4 = .int .u64 p ∧ Aside0 (Kd.R (Kd.int .u64) 86 wr w.heap.size (fun _ => True) v3 (outAt p)) ∧ Aside0 (Below w.heap.size w wr)) (fun _ v4 _ => 312 - (intOf v4).toNat)
  case atStart => exact ⟨2, by omega, by omega, rfl, ⟨by rw [outAt_two]; exact Kd.R_nil _ _ _ _ _⟩, ⟨Below.refl _ _⟩⟩
  case round =>
    obtain ⟨p, hp2, hp3, rfl, HO, HB⟩ := hrel
    obtain ⟨A, c, rfl⟩ := Kd.R_slice HO.out
    obtain ⟨n, hn⟩ : ∃ n, (outAt p).length = n := ⟨_, rfl⟩
    rw [hn] at HO ⊢
    by_cases hlt : p < 312
    · have hn64 : (n : Int) < 64 := by have := outAt_len ⟨p, hlt⟩; simp only at this; omega
      have HPL := Lib.hid (And.intro hp2 hlt)
      have HN := Lib.hid hn
      clear hn hp2 hp3 hlt
      go_wp2
      go_loop [5, 16] (fun v5 v16 => ∃ k : Nat, k ≤ n ∧ v16 = .int .i64 k ∧ v5 = .bool (isAt p k)) (fun _ v16 => n - (intOf v16).toNat)
      case atStart => exact ⟨0, by omega, rfl, by simp [isAt]⟩
      case round =>
        obtain ⟨k, hk, rfl, rfl⟩ := hrel
        by_cases hlt : k < n
        · obtain ⟨g, cap, he, _, _, _⟩ := Kd.R_form HO.out (by rw [HN.out]; omega)
          injection he with he1 he2 he3
          subst he1
          have hc := (Kd.R_celln (0 : Int) HO.out (k : Int) (by omega) (by omega)).1
          rw [Int.toNat_natCast] at hc
          obtain ⟨q, hq⟩ : ∃ q, rdOf (0 : Int) (outAt p) (k : Int) = q := ⟨_, rfl⟩
          rw [hq] at hc
          have hqe : (outAt p)[k]? = some q := by
            rw [← hq]; unfold rdOf; rw [Int.toNat_natCast]; have hl : k < (outAt p).length := by rw [HN.out]; omega
            simp [hl]
          have hq2 : 2 ≤ q := outAt_ge q (List.mem_filter.1 (List.mem_of_getElem? hqe)).1
          have HNX := Lib.hid (show isAt p (k + 1) = (isAt p k && ((p : Int) % q != 0)) by
            have hl : k < (outAt p).length := by rw [HN.out]; omega
            rw [isAt_next p k hl, show (outAt p)[k] = q by rw [List.getElem?_eq_getElem hl] at hqe; exact Option.some.inj hqe])
          have hkn : (k : Int) < n := by omega
          clear hq hqe
          have fin : ∀ bb : Bool, bb = isAt p (k + 1) → (∃ k_1 : Nat, k_1 ≤ n ∧ Value.int IntKind.i64 ((k : Int) + 1) = Value.int IntKind.i64 (k_1 : Int) ∧ Value.bool bb = Value.bool (isAt p k_1)) ∧ n - (intOf (Value.int IntKind.i64 ((k : Int) + 1))).toNat < n - (intOf (Value.int IntKind.i64 (k : Int))).toNat := by
            intro bb hbb
            exact ⟨⟨k + 1, by omega, by go_num, by rw [hbb]⟩, by simp [intOf]; omega⟩
          have FIN := Lib.hid fin
          clear fin
          cases hb : isAt p k with
          | true =>
            go_wp2
            exact FIN.out _ (by rw [HNX.out, hb, Bool.true_and])
          | false =>
            go_wp2
            exact FIN.out _ (by rw [HNX.out, hb, Bool.false_and])
        · have hkn : k = n := by omega
          subst hkn
          clear hk hlt
          have hlp := HPL.out.2
          have HNX := Lib.hid (show outAt (p + 1) = if isAt p k then outAt p ++ [(p : Int)] else outAt p by
            have := outAt_next ⟨p, HPL.out.2⟩ HPL.out.1; rw [HN.out] at this; exact this)
          cases hb : isAt p k with
          | true =>
            have HX := Lib.hid (show outAt (p + 1) = outAt p ++ [(p : Int)] by rw [HNX.out, hb]; rfl)
            have HL := Aside0.mk (show ((outAt p).length + 1) * 8 ≤ 140737488355328 by rw [HN.out]; have := outAt_len ⟨p, HPL.out.2⟩; simp only at this; rw [HN.out] at this; omega)
            go_wp2_with (first | ((with_reducible refine gate_builtin (b := .append) (xs := #[.tmp 29, .tmp 31]) rfl ?_); at_builtin; refine Kd.R_append (Kd.int .u64) (w0 := w) w.heap.size rfl (.tmp 29) (.tmp 31) 130 86 (.int .u64 0) 8 rfl Tryz.underlying130 PB.info86 rfl (by decide) (by omega) (.slice A k c) (outAt p) (p : Int) [.int .u64 (p : Int)] (fun _ => True) (fun _ => False) rfl rfl ?aP (fun _ hk => hk.elim) ?aF ?aO ?aB ?aS ?aL ?_; (case aP => exact rfl); (case aB => exact HB.out); (case aF => intro k hk; trivial); (case aO => exact HO.out); (case aS => exact HB.out.size); (case aL => exact HL.out); intro v3 w3 ho hb hg hat; have HB3 := Aside0.mk hb; have HR3 := Aside0.mk ho; clear ho hb hg hat) | fail)
            go_roundw
            case rel => exact ⟨p + 1, by have := HPL.out; omega, by have := HPL.out; omega, by go_num, ⟨by rw [HX.out]; exact HR3.out⟩, HB3⟩
            case measure => simp [intOf]; have := HPL.out; omega
          | false =>
            have HX := Lib.hid (show outAt (p + 1) = outAt p by rw [HNX.out, hb]; rfl)
            go_wp2
            go_roundw
            case rel => exact ⟨p + 1, by have := HPL.out; omega, by have := HPL.out; omega, by go_num, ⟨by rw [HX.out]; exact HO.out⟩, HB⟩
            case measure => simp [intOf]; have := HPL.out; omega
    · have hp : p = 312 := by omega
      subst hp
      have hn64 : n = 64 := by rw [← hn, outAt_end]; rfl
      subst hn64
      rw [outAt_end] at HO
      go_wp2
      go_ret
      exact ⟨_, rfl, HO.out, HB.out⟩
end Go.Proofs.YtlilkfnfcaepiaaGreatDoor.G
