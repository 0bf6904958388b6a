/- bits.value, Unhex and Hex answer what their Lean functions do. -/
import Derived.Test.YtlilkfnfcaepiaaGreatDoorProg
import Derived.WalkKit
import Derived.Lib.Hide
import Derived.Below
import Derived.Outline
import Derived.Handy
import Derived.Test.YtlilkfnfcaepiaaGreatDoorXp
import Derived.Lib.OthersKept
import Derived.WalkSmall
namespace Go.Proofs.YtlilkfnfcaepiaaGreatDoor.H
open Go.RowKit

abbrev digs : ByteArray := ⟨#[48, 49, 50, 51, 52, 53, 54, 55, 56, 57, 97, 98, 99, 100, 101, 102]⟩

def valueL (c : Int) : Int := if 48 ≤ c ∧ c ≤ 57 then c - 48 else if 97 ≤ c ∧ c ≤ 102 then c - 87 else 16

def digAt (k : Nat) : Nat := if k < 10 then 48 + k else 87 + k
def NotTill (k : Nat) (c : Int) : Prop := ∀ j, j < k → (digAt j : Int) ≠ c

theorem digs_dec (k : Nat) (h : k < 16) : Utf8.decode digs k = (digAt k, 1) := by
  have : k = 0 ∨ k = 1 ∨ k = 2 ∨ k = 3 ∨ k = 4 ∨ k = 5 ∨ k = 6 ∨ k = 7 ∨ k = 8 ∨ k = 9 ∨ k = 10 ∨ k = 11 ∨ k = 12 ∨ k = 13 ∨ k = 14 ∨ k = 15 := by omega
  rcases this with rfl | rfl | rfl | rfl | rfl | rfl | rfl | rfl | rfl | rfl | rfl | rfl | rfl | rfl | rfl | rfl <;> decide

theorem valueL_hit (k : Nat) (c : Int) (hk : k < 16) (h : (digAt k : Int) = c) : valueL c = k := by
  unfold digAt at h; unfold valueL; split at h <;> (split <;> (try split) <;> omega)
theorem valueL_miss (c : Int) (h : NotTill 16 c) : valueL c = 16 := by
  unfold valueL
  split
  · exact absurd (by unfold digAt; split <;> omega) (h (c - 48).toNat (by omega))
  · split
    · exact absurd (by unfold digAt; split <;> omega) (h (c - 87).toNat (by omega))
    · rfl

theorem ret_int {k : IntKind} {a b : Int} (h : a = b) : Ending.returned (.int k a) = .returned (.int k b) := by rw [h]

set_option maxHeartbeats 400000 in
theorem bits_value (c : Int) (w : World) : Calls Tryz.prog 129 #[.int .i32 c] w fun e w' => e = .returned (.int .i64 (valueL c)) ∧ Below w.heap.size w w' := by
  go_enter Tryz.func129, Tryz.ntmps129
  go_wp2
  go_loopw [] (fun w' => ∃ k : Nat, k ≤ 16 ∧ w' = w.iter digs k ∧ NotTill k c) (fun w' => 16 - w'.iterPos w.heap.size)
  case atStart => exact ⟨0, by omega, rfl, fun j hj => by omega⟩
  case round =>
    obtain ⟨k, hk, rfl, hnt⟩ := hrel
    have HN := Lib.hid hnt
    clear hnt
    by_cases hlt : k < 16
    · have hnx : ∀ ty, (Instr.next (.pointer (some ⟨w.heap.size, 0, none⟩)) true ty).run Tryz.prog (w.iter digs k) = .ok (.tuple #[.bool true, .int .i64 k, .int .i32 (digAt k)]) (w.iter digs (k + 1)) := fun ty => by
        have h := run_next_any (P := Tryz.prog) w digs k ty hlt
        rw [digs_dec k hlt] at h
        exact h
      by_cases hc : (digAt k : Int) = c
      · have hv := Lib.hid (valueL_hit k c hlt hc)
        have hcb : ((digAt k : Int) == c) = true := by simpa using hc
        clear hc
        go_wp2
        go_ret
        exact ⟨ret_int hv.out.symm, (Below.refl _ _).alloc (Nat.le_refl _) _⟩
      · have hcb : ((digAt k : Int) == c) = false := by simpa using hc
        have HC := Lib.hid hc
        clear hc
        go_wp2
        go_roundw
        case rel =>
          refine ⟨k + 1, by omega, rfl, fun j hj => ?_⟩
          by_cases e : j = k
          · rw [e]; exact HC.out
          · exact HN.out j (by omega)
        case measure => simp; omega
    · have hnx : ∀ ty, (Instr.next (.pointer (some ⟨w.heap.size, 0, none⟩)) true ty).run Tryz.prog (w.iter digs k) = .ok (.tuple #[.bool false]) (w.iter digs k) := fun ty =>
        run_next_end (P := Tryz.prog) w digs k ty (by show ¬ k < 16; exact hlt)
      have hv := Lib.hid (valueL_miss c (fun j hj => HN.out j (by omega)))
      go_wp2
      go_ret
      exact ⟨ret_int hv.out.symm, (Below.refl _ _).alloc (Nat.le_refl _) _⟩
end Go.Proofs.YtlilkfnfcaepiaaGreatDoor.H
namespace Go.Proofs.YtlilkfnfcaepiaaGreatDoor.H
open Go.RowKit Go.Proofs.YtlilkfnfcaepiaaGreatDoorW.PrintWords Go.Proofs.YtlilkfnfcaepiaaGreatDoorW.PrintLast Go.Proofs.YtlilkfnfcaepiaaGreatDoorW.PrintMore PB

/-- From place pos on, by at most so many runes: none: a rune that is no digit; else the bytes and the digit that waits (16: none). -/
def unhexFrom (s : ByteArray) : Nat → Nat → Int → List Int → Option (List Int × Int)
  | 0, _, high, acc => some (acc, high)
  | f + 1, pos, high, acc =>
    if pos < s.size then
      if valueL (Utf8.decode s pos).1 = 16 then none
      else if high = 16 then unhexFrom s f (pos + (Utf8.decode s pos).2) (valueL (Utf8.decode s pos).1) acc
      else unhexFrom s f (pos + (Utf8.decode s pos).2) 16 (acc ++ [(Go.bits .or .i64 (high * 16) (valueL (Utf8.decode s pos).1)) % 256])
    else some (acc, high)

theorem valueL_range (c : Int) : 0 ≤ valueL c ∧ valueL c ≤ 16 := by unfold valueL; split <;> (try split) <;> omega
theorem width_pos (s : ByteArray) (pos : Nat) (h : pos < s.size) : 1 ≤ (Utf8.decode s pos).2 := by
  by_cases ha : (s[pos]'h).toNat < 128
  · rw [decode_ascii s pos h ha]; exact Nat.le_refl _
  · exact (decode_high s pos h (by omega)).2

def unhexV (r : Option (List Int × Int)) : Value := match r with
  | some (l, high) => if high = 16 then .tuple #[.string (strOfNums l), .bool true] else .tuple #[.string ⟨#[]⟩, .bool false]
  | none => .tuple #[.string ⟨#[]⟩, .bool false]
def UnhexPost (s : ByteArray) (w : World) (e : Ending) (w' : World) : Prop := e = .returned (unhexV (unhexFrom s s.size 0 16 [])) ∧ Below w.heap.size w w'

theorem unhex_step (s : ByteArray) (f pos : Nat) (high : Int) (acc : List Int) (hp : pos < s.size) : unhexFrom s (f + 1) pos high acc = if valueL (Utf8.decode s pos).1 = 16 then none
      else if high = 16 then unhexFrom s f (pos + (Utf8.decode s pos).2) (valueL (Utf8.decode s pos).1) acc
      else unhexFrom s f (pos + (Utf8.decode s pos).2) 16 (acc ++ [(Go.bits .or .i64 (high * 16) (valueL (Utf8.decode s pos).1)) % 256]) := by rw [unhexFrom, if_pos hp]
theorem unhex_end (s : ByteArray) (f pos : Nat) (high : Int) (acc : List Int) (hp : ¬ pos < s.size) : unhexFrom s f pos high acc = some (acc, high) := by
  cases f with
  | zero => rfl
  | succ f => rw [unhexFrom, if_neg hp]

set_option maxRecDepth 100000 in
set_option maxHeartbeats 1000000 in
theorem bits_Unhex (s : ByteArray) (hs : s.size ≤ 140737488351232) (w : World) : Calls Tryz.prog 113 #[.string s] w (UnhexPost s w) := by
  go_enter Tryz.func113, Tryz.ntmps113
  go_wp2
  go_loopw [4, 5] (fun v4 v5 wr => ∃ (pos fuel : Nat) (acc : List Int) (high : Int), v5 = .int .i64 high ∧ 0 ≤ high ∧ high ≤ 16 ∧ Aside0 (wr.heap[w.heap.size]? = some (.stringIter s pos)) ∧
      Aside0 (Kd.R (Kd.int .u8) 5 wr w.heap.size (fun k => k ≠ w.heap.size) v4 acc) ∧ Aside0 (Below w.heap.size w wr) ∧ Hid (unhexFrom s fuel pos high acc = unhexFrom s s.size 0 16 []) ∧ s.size ≤ pos + fuel ∧ acc.length ≤ pos ∧ w.heap.size < wr.heap.size)
    (fun _ _ wr => s.size - wr.iterPos w.heap.size)
  case atStart => exact ⟨0, s.size, [], 16, rfl, by omega, by omega, ⟨by simp [World.iter_heap]⟩, ⟨Kd.R_nil _ _ _ _ _⟩, ⟨(Below.refl _ _).alloc (Nat.le_refl _) _⟩, rfl, by omega, by simp, by simp [World.iter]⟩
  case round =>
    obtain ⟨pos, fuel, acc, high, rfl, hh0, hh1, hit, HR, HB, HS, hfu, hac, hsz⟩ := hrel
    by_cases hp : pos < s.size
    · have hv := valueL_range (Utf8.decode s pos).1
      have hw := width_pos s pos hp
      obtain ⟨w1, hw1⟩ : ∃ w1, w1 = wr.iterAt w.heap.size s (pos + (Utf8.decode s pos).2) := ⟨_, rfl⟩
      have hnx : ∀ ty, (Instr.next (.pointer (some ⟨w.heap.size, 0, none⟩)) true ty).run Tryz.prog wr = .ok (.tuple #[.bool true, .int .i64 pos, .int .i32 (Utf8.decode s pos).1]) w1 := fun ty => by
        rw [hw1]; exact Lib.run_next_any_at (P := Tryz.prog) wr w.heap.size s pos ty hit.out hp
      have hit1 := Aside0.mk (show w1.heap[w.heap.size]? = some (.stringIter s (pos + (Utf8.decode s pos).2)) by rw [hw1]; exact Lib.iterAt_heap _ _ _ _ _ hit.out)
      have HB1 := Aside0.mk (show Below w.heap.size w w1 by rw [hw1]; exact Lib.below_iterAt HB.out (Nat.le_refl _) _ _)
      have HR1 := Aside0.mk (show Kd.R (Kd.int .u8) 5 w1 w.heap.size (fun k => k ≠ w.heap.size) u4 acc by rw [hw1]; exact Kd.R_step HR.out (fun k hk _ => Lib.iterAt_other _ _ _ _ _ hk))
      have hsz1 : w.heap.size < w1.heap.size := by rw [hw1, Lib.iterAt_size]; exact hsz
      have Hit0 := hit
      clear hw1 HB HR hit
      obtain ⟨fuel, rfl⟩ : ∃ f, fuel = f + 1 := ⟨fuel - 1, by omega⟩
      have HS1 := Lib.hid (HS.out.symm.trans (unhex_step s fuel pos high acc hp))
      clear HS
      generalize (Utf8.decode s pos).1 = c at *
      generalize (Utf8.decode s pos).2 = n at *
      have hb0 := hv.1
      have hb1 := hv.2
      clear hv
      by_cases h16 : valueL c = 16
      · have hS2 := Lib.hid (HS1.out.trans (if_pos h16))
        go_wp2_with fail
        refine (bits_value c w1).mono ?_
        rintro e w2 ⟨rfl, hbw⟩
        have HB2 := Aside0.mk (below_step HB1.out hbw)
        clear hbw
        have hvb : (valueL c == 16) = true := by simpa using h16
        clear h16
        go_wp2
        go_ret2
        exact ⟨by rw [hS2.out]; rfl, HB2.out⟩
      · have hS2 := Lib.hid (HS1.out.trans (if_neg h16))
        have hvb : (valueL c == 16) = false := by simpa using h16
        have H16 := Lib.hid h16
        clear h16
        by_cases hh : high = 16
        · subst hh
          have hS3 := Lib.hid (hS2.out.trans (if_pos rfl))
          clear hS2
          go_wp2_with fail
          refine (bits_value c w1).mono ?_
          rintro e w2 ⟨rfl, hbw⟩
          have HB2 := Aside0.mk (below_step HB1.out hbw)
          have HR2 := Aside0.mk (Kd.R_below HR1.out hbw)
          have hit2 := Aside0.mk ((hbw.block w.heap.size hsz1).trans hit1.out)
          have hsz2 : w.heap.size < w2.heap.size := Nat.lt_of_lt_of_le hsz1 hbw.size
          clear hbw HB1 HR1 hit1
          go_wp2
          go_roundw
          case rel => exact ⟨pos + n, fuel, acc, valueL c, rfl, hb0, hb1, hit2, HR2, HB2, hS3.out.symm, by omega, by omega, hsz2⟩
          case measure => rw [iterPos_of hit2.out, iterPos_of Hit0.out]; omega
        · have hS3 := Lib.hid (hS2.out.trans (if_neg hh))
          clear hS2
          have hhb : (high == 16) = false := by simpa using hh
          have HH := Lib.hid hh
          clear hh
          go_wp2_with fail
          refine (bits_value c w1).mono ?_
          rintro e w2 ⟨rfl, hbw⟩
          have HB2 := Aside0.mk (below_step HB1.out hbw)
          have HR2 := Aside0.mk (Kd.R_below HR1.out hbw)
          have hit2 := Aside0.mk ((hbw.block w.heap.size hsz1).trans hit1.out)
          have hsz2 : w.heap.size < w2.heap.size := Nat.lt_of_lt_of_le hsz1 hbw.size
          clear hbw HB1 HR1 hit1
          have HL := Aside0.mk (show (acc.length + 1) * 1 ≤ 140737488355328 by omega)
          go_wp2_with (first | ((with_reducible refine gate_builtin (b := .append) (xs := #[.tmp 16, .tmp 22]) rfl ?_); at_builtin; refine Kd.R_append (Kd.int .u8) (w0 := w) w.heap.size rfl (.tmp 16) (.tmp 22) 76 5 (.int .u8 0) 1 rfl Tryz.underlying76 PB.info5 rfl (by decide) (by omega) u4 acc (Go.bits .or .i64 (high * 16) (valueL c) % 256) [.int .u8 (Go.bits .or .i64 (high * 16) (valueL c) % 256)] (fun k => k ≠ w.heap.size) (fun _ => False) rfl rfl ?aP (fun _ hk => hk.elim) ?aF ?aO ?aB ?aS ?aL ?_; (case aP => exact rfl); (case aB => exact HB2.out); (case aF => intro k hk; omega); (case aO => exact HR2.out); (case aS => exact HB2.out.size); (case aL => exact HL.out); intro v3 w3 ho hb hg hat; have HB3 := Aside0.mk hb; have HR3 := Aside0.mk ho; have hit3 := Aside0.mk ((hg.block w.heap.size hsz2 (fun e => HR2.out.1 _ e.symm rfl)).trans hit2.out); have hsz3 : w.heap.size < w3.heap.size := Nat.lt_of_lt_of_le hsz2 hg.size; clear ho hb hg hat HB2 HR2 hit2))
          go_roundw
          case rel => exact ⟨pos + n, fuel, _, 16, rfl, by omega, by omega, hit3, HR3, HB3, hS3.out.symm, by omega, by simp; omega, hsz3⟩
          case measure => rw [iterPos_of hit3.out, iterPos_of Hit0.out]; omega
    · have hS2 := Lib.hid (HS.out.symm.trans (unhex_end s fuel pos high acc hp))
      have hnx : ∀ ty, (Instr.next (.pointer (some ⟨w.heap.size, 0, none⟩)) true ty).run Tryz.prog wr = .ok (.tuple #[.bool false]) wr := fun ty => Lib.run_next_end_at (P := Tryz.prog) wr w.heap.size s pos ty hit.out hp
      by_cases hh : high = 16
      · subst hh
        have hcv := own_string (P := Tryz.prog) Tryz.underlying76 Tryz.underlying5 Tryz.underlying9 (Kd.own_of_R HR.out)
        go_wp2
        go_ret2
        exact ⟨by rw [hS2.out]; rfl, HB.out⟩
      · have hhb : (high == 16) = false := by simpa using hh
        have hhb2 : (high != 16) = true := by simpa using hh
        have HH := Lib.hid hh
        clear hh
        go_wp2
        go_ret2
        exact ⟨by rw [hS2.out]; exact congrArg Ending.returned (if_neg HH.out).symm, HB.out⟩
end Go.Proofs.YtlilkfnfcaepiaaGreatDoor.H
set_option linter.unusedSimpArgs false
set_option linter.unusedVariables false
namespace Go.Proofs.YtlilkfnfcaepiaaGreatDoor.H
open Go.RowKit Go.Proofs.YtlilkfnfcaepiaaGreatDoorW.PrintWords Go.Proofs.YtlilkfnfcaepiaaGreatDoorW.PrintLast Go.Proofs.YtlilkfnfcaepiaaGreatDoorW.PrintMore PB

/-- A new row of bytes with room, of which none is told. -/
theorem make_bytes (w : World) (base : Nat) (c : Nat) (hc : c ≤ 281474976710656) (hb : base ≤ w.heap.size) (ok : Nat → Prop) (hok : ok w.heap.size) :
    ∃ w1 v, (Instr.makeSlice 76 (.int .i64 0) (.int .i64 (c : Int))).run Tryz.prog w = .ok v w1 ∧ Kd.R (Kd.int .u8) 5 w1 base ok v [] ∧ Below w.heap.size w w1 ∧ w1.heap.size = w.heap.size + 1 ∧ v = .slice (some ⟨w.heap.size, 0, none⟩) 0 c := by
  obtain ⟨i, hi, hz0, hz1, hz2⟩ := info_parts PB.info5
  have hr := run_make (P := Tryz.prog) w 76 5 i _ Tryz.underlying76 hi hz0 .i64 .i64 0 c (Int.le_refl _) (by omega) (by rw [hz2]; omega) (by omega)
  simp only [Int.toNat_zero, Int.toNat_natCast] at hr
  refine ⟨_, _, hr, ⟨fun k hk => ?_, [], World.ownsRow_made w _ c hb (by unfold maxLen; omega) (by rw [size_madeCells, hz1]; rfl), Reps.none _ _⟩, (Below.refl _ _).alloc (Nat.le_refl _) _, by simp, rfl⟩
  simp [Value.ownBlock] at hk; subst hk; exact hok

/-- A string as bytes: a block of its own, which holds them. -/
def HasBytes (w : World) (b : Nat) (s : ByteArray) : Prop := ∃ cap m, s.size ≤ cap ∧ w.heap[b]? = some (.cells (bytesRow s cap) 5 m)
theorem HasBytes.cell {w : World} {b : Nat} {s : ByteArray} (h : HasBytes w b s) (k : Nat) (hk : k < s.size) : w.cell? ⟨b, k, none⟩ = some (.int .u8 (s[k].toNat : Int)) := by
  obtain ⟨cap, m, hc, hb⟩ := h
  simp only [World.cell?, hb]
  simp only [Option.isSome_none, Bool.false_eq_true, if_false]
  unfold bytesRow
  rw [Array.getElem?_append_left (by simpa using hk)]
  simp [hk]
  rfl
theorem HasBytes.move {w w1 : World} {b : Nat} {s : ByteArray} (h : HasBytes w b s) (hm : w1.heap[b]? = w.heap[b]?) : HasBytes w1 b s := by
  obtain ⟨cap, m, hc, hb⟩ := h
  exact ⟨cap, m, hc, hm.trans hb⟩
theorem conv_bytes (w : World) (s : ByteArray) : ∃ w1 c, (convert 9 76 (.string s)).run Tryz.prog w = .ok (.slice (some ⟨w.heap.size, 0, none⟩) s.size c) w1 ∧ HasBytes w1 w.heap.size s ∧ Below w.heap.size w w1 ∧ w1.heap.size = w.heap.size + 1 ∧ s.size ≤ c := by
  have h := run_bytes_of_string (P := Tryz.prog) w 9 76 5 s Tryz.underlying9 Tryz.underlying76 Tryz.underlying5
  have hg := grownCap_ge w s.size 0 5
  exact ⟨_, _, h, ⟨_, ((bytesRow s (grownCap w s.size 0 5)).size, (bytesRow s (grownCap w s.size 0 5)).size + 1), hg, by show (w.heap.push _)[w.heap.size]? = _; simp⟩, ((Below.refl _ _).drew).alloc (Nat.le_refl _) _, by simp, hg⟩

/-- The two digits of a byte, as Go reckons them. -/
def hexPair (x : Int) : List Int := [bt (⟨#[48, 49, 50, 51, 52, 53, 54, 55, 56, 57, 97, 98, 99, 100, 101, 102]⟩ : ByteArray) (x / 16), bt (⟨#[48, 49, 50, 51, 52, 53, 54, 55, 56, 57, 97, 98, 99, 100, 101, 102]⟩ : ByteArray) (Go.bits .and .u8 x 15)]
def hexL (l : List UInt8) : List Int := l.flatMap fun b => hexPair (b.toNat : Int)
theorem hexL_length (l : List UInt8) : (hexL l).length = 2 * l.length := by
  unfold hexL; induction l with
  | nil => rfl
  | cons a l ih => simp [hexPair] at ih ⊢; omega
theorem hexL_snoc (s : ByteArray) (k : Nat) (h : k < s.size) : hexL (s.data.toList.take (k + 1)) = hexL (s.data.toList.take k) ++ hexPair (s[k].toNat : Int) := by
  rw [List.take_succ_eq_append_getElem (by simpa using h)]; unfold hexL; rw [List.flatMap_append]; simp; rfl
theorem and15 (x : Nat) (h : x < 256) : Go.bits .and .u8 (x : Int) 15 = ((x % 16 : Nat) : Int) := by
  have : ∀ x : Fin 256, Go.bits .and .u8 ((x : Nat) : Int) 15 = (((x : Nat) % 16 : Nat) : Int) := by decide +kernel
  exact this ⟨x, h⟩
def hexS (s : ByteArray) : ByteArray := strOfNums (hexL s.data.toList)

def hex_T5 : Bool × List (List Nat × List Nat) := (true, [([], []), ([], []), ([1], [1]), ([2], [2]), ([], []), ([4], [4]), ([5], [5]), ([3, 6], [3, 6]), ([0, 7], [0, 7]), ([8, 8, 0, 1, 2, 3, 4, 5, 6, 7, 8], [0, 8])])
def hex_B5 : List Nat := [0, 0, 2, 6, 0, 16, 48, 126, 255, 511]
theorem hex_tab5 : rtab .any (opsOf Tryz.f65 5) = hex_T5 := by kernel_rfl
theorem hex_bits5 : waitsOk hex_T5.2 hex_B5 = true := by kernel_rfl
set_option maxRecDepth 100000 in
set_option maxHeartbeats 4000000 in
theorem bits_Hex (s : ByteArray) (hs : s.size ≤ 35184372088832) (w : World) : Calls Tryz.prog 65 #[.string s] w (fun e w' => e = .returned (.string (hexS s)) ∧ Below w.heap.size w w') := by
  obtain ⟨w1, v1, hmk, hR1, hb1, hz1, hv1⟩ := make_bytes w w.heap.size (2 * s.size) (by omega) (Nat.le_refl _) (fun _ => True) trivial
  obtain ⟨w2, c, hcv, hB2, hb2, hz2, hc2⟩ := conv_bytes w1 s
  rw [hz1] at hcv hB2
  have e2 : ((2 * s.size : Nat) : Int) = 2 * (s.size : Int) := by omega
  rw [e2] at hmk
  clear e2
  have HN := Aside0.mk (show v1.ownBlock ≠ some (w.heap.size + 1) by rw [hv1]; simp [Value.ownBlock])
  have HSZ := Aside0.mk (show w.heap.size + 1 < w2.heap.size by omega)
  have HR := Aside0.mk (Kd.R_below hR1 hb2)
  have HY := Aside0.mk hB2
  have HB := Aside0.mk (below_step hb1 hb2)
  clear hv1 hz1 hz2 hR1 hb1 hb2 hB2
  go_enter Tryz.func65, Tryz.ntmps65
  go_wp2
  go_loopw [3, 13] (fun v3 v13 wr => ∃ k : Nat, k ≤ s.size ∧ v13 = .int .i64 k ∧ Aside0 (Kd.R (Kd.int .u8) 5 wr w.heap.size (fun _ => True) v3 (hexL (s.data.toList.take k))) ∧ Aside0 (HasBytes wr (w.heap.size + 1) s) ∧ Aside0 (v3.ownBlock ≠ some (w.heap.size + 1)) ∧ Aside0 (w.heap.size + 1 < wr.heap.size) ∧ Aside0 (Below w.heap.size w wr)) (fun _ v13 _ => s.size - (intOf v13).toNat)
  case atStart => exact ⟨0, Nat.zero_le _, rfl, HR, HY, HN, HSZ, HB⟩
  case round =>
    clear HR HY HN HSZ HB hmk hcv
    obtain ⟨k, hk, rfl, HO_3, HY, HN, HSZ, HB⟩ := hrel
    by_cases hlt : k < s.size
    · have hx := HY.out.cell k hlt
      obtain ⟨x, hxe⟩ : ∃ x : Int, x = (s[k].toNat : Int) := ⟨_, rfl⟩
      have hx256 : s[k].toNat < 256 := s[k].toNat_lt
      have hsn := Lib.hid (hexL_snoc s k hlt)
      have ha := and15 s[k].toNat hx256
      rw [← hxe] at hx ha hsn
      have hx0 : 0 ≤ x := by omega
      have hx1 : x ≤ 255 := by omega
      have HXE := Lib.hid hxe
      obtain ⟨ji5, hji5⟩ : ∃ j_ : Int, (x / 16) = j_ := ⟨_, rfl⟩
      have b0 : decide (0 ≤ ji5) = true := decide_eq_true (by omega)
      have b1 : decide (ji5 < 16) = true := decide_eq_true (by omega)
      have b2 : decide (0 ≤ Go.bits .and .u8 x 15) = true := by rw [ha]; exact decide_eq_true (by omega)
      have b3 : decide (Go.bits .and .u8 x 15 < 16) = true := by rw [ha]; exact decide_eq_true (by omega)
      clear hxe ha hx256
      obtain ⟨x3_1, hx3⟩ : ∃ l, l = hexL (s.data.toList.take k) := ⟨_, rfl⟩
      rw [← hx3] at HO_3
      have HX3 := Lib.hid hx3
      have hxl : x3_1.length = 2 * k := by rw [hx3, hexL_length]; simp; omega
      have LMc12 := Aside0.mk (show x3_1.length + 2 < 140737488355328 by omega)
      clear hx3 hxl
      go_wp2
      have n0_ := Aside0.mk (Kd.R_drew HO_3.out)
      have n1_ := Aside0.mk (below_drew1 HB.out)
      have n2_ := Aside0.mk (show HasBytes wr.drew (w.heap.size + 1) s from HY.out.move rfl)
      have n3_ := Aside0.mk (show w.heap.size + 1 < wr.drew.heap.size from HSZ.out)
      clear HO_3 HB HY HSZ
      have HO_3 := n0_
      have HB := n1_
      have HY := n2_
      have HSZ := n3_
      clear n0_ n1_ n2_ n3_
      obtain ⟨y102, hy102⟩ : ∃ y_ : List Int, y_ = (([bt (⟨#[48, 49, 50, 51, 52, 53, 54, 55, 56, 57, 97, 98, 99, 100, 101, 102]⟩ : ByteArray) (ji5), bt (⟨#[48, 49, 50, 51, 52, 53, 54, 55, 56, 57, 97, 98, 99, 100, 101, 102]⟩ : ByteArray) (Go.bits .and .u8 x 15)] : List Int)) := ⟨_, rfl⟩
      have LMc13 := Aside0.mk (show x3_1.length + y102.length < 140737488355328 by rw [hy102]; exact LMc12.out)
      have Ny102 := Aside0.mk hy102
      clear hy102
      obtain ⟨y105, hy105⟩ : ∃ y_ : List Int, y_ = (x3_1 ++ y102) := ⟨_, rfl⟩
      have Ny105 := Aside0.mk hy105
      clear hy105
      have JI := Aside0.mk hji5
      have p8 : 0 ≤ ((ji5) : Int) := of_decide_eq_true (by first | (with_reducible assumption) | assumption)
      have q8 : (ji5) < (16 : Int) := of_decide_eq_true (by first | (with_reducible assumption) | assumption)
      have hx8 := bt_at (⟨#[48, 49, 50, 51, 52, 53, 54, 55, 56, 57, 97, 98, 99, 100, 101, 102]⟩ : ByteArray) (ji5)
      replace p8 := eq_true p8
      replace q8 := eq_true q8
      have p11 : 0 ≤ ((Go.bits .and .u8 x 15) : Int) := of_decide_eq_true (by first | (with_reducible assumption) | assumption)
      have q11 : (Go.bits .and .u8 x 15) < (16 : Int) := of_decide_eq_true (by first | (with_reducible assumption) | assumption)
      have hx11 := bt_at (⟨#[48, 49, 50, 51, 52, 53, 54, 55, 56, 57, 97, 98, 99, 100, 101, 102]⟩ : ByteArray) (Go.bits .and .u8 x 15)
      replace p11 := eq_true p11
      replace q11 := eq_true q11
      refine start_ (n := 10) (S := fun w' => True) (ds := []) #[false, false, false, false, false, false, false, false, false, false] (by kernel_rfl) rfl rfl trivial (fun hHeld => ?_); refine with_tabW hex_tab5 hex_bits5 (fun HT_ HW_ => ?_)
      generalize wr.drew = w13 at HO_3 HB HY HSZ hHeld ⊢
      refine pure_ (i := 0) (N := some 17) (v := ?_) (a' := ?_) #[true, false, false, false, false, false, false, false, false, false] rfl rfl (any_of HT_.out (by kernel_rfl)) (fun _ _ _ h => h) (Or.inl ⟨by rfl, ?_⟩) ?_ ?_
      rotate_left
      · intro w'
        go_simp
        with_reducible rfl
      rotate_left
      · simp only [Act.put, List.setIfInBounds_toArray, List.set_cons_zero, List.set_cons_succ, i64_w, i32_w]
        rfl
      refine pure_ (i := 1) (N := some 18) (v := ?_) (a' := ?_) #[true, true, false, false, false, false, false, false, false, false] rfl rfl (any_of HT_.out (by kernel_rfl)) (fun _ _ _ h => h) (Or.inl ⟨by rfl, ?_⟩) ?_ ?_
      rotate_left
      · intro w'
        go_simp
        with_reducible rfl
      rotate_left
      · simp only [Act.put, List.setIfInBounds_toArray, List.set_cons_zero, List.set_cons_succ, i64_w, i32_w]
        rfl
      refine pure_ (i := 2) (N := some 19) (v := ?_) (a' := ?_) #[true, true, true, false, false, false, false, false, false, false] rfl rfl (any_of HT_.out (by kernel_rfl)) (fun _ _ _ h => h) (Or.inl ⟨by rfl, ?_⟩) ?_ ?_
      rotate_left
      · intro w'
        go_simp
        with_reducible rfl
      rotate_left
      · simp only [Act.put, List.setIfInBounds_toArray, List.set_cons_zero, List.set_cons_succ, i64_w, i32_w]
        rfl
      refine pure_ (i := 4) (N := some 21) (v := ?_) (a' := ?_) #[true, true, true, false, true, false, false, false, false, false] rfl rfl (any_of HT_.out (by kernel_rfl)) (fun _ _ _ h => h) (Or.inl ⟨by rfl, ?_⟩) ?_ ?_
      rotate_left
      · intro w'
        go_simp
        with_reducible rfl
      rotate_left
      · simp only [Act.put, List.setIfInBounds_toArray, List.set_cons_zero, List.set_cons_succ, i64_w, i32_w]
        rfl
      refine pure_ (i := 5) (N := some 22) (v := ?_) (a' := ?_) #[true, true, true, false, true, true, false, false, false, false] rfl rfl (any_of HT_.out (by kernel_rfl)) (fun _ _ _ h => h) (Or.inl ⟨by rfl, ?_⟩) ?_ ?_
      rotate_left
      · intro w'
        go_simp
        with_reducible rfl
      rotate_left
      · simp only [Act.put, List.setIfInBounds_toArray, List.set_cons_zero, List.set_cons_succ, i64_w, i32_w]
        rfl
      refine take_ (i := 3) (N := some 20) (v := ?_) (a' := ?_) #[true, true, true, true, true, true, false, false, false, false] rfl rfl (take_ofW HT_.out HW_.out (by kernel_rfl)) (fun _ _ _ h => h) (Or.inl ⟨by rfl, ?_⟩) hHeld ?_ ?_
      rotate_left
      · intro w' _
        go_simp
        with_reducible rfl
      rotate_left
      · simp only [Act.put, List.setIfInBounds_toArray, List.set_cons_zero, List.set_cons_succ, i64_w, i32_w]
        rfl
      refine take_ (i := 6) (N := some 23) (v := ?_) (a' := ?_) #[true, true, true, true, true, true, true, false, false, false] rfl rfl (take_ofW HT_.out HW_.out (by kernel_rfl)) (fun _ _ _ h => h) (Or.inl ⟨by rfl, ?_⟩) hHeld ?_ ?_
      rotate_left
      · intro w' _
        go_simp
        with_reducible rfl
      rotate_left
      · simp only [Act.put, List.setIfInBounds_toArray, List.set_cons_zero, List.set_cons_succ, i64_w, i32_w]
        rfl
      refine one_ (i := 7) (N := some 24) #[true, true, true, true, true, true, true, true, false, false] rfl rfl (one_of HT_.out (by kernel_rfl)) (by decide) (fun K hK => ?_)
      refine Kd.R_lit_step (Kd.int .u8) _ 5 ?hg (N := 24) ?hd (xs := ([bt (⟨#[48, 49, 50, 51, 52, 53, 54, 55, 56, 57, 97, 98, 99, 100, 101, 102]⟩ : ByteArray) (ji5), bt (⟨#[48, 49, 50, 51, 52, 53, 54, 55, 56, 57, 97, 98, 99, 100, 101, 102]⟩ : ByteArray) (Go.bits .and .u8 x 15)] : List Int)) (inner := [.int .u8 (bt (⟨#[48, 49, 50, 51, 52, 53, 54, 55, 56, 57, 97, 98, 99, 100, 101, 102]⟩ : ByteArray) (ji5)), .int .u8 (bt (⟨#[48, 49, 50, 51, 52, 53, 54, 55, 56, 57, 97, 98, 99, 100, 101, 102]⟩ : ByteArray) (Go.bits .and .u8 x 15))]) (ok := fun _ => True) (okp := fun _ => True) ?hr ?hp (fun _ hk => hk) trivial (Below.refl _ _) (Nat.le_refl _) (by simp) ?_; (case hd => rfl); (case hg => rfl); (case hr => first | (go_simp; done) | (go_simp; rfl)); (case hp => exact (Reps.one (show Kd.M (Kd.int .u8) _ _ _ (bt (⟨#[48, 49, 50, 51, 52, 53, 54, 55, 56, 57, 97, 98, 99, 100, 101, 102]⟩ : ByteArray) (ji5)) [.int .u8 (bt (⟨#[48, 49, 50, 51, 52, 53, 54, 55, 56, 57, 97, 98, 99, 100, 101, 102]⟩ : ByteArray) (ji5))] from rfl) (Reps.one (show Kd.M (Kd.int .u8) _ _ _ (bt (⟨#[48, 49, 50, 51, 52, 53, 54, 55, 56, 57, 97, 98, 99, 100, 101, 102]⟩ : ByteArray) (Go.bits .and .u8 x 15)) [.int .u8 (bt (⟨#[48, 49, 50, 51, 52, 53, 54, 55, 56, 57, 97, 98, 99, 100, 101, 102]⟩ : ByteArray) (Go.bits .and .u8 x 15))] from rfl) (Reps.none _ _))))
      intro v103 w14 ho15 hb hg_ hnew_
      have HY1 := Aside0.mk (HY.out.move (hb.block _ HSZ.out)); have HSZ1 := Aside0.mk (Nat.lt_of_lt_of_le HSZ.out hb.size); clear HY HSZ; have HY := HY1; have HSZ := HSZ1; clear HY1 HSZ1
      clear hg_ hnew_
      (first | rw [← Ny102.out] at ho15 | (simp only [Int.reduceToNat] at ho15; rw [← Ny102.out] at ho15))
      have n0_ := Aside0.mk (Kd.R_elder' (by (with_reducible repeat (first | apply Kd.R_alloc | apply Kd.R_drewN | apply Kd.R_drew)); exact HO_3.out) (Kd.R_base ho15) hb)
      have n1_ := Aside0.mk (Kd.R_lower (Kd.R_new' ho15 (Kd.R_lt (by (with_reducible repeat (first | apply Kd.R_alloc | apply Kd.R_drewN | apply Kd.R_drew)); exact HO_3.out))) (below_size (by repeat (first | (with_reducible first | exact HB.out | apply below_alloc | apply pw_below_drewN | apply below_drew1) | exact HB.out))))
      have n2_ := Aside0.mk (below_step (by repeat (first | (with_reducible first | exact HB.out | apply below_alloc | apply pw_below_drewN | apply below_drew1) | exact HB.out)) hb)
      clear HO_3
      clear HB
      have HO_3 := n0_
      have HO104 := n1_
      have HB := n2_
      clear n0_ n1_ n2_
      clear hb ho15
      obtain ⟨Ao17, co17, eo17⟩ := Kd.R_slice HO104.out
      (first | subst eo17 | (injection eo17 with f1_ f2_ f3_; have f4_ := f1_.symm; have f5_ := f3_.symm; clear f1_ f2_ f3_; subst f4_; subst f5_))
      refine hK.out _ _ trivial (fun hHeld => ?_)
      clear hK K
      refine norm_ (a' := ?_) ?_ ?_
      rotate_left
      · show Act.put _ (some 24) _ = _
        simp only [Act.put, List.setIfInBounds_toArray, List.set_cons_zero, List.set_cons_succ, i64_w, i32_w]
        rfl
      refine one_ (i := 8) (N := some 25) #[true, true, true, true, true, true, true, true, true, false] rfl rfl (one_of HT_.out (by kernel_rfl)) (by decide) (fun K hK => ?_)
      refine Kd.R_append_rows_step (Kd.int .u8) (w0 := w) w.heap.size (by rfl) (.tmp 17) (.tmp 24) 76 5 (.int .u8 0) 1 rfl Tryz.underlying76 PB.info5 rfl (by decide) (by omega) u3 x3_1 y102 _ _ _ (fun k_ => some k_ ≠ (.slice Ao17 y102.length co17 : Value).ownBlock) (fun _ => False) rfl rfl ?aO ?aR (fun _ _ h => h) (fun _ h => h.elim) ?aF ?aB ?aS ?aL ?_
      (case aR => repeat (first | exact (Kd.R_reads' HO104.out).2.2 | (with_reducible refine Kd.C_alloc ?_ _) | (with_reducible refine Kd.C_drewN ?_ _) | (with_reducible refine Kd.C_drew ?_)))
      (case aB => exact (by repeat (first | (with_reducible first | exact HB.out | apply below_alloc | apply pw_below_drewN | apply below_drew1) | exact HB.out)))
      (case aF => exact (fun k_ hk => Kd.fresh' (Kd.R_lt (by (with_reducible repeat (first | apply Kd.R_alloc | apply Kd.R_drewN | apply Kd.R_drew)); exact HO104.out)) k_ hk))
      (case aO => exact (by (with_reducible repeat (first | apply Kd.R_alloc | apply Kd.R_drewN | apply Kd.R_drew)); exact Kd.R_mono HO_3.out (fun _ hk => hk.2)))
      (case aS => exact (below_size (by repeat (first | (with_reducible first | exact HB.out | apply below_alloc | apply pw_below_drewN | apply below_drew1) | exact HB.out))))
      (case aL => have := LMc13.out; omega)
      intro v106 w16 ho hb hg hat
      have HY1 := Aside0.mk (HY.out.move (hg.block _ HSZ.out (fun e => HN.out e.symm))); have HN1 := Aside0.mk (show v106.ownBlock ≠ some (w.heap.size + 1) from hat.elim (fun h => by rw [h]; exact HN.out) (fun ⟨b, h, h2⟩ => by rw [h]; intro e; injection e with e; have := HSZ.out; omega)); have HSZ1 := Aside0.mk (Nat.lt_of_lt_of_le HSZ.out hg.size); clear HY HSZ HN; have HY := HY1; have HSZ := HSZ1; have HN := HN1; clear HY1 HSZ1 HN1
      rw [← Ny105.out] at ho
      have n0_ := Aside0.mk (Kd.R_after (ok := (fun _ => True)) (by (with_reducible repeat (first | apply Kd.R_alloc | apply Kd.R_drewN | apply Kd.R_drew)); exact HO104.out) hg hat)
      have n1_ := Aside0.mk (hb)
      have n2_ := Aside0.mk (ho)
      clear HO104
      clear HB
      clear HO_3
      have HO104 := n0_
      have HB := n1_
      have HO107 := n2_
      clear n0_ n1_ n2_
      clear ho hb hg hat
      refine hK.out _ _ trivial (fun hHeld => ?_)
      clear hK K
      refine norm_ (a' := ?_) ?_ ?_
      rotate_left
      · show Act.put _ (some 25) _ = _
        simp only [Act.put, List.setIfInBounds_toArray, List.set_cons_zero, List.set_cons_succ, i64_w, i32_w]
        rfl
      refine pure_ (i := 9) (N := some 3) (v := ?_) (a' := ?_) #[true, true, true, true, true, true, true, true, true, true] rfl rfl (any_of HT_.out (by kernel_rfl)) (fun _ _ _ h => h) (Or.inl ⟨by rfl, ?_⟩) ?_ ?_
      rotate_left
      · intro w'
        go_simp
        with_reducible rfl
      rotate_left
      · simp only [Act.put, List.setIfInBounds_toArray, List.set_cons_zero, List.set_cons_succ, i64_w, i32_w]
        rfl
      refine done_ (done_of HT_.out (by kernel_rfl)) ?_
      try go_wp2
      go_roundw
      case rel =>
        refine ⟨k + 1, by omega, by go_num, ⟨?_⟩, HY, HN, HSZ, HB⟩
        rw [hsn.out, ← HX3.out]
        have e : y105 = x3_1 ++ hexPair x := by rw [Ny105.out, Ny102.out, hexPair, JI.out]
        rw [← e]
        exact Kd.R_mono HO107.out (fun _ _ => trivial)
      case measure => simp [intOf]; omega
    · have hcvs := own_string (P := Tryz.prog) Tryz.underlying76 Tryz.underlying5 Tryz.underlying9 (Kd.own_of_R HO_3.out)
      have HE := Lib.hid (show hexS s = strOfNums (hexL (s.data.toList.take k)) by unfold hexS; rw [List.take_of_length_le (by simp; omega)])
      go_wp2
      go_ret
      exact ⟨congrArg (fun z => Ending.returned (Value.string z)) HE.out.symm, HB.out⟩
end Go.Proofs.YtlilkfnfcaepiaaGreatDoor.H
