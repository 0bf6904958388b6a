/- manifest.Load answers what its Lean function does. -/
import Derived.Test.YtlilkfnfcaepiaaGreatDoorXo
import Derived.Test.YtlilkfnfcaepiaaGreatDoorXn
set_option linter.unusedSimpArgs false
set_option linter.unusedVariables false
namespace Go.Proofs.YtlilkfnfcaepiaaGreatDoor.M
open Go.RowKit Go.Proofs.YtlilkfnfcaepiaaGreatDoorW.PrintWords Go.Proofs.YtlilkfnfcaepiaaGreatDoorW.PrintLast Go.Proofs.YtlilkfnfcaepiaaGreatDoorW.PrintMore PB H D G

def sN : ByteArray := ⟨#[115]⟩
def loadM (a : AD) (id : ByteArray) : MF × Int :=
  if (AD.load a sN (fileN id)).2 = 0 then (if (decF (AD.load a sN (fileN id)).1).2 = 0 then ((decF (AD.load a sN (fileN id)).1).1, 0) else (zeroM, 13)) else (zeroM, (AD.load a sN (fileN id)).2)
theorem load_size {w : World} {F : Nat → Prop} {base d n : Nat} {a : AD} (h : DiskAt w F base d n a) (front name : ByteArray) : (AD.load a front name).1.size ≤ 1073741824 := by
  have := read_size h name
  unfold AD.load
  repeat' split
  all_goals first | exact this | exact Nat.zero_le _
theorem disk_below {w w1 : World} {F : Nat → Prop} {base d n : Nat} {a : AD} (h : DiskAt w F base d n a) (hb : Below w.heap.size w w1) : DiskAt w1 F base d n a :=
  h.move (fun k hk => hb.block k (by obtain ⟨mf, ms, sv, p⟩ := h; exact p.high k hk))

set_option maxRecDepth 100000 in
set_option maxHeartbeats 4000000 in
theorem Load_any {w : World} {F : Nat → Prop} {base d n : Nat} {a : AD} (h : DiskAt w F base d n a) (id : ByteArray) (hs : id.size ≤ 900000) (hT : Lib.Utf8Tabs 1 2 w) :
    Calls Tryz.prog 12 #[.pointer (some ⟨d, 0, none⟩), .string id] w fun e w' => ∃ v, e = .returned (.tuple #[.agg #[.int .i64 (loadM a id).1.time, .string (loadM a id).1.tag, .string (loadM a id).1.parent, .int .i64 (loadM a id).1.size, v], .int .i64 (loadM a id).2]) ∧ Kd.R Kd.string 9 w' w.heap.size (fun _ => True) v (loadM a id).1.chunks ∧ Below w.heap.size w w' := by
  have hfs : (fileN id).size ≤ 1000000 := by unfold fileN; simp only [ByteArray.size_append]; have : (⟨#[115]⟩ : ByteArray).size = 1 := rfl; omega
  have HLD := Lib.hid (fun (w1 : World) (h1 : DiskAt w1 F base d n a) => packs_Load h1 sN (fileN id) (by decide) hfs)
  have HFN := Lib.hid (show fileN id = ⟨#[115]⟩ ++ id from rfl)
  have HSZ := Lib.hid (load_size h sN (fileN id))
  have HT := Aside0.mk hT
  have H0 := Aside0.mk h
  clear h hT hfs
  go_enter Tryz.func12, Tryz.ntmps12
  go_wp2_with fail
  rw [← HFN.out]
  have HZ0 := Aside0.mk (show Row (w.alloc (Obj.cells #[.int .i64 0, .string ⟨#[]⟩, .string ⟨#[]⟩, .int .i64 0, .slice none 0 0] 32)) w.heap.size #[.int .i64 0, .string ⟨#[]⟩, .string ⟨#[]⟩, .int .i64 0, .slice none 0 0] 32 from Row.alloc _ _)
  have hb0 : Below w.heap.size w (w.alloc (Obj.cells #[.int .i64 0, .string ⟨#[]⟩, .string ⟨#[]⟩, .int .i64 0, .slice none 0 0] 32)) := Below.alloc' (Nat.le_refl _) _
  have HB0 := Aside0.mk hb0
  have H1 := Aside0.mk (disk_below H0.out hb0)
  clear hb0 H0
  generalize w.alloc (Obj.cells #[.int .i64 0, .string ⟨#[]⟩, .string ⟨#[]⟩, .int .i64 0, .slice none 0 0] 32) = w0 at HZ0 HB0 H1 ⊢
  refine (HLD.out _ H1.out).mono ?_
  rintro e w1 ⟨rfl, hb⟩
  have HZ1 := Aside0.mk (HZ0.out.move (hb.block _ (Row.lt HZ0.out)))
  have HB1 := Aside0.mk (below_step HB0.out hb)
  clear hb HZ0 HB0 H1 HLD
  have HF := Lib.hid (show loadM a id = if (AD.load a sN (fileN id)).2 = 0 then (if (decF (AD.load a sN (fileN id)).1).2 = 0 then ((decF (AD.load a sN (fileN id)).1).1, 0) else (zeroM, 13)) else (zeroM, (AD.load a sN (fileN id)).2) from rfl)
  generalize AD.load a sN (fileN id) = q at HF HSZ ⊢
  obtain ⟨s, e1⟩ := q
  simp only at HF HSZ ⊢
  obtain ⟨hz0, hz1, hz2, hz3, hz4⟩ := row5 HZ1.out
  have hzf := fun k => HZ1.out.free k
  by_cases he : e1 = 0
  · subst he
    have HF2 := Lib.hid (show loadM a id = if (decF s).2 = 0 then ((decF s).1, 0) else (zeroM, 13) by rw [HF.out]; exact if_pos rfl)
    have HD := Lib.hid (Decode_any s (by have := HSZ.out; omega) w1 (utf8_below HT.out HB1.out))
    clear HF
    go_wp2_with fail
    refine HD.out.mono ?_
    rintro e w2 ⟨v, rfl, hR, hb⟩
    have HZ2 := Aside0.mk (HZ1.out.move (hb.block _ (Row.lt HZ1.out)))
    have HB2 := Aside0.mk (below_step HB1.out hb)
    have HL2 := Aside0.mk (Kd.R_bound hR)
    have HB1S := Lib.hid (Row.lt HZ1.out)
    clear hb hR HD hz0 hz1 hz2 hz3 hz4 hzf HZ1 HB1
    generalize decF s = q at HF2 HL2 ⊢
    obtain ⟨⟨t, g, p, z, l⟩, de⟩ := q
    simp only at HF2 HL2 ⊢
    obtain ⟨A, c, rfl⟩ := Kd.R_slice HL2.out
    obtain ⟨hz0, hz1, hz2, hz3, hz4⟩ := row5 HZ2.out
    have hzf := fun k => HZ2.out.free k
    have hlt2 := Row.lt HZ2.out
    have hza : ∀ (X : Obj) (k : Nat), (w2.alloc X).frozen? ⟨w.heap.size, k, none⟩ = false := fun X k => ((Below.alloc' (Nat.le_refl w2.heap.size) (w := w2) X).frozen (p := ⟨w.heap.size, k, none⟩) hlt2).trans (HZ2.out.free k)
    have hzb : ∀ (X : Obj) (k : Nat), (w2.alloc X).cell? ⟨w.heap.size, k, none⟩ = w2.cell? ⟨w.heap.size, k, none⟩ := fun X k => (Below.alloc' (Nat.le_refl w2.heap.size) (w := w2) X).cell (p := ⟨w.heap.size, k, none⟩) hlt2
    by_cases hde : de = 0
    · subst hde
      have HF3 := Lib.hid (show loadM a id = (⟨t, g, p, z, l⟩, 0) by rw [HF2.out]; exact if_pos rfl)
      clear HF2
      go_wp2
      exact bodyPost_ret (results_cell_tmp rfl _ _ w.heap.size 32 #[.int .i64 t, .string g, .string p, .int .i64 z, .slice A l.length c] (0, 0) _ (.int .i64 0) rfl rfl ((five_set HZ2.out _ _ _ _ _).move ((Below.alloc' (Nat.le_refl _) _).block _ (Row.lt (five_set HZ2.out _ _ _ _ _)))) Tryz.underlying32 rfl (by kernel_rfl)) rfl ⟨_, ret_m (p := (⟨t, g, p, z, l⟩, 0)) HF3.out, by rw [HF3.out]; exact Kd.R_alloc (five_R (Kd.R_lower HL2.out (by have := HB1S.out; omega)) w.heap.size (fun k hk => by have := HB1S.out; have := hk.2.1; omega) _ _ _ _ _) _, (five_below HB2.out _ (Nat.le_refl _) _ _ _ _ _).alloc (Nat.le_of_lt (Row.lt (five_set HZ2.out _ _ _ _ _))) _⟩
    · have hdb : (de != 0) = true := by simp [hde]
      have HF3 := Lib.hid (show loadM a id = (zeroM, 13) by rw [HF2.out]; exact if_neg hde)
      clear HF2 hde
      go_wp2
      exact bodyPost_ret (results_cell_tmp rfl _ _ w.heap.size 32 #[.int .i64 0, .string ⟨#[]⟩, .string ⟨#[]⟩, .int .i64 0, .slice none 0 0] (0, 0) _ (.int .i64 13) rfl rfl ((five_set HZ2.out _ _ _ _ _).move ((Below.alloc' (Nat.le_refl _) _).block _ (Row.lt (five_set HZ2.out _ _ _ _ _)))) Tryz.underlying32 rfl (by kernel_rfl)) rfl ⟨_, ret_m (p := (zeroM, 13)) HF3.out, by rw [HF3.out]; exact Kd.R_nil _ _ _ _ _, (five_below HB2.out _ (Nat.le_refl _) _ _ _ _ _).alloc (Nat.le_of_lt (Row.lt (five_set HZ2.out _ _ _ _ _))) _⟩
  · have heb : (e1 != 0) = true := by simp [he]
    have HF2 := Lib.hid (show loadM a id = (zeroM, e1) by rw [HF.out]; exact if_neg he)
    clear HF he
    go_wp2
    exact bodyPost_ret (results_cell_tmp rfl _ _ w.heap.size 32 #[.int .i64 0, .string ⟨#[]⟩, .string ⟨#[]⟩, .int .i64 0, .slice none 0 0] (0, 0) _ (.int .i64 e1) rfl rfl (five_set HZ1.out _ _ _ _ _) Tryz.underlying32 rfl (by kernel_rfl)) rfl ⟨_, ret_m (p := (zeroM, e1)) HF2.out, by rw [HF2.out]; exact Kd.R_nil _ _ _ _ _, five_below HB1.out _ (Nat.le_refl _) _ _ _ _ _⟩
end Go.Proofs.YtlilkfnfcaepiaaGreatDoor.M
