/- A disk of manifests in plain words. -/
import Derived.Test.YtlilkfnfcaepiaaGreatDoorXv
set_option linter.unusedSimpArgs false
set_option linter.unusedVariables false
namespace Go.Proofs.YtlilkfnfcaepiaaGreatDoor.M
open Go.RowKit Go.Proofs.YtlilkfnfcaepiaaGreatDoorW.PrintWords Go.Proofs.YtlilkfnfcaepiaaGreatDoorW.PrintLast Go.Proofs.YtlilkfnfcaepiaaGreatDoorW.PrintMore PB H D G

theorem strOf_name (s : ByteArray) : strOf (nameKey s) = s.data.toList := rfl
theorem listOf_mem {w : World} {m n : Nat} {D : DataW Unit} (h : FMap w m n D) (s : ByteArray) : s ∈ listOf D ↔ ∃ b, fid D s = some b := by
  obtain ⟨es, rfl, hpw, hkl, hn, hen⟩ := h.ents
  unfold listOf
  rw [List.mem_map]
  constructor
  · rintro ⟨l, hl, rfl⟩
    have h2 : l ∈ strKeys (.map es) := (List.mergeSort_perm _ _).mem_iff.1 hl
    obtain ⟨p, hp, rfl⟩ := List.mem_map.1 h2
    obtain ⟨t, b, rfl, hf, _⟩ := hen p hp
    exact ⟨b, hf⟩
  · rintro ⟨b, hb⟩
    refine ⟨s.data.toList, (List.mergeSort_perm _ _).mem_iff.2 ?_, rfl⟩
    unfold fid at hb
    simp only [DataW.atKey] at hb
    split at hb
    · rename_i k b' heq
      split at heq
      · rename_i p hp
        have h1 := List.mem_of_find?_eq_some hp
        have h2 := List.find?_some hp
        obtain ⟨t, b2, rfl, _, _⟩ := hen p h1
        have e1 := nameKey_inj (WideAt.sameKey_eq h2)
        subst e1
        exact List.mem_map.2 ⟨_, h1, rfl⟩
      · cases heq
    · cases hb
theorem listOf_nodup {w : World} {m n : Nat} {D : DataW Unit} (h : FMap w m n D) : (listOf D).Nodup := by
  obtain ⟨es, rfl, hpw, hkl, hn, hen⟩ := h.ents
  unfold listOf
  have h1 : (strKeys (.map es)).Nodup := by
    show (es.map fun p => strOf p.1).Nodup
    rw [List.Nodup, List.pairwise_map]
    refine hpw.imp_of_mem (fun {p q} hp hq hne he => hne ?_)
    obtain ⟨t, b, rfl, _, _⟩ := hen p hp
    obtain ⟨t2, b2, rfl, _, _⟩ := hen q hq
    simp only [strOf_name] at he
    show nameKey t = nameKey t2
    unfold nameKey; rw [he]
  have h2 : ((strKeys (.map es)).mergeSort (fun x y => decide (x ≤ y))).Nodup := ((List.mergeSort_perm _ _).nodup_iff).2 h1
  rw [List.Nodup, List.pairwise_map]
  refine h2.imp (fun {a b} hne he => hne ?_)
  injection he with he
  simpa using he
theorem listOf_len {w : World} {m n : Nat} {D : DataW Unit} (h : FMap w m n D) : (listOf D).length ≤ n := by
  obtain ⟨es, rfl, hpw, hkl, hn, hen⟩ := h.ents
  unfold listOf
  rw [List.length_map, List.length_mergeSort]
  show (es.map fun p => strOf p.1).length ≤ n
  rw [List.length_map]; exact hn

/-- A disk at rest: it lives, isn't armed, all is safe. -/
structure Calm (a : AD) : Prop where
  live : a.dead = false
  arm : a.arm = -1
  room : a.room = 1048576
  isMap : Maps.IsMap a.fm
  inj : ∀ s t i, fid a.fm s = some i → fid a.fm t = some i → s = t
  safe : ∀ s i, fid a.fm s = some i → (a.ob i).2 = (a.ob i).1.size
  sm : a.sm = a.fm
  st : a.st = []
def look (a : AD) (s : ByteArray) : Option ByteArray := (fid a.fm s).map (fun i => (a.ob i).1)
theorem calm_alive {a : AD} (h : a.arm = -1) : a.alive = a := by
  obtain ⟨room, fm, sm, st, arm, dead, ob, held⟩ := a
  simp only at h
  subst h
  rfl
theorem empty_app (d : ByteArray) : (⟨#[]⟩ : ByteArray) ++ d = d := by
  apply ByteArray.ext
  rw [ByteArray.data_append]
  simp
theorem look_none {a : AD} {s : ByteArray} (h : look a s = none) : fid a.fm s = none := by
  unfold look at h
  cases hf : fid a.fm s with
  | none => rfl
  | some i => rw [hf] at h; cases h
/-- The disk behind a publication. -/
def pubNew (a : AD) (name data : ByteArray) (id : Nat) : AD :=
  { a with fm := ((a.fm.put (nameKey tmpN) (.lit (.int .i64 id))).del (nameKey tmpN)).put (nameKey name) (.lit (.int .i64 id)), sm := ((a.fm.put (nameKey tmpN) (.lit (.int .i64 id))).del (nameKey tmpN)).put (nameKey name) (.lit (.int .i64 id)), st := [],
           ob := fun i => if i = id then (data, data.size) else a.ob i }
theorem publish_new {a : AD} (h : Calm a) (name data : ByteArray) (id : Nat) (hn : nameOk name = true) (hnt : name ≠ tmpN) (htmp : look a tmpN = none) (hu : (usedOf a.fm a.ob : Int) + data.size ≤ 1048576) (hd : look a name ≠ some data) :
    AD.publish a name data id = (0, pubNew a name data id) := by
  have hft := look_none htmp
  have hdead : ¬ (a.dead = true) := by rw [h.live]; exact Bool.false_ne_true
  have hA := calm_alive h.arm
  have e1 : a.remove tmpN = (7, a) := by unfold AD.remove AD.removeB; rw [hA, if_neg hdead, hft]
  have e2 : a.append tmpN data id = (0, { a with fm := a.fm.put (nameKey tmpN) (.lit (.int .i64 id)), st := a.st ++ [⟨1, tmpN, tmpN, id⟩], ob := fun i => if i = id then (⟨#[]⟩ ++ data, 0) else a.ob i }) := by
    unfold AD.append AD.appendB
    rw [hA, if_neg hdead, if_pos (by decide +kernel), if_neg (by unfold AD.used; rw [h.room]; omega), hft]
  obtain ⟨a1, ha1⟩ : ∃ a1 : AD, { a with fm := a.fm.put (nameKey tmpN) (.lit (.int .i64 id)), st := a.st ++ [⟨1, tmpN, tmpN, id⟩], ob := fun i => if i = id then (⟨#[]⟩ ++ data, 0) else a.ob i } = a1 := ⟨_, rfl⟩
  rw [ha1] at e2
  have f1 : fid a1.fm tmpN = some id := by rw [← ha1]; exact fid_put_same _ h.isMap _ _
  have d1 : ¬ (a1.dead = true) := by rw [← ha1]; exact hdead
  have A1 : a1.alive = a1 := calm_alive (by rw [← ha1]; exact h.arm)
  have e3 : a1.sync tmpN = (0, a1.setOb id ((a1.ob id).1, (a1.ob id).1.size)) := by
    unfold AD.sync AD.syncB
    rw [A1, if_neg d1, f1]
  obtain ⟨a2, ha2⟩ : ∃ a2 : AD, a1.setOb id ((a1.ob id).1, (a1.ob id).1.size) = a2 := ⟨_, rfl⟩
  rw [ha2] at e3
  have f2 : fid a2.fm tmpN = some id := by rw [← ha2]; exact f1
  have d2 : ¬ (a2.dead = true) := by rw [← ha2]; exact d1
  have A2 : a2.alive = a2 := calm_alive (by rw [← ha2, ← ha1]; exact h.arm)
  have e4 : a2.rename tmpN name = (0, { a2 with fm := (a2.fm.del (nameKey tmpN)).put (nameKey name) (.lit (.int .i64 id)), st := a2.st ++ [⟨2, tmpN, name, id⟩] }) := by
    unfold AD.rename AD.renameB
    rw [A2, if_neg d2, f2]
    simp only
    rw [if_pos hn]
  obtain ⟨a3, ha3⟩ : ∃ a3 : AD, { a2 with fm := (a2.fm.del (nameKey tmpN)).put (nameKey name) (.lit (.int .i64 id)), st := a2.st ++ [⟨2, tmpN, name, id⟩] } = a3 := ⟨_, rfl⟩
  rw [ha3] at e4
  have d3 : ¬ (a3.dead = true) := by rw [← ha3]; exact d2
  have A3 : a3.alive = a3 := calm_alive (by rw [← ha3, ← ha2, ← ha1]; exact h.arm)
  have e5 : a3.settle = (0, { a3 with sm := a3.fm, st := [] }) := by
    unfold AD.settle AD.settleB
    rw [A3, if_neg d3]
  have e6 : ({ a3 with sm := a3.fm, st := [] } : AD) = pubNew a name data id := by
    rw [← ha3, ← ha2, ← ha1]
    unfold pubNew AD.setOb
    simp only [if_true, empty_app]
    congr 1
    funext i
    by_cases hi : i = id
    · simp [hi]
    · simp [hi]
  have hr : ¬ (a.read name).2 = 10 := by
    unfold AD.read
    rw [if_neg hdead]
    split <;> simp
  have hr2 : ¬ ((a.read name).2 = 0 ∧ ((a.read name).1.toList == data.toList) = true) := by
    rintro ⟨h1, h2⟩
    unfold AD.read at h1 h2
    rw [if_neg hdead] at h1 h2
    cases hf : fid a.fm name with
    | none => rw [hf] at h1; simp at h1
    | some i =>
      rw [hf] at h2
      simp only [beq_iff_eq] at h2
      apply hd
      unfold look
      rw [hf]
      simp only [Option.map_some]
      congr 1
      rw [bytes_list, bytes_list] at h2
      apply ByteArray.ext
      exact Array.toList_inj.1 h2
  unfold AD.publish
  rw [if_neg hr, if_neg hr2, e1, if_pos (Or.inr rfl)]
  show AD.pubTail (a.append tmpN data id) name = _
  rw [e2]
  unfold AD.pubTail
  rw [if_pos rfl]
  show (if (a1.sync tmpN).1 = 0 then AD.pubEnd ((a1.sync tmpN).2.rename tmpN name) else a1.sync tmpN) = _
  rw [e3, if_pos rfl]
  show AD.pubEnd (a2.rename tmpN name) = _
  rw [e4]
  unfold AD.pubEnd
  rw [if_pos rfl]
  show a3.settle = _
  rw [e5, e6]
theorem publish_same {a : AD} (h : Calm a) (name data : ByteArray) (id : Nat) (hd : look a name = some data) :
    (AD.publish a name data id).1 = 0 ∧ Calm (AD.publish a name data id).2 ∧ (∀ s, look (AD.publish a name data id).2 s = look a s) ∧ (AD.publish a name data id).2.fm = a.fm := by
  have hdead : ¬ (a.dead = true) := by rw [h.live]; exact Bool.false_ne_true
  have hA := calm_alive h.arm
  unfold look at hd
  cases hf : fid a.fm name with
  | none => rw [hf] at hd; cases hd
  | some i =>
    rw [hf] at hd
    have hi : (a.ob i).1 = data := Option.some.inj hd
    have hr : a.read name = (data, 0) := by unfold AD.read; rw [if_neg hdead, hf]; simp only; rw [hi]
    have e3 : a.sync name = (0, a.setOb i ((a.ob i).1, (a.ob i).1.size)) := by
      unfold AD.sync AD.syncB
      rw [hA, if_neg hdead, hf]
    have e4 : a.setOb i ((a.ob i).1, (a.ob i).1.size) = a := by
      unfold AD.setOb
      have : (fun k => if k = i then ((a.ob i).1, (a.ob i).1.size) else a.ob k) = a.ob := by
        funext k
        by_cases hk : k = i
        · subst hk; rw [if_pos rfl]; exact Prod.ext rfl (h.safe _ _ hf).symm
        · rw [if_neg hk]
      rw [this]
    rw [e4] at e3
    have e5 : a.settle = (0, a) := by
      unfold AD.settle AD.settleB
      rw [hA, if_neg hdead]
      congr 1
      have h1 := h.sm
      have h2 := h.st
      obtain ⟨room, fm, sm, st, arm, dead, ob, held⟩ := a
      simp only at h1 h2
      rw [h1, h2]
    have e6 : AD.publish a name data id = (0, a) := by
      unfold AD.publish
      rw [hr, if_neg (by simp), if_pos ⟨rfl, by simp⟩, e3]
      unfold AD.pubEnd
      rw [if_pos rfl]
      exact e5
    rw [e6]
    exact ⟨rfl, h, fun _ => rfl, rfl⟩
theorem pubNew_fid {a : AD} (h : Calm a) (name data : ByteArray) (id : Nat) (htmp : look a tmpN = none) (hnt : name ≠ tmpN) (s : ByteArray) :
    fid (pubNew a name data id).fm s = if s = name then some id else fid a.fm s := by
  unfold pubNew
  simp only
  by_cases hs : s = name
  · subst hs
    rw [if_pos rfl]
    exact fid_put_same _ ((h.isMap.put _ _).del _) _ _
  · rw [if_neg hs, fid_put_other _ hs]
    by_cases ht : s = tmpN
    · subst ht; rw [fid_del_same, look_none htmp]
    · rw [fid_del_other _ ht, fid_put_other _ ht]
theorem publish_calm {a : AD} (h : Calm a) (name data : ByteArray) (id : Nat) (hn : nameOk name = true) (hnt : name ≠ tmpN) (htmp : look a tmpN = none) (hu : (usedOf a.fm a.ob : Int) + data.size ≤ 1048576) (hid : ∀ s i, fid a.fm s = some i → i ≠ id) :
    (AD.publish a name data id).1 = 0 ∧ Calm (AD.publish a name data id).2 ∧ (∀ s, look (AD.publish a name data id).2 s = if s = name then some data else look a s) := by
  by_cases hd : look a name = some data
  · obtain ⟨h1, h2, h3, _⟩ := publish_same h name data id hd
    refine ⟨h1, h2, fun s => ?_⟩
    rw [h3]
    by_cases hs : s = name
    · subst hs; rw [if_pos rfl, hd]
    · rw [if_neg hs]
  · rw [publish_new h name data id hn hnt htmp hu hd]
    have hf := pubNew_fid h name data id htmp hnt
    have ho : ∀ i, (pubNew a name data id).ob i = if i = id then (data, data.size) else a.ob i := fun i => rfl
    refine ⟨rfl, ⟨h.live, h.arm, h.room, ((h.isMap.put _ _).del _).put _ _, ?_, ?_, rfl, rfl⟩, ?_⟩
    · intro s t i h1 h2
      rw [hf] at h1 h2
      by_cases hs : s = name
      · by_cases ht : t = name
        · rw [hs, ht]
        · rw [if_pos hs] at h1; rw [if_neg ht] at h2
          exact absurd (Option.some.inj h1).symm (hid t i h2)
      · by_cases ht : t = name
        · rw [if_neg hs] at h1; rw [if_pos ht] at h2
          exact absurd (Option.some.inj h2).symm (hid s i h1)
        · rw [if_neg hs] at h1; rw [if_neg ht] at h2
          exact h.inj s t i h1 h2
    · intro s i h1
      rw [hf] at h1
      rw [ho]
      by_cases hs : s = name
      · rw [if_pos hs] at h1
        rw [if_pos (Option.some.inj h1).symm]
      · rw [if_neg hs] at h1
        rw [if_neg (hid s i h1)]
        exact h.safe s i h1
    · intro s
      unfold look
      rw [hf]
      by_cases hs : s = name
      · rw [if_pos hs, if_pos hs]; simp [ho]
      · rw [if_neg hs, if_neg hs]
        cases h1 : fid a.fm s with
        | none => rfl
        | some i => simp only [Option.map_some, ho]; rw [if_neg (hid s i h1)]
theorem used_le {w : World} {F : Nat → Prop} {base d n : Nat} {a : AD} (h : DiskAt w F base d n a) (B : Nat) (hB : ∀ s b, fid a.fm s = some b → (a.ob b).1.size ≤ B) : usedOf a.fm a.ob ≤ n * B := by
  obtain ⟨mf, ms, sv, p⟩ := h
  exact used_bound p.files a.ob B hB
theorem fid_lt {w : World} {F : Nat → Prop} {base d n : Nat} {a : AD} (h : DiskAt w F base d n a) (s : ByteArray) (i : Nat) (hf : fid a.fm s = some i) : i < w.heap.size := by
  obtain ⟨mf, ms, sv, p⟩ := h
  exact FileAt.lt (p.obj i (.inl ⟨s, hf⟩))
theorem calm_empty : Calm (AD.empty 1048576) := by
  refine ⟨rfl, rfl, rfl, ⟨[], rfl⟩, ?_, ?_, rfl, rfl⟩
  · intro s t i h; rw [show (AD.empty 1048576).fm = .map [] from rfl, fid_empty] at h; cases h
  · intro s i h; rw [show (AD.empty 1048576).fm = .map [] from rfl, fid_empty] at h; cases h
theorem disk_list {w : World} {F : Nat → Prop} {base d n : Nat} {a : AD} (h : DiskAt w F base d n a) : (∀ s, s ∈ listOf a.fm ↔ ∃ b, fid a.fm s = some b) ∧ (listOf a.fm).Nodup ∧ (listOf a.fm).length ≤ n := by
  obtain ⟨mf, ms, sv, p⟩ := h
  exact ⟨listOf_mem p.files, listOf_nodup p.files, listOf_len p.files⟩
end Go.Proofs.YtlilkfnfcaepiaaGreatDoor.M
set_option linter.unusedSimpArgs false
set_option linter.unusedVariables false
namespace Go.Proofs.YtlilkfnfcaepiaaGreatDoor.M
open Go.RowKit Go.Proofs.YtlilkfnfcaepiaaGreatDoorW.PrintWords Go.Proofs.YtlilkfnfcaepiaaGreatDoorW.PrintLast Go.Proofs.YtlilkfnfcaepiaaGreatDoorW.PrintMore PB H D G

theorem wraps_u64 (n : Int) (h₀ : 0 ≤ n) (h₁ : n < 2 ^ 64) : IntKind.u64.wrap n = n := by simp [IntKind.wrap, IntKind.bits, IntKind.signed]; omega
theorem or_low (i : Nat) (x y : Int) (hx₀ : 0 ≤ x) (hx : x % 2 ^ i = 0) (hx₁ : x < 2 ^ 64) (hy₀ : 0 ≤ y) (hy : y < 2 ^ i) (hy₁ : y < 2 ^ 64) : Go.bits .or .u64 y x = y + x := by
  have h := bits_join .u64 64 (by decide) wraps_u64 i x y hx₀ hx hx₁ hy₀ hy hy₁
  obtain ⟨a, rfl⟩ := Int.eq_ofNat_of_zero_le hx₀
  obtain ⟨b, rfl⟩ := Int.eq_ofNat_of_zero_le hy₀
  have ha : a < 2 ^ 64 := by exact_mod_cast hx₁
  have hb : b < 2 ^ 64 := by exact_mod_cast hy₁
  rw [(bits_nat .u64 64 (by decide) wraps_u64 a b ha hb).2] at h
  rw [(bits_nat .u64 64 (by decide) wraps_u64 b a hb ha).2, Nat.or_comm, h, Int.add_comm]
theorem and127 (x : Int) (h0 : 0 ≤ x) (h1 : x < 256) : Go.bits .and .u64 x 127 = x % 128 :=
  bits_mask .u64 64 (by decide) wraps_u64 7 (by decide) x h0 (by omega)
theorem or128 (x : Int) (h0 : 0 ≤ x) (h1 : x < 256) : Go.bits .or .u8 x 128 = x % 128 + 128 := by
  have : ∀ x : Fin 256, Go.bits .or .u8 ((x : Nat) : Int) 128 = ((x : Nat) : Int) % 128 + 128 := by decide +kernel
  have h := this ⟨x.toNat, by omega⟩
  simp only at h
  rw [Int.toNat_of_nonneg h0] at h
  exact h
theorem pow7 (i : Nat) : (128 : Int) ^ i = 2 ^ (7 * i) := by
  rw [Int.pow_mul]; rfl
theorem uv_l0 (s : ByteArray) : ∀ (k i : Nat) (y x4 : Int), (∀ j (h : j < (varL k y).length), i + j < s.size ∧ bt s ((i + j : Nat) : Int) = (varL k y)[j]) → 0 ≤ y → y < 128 ^ (k + 1) → (0 < i → 1 ≤ y) → 0 ≤ x4 → x4 < 128 ^ i → x4 + y * 128 ^ i < 9223372036854775808 → ∃ K, PI.bits_Unvar.l0 K s x4 i = some (x4 + y * 128 ^ i, ((i + (varL k y).length : Nat) : Int)) := by
  intro k
  induction k with
  | zero =>
    intro i y x4 hb hy0 hy1 hiy h40 h41 hsum
    have hy128 : y < 128 := by simpa using hy1
    obtain ⟨hs, hc⟩ := hb 0 (by simp [varL])
    have hc2 : bt s (i : Int) = y := by
      have h := hc
      simp only [varL, Nat.add_zero, List.getElem_cons_zero] at h
      rw [h]; omega
    have hP : (0 : Int) < 128 ^ i := Int.pow_pos (by decide)
    have hyP : y * 1 ≤ y * 128 ^ i := Int.mul_le_mul_of_nonneg_left (by omega) hy0
    have hi9 : i ≤ 8 := by
      by_cases h : i ≤ 8
      · exact h
      · exfalso
        have h1 := hiy (by omega)
        have h2 : (128 : Int) ^ 9 ≤ 128 ^ i := by
          have : (128 : Nat) ^ 9 ≤ 128 ^ i := Nat.pow_le_pow_right (by decide) (by omega)
          exact_mod_cast this
        have h3 : 1 * 128 ^ i ≤ y * 128 ^ i := Int.mul_le_mul_of_nonneg_right h1 (by omega)
        have h4 : (128 : Int) ^ 9 = 9223372036854775808 := by decide
        omega
    have hw : IntKind.u64.wrap (bt s (i : Int)) = y := by rw [hc2]; exact wraps_u64 _ hy0 (by omega)
    have hsh : shl .u64 (Go.bits .and .u64 y 127) (wrap64 (7 * (i : Int))) = y * 128 ^ i := by
      rw [and127 y hy0 (by omega), wrap64_small _ (by omega) (by omega)]
      unfold shl
      rw [show (7 * (i : Int)).toNat = 7 * i by omega, Nat.min_eq_left (by show 7 * i ≤ 64; omega), ← pow7, show y % 128 = y by omega]
      exact wraps_u64 _ (by omega) (by omega)
    have hor : Go.bits .or .u64 x4 (y * 128 ^ i) = x4 + y * 128 ^ i := or_low (7 * i) _ _ (by omega) (by rw [pow7]; exact Int.mul_emod_left _ _) (by omega) h40 (by rw [← pow7]; exact h41) (by omega)
    refine ⟨0 + 1 + 1 + 1, ?_⟩
    rw [PI.bits_Unvar.l0, if_pos (by omega), PI.bits_Unvar.j1, if_pos (by simp; omega), if_pos (by omega), if_pos (by omega), if_neg (by omega), hw]
    have hfin : PI.bits_Unvar.j2 (0 + 1) s x4 i y false = some (x4 + y * 128 ^ i, ((i + (varL 0 y).length : Nat) : Int)) := by
      rw [PI.bits_Unvar.j2, if_neg (by simp), if_pos (by rw [wrap64_small _ (by omega) (by omega)]; omega), if_pos hy128, hsh, hor, wrap64_small _ (by omega) (by omega)]
      simp [varL]
    split
    · have : (y == 0) = false := by have := hiy (by omega); simp; omega
      rw [this]; exact hfin
    · exact hfin
  | succ k ih =>
    intro i y x4 hb hy0 hy1 hiy h40 h41 hsum
    have hP : (0 : Int) < 128 ^ i := Int.pow_pos (by decide)
    have hyP : y * 1 ≤ y * 128 ^ i := Int.mul_le_mul_of_nonneg_left (by omega) hy0
    have hi9 : i ≤ 8 := by
      by_cases h : i ≤ 8
      · exact h
      · exfalso
        have h1 := hiy (by omega)
        have h2 : (128 : Int) ^ 9 ≤ 128 ^ i := by
          have : (128 : Nat) ^ 9 ≤ 128 ^ i := Nat.pow_le_pow_right (by decide) (by omega)
          exact_mod_cast this
        have h3 : 1 * 128 ^ i ≤ y * 128 ^ i := Int.mul_le_mul_of_nonneg_right h1 (by omega)
        have h4 : (128 : Int) ^ 9 = 9223372036854775808 := by decide
        omega
    have hrP : (y % 128) * 128 ^ i ≤ y * 128 ^ i := Int.mul_le_mul_of_nonneg_right (by omega) (by omega)
    have hrP0 : 0 ≤ (y % 128) * 128 ^ i := Int.mul_nonneg (by omega) (by omega)
    have hsum2 : (y % 128) * 128 ^ i + (y / 128) * 128 ^ (i + 1) = y * 128 ^ i := by
      rw [Int.pow_succ, ← Int.mul_assoc, Int.mul_comm ((y / 128) * 128 ^ i) 128, ← Int.mul_assoc, ← Int.add_mul]
      congr 1; omega
    have hsh : ∀ c : Int, 0 ≤ c → c < 256 → c % 128 = y % 128 → shl .u64 (Go.bits .and .u64 c 127) (wrap64 (7 * (i : Int))) = (y % 128) * 128 ^ i := by
      intro c hc0 hc1 hc
      rw [and127 c hc0 hc1, wrap64_small _ (by omega) (by omega)]
      unfold shl
      rw [show (7 * (i : Int)).toNat = 7 * i by omega, Nat.min_eq_left (by show 7 * i ≤ 64; omega), ← pow7, hc]
      exact wraps_u64 _ (by omega) (by omega)
    have hor : Go.bits .or .u64 x4 ((y % 128) * 128 ^ i) = x4 + (y % 128) * 128 ^ i := or_low (7 * i) _ _ (by omega) (by rw [pow7]; exact Int.mul_emod_left _ _) (by omega) h40 (by rw [← pow7]; exact h41) (by omega)
    by_cases hge : y ≥ 128
    · have hvl : varL (k + 1) y = Go.bits .or .u8 (y % 256) 128 :: varL k (y / 128) := by rw [varL, if_pos hge]
      have hor8 := or128 (y % 256) (by omega) (by omega)
      obtain ⟨hs, hc⟩ := hb 0 (by rw [hvl]; simp)
      have hc2 : bt s (i : Int) = y % 128 + 128 := by
        have h := hc
        simp only [hvl, Nat.add_zero, List.getElem_cons_zero] at h
        rw [h, hor8]; omega
      have hw : IntKind.u64.wrap (bt s (i : Int)) = y % 128 + 128 := by rw [hc2]; exact wraps_u64 _ (by omega) (by omega)
      have h41' : x4 + (y % 128) * 128 ^ i < 128 ^ (i + 1) := by
        have h1 : (y % 128) * 128 ^ i ≤ 127 * 128 ^ i := Int.mul_le_mul_of_nonneg_right (by omega) (by omega)
        rw [Int.pow_succ]; omega
      obtain ⟨K, hK⟩ := ih (i + 1) (y / 128) (x4 + (y % 128) * 128 ^ i) (fun j hj => by
        have h := hb (j + 1) (by rw [hvl]; simp; exact hj)
        simp only [hvl, List.getElem_cons_succ] at h
        rw [show i + 1 + j = i + (j + 1) by omega]
        exact h) (by omega) (by rw [Int.pow_succ] at hy1; omega) (fun _ => by omega) (by omega) h41' (by omega)
      refine ⟨K + 1 + 1 + 1, ?_⟩
      rw [PI.bits_Unvar.l0, if_pos (by omega), PI.bits_Unvar.j1, if_pos (by simp; omega), if_pos (by omega), if_pos (by omega), if_neg (by omega), hw]
      have hfin : PI.bits_Unvar.j2 (K + 1) s x4 i (y % 128 + 128) false = some (x4 + y * 128 ^ i, ((i + (varL (k + 1) y).length : Nat) : Int)) := by
        rw [PI.bits_Unvar.j2, if_neg (by simp), if_pos (by rw [wrap64_small _ (by omega) (by omega)]; omega), if_neg (by omega), hsh _ (by omega) (by omega) (by omega), hor, wrap64_small _ (by omega) (by omega)]
        rw [show (i : Int) + 1 = ((i + 1 : Nat) : Int) by omega, hK, hvl]
        simp only [List.length_cons]
        congr 1
        refine Prod.ext ?_ ?_
        · simp only; omega
        · simp only; omega
      split
      · have : ((y % 128 + 128) == 0) = false := by simp; omega
        rw [this]; exact hfin
      · exact hfin
    · have hvl : varL (k + 1) y = [y % 256] := by rw [varL, if_neg hge]
      obtain ⟨hs, hc⟩ := hb 0 (by rw [hvl]; simp)
      have hc2 : bt s (i : Int) = y := by
        have h := hc
        simp only [hvl, Nat.add_zero, List.getElem_cons_zero] at h
        rw [h]; omega
      have hw : IntKind.u64.wrap (bt s (i : Int)) = y := by rw [hc2]; exact wraps_u64 _ hy0 (by omega)
      refine ⟨0 + 1 + 1 + 1, ?_⟩
      rw [PI.bits_Unvar.l0, if_pos (by omega), PI.bits_Unvar.j1, if_pos (by simp; omega), if_pos (by omega), if_pos (by omega), if_neg (by omega), hw]
      have hym : y % 128 = y := by omega
      have hfin : PI.bits_Unvar.j2 (0 + 1) s x4 i y false = some (x4 + y * 128 ^ i, ((i + (varL (k + 1) y).length : Nat) : Int)) := by
        rw [PI.bits_Unvar.j2, if_neg (by simp), if_pos (by rw [wrap64_small _ (by omega) (by omega)]; omega), if_pos (by omega), hsh _ (by omega) (by omega) rfl, hor, wrap64_small _ (by omega) (by omega), hvl, hym]
        simp
      split
      · have : (y == 0) = false := by have := hiy (by omega); simp; omega
        rw [this]; exact hfin
      · exact hfin
theorem uv_mono {s : ByteArray} {r : Int × Int} : ∀ (n k : Nat), PI.bits_Unvar.f k s = some r → PI.bits_Unvar.f (k + n) s = some r
  | 0, k, h => h
  | n + 1, k, h => by
    have h2 := uv_mono n k h
    have := PI.bits_Unvar.mono s (k + n)
    rw [h2] at this
    exact this r rfl
theorem strOf_get (l : List Int) (j : Nat) (hj : j < l.length) (h0 : 0 ≤ l[j]) (h1 : l[j] < 256) (hs : j < (strOfNums l).size) : (((strOfNums l)[j]).toNat : Int) = l[j] := by
  have e : (strOfNums l)[j] = UInt8.ofNat (l[j]).toNat := by
    show (strOfNums l).data[j] = _
    simp [strOfNums]
  rw [e, UInt8.toNat_ofNat']
  omega
theorem varL_range : ∀ (k : Nat) (y : Int), 0 ≤ y → ∀ x ∈ varL k y, 0 ≤ x ∧ x < 256
  | 0, y, h, x, hx => by simp only [varL, List.mem_singleton] at hx; omega
  | k + 1, y, h, x, hx => by
    rw [varL] at hx
    split at hx
    · rcases List.mem_cons.1 hx with rfl | hx
      · rw [or128 _ (by omega) (by omega)]; omega
      · exact varL_range k (y / 128) (by omega) x hx
    · simp only [List.mem_singleton] at hx; omega
/-- Unvar reads what Var wrote. -/
theorem uv_var (x : Int) (t : ByteArray) (h0 : 0 ≤ x) (h1 : x < 9223372036854775808) : uvF (varS x ++ t) = (x, ((varS x).size : Int)) := by
  have hlen : (varS x).size = (varL 9 x).length := by unfold varS; rw [strOfNums_size]
  obtain ⟨K, hK⟩ := uv_l0 (varS x ++ t) 9 0 x 0 (fun j hj => by
    have hs : j < (varS x).size := by rw [hlen]; exact hj
    have hs2 : 0 + j < (varS x ++ t).size := by rw [ByteArray.size_append]; omega
    refine ⟨hs2, ?_⟩
    have hr := varL_range 9 x h0 _ (List.getElem_mem hj)
    unfold bt
    have hjj : ((0 + j : Nat) : Int).toNat = j := by omega
    simp only [hjj]
    rw [dif_pos (by rw [ByteArray.size_append]; omega)]
    have e : (varS x ++ t)[j]'(by rw [ByteArray.size_append]; omega) = (varS x)[j] := ByteArray.getElem_append_left hs
    rw [e]
    exact strOf_get (varL 9 x) j hj hr.1 hr.2 hs) h0 (by have : (128 : Int) ^ 10 = 1180591620717411303424 := by decide
                                                         omega) (by omega) (by omega) (by simp) (by simpa using h1)
  have hf : PI.bits_Unvar.f K (varS x ++ t) = some (x, ((varS x).size : Int)) := by
    have : PI.bits_Unvar.f K (varS x ++ t) = PI.bits_Unvar.l0 K (varS x ++ t) 0 0 := rfl
    rw [this]
    rw [show ((0 : Nat) : Int) = 0 from rfl] at hK
    rw [hK, hlen]; simp
  have h33 := unvar_f (varS x ++ t)
  have a := uv_mono 33 K hf
  have b := uv_mono K 33 h33
  rw [Nat.add_comm 33 K] at b
  rw [a] at b
  have := Option.some.inj b
  exact this.symm
end Go.Proofs.YtlilkfnfcaepiaaGreatDoor.M
set_option linter.unusedSimpArgs false
set_option linter.unusedVariables false
namespace Go.Proofs.YtlilkfnfcaepiaaGreatDoor.M
open Go.RowKit Go.Proofs.YtlilkfnfcaepiaaGreatDoorW.PrintWords Go.Proofs.YtlilkfnfcaepiaaGreatDoorW.PrintLast Go.Proofs.YtlilkfnfcaepiaaGreatDoorW.PrintMore PB H D G

theorem app_right (a b : ByteArray) : (a ++ b).extract a.size (a ++ b).size = b := by
  rw [ByteArray.size_append]
  first | exact ByteArray.extract_append_eq_right rfl rfl | (apply ByteArray.ext; simp)
theorem app_left (a b : ByteArray) : (a ++ b).extract 0 a.size = a := by
  first | exact ByteArray.extract_append_eq_left rfl | (apply ByteArray.ext; simp)
theorem varS_pos (x : Int) : 1 ≤ (varS x).size := by
  unfold varS; rw [strOfNums_size]
  unfold varL
  split <;> simp
theorem num_var (x : Int) (t : ByteArray) (b : Bool) (h0 : 0 ≤ x) (h1 : x ≤ 1099511627776) : numF (varS x ++ t, b) = (x, (t, b)) := by
  unfold numF
  have hu := uv_var x t h0 (by omega)
  have hp := varS_pos x
  simp only [hu]
  rw [if_neg (by omega)]
  rw [Int.toNat_natCast, app_right]
theorem take_app (s t : ByteArray) (b : Bool) : takeF (s ++ t, b) (s.size : Int) = (s, (t, b)) := by
  unfold takeF
  simp only
  rw [if_neg (by rw [ByteArray.size_append]; omega), Int.toNat_natCast, app_left, app_right]
theorem cut_app (t : ByteArray) : cutRest (snapN ++ t) snapN = t ∧ cutOk (snapN ++ t) snapN = true := by
  have h : cutOk (snapN ++ t) snapN = true := by
    unfold cutOk
    rw [app_left]
    simp [ByteArray.size_append]
  refine ⟨?_, h⟩
  unfold cutRest
  rw [if_pos h, app_right]
theorem joinS_cons (c : ByteArray) (l : List ByteArray) : joinS (c :: l) = c ++ joinS l := by
  apply ByteArray.ext
  rw [ByteArray.data_append]
  apply Array.ext'
  unfold joinS
  cases l with
  | nil => simp [Lib.join]
  | cons d l => simp [Lib.join]
theorem chunks_join : ∀ (l acc : List ByteArray), good32 l = true → chunksF l.length (joinS l, false) acc = ((joinS [], false), acc ++ l)
  | [], acc, _ => by simp [chunksF]
  | c :: l, acc, h => by
    unfold good32 at h
    rw [List.all_cons, Bool.and_eq_true] at h
    have hc : (c.size : Int) = 32 := by simpa using h.1
    rw [List.length_cons, chunksF, if_neg (by simp), joinS_cons]
    have := take_app c (joinS l) false
    rw [hc] at this
    rw [this]
    simp only
    rw [chunks_join l (acc ++ [c]) h.2]
    simp
theorem dec_enc (m : MF) (h : checkF m = 0) : decF (encS m) = (m, 0) := by
  obtain ⟨h1, h2, h3, h4, h5, h6, h7, h8, h9⟩ := check0 m h
  have ht := tag_size h8
  have hp := parent_size h9
  obtain ⟨time, tag, parent, size, chunks⟩ := m
  simp only at *
  have e : encS ⟨time, tag, parent, size, chunks⟩ = snapN ++ (varS time ++ (varS (tag.size : Int) ++ (tag ++ (varS (parent.size : Int) ++ (parent ++ (varS size ++ (varS (chunks.length : Int) ++ joinS chunks))))))) := by
    unfold encS textS snapN
    simp only [ByteArray.append_assoc]
  have hd : decHead (encS ⟨time, tag, parent, size, chunks⟩) = ⟨time, tag, parent, size, chunks.length, (joinS chunks, false)⟩ := by
    unfold decHead
    rw [e, (cut_app _).1, (cut_app _).2]
    simp only [Bool.not_true]
    rw [num_var time _ _ h1 (by omega)]
    simp only
    rw [num_var (tag.size : Int) _ _ (by omega) (by omega)]
    simp only
    rw [take_app]
    simp only
    rw [num_var (parent.size : Int) _ _ (by omega) (by omega)]
    simp only
    rw [take_app]
    simp only
    rw [num_var size _ _ (by omega) (by omega)]
    simp only
    rw [num_var (chunks.length : Int) _ _ (by omega) (by omega)]
  have e2 : decF (encS ⟨time, tag, parent, size, chunks⟩) = decEnd time tag parent size (chunksF chunks.length (joinS chunks, false) []) := by
    unfold decF
    rw [hd]
    unfold decEnd
    simp only [Int.toNat_natCast]
  rw [e2, chunks_join _ _ h7]
  unfold decEnd
  simp only [List.nil_append]
  rw [if_neg (by simp [joinS, Lib.join]), if_pos h]
end Go.Proofs.YtlilkfnfcaepiaaGreatDoor.M
set_option linter.unusedSimpArgs false
set_option linter.unusedVariables false
namespace Go.Proofs.YtlilkfnfcaepiaaGreatDoor.M
open Go.RowKit Go.Proofs.YtlilkfnfcaepiaaGreatDoorW.PrintWords Go.Proofs.YtlilkfnfcaepiaaGreatDoorW.PrintLast Go.Proofs.YtlilkfnfcaepiaaGreatDoorW.PrintMore PB H D G

def isDig (x : Int) : Prop := (48 ≤ x ∧ x ≤ 57) ∨ (97 ≤ x ∧ x ≤ 102)
instance (x : Int) : Decidable (isDig x) := by unfold isDig; exact inferInstance
theorem hexPair_dig (x : Int) (h0 : 0 ≤ x) (h1 : x < 256) : ∀ y ∈ hexPair x, isDig y := by
  have : ∀ x : Fin 256, ∀ y ∈ hexPair ((x : Nat) : Int), isDig y := by decide +kernel
  have h := this ⟨x.toNat, by omega⟩
  simp only at h
  rw [Int.toNat_of_nonneg h0] at h
  exact h
theorem hexL_dig (l : List UInt8) : ∀ y ∈ hexL l, isDig y := by
  intro y hy
  unfold hexL at hy
  obtain ⟨b, _, hb⟩ := List.mem_flatMap.1 hy
  exact hexPair_dig _ (by omega) (by have := b.toNat_lt; omega) y hb
theorem hexS_dig (s : ByteArray) (i : Nat) (hi : i < (hexS s).size) : isDig (((hexS s)[i]).toNat : Int) := by
  have hl : i < (hexL s.data.toList).length := by
    have : (hexS s).size = (hexL s.data.toList).length := by unfold hexS; rw [strOfNums_size]
    omega
  have hd := hexL_dig s.data.toList _ (List.getElem_mem hl)
  have hd2 := hd
  unfold isDig at hd2
  have := strOf_get (hexL s.data.toList) i hl (by omega) (by omega) hi
  show isDig (((strOfNums (hexL s.data.toList))[i]'hi).toNat : Int)
  rw [this]; exact hd
theorem val_dig (x : Int) (h : isDig x) : valueL x ≠ 16 := by
  unfold isDig at h
  unfold valueL
  split
  · omega
  · split <;> omega
theorem unhex_dig (s : ByteArray) (hd : ∀ i (hi : i < s.size), isDig ((s[i]).toNat : Int)) : ∀ (f pos : Nat) (high : Int) (acc : List Int), pos ≤ s.size → s.size - pos ≤ f → ((high = 16 ∧ (s.size - pos) % 2 = 0) ∨ (high ≠ 16 ∧ (s.size - pos) % 2 = 1)) → ∃ acc', unhexFrom s f pos high acc = some (acc', 16) := by
  intro f
  induction f with
  | zero =>
    intro pos high acc h1 h2 h3
    rcases h3 with ⟨rfl, _⟩ | ⟨_, h⟩
    · exact ⟨acc, rfl⟩
    · omega
  | succ f ih =>
    intro pos high acc h1 h2 h3
    by_cases hp : pos < s.size
    · have hdd := hd pos hp
      have hasc : (s[pos]'hp).toNat < 128 := by unfold isDig at hdd; omega
      rw [unhex_step s f pos high acc hp, decode_ascii s pos hp hasc]
      simp only
      rw [if_neg (val_dig _ hdd)]
      rcases h3 with ⟨rfl, h⟩ | ⟨hne, h⟩
      · rw [if_pos rfl]
        exact ih _ _ _ (by omega) (by omega) (.inr ⟨val_dig _ hdd, by omega⟩)
      · rw [if_neg hne]
        exact ih _ _ _ (by omega) (by omega) (.inl ⟨rfl, by omega⟩)
    · rw [unhex_end s _ pos high acc hp]
      rcases h3 with ⟨rfl, _⟩ | ⟨_, h⟩
      · exact ⟨acc, rfl⟩
      · omega
theorem digest_hex (s : ByteArray) (hs : s.size = 32) : digestIs (hexS s) = true := by
  have hz : (hexS s).size = 64 := by rw [hexS_size]; omega
  obtain ⟨acc, h⟩ := unhex_dig (hexS s) (hexS_dig s) (hexS s).size 0 16 [] (Nat.zero_le _) (by omega) (.inl ⟨rfl, by omega⟩)
  unfold digestIs unhexOk
  rw [h, hz]; rfl
theorem digest_name (t : ByteArray) : digestIs (nameF t) = true := digest_hex _ (sumF_size t)
theorem cut_gen (p t : ByteArray) : cutRest (p ++ t) p = t ∧ cutOk (p ++ t) p = true := by
  have h : cutOk (p ++ t) p = true := by
    unfold cutOk
    rw [app_left]
    simp [ByteArray.size_append]
  refine ⟨?_, h⟩
  unfold cutRest
  rw [if_pos h, app_right]
theorem sN_size : sN.size = 1 := rfl
theorem fileN_eq (x : ByteArray) : fileN x = sN ++ x := rfl
theorem idOf_file (x : ByteArray) : idOf (fileN x) = x := by
  unfold idOf
  rw [fileN_eq]
  exact app_right sN x
theorem pack_file (t : ByteArray) : packIs sN (fileN (nameF t)) = true := by
  unfold packIs
  rw [fileN_eq, (cut_gen _ _).1, (cut_gen _ _).2, digest_name]; rfl
theorem file_size (t : ByteArray) : (fileN (nameF t)).size = 65 := by
  rw [fileN_eq, ByteArray.size_append, nameF_size]; rfl
theorem file_ok (t : ByteArray) : nameOk (fileN (nameF t)) = true := by
  unfold nameOk
  rw [file_size]
  have h : (fileN (nameF t)).data.toList.all okByte = true := by
    rw [List.all_eq_true]
    intro b hb
    rw [fileN_eq, ByteArray.data_append] at hb
    rw [Array.toList_append] at hb
    rcases List.mem_append.1 hb with hb | hb
    · have : b = 115 := by simpa [sN] using hb
      subst this; rfl
    · obtain ⟨i, hi, he⟩ := List.getElem_of_mem hb
      have hi' : i < (hexS (sumF t)).size := by
        show i < (nameF t).size
        simpa using hi
      have hd := hexS_dig (sumF t) i hi'
      have e : (hexS (sumF t))[i]'hi' = b := by rw [← he]; rfl
      rw [e] at hd
      unfold isDig at hd
      unfold okByte
      simp
      omega
  rw [h]; rfl
theorem file_tmp (t : ByteArray) : fileN (nameF t) ≠ tmpN := by
  intro h
  have h1 := file_size t
  rw [h] at h1
  exact absurd h1 (by decide)
theorem file_inj (s t : ByteArray) (h : fileN s = fileN t) : s = t := by
  rw [← idOf_file s, ← idOf_file t, h]
theorem parent64 {s : ByteArray} (h : s.toList.isEmpty = true ∨ digestIs s = true) : s.size ≤ 64 := by
  rcases h with h | h
  · have : s.toList = [] := by simpa using h
    rw [bytes_list] at this
    have h2 : s.data.toList.length = 0 := by rw [this]; rfl
    have h3 : s.size = s.data.toList.length := by simp
    omega
  · unfold digestIs at h
    rw [Bool.and_eq_true] at h
    have : (s.size : Int) = 64 := by simpa using h.2
    omega
theorem tag60 {s : ByteArray} (h : s.toList.isEmpty = true ∨ pathName s = true) : s.size ≤ 60 := by
  rcases h with h | h
  · have : s.toList = [] := by simpa using h
    rw [bytes_list] at this
    have h2 : s.data.toList.length = 0 := by rw [this]; rfl
    have h3 : s.size = s.data.toList.length := by simp
    omega
  · exact bad60 s h
theorem enc_small (m : MF) (h : checkF m = 0) (hc : m.chunks.length ≤ 60) : (encS m).size ≤ 2100 := by
  obtain ⟨h1, h2, h3, h4, h5, h6, h7, h8, h9⟩ := check0 m h
  have ht := tag60 h8
  have hp := parent64 h9
  have hj := joinS_size m.chunks h7
  have a1 := varS_size m.time
  have a2 := varS_size (m.tag.size : Int)
  have a3 := varS_size (m.parent.size : Int)
  have a4 := varS_size m.size
  have a5 := varS_size (m.chunks.length : Int)
  unfold encS textS
  simp only [ByteArray.size_append]
  have : (⟨#[115, 110, 97, 112]⟩ : ByteArray).size = 4 := rfl
  omega
theorem load_calm {a : AD} (h : Calm a) (s : ByteArray) (hl : look a (fileN (nameF s)) = some s) : AD.load a sN (fileN (nameF s)) = (s, 0) := by
  have hr : a.read (fileN (nameF s)) = (s, 0) := by
    unfold look at hl
    cases hf : fid a.fm (fileN (nameF s)) with
    | none => rw [hf] at hl; cases hl
    | some i =>
      rw [hf] at hl
      unfold AD.read
      rw [if_neg (by rw [h.live]; exact Bool.false_ne_true), hf]
      have h2 : (a.ob i).1 = s := Option.some.inj hl
      simp only
      rw [h2]
  unfold AD.load
  rw [if_pos (pack_file s), hr]
  simp only
  rw [if_pos trivial, if_pos (by rw [fileN_eq]; simp)]
theorem loadM_calm {a : AD} (h : Calm a) (m : MF) (hc : checkF m = 0) (hl : look a (fileN (nameF (encS m))) = some (encS m)) : loadM a (nameF (encS m)) = (m, 0) := by
  unfold loadM
  rw [load_calm h (encS m) hl, if_pos rfl]
  simp only
  rw [dec_enc m hc, if_pos rfl]
end Go.Proofs.YtlilkfnfcaepiaaGreatDoor.M
set_option linter.unusedSimpArgs false
set_option linter.unusedVariables false
namespace Go.Proofs.YtlilkfnfcaepiaaGreatDoor.M
open Go.RowKit Go.Proofs.YtlilkfnfcaepiaaGreatDoorW.PrintWords Go.Proofs.YtlilkfnfcaepiaaGreatDoorW.PrintLast Go.Proofs.YtlilkfnfcaepiaaGreatDoorW.PrintMore PB H D G

/-- Each file is a manifest of at most 60 chunks, under its name. -/
structure Mans (a : AD) : Prop where
  calm : Calm a
  files : ∀ s c, look a s = some c → ∃ m, checkF m = 0 ∧ m.chunks.length ≤ 60 ∧ c = encS m ∧ s = fileN (nameF c)
theorem mans_empty : Mans (AD.empty 1048576) := by
  refine ⟨calm_empty, fun s c h => ?_⟩
  unfold look at h
  rw [show (AD.empty 1048576).fm = .map [] from rfl, fid_empty] at h
  cases h
theorem Mans.tmp {a : AD} (h : Mans a) : look a tmpN = none := by
  cases hl : look a tmpN with
  | none => rfl
  | some c =>
    obtain ⟨m, _, _, _, h4⟩ := h.files _ _ hl
    exact absurd h4.symm (file_tmp c)
theorem Mans.used {w : World} {F : Nat → Prop} {base d n : Nat} {a : AD} (h : Mans a) (hd : DiskAt w F base d n a) : usedOf a.fm a.ob ≤ n * 2100 := by
  refine used_le hd 2100 (fun s b hf => ?_)
  obtain ⟨m, h1, h2, h3, _⟩ := h.files s (a.ob b).1 (by unfold look; rw [hf]; rfl)
  rw [h3]; exact enc_small m h1 h2
theorem manPub_calm {w : World} {F : Nat → Prop} {base d n : Nat} {a : AD} (h : Mans a) (hd : DiskAt w F base d n a) (hn : n ≤ 400) (m : MF) (hm : m.chunks.length ≤ 60) (id : Nat) (hid : w.heap.size ≤ id) :
    (manPub a m id).1 = (if checkF m = 0 then nameF (encS m) else ⟨#[]⟩, checkF m) ∧ Mans (manPub a m id).2 ∧ (∀ s, look (manPub a m id).2 s = if checkF m = 0 ∧ s = fileN (nameF (encS m)) then some (encS m) else look a s) := by
  by_cases hc : checkF m = 0
  · have hes := enc_small m hc hm
    have hu := h.used hd
    have hu2 : n * 2100 ≤ 840000 := by omega
    obtain ⟨p1, p2, p3⟩ := publish_calm h.calm (fileN (nameF (encS m))) (encS m) id (file_ok _) (file_tmp _) h.tmp (by omega) (fun s i hf e => by have := fid_lt hd s i hf; omega)
    have he : encF m = (encS m, 0) := by unfold encF; rw [if_pos hc]
    have e : manPub a m id = ((nameF (encS m), 0), (AD.publish a (fileN (nameF (encS m))) (encS m) id).2) := by
      unfold manPub
      rw [he]
      simp only
      rw [if_pos trivial, if_pos p1]
    rw [e]
    simp only
    refine ⟨by rw [if_pos hc, hc], ⟨p2, fun s c hl => ?_⟩, fun s => ?_⟩
    · rw [p3] at hl
      by_cases hs : s = fileN (nameF (encS m))
      · rw [if_pos hs] at hl
        obtain rfl := Option.some.inj hl
        exact ⟨m, hc, hm, rfl, hs⟩
      · rw [if_neg hs] at hl
        exact h.files s c hl
    · rw [p3]
      by_cases hs : s = fileN (nameF (encS m))
      · rw [if_pos hs, if_pos ⟨hc, hs⟩]
      · rw [if_neg hs, if_neg (fun x => hs x.2)]
  · have he : encF m = (⟨#[]⟩, checkF m) := by unfold encF; rw [if_neg hc]
    have e : manPub a m id = ((⟨#[]⟩, checkF m), a) := by
      unfold manPub
      rw [he]
      simp only
      rw [if_neg hc]
    rw [e]
    simp only
    refine ⟨by rw [if_neg hc], h, fun s => by rw [if_neg (fun x => hc x.1)]⟩
theorem look_fid {a : AD} {s : ByteArray} : (∃ b, fid a.fm s = some b) ↔ ∃ c, look a s = some c := by
  unfold look
  cases fid a.fm s with
  | none => simp
  | some i => simp
/-- What the list tells of a disk of manifests. -/
theorem mans_list {w : World} {F : Nat → Prop} {base d n : Nat} {a : AD} (h : Mans a) (hd : DiskAt w F base d n a) :
    (listOf a.fm).filter (packIs sN) = listOf a.fm ∧ (listOf a.fm).filterMap (badOf1 a) = [] ∧
    (∀ s ∈ listOf a.fm, ∃ m, checkF m = 0 ∧ m.chunks.length ≤ 60 ∧ s = fileN (nameF (encS m)) ∧ look a s = some (encS m) ∧ snapOf a s = some ⟨nameF (encS m), m.time, m.tag⟩ ∧ loadM a (nameF (encS m)) = (m, 0)) := by
  obtain ⟨hmem, hnd, hlen⟩ := disk_list hd
  have key : ∀ s ∈ listOf a.fm, ∃ m, checkF m = 0 ∧ m.chunks.length ≤ 60 ∧ s = fileN (nameF (encS m)) ∧ look a s = some (encS m) ∧ snapOf a s = some ⟨nameF (encS m), m.time, m.tag⟩ ∧ loadM a (nameF (encS m)) = (m, 0) := by
    intro s hs
    obtain ⟨c, hl⟩ := look_fid.1 ((hmem s).1 hs)
    obtain ⟨m, h1, h2, h3, h4⟩ := h.files s c hl
    subst h3
    subst h4
    have hld := loadM_calm h.calm m h1 hl
    refine ⟨m, h1, h2, rfl, hl, ?_, hld⟩
    unfold snapOf
    rw [idOf_file, hld]
    rfl
  refine ⟨?_, ?_, key⟩
  · rw [List.filter_eq_self]
    intro s hs
    obtain ⟨m, _, _, h3, _⟩ := key s hs
    rw [h3]; exact pack_file _
  · rw [List.filterMap_eq_nil_iff]
    intro s hs
    obtain ⟨m, _, _, h3, _, _, hld⟩ := key s hs
    unfold badOf1
    rw [h3, idOf_file, hld]; rfl
theorem nodup_len {α : Type} [DecidableEq α] : ∀ (l l' : List α), l.Nodup → (∀ x ∈ l, x ∈ l') → l.length ≤ l'.length
  | [], _, _, _ => Nat.zero_le _
  | x :: l, l', hn, hs => by
    have hx := hs x List.mem_cons_self
    have hn2 := List.nodup_cons.1 hn
    have ih := nodup_len l (l'.erase x) hn2.2 (fun y hy => (List.mem_erase_of_ne (fun e => hn2.1 (by rw [← e]; exact hy))).2 (hs y (List.mem_cons_of_mem _ hy)))
    rw [List.length_erase_of_mem hx] at ih
    have : 0 < l'.length := List.length_pos_of_mem hx
    rw [List.length_cons]; omega
/-- How many files there are behind a publication. -/
theorem mans_count {w w' : World} {F F' : Nat → Prop} {base base' d d' n n' : Nat} {a b : AD} (hd : DiskAt w F base d n a) (hd' : DiskAt w' F' base' d' n' b) (nm : ByteArray) (c : ByteArray) (ok : Bool) (hl : ∀ s, look b s = if ok = true ∧ s = nm then some c else look a s) :
    (listOf b.fm).length ≤ (listOf a.fm).length + (if ok then 1 else 0) ∧ (ok = true → listOf b.fm ≠ []) ∧ (listOf a.fm ≠ [] → listOf b.fm ≠ []) := by
  obtain ⟨m1, n1, _⟩ := disk_list hd
  obtain ⟨m2, n2, _⟩ := disk_list hd'
  have hmem : ∀ s, s ∈ listOf b.fm ↔ ∃ x, look b s = some x := fun s => (m2 s).trans look_fid
  have hmem1 : ∀ s, s ∈ listOf a.fm ↔ ∃ x, look a s = some x := fun s => (m1 s).trans look_fid
  refine ⟨?_, ?_, ?_⟩
  · cases ok with
    | true =>
      refine Nat.le_trans (nodup_len _ (nm :: listOf a.fm) n2 (fun s hs => ?_)) (by simp)
      obtain ⟨x, hx⟩ := (hmem s).1 hs
      rw [hl] at hx
      by_cases e : s = nm
      · rw [e]; exact List.mem_cons_self
      · rw [if_neg (fun h => e h.2)] at hx
        exact List.mem_cons_of_mem _ ((hmem1 s).2 ⟨x, hx⟩)
    | false =>
      refine nodup_len _ _ n2 (fun s hs => ?_)
      obtain ⟨x, hx⟩ := (hmem s).1 hs
      rw [hl, if_neg (by simp)] at hx
      exact (hmem1 s).2 ⟨x, hx⟩
  · intro hok he
    have : nm ∈ listOf b.fm := (hmem nm).2 ⟨c, by rw [hl, if_pos ⟨hok, rfl⟩]⟩
    rw [he] at this; cases this
  · intro ha he
    obtain ⟨s, hs⟩ := List.exists_mem_of_ne_nil _ ha
    obtain ⟨x, hx⟩ := (hmem1 s).1 hs
    have : s ∈ listOf b.fm := (hmem s).2 (by
      rw [hl]
      split
      · exact ⟨_, rfl⟩
      · exact ⟨x, hx⟩)
    rw [he] at this; cases this
end Go.Proofs.YtlilkfnfcaepiaaGreatDoor.M
