import Derived.Test.YtkbpnmgkdodcmaaDoorB5
set_option linter.unusedVariables false
set_option linter.unusedSimpArgs false
set_option maxRecDepth 100000
namespace Go.Proofs.YtkbpnmgkdodcmaaDoor.M
open Go Go.Hp

/-! ### What stands ahead is read alike, whatever comes behind -/
theorem byteAt_app (s t : ByteArray) (i : Int) (h0 : 0 ≤ i) (h1 : i < s.size) : byteAt (s ++ t) i = byteAt s i := by
  unfold byteAt
  congr 2
  rw [ByteArray.data_append, Array.getD_eq_getD_getElem?, Array.getD_eq_getD_getElem?, Array.getElem?_append_left (by have : s.data.size = s.size := rfl; omega)]
theorem ext_app (s t : ByteArray) (a b : Nat) (h : b ≤ s.size) : (s ++ t).extract a b = s.extract a b := by
  apply ByteArray.ext
  rw [ByteArray.data_extract, ByteArray.data_extract, ByteArray.data_append]
  have hs : s.data.size = s.size := rfl
  apply Array.ext_getElem?
  intro i
  simp only [Array.getElem?_extract, Array.size_append, Array.getElem?_append]
  grind
theorem ext_app2 (s t : ByteArray) (a : Nat) (h : a ≤ s.size) : (s ++ t).extract a (s ++ t).size = s.extract a s.size ++ t := by
  apply ByteArray.ext
  rw [ByteArray.data_extract, ByteArray.data_append, ByteArray.data_append, ByteArray.data_extract, ByteArray.size_append]
  have hs : s.data.size = s.size := rfl
  have ht : t.data.size = t.size := rfl
  apply Array.ext_getElem?
  intro i
  simp only [Array.getElem?_extract, Array.size_append, Array.getElem?_append, Array.size_extract]
  grind
theorem ext_ext (s : ByteArray) (a b : Nat) (h : a + b ≤ s.size) : (s.extract a s.size).extract b (s.extract a s.size).size = s.extract (a + b) s.size := by
  apply ByteArray.ext
  simp only [ByteArray.data_extract, ByteArray.size_extract]
  have hs : s.data.size = s.size := rfl
  apply Array.ext_getElem?
  intro i
  simp only [Array.getElem?_extract, Array.size_extract]
  grind

theorem scan_st (s t : ByteArray) (w : Int) (h0 : 0 < s.size) : ∀ (f : Nat) (i : Int), 1 ≤ i → scanV s w f i ≠ some 0 → scanV (s ++ t) w f i = scanV s w f i := by
  intro f
  induction f with
  | zero => intro i _ _; rfl
  | succ f ih =>
    intro i h1 hn
    unfold scanV at hn ⊢
    by_cases hi : i < w
    · rw [if_pos hi] at hn ⊢
      rw [if_pos hi]
      by_cases hz : (s.size : Int) ≤ i
      · rw [if_pos hz] at hn; exact absurd rfl hn
      · rw [if_neg hz] at hn ⊢
        rw [if_neg (by rw [ByteArray.size_append]; omega), byteAt_app s t 0 (by omega) (by omega), byteAt_app s t i (by omega) (by omega)]
        by_cases hv : follV (byteAt s 0) i (byteAt s i) = true
        · rw [if_pos hv] at hn ⊢
          rw [if_pos hv]
          exact ih (i + 1) (by omega) hn
        · rw [if_neg hv, if_neg hv]
    · rw [if_neg hi, if_neg hi]
theorem rest_st (s t : ByteArray) (w : Int) (h0 : 0 < s.size) (h2 : 2 ≤ w) (h4 : w ≤ 4) (hn : (restV s w).2.2.2 ≠ 0) : restV (s ++ t) w = restV s w := by
  have hne : scanV s w 4 1 ≠ some 0 := by
    intro he
    apply hn
    unfold restV
    rw [he]
  have e := scan_st s t w h0 4 1 (by omega) hne
  unfold restV
  rw [e]
  have hb := scanV_n s w 4 1 (by omega)
  cases hs : scanV s w 4 1 with
  | some n => rfl
  | none =>
    rw [hs] at hb
    simp only [] at hb
    have := hb (by omega) (by omega)
    have : codeV (s ++ t) w = codeV s w := by
      unfold codeV
      rw [ext_app s t 0 w.toNat (by omega)]
    simp only [this]
theorem plain_st (s t : ByteArray) (h0 : 0 < s.size) (hn : (plainV s).2.2.2 ≠ 0) : plainV (s ++ t) = plainV s := by
  unfold plainV at hn ⊢
  rw [byteAt_app s t 0 (by omega) (by omega)]
  split
  · rfl
  · rename_i hc
    rw [if_neg hc] at hn
    split
    · rfl
    · rename_i hc
      rw [if_neg hc] at hn
      split
      · rename_i hc; rw [if_pos hc] at hn; exact rest_st s t 2 h0 (by omega) (by omega) hn
      · rename_i hc
        rw [if_neg hc] at hn
        split
        · rename_i hc; rw [if_pos hc] at hn; exact rest_st s t 3 h0 (by omega) (by omega) hn
        · rename_i hc
          rw [if_neg hc] at hn
          split
          · rename_i hc; rw [if_pos hc] at hn; exact rest_st s t 4 h0 (by omega) (by omega) hn
          · rfl
theorem bare_st (s t : ByteArray) (h0 : 0 < s.size) (hn : (bareV s).2.2.2 ≠ 0) : bareV (s ++ t) = bareV s := by
  unfold bareV at hn ⊢
  rw [byteAt_app s t 0 (by omega) (by omega)]
  split
  · rename_i hc
    rw [if_pos hc] at hn
    by_cases h1 : (s.size : Int) = 1
    · rw [if_pos h1] at hn; exact absurd rfl hn
    · rw [if_neg h1] at hn ⊢
      rw [if_neg (by rw [ByteArray.size_append]; omega), byteAt_app s t 1 (by omega) (by omega)]
      split
      · rfl
      · rename_i hc
        rw [if_neg hc] at hn
        have e : (s ++ t).extract ((1 : Int).toNat) (s ++ t).size = s.extract ((1 : Int).toNat) s.size ++ t := ext_app2 s t 1 (by omega)
        have hsz : (s.extract ((1 : Int).toNat) s.size).size = s.size - 1 := by rw [ByteArray.size_extract]; omega
        by_cases hz : (plainV (s.extract ((1 : Int).toNat) s.size)).2.2.2 = 0
        · rw [if_pos hz] at hn; exact absurd rfl hn
        · rw [e, plain_st _ t (by omega) hz]
  · rename_i hc
    rw [if_neg hc] at hn
    exact plain_st s t h0 hn
theorem seqL_st (s t : ByteArray) : ∀ (f : Nat) (i : Int) (r), 2 ≤ i → seqL s f i = some r → ∀ f', f ≤ f' → seqL (s ++ t) f' i = some r := by
  intro f
  induction f with
  | zero => intro i r _ hr; unfold seqL at hr; cases hr
  | succ f ih =>
    intro i r h2 hr f' hf'
    obtain ⟨g, rfl⟩ : ∃ g, f' = g + 1 := ⟨f' - 1, by omega⟩
    unfold seqL at hr ⊢
    by_cases hi : i < (s.size : Int)
    · rw [if_pos hi] at hr
      rw [if_pos (by rw [ByteArray.size_append]; omega), byteAt_app s t i (by omega) (by omega)]
      split
      · rename_i hc; rw [if_pos hc] at hr; exact hr
      · rename_i hc
        rw [if_neg hc] at hr
        split
        · rename_i hc
          rw [if_pos hc] at hr
          rw [ext_app s t 2 (i + 1).toNat (by omega)]
          exact hr
        · rename_i hc
          rw [if_neg hc] at hr
          split
          · rename_i hc; rw [if_pos hc] at hr; exact hr
          · rename_i hc
            rw [if_neg hc] at hr
            exact ih (i + 1) r (by omega) hr g (by omega)
    · rw [if_neg hi] at hr; cases hr
theorem seqL_none (s t : ByteArray) : ∀ (f : Nat) (i : Int), 2 ≤ i → i ≤ s.size → i ≤ 256 → s.size - i ≤ f → seqL s f i = none → s.size ≤ 256 ∧ (s.size = 256 → ∀ f' : Nat, (s ++ t).size - i ≤ f' → seqL (s ++ t) f' i = if 256 < (s ++ t).size then some (0, 0, false, 256) else none) := by
  intro f
  induction f with
  | zero =>
    intro i h2 hi h3 hf hr
    refine ⟨by omega, fun hs f' hf' => ?_⟩
    by_cases hl : 256 < (s ++ t).size
    · obtain ⟨g, rfl⟩ : ∃ g, f' = g + 1 := ⟨f' - 1, by omega⟩
      unfold seqL
      rw [if_pos (by omega), if_pos (by omega), if_pos hl]
    · rw [if_neg hl]
      cases f' with
      | zero => rfl
      | succ g => unfold seqL; rw [if_neg (by omega)]
  | succ f ih =>
    intro i h2 hi h3 hf hr
    by_cases hlt : i < (s.size : Int)
    · unfold seqL at hr
      rw [if_pos hlt] at hr
      by_cases h256 : 256 ≤ i
      · rw [if_pos h256] at hr; cases hr
      · rw [if_neg h256] at hr
        split at hr
        · cases hr
        · rename_i hc1
          split at hr
          · cases hr
          · rename_i hc2
            obtain ⟨q1, q2⟩ := ih (i + 1) (by omega) (by omega) (by omega) (by omega) hr
            refine ⟨q1, fun hs f' hf' => ?_⟩
            have : (s ++ t).size = s.size + t.size := ByteArray.size_append ..
            obtain ⟨g, rfl⟩ : ∃ g, f' = g + 1 := ⟨f' - 1, by omega⟩
            rw [← q2 hs g (by omega)]
            conv => lhs; unfold seqL
            rw [if_pos (by omega), if_neg h256, byteAt_app s t i (by omega) (by omega), if_neg hc1, if_neg hc2]
    · refine ⟨by omega, fun hs f' hf' => ?_⟩
      by_cases hl : 256 < (s ++ t).size
      · obtain ⟨g, rfl⟩ : ∃ g, f' = g + 1 := ⟨f' - 1, by omega⟩
        unfold seqL
        rw [if_pos (by omega), if_pos (by omega), if_pos hl]
      · rw [if_neg hl]
        cases f' with
        | zero => rfl
        | succ g => unfold seqL; rw [if_neg (by omega)]
theorem sequence_st (s t : ByteArray) (h0 : 1 < s.size) (hn : (sequenceV s).2.2.2 ≠ 0) : sequenceV (s ++ t) = sequenceV s := by
  have hsz : (s ++ t).size = s.size + t.size := ByteArray.size_append ..
  unfold sequenceV at hn ⊢
  cases hr : seqL s s.size 2 with
  | some r =>
    rw [seqL_st s t _ 2 r (by omega) hr (s ++ t).size (by omega)]
  | none =>
    rw [hr] at hn
    simp only [] at hn
    by_cases h256 : 256 ≤ (s.size : Int)
    · rw [if_pos h256] at hn
      obtain ⟨q1, q2⟩ := seqL_none s t s.size 2 (by omega) (by omega) (by omega) (by omega) hr
      have e := q2 (by omega) (s ++ t).size (by omega)
      rw [e]
      simp only [if_pos h256]
      split
      · rename_i r he
        split at he
        · exact (Option.some.inj he).symm
        · cases he
      · rename_i he
        rw [if_pos (by omega)]
    · rw [if_neg h256] at hn; exact absurd rfl hn
theorem next_st (s t : ByteArray) (h0 : 0 < s.size) (hn : (nextV s).2.2.2 ≠ 0) : nextV (s ++ t) = nextV s := by
  have hsz : (s ++ t).size = s.size + t.size := ByteArray.size_append ..
  unfold nextV at hn ⊢
  rw [byteAt_app s t 0 (by omega) (by omega)]
  by_cases h1 : 1 < (s.size : Int)
  · rw [if_pos h1] at hn ⊢
    rw [if_pos (by omega), byteAt_app s t 1 (by omega) (by omega)]
    split
    · rename_i hc
      rw [if_pos hc] at hn
      split
      · rename_i hc
        rw [if_pos hc] at hn
        exact sequence_st s t (by omega) hn
      · rename_i hc
        rw [if_neg hc] at hn
        split
        · rename_i hc
          rw [if_pos hc] at hn
          by_cases h3 : (s.size : Int) < 3
          · rw [if_pos h3] at hn; exact absurd rfl hn
          · rw [if_neg h3, if_neg (by omega), byteAt_app s t 2 (by omega) (by omega)]
        · rename_i hc
          rw [if_neg hc] at hn
          exact bare_st s t h0 hn
    · rename_i hc
      rw [if_neg hc] at hn
      exact bare_st s t h0 hn
  · rw [if_neg h1] at hn ⊢
    have hb := bare_st s t h0 hn
    have h27 : byteAt s 0 ≠ 27 := by
      intro he
      apply hn
      unfold bareV
      rw [if_pos he, if_pos (by omega)]
    split
    · first | exact hb | (rw [if_neg h27]; exact hb)
    · exact hb

/-! ### feedV, a step at a time -/
theorem feedL_fuel : ∀ (f g : Nat) (s : ByteArray) (acc : List (Int × Int)), s.size < f → s.size < g → (s.size : Int) < 9223372036854775807 → feedL f s acc = feedL g s acc := by
  intro f
  induction f with
  | zero => intro g s acc hf; omega
  | succ f ih =>
    intro g s acc hf hg hs
    obtain ⟨g, rfl⟩ : ∃ k, g = k + 1 := ⟨g - 1, by omega⟩
    unfold feedL
    split
    · rename_i hne
      have hpos := ne_empty hne
      split
      · rfl
      · rename_i hc
        have hI : nextI s = nextV s := by unfold nextI; rfl
        rw [hI] at hc ⊢
        have hn := nextV_n s hpos hs
        have hsz : (s.extract (nextV s).2.2.2.toNat s.size).size = s.size - (nextV s).2.2.2.toNat := by rw [ByteArray.size_extract]; omega
        exact ih g _ _ (by omega) (by omega) (by omega)
    · rfl
theorem feedL_acc : ∀ (f : Nat) (s : ByteArray) (acc : List (Int × Int)), feedL f s acc = (acc ++ (feedL f s []).1, (feedL f s []).2) := by
  intro f
  induction f with
  | zero => intro s acc; simp [feedL]
  | succ f ih =>
    intro s acc
    unfold feedL
    split
    · split
      · simp
      · split
        · rw [ih _ (acc ++ _), ih _ ([] ++ _)]; simp
        · rw [ih _ acc]
    · simp
theorem feedV_empty (s : ByteArray) (h : s.size = 0) : feedV s = ([], s) := by
  unfold feedV feedL
  have : s.data.toList = [] := List.eq_nil_of_length_eq_zero h
  simp [this]
theorem feedV_step (s : ByteArray) (h : 0 < s.size) (hs : (s.size : Int) < 9223372036854775807) : feedV s = if (nextV s).2.2.2 = 0 then ([], s)
    else ((if (nextV s).2.2.1 = true then [((nextV s).1, (nextV s).2.1)] else []) ++ (feedV (s.extract (nextV s).2.2.2.toNat s.size)).1, (feedV (s.extract (nextV s).2.2.2.toNat s.size)).2) := by
  have hne : (!(s.data.toList == (⟨#[]⟩ : ByteArray).data.toList)) = true := by
    cases hd : s.data.toList with
    | nil => exact absurd (show s.data.toList.length = 0 by rw [hd]; rfl) (by show s.size ≠ 0; omega)
    | cons a l => rfl
  have hI : nextI s = nextV s := by unfold nextI; rfl
  conv => lhs; unfold feedV feedL
  rw [if_pos hne, hI]
  split
  · rfl
  · rename_i hc
    have hn := nextV_n s h hs
    have hsz : (s.extract (nextV s).2.2.2.toNat s.size).size = s.size - (nextV s).2.2.2.toNat := by rw [ByteArray.size_extract]; omega
    have hlt : (s.extract (nextV s).2.2.2.toNat s.size).size < s.size := by omega
    have hlt2 : ((s.extract (nextV s).2.2.2.toNat s.size).size : Int) < 9223372036854775807 := by omega
    rw [feedL_acc, feedL_fuel s.size ((s.extract (nextV s).2.2.2.toNat s.size).size + 1) _ _ hlt (Nat.lt_succ_self _) hlt2]
    simp [feedV]
theorem feed_split : ∀ (n : Nat) (s t : ByteArray), s.size ≤ n → ((s ++ t).size : Int) < 9223372036854775807 →
    feedV (s ++ t) = ((feedV s).1 ++ (feedV ((feedV s).2 ++ t)).1, (feedV ((feedV s).2 ++ t)).2) := by
  intro n
  induction n with
  | zero =>
    intro s t hs hb
    rw [feedV_empty s (by omega)]
    simp
  | succ n ih =>
    intro s t hs hb
    have hsz : (s ++ t).size = s.size + t.size := ByteArray.size_append ..
    by_cases h0 : s.size = 0
    · rw [feedV_empty s h0]; simp
    rw [feedV_step s (by omega) (by omega)]
    by_cases hc : (nextV s).2.2.2 = 0
    · rw [if_pos hc]; simp
    · rw [if_neg hc]
      have hn := nextV_n s (by omega) (by omega)
      have hst := next_st s t (by omega) hc
      rw [feedV_step (s ++ t) (by omega) hb, hst, if_neg hc, ext_app2 s t _ (by omega)]
      have hsz2 : (s.extract (nextV s).2.2.2.toNat s.size).size = s.size - (nextV s).2.2.2.toNat := by rw [ByteArray.size_extract]; omega
      rw [ih (s.extract (nextV s).2.2.2.toNat s.size) t (by omega) (by rw [ByteArray.size_append]; omega)]
      simp
theorem feed_suffix : ∀ (n : Nat) (s : ByteArray), s.size ≤ n → (s.size : Int) < 9223372036854775807 → (feedV s).2.size ≤ s.size ∧ s.extract (s.size - (feedV s).2.size) s.size = (feedV s).2 := by
  intro n
  have triv : ∀ s : ByteArray, s.extract (s.size - s.size) s.size = s := by intro s; simp
  induction n with
  | zero =>
    intro s hs hb
    rw [feedV_empty s (by omega)]
    exact ⟨Nat.le_refl _, triv s⟩
  | succ n ih =>
    intro s hs hb
    by_cases h0 : s.size = 0
    · rw [feedV_empty s h0]; exact ⟨Nat.le_refl _, triv s⟩
    rw [feedV_step s (by omega) hb]
    by_cases hc : (nextV s).2.2.2 = 0
    · rw [if_pos hc]; exact ⟨Nat.le_refl _, triv s⟩
    · rw [if_neg hc]
      have hn := nextV_n s (by omega) hb
      have hsz2 : (s.extract (nextV s).2.2.2.toNat s.size).size = s.size - (nextV s).2.2.2.toNat := by rw [ByteArray.size_extract]; omega
      obtain ⟨h1, h2⟩ := ih (s.extract (nextV s).2.2.2.toNat s.size) (by omega) (by omega)
      simp only []
      refine ⟨by omega, ?_⟩
      rw [ext_ext _ _ _ (by omega)] at h2
      rw [show s.size - (feedV (s.extract (nextV s).2.2.2.toNat s.size)).2.size = (nextV s).2.2.2.toNat + ((s.extract (nextV s).2.2.2.toNat s.size).size - (feedV (s.extract (nextV s).2.2.2.toNat s.size)).2.size) by omega]
      exact h2
end Go.Proofs.YtkbpnmgkdodcmaaDoor.M
