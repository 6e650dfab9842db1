import Derived.Test.YtkbpnmgkdodcmaaDoorD4
set_option linter.unusedVariables false
set_option linter.unusedSimpArgs false
set_option maxRecDepth 100000
namespace Go.Proofs.YtkbpnmgkdodcmaaDoor.M
open Go Go.Hp

/-- A beginning of a character that wants more. -/
def PreV (s : ByteArray) : Prop := ∃ w, leadV (byteAt s 0) w ∧ (s.size : Int) < w ∧ (1 < (s.size : Int) → follV (byteAt s 0) 1 (byteAt s 1) = true) ∧ (2 < (s.size : Int) → follV (byteAt s 0) 2 (byteAt s 2) = true)
theorem first_some {t : ByteArray} (hb : 128 ≤ byteAt t 0) (h : (firstV t).2.2 = true) : ∃ w, FullAt t w ∧ (firstV t).2.1 = w := by
  by_cases hf : ∃ w, FullAt t w
  · obtain ⟨w, hw⟩ := hf
    exact ⟨w, hw, by rw [first_full hb hw]⟩
  · rw [first_none hb (fun w hw => hf ⟨w, hw⟩)] at h
    cases h
theorem pre_of {s t x : ByteArray} (hs : 0 < s.size) (hx : 0 < x.size) (ht : t = s ++ x) (h : FullAt t t.size) : PreV s := by
  subst ht
  obtain ⟨hl, _, f1, f2, f3⟩ := h
  rw [byteAt_app s x 0 (by omega) (by omega)] at hl f1 f2 f3
  have hsz : (s ++ x).size = s.size + x.size := ByteArray.size_append ..
  refine ⟨_, hl, by omega, fun h1 => ?_, fun h2 => ?_⟩
  · rw [byteAt_app s x 1 (by omega) (by omega)] at f1; exact f1
  · rw [byteAt_app s x 2 (by omega) (by omega)] at f2; exact f2 (by omega)
theorem g2_pre {s : ByteArray} {fill : ByteArray} (hs : 0 < s.size) (hb : 128 ≤ byteAt s 0) : ∀ (f : Nat) (t x : ByteArray) (n : Int), t = s ++ x → 0 < x.size → g2 fill f t n = true → PreV s := by
  intro f
  induction f with
  | zero => intro t x n ht hx h; cases h
  | succ f ih =>
    intro t x n ht hx h
    unfold g2 at h
    split at h
    · split at h
      · rename_i hc
        simp only [Bool.and_eq_true, decide_eq_true_eq] at hc
        have hbt : 128 ≤ byteAt t 0 := by rw [ht, byteAt_app s x 0 (by omega) (by omega)]; exact hb
        obtain ⟨w, hw, he⟩ := first_some hbt hc.1
        rw [hc.2] at he
        subst he
        exact pre_of hs hx ht hw
      · exact ih _ (x ++ fill) (n + 1) (by rw [ht, ByteArray.append_assoc]) (by rw [ByteArray.size_append]; omega) h
    · cases h
theorem g1_pre {s x : ByteArray} (hs : 0 < s.size) (hb : 128 ≤ byteAt s 0) (hx : 0 < x.size) : ∀ (f : Nat) (j : Int), g1 (s ++ x) f j = true → PreV s := by
  intro f
  induction f with
  | zero => intro j h; cases h
  | succ f ih =>
    intro j h
    unfold g1 at h
    split at h
    · split at h
      · rename_i hg; exact g2_pre hs hb 4 _ x _ rfl hx hg
      · exact ih (j + 1) h
    · cases h
theorem low_size {i : Int} (h0 : 0 ≤ i) (h1 : i < 6) : (lowB.extract i.toNat (i + 1).toNat).size = 1 := by
  have hz : lowB.size = 6 := rfl
  rw [ByteArray.size_extract]; omega
theorem g0_pre {s : ByteArray} (hs : 0 < s.size) (hb : 128 ≤ byteAt s 0) : ∀ (f : Nat) (i : Int), 0 ≤ i → g0 s f i = true → PreV s := by
  intro f
  induction f with
  | zero => intro i _ h; cases h
  | succ f ih =>
    intro i h0 h
    unfold g0 at h
    split at h
    · rename_i hi
      split at h
      · rename_i hg; exact g1_pre hs hb (by rw [low_size h0 hi]; omega) 2 0 hg
      · exact ih (i + 1) (by omega) h
    · cases h
theorem grows_pre {s : ByteArray} (hs : 0 < s.size) (hb : 128 ≤ byteAt s 0) (h : growsV s = true) : PreV s := by
  unfold growsV at h
  split at h
  · cases h
  · exact g0_pre hs hb 6 0 (by omega) h
end Go.Proofs.YtkbpnmgkdodcmaaDoor.M
