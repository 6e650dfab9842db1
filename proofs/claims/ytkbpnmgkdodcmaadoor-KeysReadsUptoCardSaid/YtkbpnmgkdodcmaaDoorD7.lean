import Derived.Test.YtkbpnmgkdodcmaaDoorD6
set_option linter.unusedVariables false
set_option linter.unusedSimpArgs false
set_option maxRecDepth 100000
namespace Go.Proofs.YtkbpnmgkdodcmaaDoor.M
open Go Go.Hp

theorem scan_of_full {s : ByteArray} {w : Int} (h : FullAt s w) : scanV s w 4 1 = none := by
  obtain ⟨hl, hn, f1, f2, f3⟩ := h
  have hw : w = 2 ∨ w = 3 ∨ w = 4 := by unfold leadV at hl; omega
  unfold scanV
  rw [if_pos (by omega), if_neg (by omega), if_pos f1]
  unfold scanV
  by_cases h2 : (1 + 1 : Int) < w
  · rw [if_pos h2, if_neg (by omega), if_pos (show follV (byteAt s 0) (1 + 1) (byteAt s (1 + 1)) = true from f2 (by omega))]
    unfold scanV
    by_cases h3 : (1 + 1 + 1 : Int) < w
    · rw [if_pos h3, if_neg (by omega), if_pos (show follV (byteAt s 0) (1 + 1 + 1) (byteAt s (1 + 1 + 1)) = true from f3 (by omega))]
      unfold scanV
      rw [if_neg (by omega)]
    · rw [if_neg h3]
  · rw [if_neg h2]
theorem rest_full {s : ByteArray} {w : Int} (h : FullAt s w) : restV s w = (valV s w, 0, decide (160 ≤ valV s w), w) := by
  have hs := scan_of_full h
  unfold restV
  rw [hs, code_val h.1 hs]
theorem val_pos {s : ByteArray} {w : Int} (h : FullAt s w) : 0 < valV s w := by
  obtain ⟨hl, hn, f1, f2, f3⟩ := h
  have g1 := foll1 f1
  have hw : w = 2 ∨ w = 3 ∨ w = 4 := by unfold leadV at hl; omega
  unfold leadV at hl
  unfold valV
  rcases hw with rfl | rfl | rfl
  · rw [if_pos rfl]; omega
  · have g2 := (foll2 (by omega)).1 (f2 (by omega))
    rw [if_neg (by omega), if_pos rfl]; omega
  · have g2 := (foll2 (by omega)).1 (f2 (by omega))
    have g3 := (foll2 (by omega)).1 (f3 (by omega))
    rw [if_neg (by omega), if_neg (by omega)]; omega
/-- A beginning's own beginnings. -/
theorem pre_ext {s : ByteArray} {w k : Int} (hl : leadV (byteAt s 0) w) (k1 : 1 ≤ k) (hk : k < s.size) : PreV (s.extract 0 (k + 1).toNat) ↔ k + 1 < w ∧ follV (byteAt s 0) 1 (byteAt s 1) = true ∧ (2 ≤ k → follV (byteAt s 0) 2 (byteAt s 2) = true) := by
  have hse : (s.extract 0 (k + 1).toNat).size = (k + 1).toNat := by rw [ByteArray.size_extract]; omega
  have be : ∀ j : Int, 0 ≤ j → j < k + 1 → byteAt (s.extract 0 (k + 1).toNat) j = byteAt s j := by
    intro j j0 j1
    rw [byteAt_ext s 0 (k + 1).toNat j j0 (by omega) (by omega)]
    congr 1
    omega
  unfold PreV
  rw [hse, be 0 (by omega) (by omega), be 1 (by omega) (by omega)]
  constructor
  · rintro ⟨v, hv, h1, h2, h3⟩
    have : v = w := by unfold leadV at hl hv; omega
    subst this
    refine ⟨by omega, h2 (by omega), fun h => ?_⟩
    have := h3 (by omega)
    rwa [be 2 (by omega) (by omega)] at this
  · rintro ⟨h1, h2, h3⟩
    refine ⟨w, hl, by omega, fun _ => h2, fun h => ?_⟩
    rw [be 2 (by omega) (by omega)]
    exact h3 (by omega)
end Go.Proofs.YtkbpnmgkdodcmaaDoor.M
