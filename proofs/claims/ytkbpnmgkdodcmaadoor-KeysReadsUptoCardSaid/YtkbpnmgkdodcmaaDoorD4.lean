import Derived.Test.YtkbpnmgkdodcmaaDoorD3
set_option linter.unusedVariables false
set_option linter.unusedSimpArgs false
set_option maxRecDepth 100000
namespace Go.Proofs.YtkbpnmgkdodcmaaDoor.M
open Go Go.Hp

def FullAt (s : ByteArray) (w : Int) : Prop := leadV (byteAt s 0) w ∧ w ≤ s.size ∧ follV (byteAt s 0) 1 (byteAt s 1) = true ∧ (2 < w → follV (byteAt s 0) 2 (byteAt s 2) = true) ∧ (3 < w → follV (byteAt s 0) 3 (byteAt s 3) = true)
theorem okp {s : ByteArray} {n : Int} (h1 : 1 ≤ n) (h4 : n ≤ 4) (hn : n ≤ s.size) (hb : 128 ≤ byteAt s 0) : okV (s.extract 0 n.toNat) = true ↔ FullAt s n := by
  have hse : (s.extract 0 n.toNat).size = n.toNat := by rw [ByteArray.size_extract]; omega
  have be : ∀ k : Int, 0 ≤ k → k < n → byteAt (s.extract 0 n.toNat) k = byteAt s k := by
    intro k k0 k1
    rw [byteAt_ext s 0 n.toNat k k0 (by omega) (by omega)]
    congr 1
    omega
  have b0 := be 0 (by omega) (by omega)
  unfold FullAt leadV
  have : n = 1 ∨ n = 2 ∨ n = 3 ∨ n = 4 := by omega
  rcases this with rfl | rfl | rfl | rfl
  · rw [ok1 hse, b0]
    constructor
    · intro h; omega
    · rintro ⟨h, _⟩; omega
  · rw [ok2 hse, b0, be 1 (by omega) (by omega), foll1_iff]
    constructor
    · intro h; refine ⟨by omega, hn, by omega, fun h => by omega, fun h => by omega⟩
    · rintro ⟨h, _, h2, _⟩; omega
  · rw [ok3 hse, b0, be 1 (by omega) (by omega), be 2 (by omega) (by omega)]
    constructor
    · rintro ⟨h, h2, h3⟩; exact ⟨by omega, hn, h2, fun _ => (foll2 (by omega)).2 h3, fun h => by omega⟩
    · rintro ⟨h, _, h2, h3, _⟩; exact ⟨by omega, h2, (foll2 (by omega)).1 (h3 (by omega))⟩
  · rw [ok4 hse, b0, be 1 (by omega) (by omega), be 2 (by omega) (by omega), be 3 (by omega) (by omega)]
    constructor
    · rintro ⟨h, h2, h3, h4⟩; exact ⟨by omega, hn, h2, fun _ => (foll2 (by omega)).2 h3, fun _ => (foll2 (by omega)).2 h4⟩
    · rintro ⟨h, _, h2, h3, h4⟩; exact ⟨by omega, h2, (foll2 (by omega)).1 (h3 (by omega)), (foll2 (by omega)).1 (h4 (by omega))⟩
theorem full_w {s : ByteArray} {w v : Int} (h : FullAt s w) (h2 : leadV (byteAt s 0) v) : v = w := by
  unfold FullAt leadV at h
  unfold leadV at h2
  omega
theorem worth_full {s : ByteArray} {w : Int} (h : FullAt s w) : worthV (s.extract 0 w.toNat) = valV s w := by
  obtain ⟨hl, hn, f1, f2, f3⟩ := h
  have g1 := foll1 f1
  have hw : w = 2 ∨ w = 3 ∨ w = 4 := by unfold leadV at hl; omega
  have hse : (s.extract 0 w.toNat).size = w.toNat := by rw [ByteArray.size_extract]; omega
  have be : ∀ k : Int, 0 ≤ k → k < w → byteAt (s.extract 0 w.toNat) k = byteAt s k := by
    intro k k0 k1
    rw [byteAt_ext s 0 w.toNat k k0 (by omega) (by omega)]
    congr 1
    omega
  have b0 := be 0 (by omega) (by omega)
  have b1 := be 1 (by omega) (by omega)
  unfold leadV at hl
  unfold valV
  rcases hw with rfl | rfl | rfl
  · rw [worth2 hse, b0, b1, if_pos (by omega), if_pos rfl]
  · have g2 := (foll2 (by omega)).1 (f2 (by omega))
    rw [worth3 hse, b0, b1, be 2 (by omega) (by omega), if_pos (by omega), if_neg (by omega), if_pos rfl]
  · have g2 := (foll2 (by omega)).1 (f2 (by omega))
    have g3 := (foll2 (by omega)).1 (f3 (by omega))
    rw [worth4 hse, b0, b1, be 2 (by omega) (by omega), be 3 (by omega) (by omega), if_pos (by omega), if_neg (by omega), if_neg (by omega)]
theorem fL_full {s : ByteArray} {w : Int} (hb : 128 ≤ byteAt s 0) (h : FullAt s w) : ∀ (f : Nat) (n : Int), 1 ≤ n → n ≤ w → w - n < f → fL s f n = (valV s w, w, true) := by
  intro f
  have hw : w ≤ 4 ∧ w ≤ s.size := by have h1 := h.1; have h2 := h.2.1; unfold leadV at h1; omega
  induction f with
  | zero => intro n h1 h2 h3; omega
  | succ f ih =>
    intro n h1 h2 h3
    unfold fL
    rw [if_pos (by simp only [Bool.and_eq_true, decide_eq_true_eq]; omega)]
    split
    · rename_i hok
      have hf := (okp h1 (by omega) (by omega) hb).1 hok
      obtain rfl := full_w h hf.1
      rw [worth_full h]
    · rename_i hok
      by_cases he : n = w
      · subst he
        exact absurd ((okp h1 (by omega) (by omega) hb).2 h) hok
      · exact ih (n + 1) (by omega) (by omega) (by omega)
theorem first_full {s : ByteArray} {w : Int} (hb : 128 ≤ byteAt s 0) (h : FullAt s w) : firstV s = (valV s w, w, true) := by
  have hw : w ≤ 4 ∧ 1 ≤ w := by have h1 := h.1; unfold leadV at h1; omega
  exact fL_full hb h 4 1 (by omega) (by omega) (by omega)
theorem fL_none {s : ByteArray} (hb : 128 ≤ byteAt s 0) (h : ∀ w, ¬ FullAt s w) : ∀ (f : Nat) (n : Int), 1 ≤ n → fL s f n = (0, 0, false) := by
  intro f
  induction f with
  | zero => intro n h1; rfl
  | succ f ih =>
    intro n h1
    unfold fL
    split
    · rename_i hc
      simp only [Bool.and_eq_true, decide_eq_true_eq] at hc
      rw [if_neg (fun hok => h n ((okp h1 hc.1 hc.2 hb).1 hok))]
      exact ih (n + 1) (by omega)
    · rfl
theorem first_none {s : ByteArray} (hb : 128 ≤ byteAt s 0) (h : ∀ w, ¬ FullAt s w) : firstV s = (0, 0, false) := fL_none hb h 4 1 (by omega)
theorem full_scan {s : ByteArray} {w : Int} (hl : leadV (byteAt s 0) w) (h : scanV s w 4 1 = none) : FullAt s w := ⟨hl, scan_full hl h⟩
end Go.Proofs.YtkbpnmgkdodcmaaDoor.M
