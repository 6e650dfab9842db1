import Derived.Test.YtkbpnmgkdodcmaaDoorD5
set_option linter.unusedVariables false
set_option linter.unusedSimpArgs false
set_option maxRecDepth 100000
namespace Go.Proofs.YtkbpnmgkdodcmaaDoor.M
open Go Go.Hp

theorem byteAt_app2 (s t : ByteArray) (i : Int) (h1 : s.size ≤ i) : byteAt (s ++ t) i = byteAt t (i - s.size) := by
  unfold byteAt
  congr 2
  have hs : s.data.size = s.size := rfl
  rw [ByteArray.data_append, Array.getD_eq_getD_getElem?, Array.getD_eq_getD_getElem?, Array.getElem?_append_right (by omega), hs, show (i - s.size : Int).toNat = i.toNat - s.size by omega]
theorem g2_hit {fill t : ByteArray} {f : Nat} (hb : 128 ≤ byteAt t 0) (h4 : t.size ≤ 4) (h : FullAt t t.size) : g2 fill (f + 1) t t.size = true := by
  unfold g2
  rw [if_pos (by omega), first_full hb h, if_pos (by simp)]
theorem g2_step {fill t : ByteArray} {f : Nat} {n : Int} (h4 : n ≤ 4) (h : g2 fill f (t ++ fill) (n + 1) = true) : g2 fill (f + 1) t n = true := by
  unfold g2
  rw [if_pos h4]
  split
  · rfl
  · exact h
theorem g1_of {t : ByteArray} (h : g2 ⟨#[128]⟩ 4 t t.size = true) : g1 t 2 0 = true := by
  unfold g1
  rw [if_pos (by omega), if_pos (show g2 (fillL.getD (0 : Int).toNat ⟨#[]⟩) 4 t t.size = true from h)]
theorem g0_of {s : ByteArray} {k : Int} (hk : k < 6) (h : g1 (s ++ lowB.extract k.toNat (k + 1).toNat) 2 0 = true) : ∀ (f : Nat) (i : Int), i ≤ k → k - i < f → g0 s f i = true := by
  intro f
  induction f with
  | zero => intro i h1 h2; omega
  | succ f ih =>
    intro i h1 h2
    unfold g0
    rw [if_pos (by omega)]
    by_cases he : i = k
    · subst he; rw [if_pos h]
    · split
      · rfl
      · exact ih (i + 1) (by omega) (by omega)
theorem fill_up {s x : ByteArray} {w : Int} (hl : leadV (byteAt s 0) w) (hb : 128 ≤ byteAt s 0) (hs : 0 < s.size) (hw : s.size < w) (hx : x.size = 1) (x0 : 128 ≤ byteAt x 0 ∧ byteAt x 0 ≤ 191)
    (f1 : 1 < (s.size : Int) → follV (byteAt s 0) 1 (byteAt s 1) = true) (f2 : 2 < (s.size : Int) → follV (byteAt s 0) 2 (byteAt s 2) = true) (g : (s.size : Int) = 1 → follV (byteAt s 0) 1 (byteAt x 0) = true) :
    g2 ⟨#[128]⟩ 4 (s ++ x) (s ++ x).size = true := by
  have hw4 : w = 2 ∨ w = 3 ∨ w = 4 := by unfold leadV at hl; omega
  have hF : (⟨#[128]⟩ : ByteArray).size = 1 := rfl
  have hF0 : byteAt (⟨#[128]⟩ : ByteArray) 0 = 128 := rfl
  -- the text with so many bytes 0x80 behind it
  have full : ∀ y : ByteArray, (∀ k : Int, 0 ≤ k → k < y.size → byteAt y k = 128) → ((s ++ x ++ y).size : Int) = w → FullAt (s ++ x ++ y) (s ++ x ++ y).size ∧ 128 ≤ byteAt (s ++ x ++ y) 0 := by
    intro y hy hsz
    have e1 : (s ++ x).size = s.size + 1 := by rw [ByteArray.size_append, hx]
    have e2 : (s ++ x ++ y).size = s.size + 1 + y.size := by rw [ByteArray.size_append, e1]
    have b : ∀ k : Int, 0 ≤ k → k < w → byteAt (s ++ x ++ y) k = if k < s.size then byteAt s k else if k = s.size then byteAt x 0 else 128 := by
      intro k k0 k1
      split
      · rw [byteAt_app _ _ _ k0 (by omega), byteAt_app _ _ _ k0 (by omega)]
      · split
        · rename_i he
          rw [byteAt_app _ _ _ k0 (by omega), byteAt_app2 _ _ _ (by omega), he]
          congr 1
          omega
        · rw [byteAt_app2 _ _ _ (by omega)]
          exact hy _ (by omega) (by omega)
    have b0 := b 0 (by omega) (by omega)
    rw [if_pos (by omega)] at b0
    refine ⟨⟨by rw [b0, hsz]; exact hl, Int.le_refl _, ?_, fun h2 => ?_, fun h3 => ?_⟩, by rw [b0]; exact hb⟩
    · rw [b0, b 1 (by omega) (by omega)]
      split
      · exact f1 (by omega)
      · rw [if_pos (by omega)]; exact g (by omega)
    · rw [b0, b 2 (by omega) (by omega)]
      split
      · exact f2 (by omega)
      · rw [foll2 (by omega)]
        split <;> omega
    · rw [b0, b 3 (by omega) (by omega), foll2 (by omega), if_neg (by omega)]
      split <;> omega
  have e1 : (s ++ x).size = s.size + 1 := by rw [ByteArray.size_append, hx]
  have hy0 : ∀ k : Int, 0 ≤ k → k < (⟨#[]⟩ : ByteArray).size → byteAt (⟨#[]⟩ : ByteArray) k = 128 := by
    intro k k0 k1; have : (⟨#[]⟩ : ByteArray).size = 0 := rfl; omega
  have hy1 : ∀ k : Int, 0 ≤ k → k < (⟨#[128]⟩ : ByteArray).size → byteAt (⟨#[128]⟩ : ByteArray) k = 128 := by
    intro k k0 k1
    obtain rfl : k = 0 := by omega
    rfl
  have hy2 : ∀ k : Int, 0 ≤ k → k < ((⟨#[128]⟩ : ByteArray) ++ ⟨#[128]⟩).size → byteAt ((⟨#[128]⟩ : ByteArray) ++ ⟨#[128]⟩) k = 128 := by
    intro k k0 k1
    rw [ByteArray.size_append] at k1
    have : k = 0 ∨ k = 1 := by omega
    rcases this with rfl | rfl <;> decide +kernel
  have hd : w = s.size + 1 ∨ w = s.size + 2 ∨ w = s.size + 3 := by omega
  rcases hd with hd | hd | hd
  · have := full ⟨#[]⟩ hy0 (by rw [ByteArray.size_append, e1]; have : (⟨#[]⟩ : ByteArray).size = 0 := rfl; omega)
    have e : s ++ x ++ (⟨#[]⟩ : ByteArray) = s ++ x := app_nil _
    rw [e] at this
    exact g2_hit this.2 (by omega) this.1
  · have e2 : (s ++ x ++ ⟨#[128]⟩).size = s.size + 2 := by rw [ByteArray.size_append, e1, hF]
    have := full ⟨#[128]⟩ hy1 (by omega)
    refine g2_step (by omega) ?_
    have e3 : ((s ++ x).size : Int) + 1 = ((s ++ x ++ ⟨#[128]⟩).size : Int) := by omega
    rw [e3]
    exact g2_hit this.2 (by omega) this.1
  · have e2 : (s ++ x ++ ⟨#[128]⟩).size = s.size + 2 := by rw [ByteArray.size_append, e1, hF]
    have e4 : (s ++ x ++ ⟨#[128]⟩ ++ ⟨#[128]⟩).size = s.size + 3 := by rw [ByteArray.size_append, e2, hF]
    have ea : s ++ x ++ (⟨#[128]⟩ ++ ⟨#[128]⟩) = s ++ x ++ ⟨#[128]⟩ ++ ⟨#[128]⟩ := by rw [ByteArray.append_assoc, ByteArray.append_assoc, ByteArray.append_assoc]
    have := full (⟨#[128]⟩ ++ ⟨#[128]⟩) hy2 (by rw [ea]; omega)
    rw [ea] at this
    refine g2_step (by omega) (g2_step (by omega) ?_)
    have e3 : ((s ++ x).size : Int) + 1 + 1 = ((s ++ x ++ ⟨#[128]⟩ ++ ⟨#[128]⟩).size : Int) := by omega
    rw [e3]
    exact g2_hit this.2 (by omega) this.1
theorem grows_of {s : ByteArray} (hs : 0 < s.size) (hb : 128 ≤ byteAt s 0) (h : PreV s) : growsV s = true := by
  obtain ⟨w, hl, hw, f1, f2⟩ := h
  have hw4 : w ≤ 4 := by unfold leadV at hl; omega
  unfold growsV
  rw [if_neg (by omega)]
  have l0 : lowB.extract (0 : Int).toNat ((0 : Int) + 1).toNat = ⟨#[128]⟩ := by decide +kernel
  have l1 : lowB.extract (1 : Int).toNat ((1 : Int) + 1).toNat = ⟨#[144]⟩ := by decide +kernel
  have l2 : lowB.extract (2 : Int).toNat ((2 : Int) + 1).toNat = ⟨#[160]⟩ := by decide +kernel
  by_cases h1 : byteAt s 0 = 224 ∧ (s.size : Int) = 1
  · refine g0_of (k := 2) (by omega) (g1_of ?_) 6 0 (by omega) (by omega)
    rw [l2]
    exact fill_up hl hb hs hw rfl (by decide +kernel) f1 f2 fun _ => by rw [h1.1]; decide +kernel
  by_cases h2 : byteAt s 0 = 240 ∧ (s.size : Int) = 1
  · refine g0_of (k := 1) (by omega) (g1_of ?_) 6 0 (by omega) (by omega)
    rw [l1]
    exact fill_up hl hb hs hw rfl (by decide +kernel) f1 f2 fun _ => by rw [h2.1]; decide +kernel
  · refine g0_of (k := 0) (by omega) (g1_of ?_) 6 0 (by omega) (by omega)
    rw [l0]
    refine fill_up hl hb hs hw rfl (by decide +kernel) f1 f2 fun h => ?_
    have e : byteAt (⟨#[128]⟩ : ByteArray) 0 = 128 := rfl
    rw [e, foll1_iff]
    omega
theorem grows_iff {s : ByteArray} (hs : 0 < s.size) (hb : 128 ≤ byteAt s 0) : growsV s = true ↔ PreV s := ⟨grows_pre hs hb, grows_of hs hb⟩
end Go.Proofs.YtkbpnmgkdodcmaaDoor.M
