import Derived.Test.YtkbpnmgkdodcmaaDoorB7
set_option linter.unusedVariables false
set_option linter.unusedSimpArgs false
set_option maxRecDepth 100000
namespace Go.Proofs.YtkbpnmgkdodcmaaDoor.M
open Go Go.Hp

/-! ### What a character's bytes are worth -/
def valV (s : ByteArray) (w : Int) : Int :=
  if w = 2 then (byteAt s 0 - 192) * 64 + (byteAt s 1 - 128)
  else if w = 3 then (byteAt s 0 - 224) * 4096 + (byteAt s 1 - 128) * 64 + (byteAt s 2 - 128)
  else (byteAt s 0 - 240) * 262144 + (byteAt s 1 - 128) * 4096 + (byteAt s 2 - 128) * 64 + (byteAt s 3 - 128)
/-- The first byte of a character of w bytes. -/
def leadV (b w : Int) : Prop := (w = 2 ∧ 194 ≤ b ∧ b ≤ 223) ∨ (w = 3 ∧ 224 ≤ b ∧ b ≤ 239) ∨ (w = 4 ∧ 240 ≤ b ∧ b ≤ 244)
theorem foll1 {b0 b : Int} (h : follV b0 1 b = true) : 128 ≤ b ∧ b ≤ 191 ∧ (b0 = 224 → 160 ≤ b) ∧ (b0 = 237 → b ≤ 159) ∧ (b0 = 240 → 144 ≤ b) ∧ (b0 = 244 → b ≤ 143) := by
  unfold follV at h
  rw [if_pos rfl] at h
  repeat' split at h
  all_goals (simp at h; omega)
theorem foll2 {b0 i b : Int} (hi : 1 < i) : follV b0 i b = true ↔ 128 ≤ b ∧ b ≤ 191 := by
  unfold follV
  rw [if_neg (by omega)]
  simp
/-- All of a character's bytes are there. -/
theorem scan_full {s : ByteArray} {w : Int} (hl : leadV (byteAt s 0) w) (h : scanV s w 4 1 = none) : w ≤ s.size ∧ follV (byteAt s 0) 1 (byteAt s 1) = true ∧ (2 < w → follV (byteAt s 0) 2 (byteAt s 2) = true) ∧ (3 < w → follV (byteAt s 0) 3 (byteAt s 3) = true) := by
  have hw : w = 2 ∨ w = 3 ∨ w = 4 := by unfold leadV at hl; omega
  unfold scanV at h
  rw [if_pos (by omega)] at h
  split at h
  · cases h
  split at h
  · rename_i hz hf
    refine ⟨?_, hf, ?_⟩ <;> unfold scanV at h
    · split at h
      · split at h
        · cases h
        split at h
        · unfold scanV at h
          split at h
          · split at h
            · cases h
            split at h
            · omega
            · cases h
          · omega
        · cases h
      · omega
    · split at h
      · split at h
        · cases h
        split at h
        · rename_i h2
          refine ⟨fun _ => h2, fun h3 => ?_⟩
          unfold scanV at h
          rw [if_pos (by omega)] at h
          split at h
          · cases h
          split at h
          · rename_i h3; exact h3
          · cases h
        · cases h
      · exact ⟨fun _ => by omega, fun _ => by omega⟩
  · cases h
theorem get_byte (s : ByteArray) (k : Nat) (h : k < s.size) : ((s.get! k).toNat : Int) = byteAt s k := by
  unfold byteAt
  congr 1
theorem code_val {s : ByteArray} {w : Int} (hl : leadV (byteAt s 0) w) (h : scanV s w 4 1 = none) : codeV s w = valV s w := by
  obtain ⟨hsz, f1, f2, f3⟩ := scan_full hl h
  have g1 := foll1 f1
  have hw : w = 2 ∨ w = 3 ∨ w = 4 := by unfold leadV at hl; omega
  have hse : (s.extract 0 w.toNat).size = w.toNat := by rw [ByteArray.size_extract]; omega
  have by_ : ∀ k : Nat, k < w.toNat → (((s.extract 0 w.toNat).get! (0 + k)).toNat : Int) = byteAt s k := by
    intro k hk
    rw [Nat.zero_add, get_byte _ k (by omega), byteAt_ext s 0 w.toNat k (by omega) (by omega) (by omega)]
    congr 1
    omega
  have q2 : 2 < w → (((s.extract 0 w.toNat).get! (0 + 2)).toNat : Int) = byteAt s 2 := fun h => by_ 2 (by omega)
  have q3 : 3 < w → (((s.extract 0 w.toNat).get! (0 + 3)).toNat : Int) = byteAt s 3 := fun h => by_ 3 (by omega)
  have q0 : (((s.extract 0 w.toNat).get! (0 + 0)).toNat : Int) = byteAt s 0 := by_ 0 (by omega)
  have q1 : (((s.extract 0 w.toNat).get! (0 + 1)).toNat : Int) = byteAt s 1 := by_ 1 (by omega)
  have key : ((Utf8.decode (s.extract 0 w.toNat) 0).1 : Int) = valV s w := by
    clear by_
    generalize s.extract 0 w.toNat = E at *
    have q0' : ((E.get! 0).toNat : Int) = byteAt s 0 := q0
    have q1' : ((E.get! 1).toNat : Int) = byteAt s 1 := q1
    unfold Utf8.decode valV
    simp only []
    have hval : ∀ r : Int, (0 ≤ r ∧ r < 55296) ∨ (57344 ≤ r ∧ r ≤ 1114111) → Utf8.valid r = true := by
      intro r hr; simp only [Utf8.valid, Bool.or_eq_true, Bool.and_eq_true, decide_eq_true_eq]; omega
    rcases hw with rfl | rfl | rfl
    · have hb : 194 ≤ byteAt s 0 ∧ byteAt s 0 ≤ 223 := by unfold leadV at hl; omega
      rw [if_neg (by omega), if_pos (by simp only [Bool.and_eq_true, beq_iff_eq, decide_eq_true_eq]; omega), if_pos (by omega), if_pos rfl]
      omega
    · have hb : 224 ≤ byteAt s 0 ∧ byteAt s 0 ≤ 239 := by unfold leadV at hl; omega
      have g2 := (foll2 (by omega)).1 (f2 (by omega))
      have q2 := q2 (by omega)
      have q2' : ((E.get! 2).toNat : Int) = byteAt s 2 := q2
      rw [if_neg (by omega), if_neg (by simp only [Bool.and_eq_true, beq_iff_eq, decide_eq_true_eq]; omega), if_pos (by simp only [Bool.and_eq_true, beq_iff_eq, decide_eq_true_eq]; omega), if_pos (by simp only [Bool.and_eq_true, decide_eq_true_eq]; exact ⟨by omega, hval _ (by omega)⟩), if_neg (by omega), if_pos rfl]
      omega
    · have hb : 240 ≤ byteAt s 0 ∧ byteAt s 0 ≤ 244 := by unfold leadV at hl; omega
      have g2 := (foll2 (by omega)).1 (f2 (by omega))
      have g3 := (foll2 (by omega)).1 (f3 (by omega))
      have q2 := q2 (by omega)
      have q2' : ((E.get! 2).toNat : Int) = byteAt s 2 := q2
      have q3 := q3 (by omega)
      have q3' : ((E.get! 3).toNat : Int) = byteAt s 3 := q3
      rw [if_neg (by omega), if_neg (by simp only [Bool.and_eq_true, beq_iff_eq, decide_eq_true_eq]; omega), if_neg (by simp only [Bool.and_eq_true, beq_iff_eq, decide_eq_true_eq]; omega), if_pos (by simp only [Bool.and_eq_true, beq_iff_eq, decide_eq_true_eq]; omega), if_pos (by simp only [Bool.and_eq_true, decide_eq_true_eq]; exact ⟨by omega, hval _ (by omega)⟩), if_neg (by omega), if_neg (by omega)]
      omega
  unfold codeV
  show IntKind.wrap .i64 (((Utf8.decode (s.extract 0 w.toNat) 0).1 : Nat) : Int) = _
  rw [key]
  have b0 := byteAt_lt s 0
  unfold valV
  have b1 := byteAt_lt s 1
  have b2 := byteAt_lt s 2
  have b3 := byteAt_lt s 3
  have c0 := byteAt_nonneg s 0
  have c1 := byteAt_nonneg s 1
  have c2 := byteAt_nonneg s 2
  have c3 := byteAt_nonneg s 3
  repeat' split
  all_goals exact wrap64 (by omega) (by omega)
end Go.Proofs.YtkbpnmgkdodcmaaDoor.M
