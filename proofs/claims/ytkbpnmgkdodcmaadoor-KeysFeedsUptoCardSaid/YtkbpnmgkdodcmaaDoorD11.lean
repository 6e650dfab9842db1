import Derived.Test.YtkbpnmgkdodcmaaDoorD10
set_option linter.unusedVariables false
set_option linter.unusedSimpArgs false
set_option maxRecDepth 100000
namespace Go.Proofs.YtkbpnmgkdodcmaaDoor.M
open Go Go.Hp

theorem seq_ci (s : ByteArray) : ∀ (f : Nat) (k : Int), 2 ≤ k → k ≤ 256 → s.size - k ≤ f → seqL s f k =
    if cI s f k < (s.size : Int) then
      if 256 ≤ cI s f k then some (0, 0, false, 256)
      else if ((decide (64 ≤ (byteAt s (cI s f k)))) && (decide ((byteAt s (cI s f k)) ≤ 126))) = true then
        some ((wholeI (s.extract 2 (cI s f k + 1).toNat)).1, (wholeI (s.extract 2 (cI s f k + 1).toNat)).2.1, (wholeI (s.extract 2 (cI s f k + 1).toNat)).2.2, cI s f k + 1)
      else some (0, 0, false, cI s f k)
    else none := by
  intro f
  induction f with
  | zero =>
    intro k h1 h2 hf
    unfold seqL cI
    rw [if_neg (by omega)]
  | succ f ih =>
    intro k h1 h2 hf
    by_cases hc : ((((decide (k < (s.size : Int))) && (decide (32 ≤ (byteAt s k)))) && (decide ((byteAt s k) ≤ 63))) && (decide (k < 256))) = true
    · have e : cI s (f + 1) k = cI s f (k + 1) := by conv => lhs; unfold cI; rw [if_pos hc]
      simp only [Bool.and_eq_true, decide_eq_true_eq] at hc
      rw [e, ← ih (k + 1) (by omega) (by omega) (by omega)]
      conv => lhs; unfold seqL
      rw [if_pos (by omega), if_neg (by omega), if_neg (by simp; omega), if_neg (by simp; omega)]
    · have e : cI s (f + 1) k = k := by unfold cI; rw [if_neg hc]
      rw [e]
      unfold seqL
      by_cases hk : k < (s.size : Int)
      · rw [if_pos hk, if_pos hk]
        by_cases h256 : 256 ≤ k
        · rw [if_pos h256, if_pos h256]
        · rw [if_neg h256, if_neg h256]
          split
          · rfl
          · rename_i h64
            have hn : ¬ (32 ≤ byteAt s k ∧ byteAt s k ≤ 63) := fun h => hc (by simp only [Bool.and_eq_true, decide_eq_true_eq]; omega)
            have h64' : ¬ (64 ≤ byteAt s k ∧ byteAt s k ≤ 126) := by simpa using h64
            rw [if_pos (by simp; omega)]
      · rw [if_neg hk, if_neg hk]
theorem cI_max (s : ByteArray) : ∀ (f : Nat) (k : Int), k ≤ 256 → cI s f k ≤ 256 := by
  intro f
  induction f with
  | zero => intro k h; exact h
  | succ f ih =>
    intro k h
    unfold cI
    split
    · rename_i hc
      simp only [Bool.and_eq_true, decide_eq_true_eq] at hc
      exact ih (k + 1) (by omega)
    · exact h
end Go.Proofs.YtkbpnmgkdodcmaaDoor.M
