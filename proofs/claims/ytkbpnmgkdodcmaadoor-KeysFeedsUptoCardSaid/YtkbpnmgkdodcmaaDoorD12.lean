import Derived.Test.YtkbpnmgkdodcmaaDoorD11
set_option linter.unusedVariables false
set_option linter.unusedSimpArgs false
set_option maxRecDepth 100000
namespace Go.Proofs.YtkbpnmgkdodcmaaDoor.M
open Go Go.Hp

/-- The key of a control sequence: both find the same. -/
def FindAlike (v : Int × Int × Bool) (r : Int × Int) : Prop := (v.2.2 = true → r.1 = v.1 ∧ r.2 = v.2.1 ∧ v.1 ≠ 0) ∧ (v.2.2 = false → r.1 = 0 ∧ r.2 = 0)
theorem ctl_alike {s : ByteArray} (hp : 2 ≤ s.size) (hs : (s.size : Int) < 9223372036854775806) (hF : ∀ n : Int, 2 ≤ n → n < s.size → FindAlike (wholeI (s.extract 2 (n + 1).toNat)) (findR (s.extract 0 (n + 1).toNat))) : Alike (sequenceV s) (ctlR s) := by
  have hci : cII s = cI s s.size 2 := by unfold cII; rfl
  have hrg := cI_rng s s.size 2 (by omega) (by omega)
  have hmx := cI_max s s.size 2 (by omega)
  have hsq := seq_ci s s.size 2 (by omega) (by omega) (by omega)
  unfold sequenceV ctlR
  rw [hsq, hci]
  generalize cI s s.size 2 = i at *
  by_cases c1 : i = 256
  · rw [if_pos c1]
    by_cases hl : i < (s.size : Int)
    · rw [if_pos hl, if_pos (by omega)]
      exact ⟨c1, fun h => (by cases h), fun _ => ⟨rfl, rfl⟩⟩
    · rw [if_neg hl]
      simp only []
      rw [if_pos (by omega)]
      exact ⟨c1, fun h => (by cases h), fun _ => ⟨rfl, rfl⟩⟩
  rw [if_neg c1]
  by_cases c2 : i = (s.size : Int)
  · rw [if_pos c2, if_neg (by omega)]
    simp only []
    rw [if_neg (by omega)]
    exact ⟨rfl, fun h => (by cases h), fun _ => ⟨rfl, rfl⟩⟩
  rw [if_neg c2, if_pos (by omega), if_neg (by omega)]
  by_cases c3 : 64 ≤ byteAt s i ∧ byteAt s i ≤ 126
  · rw [if_pos (by simpa using c3), if_neg (show ¬ ((decide (byteAt s i < 64)) || (decide (126 < byteAt s i))) = true by simp; omega)]
    have h := hF i (by omega) (by omega)
    exact ⟨wrap64 (by omega) (by omega), fun hk => h.1 hk, fun hk => h.2 hk⟩
  · rw [if_neg (by simpa using c3), if_pos (show ((decide (byteAt s i < 64)) || (decide (126 < byteAt s i))) = true by simp; omega)]
    exact ⟨rfl, fun h => (by cases h), fun _ => ⟨rfl, rfl⟩⟩
end Go.Proofs.YtkbpnmgkdodcmaaDoor.M
