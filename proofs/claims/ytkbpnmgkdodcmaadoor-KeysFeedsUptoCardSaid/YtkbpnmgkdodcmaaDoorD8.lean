import Derived.Test.YtkbpnmgkdodcmaaDoorD7
set_option linter.unusedVariables false
set_option linter.unusedSimpArgs false
set_option maxRecDepth 100000
namespace Go.Proofs.YtkbpnmgkdodcmaaDoor.M
open Go Go.Hp

theorem kL_step {s : ByteArray} {f : Nat} {k : Int} (hk : k < s.size) (hf : 0 < f) : kL s f k = if growsV (s.extract 0 (k + 1).toNat) = true then kL s (f - 1) (k + 1) else k := by
  obtain ⟨g, rfl⟩ : ∃ g, f = g + 1 := ⟨f - 1, by omega⟩
  conv => lhs; unfold kL
  rw [if_pos hk]
  rfl
theorem kgrow {s : ByteArray} {w k : Int} (hb : 128 ≤ byteAt s 0) (hl : leadV (byteAt s 0) w) (k1 : 1 ≤ k) (hk : k < s.size) : growsV (s.extract 0 (k + 1).toNat) = true ↔ k + 1 < w ∧ follV (byteAt s 0) 1 (byteAt s 1) = true ∧ (2 ≤ k → follV (byteAt s 0) 2 (byteAt s 2) = true) := by
  have hse : (s.extract 0 (k + 1).toNat).size = (k + 1).toNat := by rw [ByteArray.size_extract]; omega
  rw [grows_iff (by omega) (by rw [byteAt_ext s 0 (k + 1).toNat 0 (by omega) (by omega) (by simp; omega)]; exact hb), pre_ext hl k1 hk]
theorem lead_none {s : ByteArray} {w : Int} (hb : 128 ≤ byteAt s 0) (hp : 0 < s.size) (hl : leadV (byteAt s 0) w) (hf : ¬ FullAt s w) :
    ∃ n, scanV s w 4 1 = some n ∧ ((n = 0 ∧ (s.size : Int) < 4 ∧ growsV s = true) ∨ (¬ ((s.size : Int) < 4 ∧ growsV s = true) ∧ kL s s.size 1 = n)) := by
  have hw : w = 2 ∨ w = 3 ∨ w = 4 := by unfold leadV at hl; omega
  have hgi := grows_iff hp hb
  have pre : (s.size : Int) < w → (1 < (s.size : Int) → follV (byteAt s 0) 1 (byteAt s 1) = true) → (2 < (s.size : Int) → follV (byteAt s 0) 2 (byteAt s 2) = true) → growsV s = true := fun a b c => hgi.2 ⟨w, hl, a, b, c⟩
  have npre : growsV s = true → (1 < (s.size : Int) → follV (byteAt s 0) 1 (byteAt s 1) = true) ∧ (2 < (s.size : Int) → follV (byteAt s 0) 2 (byteAt s 2) = true) := fun h => by
    obtain ⟨v, _, _, a, b⟩ := hgi.1 h
    exact ⟨a, b⟩
  unfold scanV
  rw [if_pos (by omega)]
  by_cases z1 : (s.size : Int) ≤ 1
  · rw [if_pos z1]
    exact ⟨0, rfl, .inl ⟨rfl, by omega, pre (by omega) (fun h => by omega) (fun h => by omega)⟩⟩
  rw [if_neg z1]
  by_cases g1 : follV (byteAt s 0) 1 (byteAt s 1) = true
  · rw [if_pos g1]
    unfold scanV
    by_cases w2 : (1 + 1 : Int) < w
    · rw [if_pos w2]
      by_cases z2 : (s.size : Int) ≤ 1 + 1
      · rw [if_pos z2]
        exact ⟨0, rfl, .inl ⟨rfl, by omega, pre (by omega) (fun _ => g1) (fun h => by omega)⟩⟩
      rw [if_neg z2]
      have k1 : growsV (s.extract 0 ((1 : Int) + 1).toNat) = true := (kgrow hb hl (by omega) (by omega)).2 ⟨by omega, g1, fun h => by omega⟩
      by_cases g2 : follV (byteAt s 0) (1 + 1) (byteAt s (1 + 1)) = true
      · rw [if_pos g2]
        unfold scanV
        by_cases w3 : (1 + 1 + 1 : Int) < w
        · rw [if_pos w3]
          by_cases z3 : (s.size : Int) ≤ 1 + 1 + 1
          · rw [if_pos z3]
            exact ⟨0, rfl, .inl ⟨rfl, by omega, pre (by omega) (fun _ => g1) (fun _ => g2)⟩⟩
          rw [if_neg z3]
          by_cases g3 : follV (byteAt s 0) (1 + 1 + 1) (byteAt s (1 + 1 + 1)) = true
          · exact absurd ⟨hl, by omega, g1, fun _ => g2, fun _ => g3⟩ hf
          · rw [if_neg g3]
            refine ⟨_, rfl, .inr ⟨fun h => by omega, ?_⟩⟩
            rw [kL_step (by omega) (by omega), if_pos k1, kL_step (by omega) (by omega), if_pos ((kgrow hb hl (by omega) (by omega)).2 ⟨by omega, g1, fun _ => g2⟩), kL_step (by omega) (by omega), if_neg (fun h => by have := ((kgrow hb hl (by omega) (by omega)).1 h).1; omega)]
        · exact absurd ⟨hl, by omega, g1, fun _ => g2, fun h => by omega⟩ hf
      · rw [if_neg g2]
        refine ⟨_, rfl, .inr ⟨fun h => g2 ((npre h.2).2 (by omega)), ?_⟩⟩
        rw [kL_step (by omega) (by omega), if_pos k1, kL_step (by omega) (by omega), if_neg (fun h => g2 (((kgrow hb hl (by omega) (by omega)).1 h).2.2 (by omega)))]
    · exact absurd ⟨hl, by omega, g1, fun h => by omega, fun h => by omega⟩ hf
  · rw [if_neg g1]
    refine ⟨_, rfl, .inr ⟨fun h => g1 ((npre h.2).1 (by omega)), ?_⟩⟩
    rw [kL_step (by omega) (by omega), if_neg (fun h => g1 ((kgrow hb hl (by omega) (by omega)).1 h).2.1)]
end Go.Proofs.YtkbpnmgkdodcmaaDoor.M
