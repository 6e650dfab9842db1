import Derived.Test.YtkbpnmgkdodcmaaDoorD9
set_option linter.unusedVariables false
set_option linter.unusedSimpArgs false
set_option maxRecDepth 100000
namespace Go.Proofs.YtkbpnmgkdodcmaaDoor.M
open Go Go.Hp

theorem single_m : ∀ b : Fin 256, (keys_single b.val).2 = 0 ∨ (keys_single b.val).2 = 4 := by decide +kernel
theorem rest_m (s : ByteArray) (w : Int) : (restV s w).2.1 = 0 := by
  unfold restV
  split <;> rfl
theorem plain_m (s : ByteArray) : (plainV s).2.1 = 0 ∨ (plainV s).2.1 = 4 := by
  have h0 := byteAt_nonneg s 0
  have h1 := byteAt_lt s 0
  unfold plainV
  split
  · have := single_m ⟨(byteAt s 0).toNat, by omega⟩
    simp only [show (((byteAt s 0).toNat : Nat) : Int) = byteAt s 0 by omega] at this
    exact this
  · left
    repeat' split
    all_goals first | rfl | exact rest_m s _
theorem or2 : iOr .i64 0 2 = 2 ∧ iOr .i64 4 2 = 6 := by decide +kernel
theorem meta_alike {s : ByteArray} (hp : 1 < s.size) (h27 : byteAt s 0 = 27) (hs : (s.size : Int) < 9223372036854775806) : Alike (bareV s) (metaR s) := by
  have hsz : (s.extract ((1 : Int).toNat) s.size).size = s.size - 1 := by rw [ByteArray.size_extract]; omega
  have ha := plain_alike (s := s.extract ((1 : Int).toNat) s.size) (by omega)
  have hm := plain_m (s.extract ((1 : Int).toNat) s.size)
  have hn := plainV_n (s.extract ((1 : Int).toNat) s.size) (by omega)
  have hI : plainRI (s.extract ((1 : Int).toNat) s.size) = plainR (s.extract ((1 : Int).toNat) s.size) := by unfold plainRI; rfl
  unfold bareV metaR
  rw [if_pos h27, if_neg (show ¬ (s.size : Int) = 1 by omega), hI]
  by_cases c1 : byteAt s 1 = 27
  · rw [if_pos c1, if_pos c1]
    exact ⟨rfl, fun _ => ⟨rfl, rfl, by decide⟩, fun h => (by cases h)⟩
  rw [if_neg c1, if_neg c1]
  generalize plainV (s.extract ((1 : Int).toNat) s.size) = v at *
  generalize plainR (s.extract ((1 : Int).toNat) s.size) = r at *
  obtain ⟨a1, a2, a3⟩ := ha
  by_cases c2 : v.2.2.2 = 0
  · rw [if_pos c2, if_pos (by rw [a1]; exact c2)]
    exact ⟨rfl, fun h => (by cases h), fun _ => ⟨rfl, rfl⟩⟩
  rw [if_neg c2, if_neg (by rw [a1]; exact c2)]
  cases hok : v.2.2.1 with
  | true =>
    obtain ⟨e1, e2, e3⟩ := a2 hok
    rw [if_pos (by rw [e1]; simp [e3])]
    refine ⟨by simp only []; rw [a1], fun _ => ⟨e1, ?_, e3⟩, fun h => (by cases h)⟩
    simp only []
    rw [e2]
    rcases hm with hm | hm <;> rw [hm]
    · rw [or2.1]; exact wrap64 (by omega) (by omega)
    · rw [or2.2]; exact wrap64 (by omega) (by omega)
  | false =>
    obtain ⟨e1, e2⟩ := a3 hok
    rw [if_neg (by rw [e1, e2]; simp)]
    exact ⟨by simp only []; rw [a1], fun h => (by cases h), fun _ => ⟨e1, e2⟩⟩
end Go.Proofs.YtkbpnmgkdodcmaaDoor.M
