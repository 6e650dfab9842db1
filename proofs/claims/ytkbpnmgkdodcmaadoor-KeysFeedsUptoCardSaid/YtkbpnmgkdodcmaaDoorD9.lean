import Derived.Test.YtkbpnmgkdodcmaaDoorD8
set_option linter.unusedVariables false
set_option linter.unusedSimpArgs false
set_option maxRecDepth 100000
namespace Go.Proofs.YtkbpnmgkdodcmaaDoor.M
open Go Go.Hp

/-- Both say the same: the key (none: the zero one), and how many bytes are done with. -/
def Alike (v : Int × Int × Bool × Int) (r : Int × Int × Int) : Prop := r.2.2 = v.2.2.2 ∧ (v.2.2.1 = true → r.1 = v.1 ∧ r.2.1 = v.2.1 ∧ v.1 ≠ 0) ∧ (v.2.2.1 = false → r.1 = 0 ∧ r.2.1 = 0)
theorem plain_alike {s : ByteArray} (hp : 0 < s.size) : Alike (plainV s) (plainR s) := by
  by_cases hb : byteAt s 0 < 128
  · obtain ⟨e1, e2, e3⟩ := plain_asc s hb
    rw [e1, e2]
    exact ⟨rfl, fun _ => ⟨rfl, rfl, e3⟩, fun h => (by cases h)⟩
  have hb : 128 ≤ byteAt s 0 := by omega
  have eR : plainR s = if ((firstV s).2.2 && (decide ((firstV s).1 < 160))) = true then (0, 0, (firstV s).2.1) else if (firstV s).2.2 = true then ((firstV s).1, 0, (firstV s).2.1) else if (s.size : Int) < 4 ∧ growsV s = true then (0, 0, 0) else (0, 0, kL s s.size 1) := by
    unfold plainR
    rw [if_neg (by simp; omega), if_neg (by omega), if_neg (by simp; omega), if_neg (by omega), if_neg (by omega)]
  have lead : ∀ w, leadV (byteAt s 0) w → plainV s = restV s w → Alike (plainV s) (plainR s) := by
    intro w hl hpv
    rw [hpv]
    by_cases hf : FullAt s w
    · rw [rest_full hf, eR, first_full hb hf]
      have hpos := val_pos hf
      by_cases h160 : valV s w < 160
      · rw [if_pos (by simpa using h160), decide_eq_false (by omega)]
        exact ⟨rfl, fun h => (by cases h), fun _ => ⟨rfl, rfl⟩⟩
      · rw [if_neg (by simpa using h160), if_pos rfl, decide_eq_true (by omega)]
        exact ⟨rfl, fun _ => ⟨rfl, rfl, by simp only []; omega⟩, fun h => (by cases h)⟩
    · obtain ⟨n, hs, hn⟩ := lead_none hb hp hl hf
      have hnf : ∀ v, ¬ FullAt s v := fun v hv => by
        have : v = w := by have h1 := hv.1; unfold leadV at h1 hl; omega
        rw [this] at hv
        exact hf hv
      have er : restV s w = (0, 0, false, n) := by unfold restV; rw [hs]
      rw [er, eR, first_none hb hnf]
      rw [if_neg (by simp), if_neg (by simp)]
      rcases hn with ⟨rfl, h4, hg⟩ | ⟨h4, hk⟩
      · rw [if_pos ⟨h4, hg⟩]
        exact ⟨rfl, fun h => (by cases h), fun _ => ⟨rfl, rfl⟩⟩
      · rw [if_neg h4, hk]
        exact ⟨rfl, fun h => (by cases h), fun _ => ⟨rfl, rfl⟩⟩
  have nl : (∀ w, ¬ leadV (byteAt s 0) w) → Alike (0, 0, false, 1) (plainR s) := by
    intro hl
    have hnf : ∀ v, ¬ FullAt s v := fun v hv => hl v hv.1
    have hg : ¬ growsV s = true := fun h => by obtain ⟨w, h1, _⟩ := (grows_iff hp hb).1 h; exact hl w h1
    rw [eR, first_none hb hnf, if_neg (by simp), if_neg (by simp), if_neg (fun h => hg h.2)]
    have hk : kL s s.size 1 = 1 := by
      by_cases h1 : (1 : Int) < s.size
      · have hse : (s.extract 0 ((1 : Int) + 1).toNat).size = 2 := by rw [ByteArray.size_extract]; omega
        have hb2 : byteAt (s.extract 0 ((1 : Int) + 1).toNat) 0 = byteAt s 0 := by
          rw [byteAt_ext s 0 ((1 : Int) + 1).toNat 0 (by omega) (by omega) (by simp)]; rfl
        rw [kL_step h1 (by omega), if_neg]
        intro h
        obtain ⟨w, h2, _⟩ := (grows_iff (by omega) (by rw [hb2]; exact hb)).1 h
        rw [hb2] at h2
        exact hl w h2
      · obtain ⟨g, hg⟩ : ∃ g, s.size = g + 1 := ⟨s.size - 1, by omega⟩
        rw [hg]
        unfold kL
        rw [if_neg h1]
    rw [hk]
    exact ⟨rfl, fun h => (by cases h), fun _ => ⟨rfl, rfl⟩⟩
  by_cases c2 : 194 ≤ byteAt s 0 ∧ byteAt s 0 ≤ 223
  · refine lead 2 (.inl ⟨rfl, c2.1, c2.2⟩) ?_
    unfold plainV
    rw [if_neg (by simp; omega), if_neg (by omega), if_pos (by simp; omega)]
  by_cases c3 : 224 ≤ byteAt s 0 ∧ byteAt s 0 ≤ 239
  · refine lead 3 (.inr (.inl ⟨rfl, c3.1, c3.2⟩)) ?_
    unfold plainV
    rw [if_neg (by simp; omega), if_neg (by omega), if_neg (by simp; omega), if_pos (by simp; omega)]
  by_cases c4 : 240 ≤ byteAt s 0 ∧ byteAt s 0 ≤ 244
  · refine lead 4 (.inr (.inr ⟨rfl, c4.1, c4.2⟩)) ?_
    unfold plainV
    rw [if_neg (by simp; omega), if_neg (by omega), if_neg (by simp; omega), if_neg (by simp; omega), if_pos (by simp; omega)]
  · have e : plainV s = (0, 0, false, 1) := by
      unfold plainV
      rw [if_neg (by simp; omega), if_neg (by omega), if_neg (by simp; omega), if_neg (by simp; omega), if_neg (by simp; omega)]
    rw [e]
    exact nl fun w hl => by unfold leadV at hl; omega
end Go.Proofs.YtkbpnmgkdodcmaaDoor.M
