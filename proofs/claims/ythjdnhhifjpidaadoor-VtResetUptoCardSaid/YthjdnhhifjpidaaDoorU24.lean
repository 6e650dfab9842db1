import Derived.Test.YthjdnhhifjpidaaDoorU23
set_option linter.unusedVariables false
set_option linter.unusedSimpArgs false
set_option maxRecDepth 100000
namespace Go.Proofs.YthjdnhhifjpidaaDoor.M
open Go Go.Hp

/-! ### What the numbers may be -/
theorem imin_le (a b : Int) : imin a b ≤ a := by unfold imin; split <;> omega
theorem numsL_le (g : List Int) : ∀ (q i : Nat) (out : List Int) (n : Int), (∀ x ∈ out, x ≤ 9999) → n ≤ 9999 → (∀ x ∈ (numsL g q i out n).1, x ≤ 9999) ∧ (numsL g q i out n).2 ≤ 9999
  | 0, _, out, n, h1, h2 => ⟨h1, h2⟩
  | q + 1, i, out, n, h1, h2 => by
    have h3 : ∀ x ∈ out ++ [n], x ≤ 9999 := by
      intro x hx
      rcases List.mem_append.1 hx with h | h
      · exact h1 x h
      · rw [List.mem_singleton.1 h]; exact h2
    unfold numsL
    split
    · exact numsL_le g q (i + 1) _ _ h3 (by omega)
    · split
      · exact numsL_le g q (i + 1) _ _ h3 (by omega)
      · exact numsL_le g q (i + 1) _ _ h1 (imin_le _ _)
theorem numbers0_le (mk : Int) (g : List Int) : (∀ x ∈ (numbers0 mk g).2.1, x ≤ 9999) ∧ (numbers0 mk g).2.1.length ≤ g.length + 1 := by
  have h1 := numsL_le g (endV g g.length 0) 0 [] (-1) (fun x hx => by cases hx) (by omega)
  have h2 := numsL_len g (endV g g.length 0) 0 [] (-1)
  have h3 := endV_le g g.length 0
  simp only [List.length_nil] at h2
  unfold numbers0
  split
  · exact ⟨fun x hx => absurd (show x ∈ [] from hx) (by simp), Nat.zero_le _⟩
  · split
    · refine ⟨fun x hx => ?_, by simp only [List.length_append, List.length_singleton]; omega⟩
      rcases List.mem_append.1 hx with h | h
      · exact h1.1 x h
      · rw [List.mem_singleton.1 h]; exact h1.2
    · exact ⟨h1.1, by show (numsL g (endV g g.length 0) 0 [] (-1)).1.length ≤ g.length + 1; omega⟩
theorem numbersV_le (g : List Int) : (∀ x ∈ (numbersV g).2.1, x ≤ 9999) ∧ (numbersV g).2.1.length ≤ g.length + 1 := by
  unfold numbersV
  split
  · have h := numbers0_le (g.getD 0 0) (g.drop 1)
    rw [List.length_drop] at h
    exact ⟨h.1, by omega⟩
  · exact numbers0_le 0 g
theorem atV_le {l : List Int} (hl : ∀ x ∈ l, x ≤ 9999) (i : Nat) {d : Int} (hd : d ≤ 9999) : atV l i d ≤ 9999 := by
  unfold atV
  split
  · split
    · rename_i h1 h2
      refine hl _ ?_
      rw [List.getD_eq_getElem?_getD, List.getElem?_eq_getElem h1]
      exact List.getElem_mem _
    · exact hd
  · exact hd

/-! ### A control sequence -/
def privL (on : Bool) : List Int → Scr → Scr
  | [], S => S
  | m :: l, S => privL on l (privateV S m on)
theorem Ok.privL (on : Bool) : ∀ (l : List Int) (S : Scr), Ok S → Ok (privL on l S)
  | [], S, o => o
  | m :: l, S, o => Ok.privL on l _ (o.private m on)
def controlledV (S : Scr) (b : Int) : Scr :=
  if (numbersV S.gathered).2.2.2 = true then
    if (numbersV S.gathered).1 = 63 ∧ (numbersV S.gathered).2.2.1 = ⟨#[]⟩ ∧ (b = 104 ∨ b = 108) then privL (decide (b = 104)) (numbersV S.gathered).2.1 S else
    if (numbersV S.gathered).1 = 0 ∧ (numbersV S.gathered).2.2.1 = ⟨#[33]⟩ ∧ b = 112 then softV S else
    if (numbersV S.gathered).1 = 0 ∧ (numbersV S.gathered).2.2.1 = ⟨#[]⟩ then plainV S b (numbersV S.gathered).2.1 else S
  else S
theorem Ok.controlled {S : Scr} (o : Ok S) (b : Int) : Ok (controlledV S b) := by
  unfold controlledV
  refine ite_ok (fun _ => ?_) (fun _ => o)
  refine ite_ok (fun _ => Ok.privL _ _ _ o) (fun _ => ?_)
  refine ite_ok (fun _ => o.soft) (fun _ => ?_)
  refine ite_ok (fun _ => o.plain _ _) (fun _ => o)
end Go.Proofs.YthjdnhhifjpidaaDoor.M
