/-
  TABLES THAT ARE LAID, RUNES OF A STRING. Own work; no program.
-/
import Derived.Test.YthjdnhhifjpidaaGreatDoorHpM
set_option linter.unusedVariables false
set_option linter.unusedSimpArgs false
namespace Go.Hp

theorem add0 (g m j : Nat) : ((⟨g, m, none⟩ : Addr).add j) = ⟨g, m + j, none⟩ := by
  unfold Addr.add
  split
  · rename_i h0; subst h0; rfl
  · rfl
theorem cellsAt_get {h : Heap} {a : Addr} : ∀ {vs : List Value} {k : Nat}, cellsAt h a k vs → ∀ (m : Nat) {v : Value}, vs[m]? = some v → cellH h (a.add (k + m)) = some v
  | [], _, _, m, v, hv => by simp at hv
  | x :: vs, k, hc, 0, v, hv => by
    simp only [List.getElem?_cons_zero, Option.some.injEq] at hv
    subst hv
    exact hc.1
  | x :: vs, k, hc, m + 1, v, hv => by
    have := cellsAt_get hc.2 m (by simpa using hv)
    rwa [show k + (m + 1) = k + 1 + m by omega]
theorem flat_at {α : Type} (f : α → List Value) (d : α) {sz : Nat} (hf : ∀ r, (f r).length = sz) : ∀ (tab : List α) (i : Nat), i < tab.length → ((tab.flatMap f).drop (i * sz)).take sz = f (tab.getD i d)
  | [], i, hi => by simp at hi
  | r :: tab, 0, _ => by
    simp only [Nat.zero_mul, List.drop_zero, List.flatMap_cons, List.getD_cons_zero]
    rw [List.take_append_of_le_length (by rw [hf]; exact Nat.le_refl _)]
    exact List.take_of_length_le (by rw [hf]; exact Nat.le_refl _)
  | r :: tab, i + 1, hi => by
    have ih := flat_at f d hf tab i (by simpa using hi)
    simp only [List.flatMap_cons, List.getD_cons_succ]
    rw [show (i + 1) * sz = (f r).length + i * sz by rw [hf, Nat.succ_mul]; omega, List.drop_append, List.drop_of_length_le (Nat.le_add_right _ _), List.nil_append]
    simpa using ih
theorem flat_len {α : Type} (f : α → List Value) {sz : Nat} (hf : ∀ r, (f r).length = sz) : ∀ (tab : List α), (tab.flatMap f).length = tab.length * sz
  | [] => by simp
  | r :: tab => by
    simp only [List.flatMap_cons, List.length_append, hf, flat_len f hf tab, List.length_cons, Nat.succ_mul]
    omega
theorem cell_tab {α : Type} (f : α → List Value) (tab : List α) (d : α) {h : Heap} {g i sz : Nat} (hc : cellsAt h ⟨g, 0, none⟩ 0 (tab.flatMap f)) (hf : ∀ r, (f r).length = sz) (hi : i < tab.length) (j : Nat) {v : Value} (hv : (f (tab.getD i d))[j]? = some v) :
    cellH h (((⟨g, 0, none⟩ : Addr).add (i * sz)).add j) = some v := by
  have hj : j < sz := by
    have := (List.getElem?_eq_some_iff.1 hv).1
    rwa [hf] at this
  rw [add0, add0, show 0 + i * sz + j = 0 + (i * sz + j) by omega, ← add0]
  have := cellsAt_get hc (i * sz + j) (v := v) (by
    rw [← flat_at f d hf tab i hi, List.getElem?_take, if_pos hj, List.getElem?_drop] at hv
    exact hv)
  simpa using this
theorem cell_tab0 {α : Type} (f : α → List Value) (tab : List α) (d : α) {h : Heap} {g i sz : Nat} (hc : cellsAt h ⟨g, 0, none⟩ 0 (tab.flatMap f)) (hf : ∀ r, (f r).length = sz) (hi : i < tab.length) {v : Value} (hv : (f (tab.getD i d))[0]? = some v) :
    cellH h ((⟨g, 0, none⟩ : Addr).add (i * sz)) = some v := by
  have := cell_tab f tab d hc hf hi 0 hv
  rwa [add0, add0, Nat.add_zero, ← add0] at this
theorem ltTab {i : Int} {n m : Nat} (h0 : 0 ≤ i) (h1 : i < (n : Int)) (hm : m = n) : i.toNat < m := by omega

/-! ### The runes of a string -/
end Go.Hp
