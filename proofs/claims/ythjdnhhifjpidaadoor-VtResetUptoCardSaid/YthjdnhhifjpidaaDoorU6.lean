import Derived.Test.YthjdnhhifjpidaaDoorU5
set_option linter.unusedVariables false
set_option linter.unusedSimpArgs false
set_option maxRecDepth 100000
namespace Go.Proofs.YthjdnhhifjpidaaDoor.M
open Go Go.Hp

/-! ### A part of one's own slice is copied to another part of it -/
theorem flat_take {α : Type} (f : α → List Value) {sz : Nat} (hf : ∀ r, (f r).length = sz) : ∀ (ks : List α) (i : Nat), (ks.flatMap f).take (i * sz) = (ks.take i).flatMap f
  | [], i => by simp
  | x :: ks, 0 => by simp
  | x :: ks, i + 1 => by
    rw [List.flatMap_cons, List.take_succ_cons, List.flatMap_cons, List.take_append, List.take_of_length_le (l := f x) (by rw [hf, Nat.succ_mul]; omega), hf, show (i + 1) * sz - sz = i * sz by rw [Nat.succ_mul]; omega, flat_take f hf ks i]
theorem flat_drop {α : Type} (f : α → List Value) {sz : Nat} (hf : ∀ r, (f r).length = sz) : ∀ (ks : List α) (i : Nat), (ks.flatMap f).drop (i * sz) = (ks.drop i).flatMap f
  | [], i => by simp
  | x :: ks, 0 => by simp
  | x :: ks, i + 1 => by
    rw [List.flatMap_cons, List.drop_succ_cons, List.drop_append, List.drop_of_length_le (l := f x) (by rw [hf, Nat.succ_mul]; omega), hf, show (i + 1) * sz - sz = i * sz by rw [Nat.succ_mul]; omega, List.nil_append, flat_drop f hf ks i]
def copyV {α : Type} (ks : List α) (d s m : Nat) : List α := ks.take d ++ ((ks.drop s).take m ++ ks.drop (d + m))
theorem copyV_len {α : Type} (ks : List α) (d s m : Nat) (h1 : d + m ≤ ks.length) (h2 : s + m ≤ ks.length) : (copyV ks d s m).length = ks.length := by
  unfold copyV
  simp only [List.length_append, List.length_take, List.length_drop]
  omega
theorem oneV_flat {α : Type} (f : α → List Value) (hf1 : ∀ k, (f k).all oneV = true) : ∀ ks : List α, (ks.flatMap f).all oneV = true
  | [] => rfl
  | k :: ks => by rw [List.flatMap_cons, List.all_append, hf1, oneV_flat f hf1 ks]; rfl
theorem SlO.copy {α : Type} {f : α → List Value} {sz : Nat} {t : TypeId} {a : Option Addr} {n c : Nat} {ks : List α} {o pre l : Blks} {h0 : Base} {h : Heap} {K : Heap → Prop} (hf : ∀ k, (f k).length = sz) (hf1 : ∀ k, (f k).all oneV = true) (hs : SlO f sz t a n c ks o) (ho : Own h0 h (pre ++ (o ++ l)))
    (d dn s sn : Nat) (h1 : d + dn ≤ n) (h2 : s + sn ≤ n) (hK : ∀ h' o', Own h0 h' (pre ++ (o' ++ l)) → SlO f sz t a n c (copyV ks d s (Nat.min sn dn)) o' → K h') : cpM h sz (cutA a c d sz) dn (cutA a c s sz) sn K := by
  have hn := hs.1
  have hm1 : Nat.min sn dn ≤ dn := Nat.min_le_right _ _
  have hm2 : Nat.min sn dn ≤ sn := Nat.min_le_left _ _
  generalize hm : Nat.min sn dn = m at *
  rcases Nat.eq_zero_or_pos m with h0m | h0m
  · subst h0m
    have e : copyV ks d s 0 = ks := by unfold copyV; simp
    rw [e] at hK
    refine ⟨[], by rw [hm]; simp, rfl, ?_, ?_⟩
    · unfold srcAt
      split
      · rfl
      · trivial
    · split
      · exact hK h o ho hs
      · exact hK h o ho hs
  obtain ⟨_, ⟨_, h3, _, h4⟩ | ⟨b, cs, rest, rfl, rfl, hcs, hr, hle⟩⟩ := hs
  · rw [h4] at hn; simp at hn; omega
  have hfl := flat_len f hf
  have hcl : cs.size = ks.length * sz + rest.length := by rw [← Array.length_toList, hcs, List.length_append, hfl]
  have hb := (Own.mid (x := (b, cs, t)) (by simpa using ho)).1
  have hnew : (((ks.drop s).take m).flatMap f).length = m * sz := by
    rw [hfl]
    congr 1
    simp only [List.length_take, List.length_drop]
    omega
  have hdn : d * sz + m * sz ≤ ks.length * sz := by rw [← Nat.add_mul]; exact Nat.mul_le_mul_right _ (by omega)
  refine ⟨((ks.drop s).take m).flatMap f, by rw [hm]; exact hnew, oneV_flat f hf1 _, ?_, ?_⟩
  · unfold cutA
    rw [if_neg (by omega)]
    show cellsAt h ((⟨b, 0, none⟩ : Addr).add (s * sz)) 0 _
    rw [add0, Nat.zero_add]
    refine cellsAt_blk hb _ (s * sz) 0 fun j v hj => ?_
    rw [← Array.getElem?_toList, hcs, Nat.add_zero]
    have hj2 : j < m * sz := by rw [← hnew]; exact (List.getElem?_eq_some_iff.1 hj).1
    have hs2 : s * sz + m * sz ≤ ks.length * sz := by rw [← Nat.add_mul]; exact Nat.mul_le_mul_right _ (by omega)
    rw [List.getElem?_append_left (by rw [hfl]; omega)]
    rw [← flat_take f hf, ← flat_drop f hf, List.getElem?_take, if_pos hj2, List.getElem?_drop] at hj
    exact hj
  · unfold cutA
    rw [if_neg (by omega)]
    show stN ((⟨b, 0, none⟩ : Addr).add (d * sz)) _ 0 h K
    rw [add0, Nat.zero_add]
    refine stN_blk hb (show d * sz + 0 + (((ks.drop s).take m).flatMap f).length ≤ cs.size by rw [hnew]; omega) fun h3 hp3 => ?_
    refine hK h3 [(b, setL cs (d * sz + 0) (((ks.drop s).take m).flatMap f), t)] (Own.putAt (l := pre) (l2 := l) (by simpa using ho) hp3) ⟨by rw [copyV_len _ _ _ _ (by omega) (by omega)]; exact hn, .inr ⟨b, _, rest, rfl, rfl, ?_, hr, hle⟩⟩
    rw [Nat.add_zero, setL_toList _ _ _ (by rw [hnew]; omega), hnew, hcs, List.take_append_of_le_length (by rw [hfl]; omega), List.drop_append_of_le_length (by rw [hfl]; omega)]
    rw [show d * sz + m * sz = (d + m) * sz by rw [Nat.add_mul], flat_take f hf, flat_drop f hf]
    unfold copyV
    simp [List.flatMap_append]
theorem gf_one (g : Gl) : (gf g).all oneV = true := rfl
theorem rf_one (r : Option Addr × Nat × Nat) : (rf r).all oneV = true := rfl
end Go.Proofs.YthjdnhhifjpidaaDoor.M
