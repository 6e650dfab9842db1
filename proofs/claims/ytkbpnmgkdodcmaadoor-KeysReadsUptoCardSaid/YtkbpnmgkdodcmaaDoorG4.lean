import Derived.Test.YtkbpnmgkdodcmaaDoorG3
import Derived.Test.YtkbpnmgkdodcmaaDoorC6
set_option linter.unusedVariables false
set_option linter.unusedSimpArgs false
set_option maxRecDepth 100000
namespace Go.Proofs.YtkbpnmgkdodcmaaDoor.M
open Go Go.Hp

theorem body_pos {c m : Int} (hv : keys_Valid c m = true) : 0 < (bodyV c).size := by
  rcases fin_or hv with hf | ⟨a0, a1, a2, a3⟩
  · have := fin_body hf
    rcases Nat.eq_zero_or_pos (bodyV c).size with h0 | h0
    · exfalso
      have hn : (bodyV c).data.toList = [] := List.eq_nil_of_length_eq_zero h0
      rw [hn] at this
      have h2 : c = -2 := this.symm
      unfold FinK at hf
      omega
    · exact h0
  · rw [high_body a0 a1]; exact (enc_plain a0 a1 a2).2.2
theorem read_l0 {K0 : Nat → Heap → Prop} {Kr : Nat → Int → Heap → Prop} {h0 : Heap} {s : ByteArray} {b : Nat} {c0 c1 : Value} {l} (hT : TabH h0) (hF : FirstH h0) (hA : AccH h0) (hs : (s.size : Int) < 9223372036854775807) :
    ∀ (f : Nat) (j : Nat) (h : Heap), Own h0 h ((b, #[c0, c1], 36) :: l) → 8 < f + j → j ≤ 8 → (∀ c' m' : Int, keys_Valid c' m' = true → m' < j → nameV c' m' ≠ s) →
      (∀ c m h1, Own h0 h1 ((b, #[.int .i64 c, .int .i64 m], 36) :: l) → keys_Valid c m = true → nameV c m = s → Kr b 0 h1) →
      (∀ h1, Own h0 h1 ((b, #[c0, c1], 36) :: l) → (∀ c' m' : Int, keys_Valid c' m' = true → nameV c' m' ≠ s) → K0 b h1) → keys_Read_l0 K0 Kr f s b j h := by
  intro f
  induction f with
  | zero => intro j h ho hf hj; omega
  | succ f ih =>
    intro j h ho hf hj hp hr hk
    unfold keys_Read_l0
    simp only [toListE]
    by_cases hlt : (j : Int) < 8
    · rw [if_pos hlt]
      have e1 : IntKind.wrap .i64 ((j : Int) + 1) = ((j + 1 : Nat) : Int) := by rw [wrap64 (by omega) (by omega)]; omega
      refine ex_i (cut_sp _ _) ?_
      have next : (∀ c' : Int, keys_Valid c' j = true → nameV c' j ≠ s) → ∀ c' m' : Int, keys_Valid c' m' = true → m' < ((j + 1 : Nat) : Int) → nameV c' m' ≠ s := by
        intro hh c' m' hv hm
        by_cases hmj : m' = j
        · subst hmj; exact hh c' hv
        · exact hp c' m' hv (by omega)
      have cut : ∀ c' : Int, keys_Valid c' j = true → nameV c' j = s → cutV s (keys_marks j) = (bodyV c', true) := fun c' hv hn => cut_marks (by rw [← hn, name_body hv])
      split
      · rename_i hc
        refine gap_o ho fun h1 ho1 => ?_
        rw [e1]
        refine ih (j + 1) h1 ho1 (by omega) (by omega) (next fun c' hv hn => ?_) hr hk
        rw [cut c' hv hn] at hc
        have hb := body_pos hv
        simp only [Bool.not_true, Bool.false_or, beq_iff_eq] at hc
        have : (bodyV c').data.toList.length = 0 := by rw [hc]; rfl
        have h2 : (bodyV c').data.toList.length = (bodyV c').size := rfl
        omega
      · rename_i hc
        refine gap_o ho fun h1 ho1 => ?_
        have hcs := cut_size s (keys_marks j)
        have hpos : 0 < (cutV s (keys_marks j)).1.size := by
          rcases Nat.eq_zero_or_pos (cutV s (keys_marks j)).1.size with h0 | h0
          · exfalso
            apply hc
            have hn : (cutV s (keys_marks j)).1.data.toList = [] := List.eq_nil_of_length_eq_zero h0
            rw [hn]
            simp
          · exact h0
        refine base_sp (ho1.tab hT) (fun b hb => ho1.ext.cell (hF b hb)) (ho1.tab hA) (by omega) fun r h2 he2 hbo => ?_
        have ho2 := ho1.gap he2
        repeat (first | ((with_reducible apply newB_o); (with_reducible assumption); intro _ _ _) | ((with_reducible apply gap_o); (with_reducible assumption); intro _ _) | ((with_reducible apply st0); (with_reducible assumption); rfl; intro _ _) | ((with_reducible apply st1); (with_reducible assumption); rfl; intro _ _) | ((with_reducible apply st2); (with_reducible assumption); rfl; intro _ _) | ((with_reducible apply ldI0); (with_reducible assumption); rfl) | ((with_reducible apply ldI1); (with_reducible assumption); rfl) | ((with_reducible apply ldI2); (with_reducible assumption); rfl) | ((with_reducible apply ldB0); (with_reducible assumption); rfl) | ((with_reducible apply ldB1); (with_reducible assumption); rfl) | ((with_reducible apply ldS0); (with_reducible assumption); rfl) | ((with_reducible apply ldS1); (with_reducible assumption); rfl) | (with_reducible refine and_i (Own.tab (by with_reducible assumption) (by with_reducible assumption)) ?_) | (with_reducible apply nz_i))
        refine name_sp (Own.tab (by assumption) hT) fun h3 he3 => ?_
        have ho3 := Own.gap (by assumption) he3
        by_cases hn : ((nameV r j).data.toList == s.data.toList) = true
        · rw [if_pos hn]
          have hns := beq_of hn
          have hv : keys_Valid r j = true := by
            by_cases hv : keys_Valid r j = true
            · exact hv
            · exfalso
              rw [name_bad hv] at hns
              rw [← hns] at hcs hpos
              have : (⟨#[]⟩ : ByteArray).size = 0 := rfl
              omega
          repeat (first | ((with_reducible apply newB_o); (with_reducible assumption); intro _ _ _) | ((with_reducible apply gap_o); (with_reducible assumption); intro _ _) | ((with_reducible apply st0); (with_reducible assumption); rfl; intro _ _) | ((with_reducible apply st1); (with_reducible assumption); rfl; intro _ _) | ((with_reducible apply st2); (with_reducible assumption); rfl; intro _ _) | ((with_reducible apply ldI0); (with_reducible assumption); rfl) | ((with_reducible apply ldI1); (with_reducible assumption); rfl) | ((with_reducible apply ldI2); (with_reducible assumption); rfl) | ((with_reducible apply ldB0); (with_reducible assumption); rfl) | ((with_reducible apply ldB1); (with_reducible assumption); rfl) | ((with_reducible apply ldS0); (with_reducible assumption); rfl) | ((with_reducible apply ldS1); (with_reducible assumption); rfl) | (with_reducible refine and_i (Own.tab (by with_reducible assumption) (by with_reducible assumption)) ?_) | (with_reducible apply nz_i))
          exact hr r j _ (Own.tail (by assumption)) hv hns
        · rw [if_neg hn, e1]
          refine ih (j + 1) h3 (Own.tail ho3) (by omega) (by omega) (next fun c' hv hn2 => ?_) hr hk
          apply hn
          rw [cut c' hv hn2] at hbo
          have := hbo c' j hv rfl
          subst this
          rw [hn2]
          simp
    · rw [if_neg hlt]
      exact hk h ho fun c' m' hv => hp c' m' hv (by have := valid_le hv; omega)
theorem read_sp {s : ByteArray} {K : Int → Int → Int → Heap → Prop} {h : Heap} (hT : TabH h) (hF : FirstH h) (hA : AccH h) (hs : (s.size : Int) < 9223372036854775807)
    (hK : ∀ c m e h1, Ext h h1 → ReadOk s c m e → K c m e h1) : keys_Read s K h := by
  unfold keys_Read
  refine newB_o (Own.init h) fun b h1 ho1 => ⟨9, read_l0 (l := []) hT hF hA hs 9 0 h1 ho1 (by omega) (by omega) (fun c' m' hv hm => by have := valid_le hv; omega) (fun c m h2 ho2 hv hn => ?_) (fun h2 ho2 hn => ?_)⟩
  · repeat (first | ((with_reducible apply newB_o); (with_reducible assumption); intro _ _ _) | ((with_reducible apply gap_o); (with_reducible assumption); intro _ _) | ((with_reducible apply st0); (with_reducible assumption); rfl; intro _ _) | ((with_reducible apply st1); (with_reducible assumption); rfl; intro _ _) | ((with_reducible apply st2); (with_reducible assumption); rfl; intro _ _) | ((with_reducible apply ldI0); (with_reducible assumption); rfl) | ((with_reducible apply ldI1); (with_reducible assumption); rfl) | ((with_reducible apply ldI2); (with_reducible assumption); rfl) | ((with_reducible apply ldB0); (with_reducible assumption); rfl) | ((with_reducible apply ldB1); (with_reducible assumption); rfl) | ((with_reducible apply ldS0); (with_reducible assumption); rfl) | ((with_reducible apply ldS1); (with_reducible assumption); rfl) | (with_reducible refine and_i (Own.tab (by with_reducible assumption) (by with_reducible assumption)) ?_) | (with_reducible apply nz_i))
    exact hK _ _ _ _ ho2.ext (.inl ⟨rfl, hv, hn⟩)
  · repeat (first | ((with_reducible apply newB_o); (with_reducible assumption); intro _ _ _) | ((with_reducible apply gap_o); (with_reducible assumption); intro _ _) | ((with_reducible apply st0); (with_reducible assumption); rfl; intro _ _) | ((with_reducible apply st1); (with_reducible assumption); rfl; intro _ _) | ((with_reducible apply st2); (with_reducible assumption); rfl; intro _ _) | ((with_reducible apply ldI0); (with_reducible assumption); rfl) | ((with_reducible apply ldI1); (with_reducible assumption); rfl) | ((with_reducible apply ldI2); (with_reducible assumption); rfl) | ((with_reducible apply ldB0); (with_reducible assumption); rfl) | ((with_reducible apply ldB1); (with_reducible assumption); rfl) | ((with_reducible apply ldS0); (with_reducible assumption); rfl) | ((with_reducible apply ldS1); (with_reducible assumption); rfl) | (with_reducible refine and_i (Own.tab (by with_reducible assumption) (by with_reducible assumption)) ?_) | (with_reducible apply nz_i))
    exact hK _ _ _ _ (Own.ext (by assumption)) (.inr ⟨rfl, rfl, rfl, hn⟩)

/-! ### The document's Read -/
theorem mem_al1 (m : Int) : ∀ (f : Nat) (c : Int) (acc : List (Int × Int)) (x : Int × Int), (x ∈ acc ∨ ∃ d, c ≤ d ∧ d < 128 ∧ d - c < f ∧ x = (d, m)) → x ∈ al1 m f c acc := by
  intro f
  induction f with
  | zero =>
    intro c acc x h
    rcases h with h | ⟨d, h1, h2, h3, h4⟩
    · exact h
    · omega
  | succ f ih =>
    intro c acc x h
    unfold al1
    split
    · rename_i hc
      refine ih (c + 1) _ x ?_
      rcases h with h | ⟨d, h1, h2, h3, h4⟩
      · exact .inl (List.mem_append_left _ h)
      · by_cases hd : d = c
        · subst hd; exact .inl (by rw [h4]; simp)
        · exact .inr ⟨d, by omega, h2, by omega, h4⟩
    · rcases h with h | ⟨d, h1, h2, h3, h4⟩
      · exact h
      · omega
theorem mem_al2 (m : Int) : ∀ (f : Nat) (c : Int) (acc : List (Int × Int)) (x : Int × Int), (x ∈ acc ∨ ∃ d, c ≤ d ∧ d ≤ 16777239 ∧ d - c < f ∧ x = (d, m)) → x ∈ al2 m f c acc := by
  intro f
  induction f with
  | zero =>
    intro c acc x h
    rcases h with h | ⟨d, h1, h2, h3, h4⟩
    · exact h
    · omega
  | succ f ih =>
    intro c acc x h
    unfold al2
    split
    · rename_i hc
      refine ih (c + 1) _ x ?_
      rcases h with h | ⟨d, h1, h2, h3, h4⟩
      · exact .inl (List.mem_append_left _ h)
      · by_cases hd : d = c
        · subst hd; exact .inl (by rw [h4]; simp)
        · exact .inr ⟨d, by omega, h2, by omega, h4⟩
    · rcases h with h | ⟨d, h1, h2, h3, h4⟩
      · exact h
      · omega
theorem mem_al0 : ∀ (f : Nat) (m : Int) (acc : List (Int × Int)) (x : Int × Int), (x ∈ acc ∨ ∃ c j, FinK c ∧ m ≤ j ∧ j ≤ 7 ∧ j - m < f ∧ x = (c, j)) → x ∈ al0 f m acc := by
  intro f
  induction f with
  | zero =>
    intro m acc x h
    rcases h with h | ⟨c, j, h0, h1, h2, h3, h4⟩
    · exact h
    · omega
  | succ f ih =>
    intro m acc x h
    unfold al0
    have e : al12 m acc = al2 m 24 16777217 (al1 m 129 0 acc) := by unfold al12; rfl
    split
    · rename_i hc
      refine ih (m + 1) _ x ?_
      rw [e]
      rcases h with h | ⟨c, j, h0, h1, h2, h3, h4⟩
      · exact .inl (mem_al2 m _ _ _ x (.inl (mem_al1 m _ _ _ x (.inl h))))
      · by_cases hd : j = m
        · subst hd
          refine .inl (mem_al2 j _ _ _ x ?_)
          rcases h0 with h0 | h0
          · exact .inl (mem_al1 j _ _ _ x (.inr ⟨c, h0.1, h0.2, by omega, h4⟩))
          · exact .inr ⟨c, h0.1, h0.2, by omega, h4⟩
        · exact .inr ⟨c, j, h0, by omega, h2, by omega, h4⟩
    · rcases h with h | ⟨c, j, h0, h1, h2, h3, h4⟩
      · exact h
      · omega
theorem mem_all {c m : Int} (hf : FinK c) (h0 : 0 ≤ m) (h1 : m ≤ 7) : (c, m) ∈ allL := by
  unfold allL
  exact mem_al0 9 0 [] _ (.inr ⟨c, m, hf, by omega, h1, by omega, rfl⟩)
theorem readR_l0 {K0 : ByteArray → Nat → Heap → Prop} {Kr : Nat → Int → Heap → Prop} {h0 : Heap} {s : ByteArray} {b : Nat} {c0 c1 : Value} {l} {a : Option Addr} {n c : Nat} {ks : List (Int × Int)} (hn : n < 1000000) :
    ∀ (f : Nat) (i : Nat) (h : Heap), Own h0 h ((b, #[c0, c1], 36) :: l) → SlG h a n ks → n < f + i → i ≤ n → (∀ j, j < i → keys_Valid (ks.getD j (0, 0)).1 (ks.getD j (0, 0)).2 = true → nameV (ks.getD j (0, 0)).1 (ks.getD j (0, 0)).2 ≠ s) →
      (∀ k m h1, Own h0 h1 ((b, #[.int .i64 k, .int .i64 m], 36) :: l) → keys_Valid k m = true → nameV k m = s → Kr b 0 h1) →
      (∀ h1, Own h0 h1 ((b, #[c0, c1], 36) :: l) → (∀ j, j < n → keys_Valid (ks.getD j (0, 0)).1 (ks.getD j (0, 0)).2 = true → nameV (ks.getD j (0, 0)).1 (ks.getD j (0, 0)).2 ≠ s) → K0 s b h1) → ref21_Read_l0 K0 Kr f s b a n c i h := by
  intro f
  induction f with
  | zero => intro i h ho hA hf hi; omega
  | succ f ih =>
    intro i h ho hA hf hi hp hr hk
    unfold ref21_Read_l0
    simp only [toListE]
    have e1 : IntKind.wrap .i64 ((i : Int) + 1) = ((i + 1 : Nat) : Int) := by rw [wrap64 (by omega) (by omega)]; omega
    by_cases hlt : (i : Int) < (n : Int)
    · rw [if_pos hlt]
      obtain ⟨p, hpa, d1, d2⟩ := hA.2 i (by omega)
      have hp1 : ∀ (hh : keys_Valid (ks.getD i (0, 0)).1 (ks.getD i (0, 0)).2 = true → nameV (ks.getD i (0, 0)).1 (ks.getD i (0, 0)).2 ≠ s), ∀ j, j < i + 1 → keys_Valid (ks.getD j (0, 0)).1 (ks.getD j (0, 0)).2 = true → nameV (ks.getD j (0, 0)).1 (ks.getD j (0, 0)).2 ≠ s := fun hh j hj => by
        by_cases hji : j = i
        · subst hji; exact hh
        · exact hp j (by omega)
      generalize hkk : ks.getD i (0, 0) = k at *
      subst hpa
      have f1 : ∀ h', Ext h h' → cellH h' (p.add ((i : Int).toNat * 2)) = some (.int .i64 k.1) := fun h' he => by rw [show (i : Int).toNat * 2 = i * 2 by omega]; exact he.cell d1
      have f2 : ∀ h', Ext h h' → cellH h' ((p.add ((i : Int).toNat * 2)).add 1) = some (.int .i64 k.2) := fun h' he => by rw [show (i : Int).toNat * 2 = i * 2 by omega]; exact he.cell d2
      refine nz_i ⟨by omega, hlt, ⟨_, f1 h (Ext.refl h), ⟨_, f2 h (Ext.refl h), ?_⟩⟩⟩
      simp only []
      rw [valid_eq]
      by_cases hv : keys_Valid k.1 k.2 = true
      · rw [if_pos hv]
        refine ⟨by omega, hlt, fun h2 he2 => ⟨_, f1 h2 he2, ⟨_, f2 h2 he2, ?_⟩⟩⟩
        refine nameR_sp fun h3 he3 => ?_
        rw [name_eq]
        have he13 := he2.trans he3
        have ho3 := ho.gap he13
        by_cases hc : ((nameV k.1 k.2).data.toList == s.data.toList) = true
        · rw [if_pos hc]
          refine ⟨by omega, hlt, ⟨_, f1 h3 he13, ⟨_, f2 h3 he13, ?_⟩⟩⟩
          repeat (first | ((with_reducible apply newB_o); (with_reducible assumption); intro _ _ _) | ((with_reducible apply gap_o); (with_reducible assumption); intro _ _) | ((with_reducible apply st0); (with_reducible assumption); rfl; intro _ _) | ((with_reducible apply st1); (with_reducible assumption); rfl; intro _ _) | ((with_reducible apply st2); (with_reducible assumption); rfl; intro _ _) | ((with_reducible apply ldI0); (with_reducible assumption); rfl) | ((with_reducible apply ldI1); (with_reducible assumption); rfl) | ((with_reducible apply ldI2); (with_reducible assumption); rfl) | ((with_reducible apply ldB0); (with_reducible assumption); rfl) | ((with_reducible apply ldB1); (with_reducible assumption); rfl) | ((with_reducible apply ldS0); (with_reducible assumption); rfl) | ((with_reducible apply ldS1); (with_reducible assumption); rfl) | (with_reducible refine and_i (Own.tab (by with_reducible assumption) (by with_reducible assumption)) ?_) | (with_reducible apply nz_i))
          exact hr k.1 k.2 _ (by assumption) hv (beq_of hc)
        · rw [if_neg hc, e1]
          exact ih (i + 1) h3 ho3 (hA.ext he13) (by omega) (by omega) (hp1 fun _ hns => hc (by rw [hns]; simp)) hr hk
      · rw [if_neg hv]
        refine fun h2 he2 => ?_
        rw [e1]
        exact ih (i + 1) h2 (ho.gap he2) (hA.ext he2) (by omega) (by omega) (hp1 fun hv2 => absurd hv2 hv) hr hk
    · rw [if_neg hlt]
      exact hk h ho fun j hj => hp j (by omega)
theorem readR_j1 {Kr : Nat → Int → Heap → Prop} {h0 h : Heap} {s rest : ByteArray} {b d : Nat} {mm : Int} {l} (hs : (rest.size : Int) < 9223372036854775806) (ho : Own h0 h ((d, #[.int .i64 0, .int .i64 mm], 36) :: (b, #[.int .i64 0, .int .i64 0], 36) :: l))
    (hK : ∀ c m e h1, Own h0 h1 ((b, #[.int .i64 c, .int .i64 m], 36) :: l) → ((e = 0 ∧ keys_Valid c m = true ∧ nameV c m = s) ∨ (e = 210 ∧ c = 0 ∧ m = 0 ∧ ¬ ((firstV rest).2.2 = true ∧ (firstV rest).2.1 = (rest.size : Int) ∧ keys_Valid (firstV rest).1 mm = true ∧ nameV (firstV rest).1 mm = s))) → Kr b e h1) :
    ref21_Read_j1 Kr s b d rest h := by
  unfold ref21_Read_j1
  simp only [toListE]
  refine first_sp fun h2 he => ?_
  have ho2 := ho.gap he
  repeat (first | ((with_reducible apply newB_o); (with_reducible assumption); intro _ _ _) | ((with_reducible apply gap_o); (with_reducible assumption); intro _ _) | ((with_reducible apply st0); (with_reducible assumption); rfl; intro _ _) | ((with_reducible apply st1); (with_reducible assumption); rfl; intro _ _) | ((with_reducible apply st2); (with_reducible assumption); rfl; intro _ _) | ((with_reducible apply ldI0); (with_reducible assumption); rfl) | ((with_reducible apply ldI1); (with_reducible assumption); rfl) | ((with_reducible apply ldI2); (with_reducible assumption); rfl) | ((with_reducible apply ldB0); (with_reducible assumption); rfl) | ((with_reducible apply ldB1); (with_reducible assumption); rfl) | ((with_reducible apply ldS0); (with_reducible assumption); rfl) | ((with_reducible apply ldS1); (with_reducible assumption); rfl) | (with_reducible refine and_i (Own.tab (by with_reducible assumption) (by with_reducible assumption)) ?_) | (with_reducible apply nz_i))
  by_cases hc : ((firstV rest).2.2 && (decide ((firstV rest).2.1 = (rest.size : Int)))) = true
  · rw [if_pos hc]
    simp only [Bool.and_eq_true, decide_eq_true_eq] at hc
    repeat (first | ((with_reducible apply newB_o); (with_reducible assumption); intro _ _ _) | ((with_reducible apply gap_o); (with_reducible assumption); intro _ _) | ((with_reducible apply st0); (with_reducible assumption); rfl; intro _ _) | ((with_reducible apply st1); (with_reducible assumption); rfl; intro _ _) | ((with_reducible apply st2); (with_reducible assumption); rfl; intro _ _) | ((with_reducible apply ldI0); (with_reducible assumption); rfl) | ((with_reducible apply ldI1); (with_reducible assumption); rfl) | ((with_reducible apply ldI2); (with_reducible assumption); rfl) | ((with_reducible apply ldB0); (with_reducible assumption); rfl) | ((with_reducible apply ldB1); (with_reducible assumption); rfl) | ((with_reducible apply ldS0); (with_reducible assumption); rfl) | ((with_reducible apply ldS1); (with_reducible assumption); rfl) | (with_reducible refine and_i (Own.tab (by with_reducible assumption) (by with_reducible assumption)) ?_) | (with_reducible apply nz_i))
    rw [valid_eq]
    by_cases hv : keys_Valid (firstV rest).1 mm = true
    · rw [if_pos hv]
      repeat (first | ((with_reducible apply newB_o); (with_reducible assumption); intro _ _ _) | ((with_reducible apply gap_o); (with_reducible assumption); intro _ _) | ((with_reducible apply st0); (with_reducible assumption); rfl; intro _ _) | ((with_reducible apply st1); (with_reducible assumption); rfl; intro _ _) | ((with_reducible apply st2); (with_reducible assumption); rfl; intro _ _) | ((with_reducible apply ldI0); (with_reducible assumption); rfl) | ((with_reducible apply ldI1); (with_reducible assumption); rfl) | ((with_reducible apply ldI2); (with_reducible assumption); rfl) | ((with_reducible apply ldB0); (with_reducible assumption); rfl) | ((with_reducible apply ldB1); (with_reducible assumption); rfl) | ((with_reducible apply ldS0); (with_reducible assumption); rfl) | ((with_reducible apply ldS1); (with_reducible assumption); rfl) | (with_reducible refine and_i (Own.tab (by with_reducible assumption) (by with_reducible assumption)) ?_) | (with_reducible apply nz_i))
      refine nameR_sp fun h3 he3 => ?_
      rw [name_eq]
      have ho3 := Own.gap (by assumption) he3
      by_cases hn : ((nameV (firstV rest).1 mm).data.toList == s.data.toList) = true
      · rw [if_pos hn]
        repeat (first | ((with_reducible apply newB_o); (with_reducible assumption); intro _ _ _) | ((with_reducible apply gap_o); (with_reducible assumption); intro _ _) | ((with_reducible apply st0); (with_reducible assumption); rfl; intro _ _) | ((with_reducible apply st1); (with_reducible assumption); rfl; intro _ _) | ((with_reducible apply st2); (with_reducible assumption); rfl; intro _ _) | ((with_reducible apply ldI0); (with_reducible assumption); rfl) | ((with_reducible apply ldI1); (with_reducible assumption); rfl) | ((with_reducible apply ldI2); (with_reducible assumption); rfl) | ((with_reducible apply ldB0); (with_reducible assumption); rfl) | ((with_reducible apply ldB1); (with_reducible assumption); rfl) | ((with_reducible apply ldS0); (with_reducible assumption); rfl) | ((with_reducible apply ldS1); (with_reducible assumption); rfl) | (with_reducible refine and_i (Own.tab (by with_reducible assumption) (by with_reducible assumption)) ?_) | (with_reducible apply nz_i))
        exact hK _ _ _ _ (Own.tail (by assumption)) (.inl ⟨rfl, hv, beq_of hn⟩)
      · rw [if_neg hn]
        repeat (first | ((with_reducible apply newB_o); (with_reducible assumption); intro _ _ _) | ((with_reducible apply gap_o); (with_reducible assumption); intro _ _) | ((with_reducible apply st0); (with_reducible assumption); rfl; intro _ _) | ((with_reducible apply st1); (with_reducible assumption); rfl; intro _ _) | ((with_reducible apply st2); (with_reducible assumption); rfl; intro _ _) | ((with_reducible apply ldI0); (with_reducible assumption); rfl) | ((with_reducible apply ldI1); (with_reducible assumption); rfl) | ((with_reducible apply ldI2); (with_reducible assumption); rfl) | ((with_reducible apply ldB0); (with_reducible assumption); rfl) | ((with_reducible apply ldB1); (with_reducible assumption); rfl) | ((with_reducible apply ldS0); (with_reducible assumption); rfl) | ((with_reducible apply ldS1); (with_reducible assumption); rfl) | (with_reducible refine and_i (Own.tab (by with_reducible assumption) (by with_reducible assumption)) ?_) | (with_reducible apply nz_i))
        exact hK _ _ _ _ (Own.tail (by assumption)) (.inr ⟨rfl, rfl, rfl, fun hh => hn (by rw [hh.2.2.2]; simp)⟩)
    · rw [if_neg hv]
      repeat (first | ((with_reducible apply newB_o); (with_reducible assumption); intro _ _ _) | ((with_reducible apply gap_o); (with_reducible assumption); intro _ _) | ((with_reducible apply st0); (with_reducible assumption); rfl; intro _ _) | ((with_reducible apply st1); (with_reducible assumption); rfl; intro _ _) | ((with_reducible apply st2); (with_reducible assumption); rfl; intro _ _) | ((with_reducible apply ldI0); (with_reducible assumption); rfl) | ((with_reducible apply ldI1); (with_reducible assumption); rfl) | ((with_reducible apply ldI2); (with_reducible assumption); rfl) | ((with_reducible apply ldB0); (with_reducible assumption); rfl) | ((with_reducible apply ldB1); (with_reducible assumption); rfl) | ((with_reducible apply ldS0); (with_reducible assumption); rfl) | ((with_reducible apply ldS1); (with_reducible assumption); rfl) | (with_reducible refine and_i (Own.tab (by with_reducible assumption) (by with_reducible assumption)) ?_) | (with_reducible apply nz_i))
      exact hK _ _ _ _ (Own.tail (by assumption)) (.inr ⟨rfl, rfl, rfl, fun hh => hv hh.2.2.1⟩)
  · rw [if_neg hc]
    repeat (first | ((with_reducible apply newB_o); (with_reducible assumption); intro _ _ _) | ((with_reducible apply gap_o); (with_reducible assumption); intro _ _) | ((with_reducible apply st0); (with_reducible assumption); rfl; intro _ _) | ((with_reducible apply st1); (with_reducible assumption); rfl; intro _ _) | ((with_reducible apply st2); (with_reducible assumption); rfl; intro _ _) | ((with_reducible apply ldI0); (with_reducible assumption); rfl) | ((with_reducible apply ldI1); (with_reducible assumption); rfl) | ((with_reducible apply ldI2); (with_reducible assumption); rfl) | ((with_reducible apply ldB0); (with_reducible assumption); rfl) | ((with_reducible apply ldB1); (with_reducible assumption); rfl) | ((with_reducible apply ldS0); (with_reducible assumption); rfl) | ((with_reducible apply ldS1); (with_reducible assumption); rfl) | (with_reducible refine and_i (Own.tab (by with_reducible assumption) (by with_reducible assumption)) ?_) | (with_reducible apply nz_i))
    exact hK _ _ _ _ (Own.tail (by assumption)) (.inr ⟨rfl, rfl, rfl, fun hh => hc (by rw [hh.1, hh.2.1]; simp)⟩)
end Go.Proofs.YtkbpnmgkdodcmaaDoor.M
