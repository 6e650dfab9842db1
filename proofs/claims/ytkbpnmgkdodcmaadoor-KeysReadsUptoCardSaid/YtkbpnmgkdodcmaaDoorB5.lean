import Derived.Test.YtkbpnmgkdodcmaaDoorB4
set_option linter.unusedVariables false
set_option linter.unusedSimpArgs false
set_option maxRecDepth 100000
namespace Go.Proofs.YtkbpnmgkdodcmaaDoor.M
open Go Go.Hp

/-! ### Names -/
def namedV (a1 : Int) : ByteArray :=
  if a1 = 32 then ⟨#[83, 112, 97, 99, 101]⟩ else if a1 = 13 then ⟨#[69, 110, 116, 101, 114]⟩ else if a1 = 9 then ⟨#[84, 97, 98]⟩
  else if a1 = 27 then ⟨#[69, 115, 99, 97, 112, 101]⟩ else if a1 = 127 then ⟨#[66, 83, 112, 97, 99, 101]⟩ else if a1 = 16777239 then ⟨#[66, 84, 97, 98]⟩
  else if (keys_special a1) = true then (rowV a1).1 else ⟨#[]⟩
theorem named_sp {c : Int} {K : ByteArray → Heap → Prop} {h : Heap} (hT : TabH h) (hK : ∀ h1, Ext h h1 → K (namedV c) h1) : keys_named c K h := by
  have ho := Own.init h
  unfold keys_named
  unfold namedV at hK
  by_cases h1 : c = 32
  · rw [if_pos h1] at hK ⊢; exact hK _ (Ext.refl _)
  rw [if_neg h1] at hK ⊢
  by_cases h1 : c = 13
  · rw [if_pos h1] at hK ⊢; exact hK _ (Ext.refl _)
  rw [if_neg h1] at hK ⊢
  by_cases h1 : c = 9
  · rw [if_pos h1] at hK ⊢; exact hK _ (Ext.refl _)
  rw [if_neg h1] at hK ⊢
  by_cases h1 : c = 27
  · rw [if_pos h1] at hK ⊢; exact hK _ (Ext.refl _)
  rw [if_neg h1] at hK ⊢
  by_cases h1 : c = 127
  · rw [if_pos h1] at hK ⊢; exact hK _ (Ext.refl _)
  rw [if_neg h1] at hK ⊢
  by_cases h1 : c = 16777239
  · rw [if_pos h1] at hK ⊢; exact hK _ (Ext.refl _)
  rw [if_neg h1] at hK ⊢
  by_cases h1 : keys_special c = true
  · rw [if_pos h1] at hK ⊢
    have hr : 16777217 ≤ c ∧ c ≤ 16777238 := by simpa [keys_special] using h1
    have e1 : IntKind.wrap .i64 (c - 16777217) = c - 16777217 := wrap64 (by omega) (by omega)
    rw [e1]
    refine ⟨by omega, by omega, ?_⟩
    repeat (first | ((with_reducible apply newB_o); (with_reducible assumption); intro _ _ _) | ((with_reducible apply gap_o); (with_reducible assumption); intro _ _) | ((with_reducible apply st0); (with_reducible assumption); rfl; intro _ _) | ((with_reducible apply st1); (with_reducible assumption); rfl; intro _ _) | ((with_reducible apply st2); (with_reducible assumption); rfl; intro _ _) | ((with_reducible apply ldI0); (with_reducible assumption); rfl) | ((with_reducible apply ldI1); (with_reducible assumption); rfl) | ((with_reducible apply ldI2); (with_reducible assumption); rfl) | ((with_reducible apply ldB0); (with_reducible assumption); rfl) | ((with_reducible apply ldB1); (with_reducible assumption); rfl) | ((with_reducible apply ldS0); (with_reducible assumption); rfl) | ((with_reducible apply ldS1); (with_reducible assumption); rfl) | (with_reducible refine and_i (Own.tab (by with_reducible assumption) (by with_reducible assumption)) ?_) | (with_reducible apply nz_i))
    exact hK _ (Own.ext (by assumption))
  · rw [if_neg h1] at hK ⊢
    repeat (first | ((with_reducible apply newB_o); (with_reducible assumption); intro _ _ _) | ((with_reducible apply gap_o); (with_reducible assumption); intro _ _) | ((with_reducible apply st0); (with_reducible assumption); rfl; intro _ _) | ((with_reducible apply st1); (with_reducible assumption); rfl; intro _ _) | ((with_reducible apply st2); (with_reducible assumption); rfl; intro _ _) | ((with_reducible apply ldI0); (with_reducible assumption); rfl) | ((with_reducible apply ldI1); (with_reducible assumption); rfl) | ((with_reducible apply ldI2); (with_reducible assumption); rfl) | ((with_reducible apply ldB0); (with_reducible assumption); rfl) | ((with_reducible apply ldB1); (with_reducible assumption); rfl) | ((with_reducible apply ldS0); (with_reducible assumption); rfl) | ((with_reducible apply ldS1); (with_reducible assumption); rfl) | (with_reducible refine and_i (Own.tab (by with_reducible assumption) (by with_reducible assumption)) ?_) | (with_reducible apply nz_i))
    exact hK _ (Own.ext (by assumption))
theorem row_name : ∀ n : Fin 22, 0 < (tab0.getD n.val tab0d).1.size ∧ (tab0.getD n.val tab0d).1.size ≤ 20 := by decide +kernel
theorem namedV_size (c : Int) : (namedV c).size ≤ 20 := by
  unfold namedV
  repeat' split
  all_goals first | decide | skip
  rename_i h1
  have hr : 16777217 ≤ c ∧ c ≤ 16777238 := by simpa [keys_special] using h1
  exact (row_name ⟨(c - 16777217).toNat, by omega⟩).2
theorem marks_size (m : Int) : (keys_marks m).size ≤ 6 := by
  unfold keys_marks
  repeat' split
  all_goals decide
theorem encode_size (r : Int) : (Utf8.encode r).size ≤ 4 := by
  unfold Utf8.encode
  simp only []
  repeat' split
  all_goals exact Nat.le_of_ble_eq_true rfl
def nameV (c m : Int) : ByteArray :=
  if (!(keys_Valid c m)) = true then ⟨#[]⟩
  else if (!((namedV c).data.toList == (⟨#[]⟩ : ByteArray).data.toList)) = true then (keys_marks m) ++ namedV c
  else (keys_marks m) ++ (Utf8.encode (IntKind.wrap .i32 c))
theorem name_sp {c m : Int} {K : ByteArray → Heap → Prop} {h : Heap} (hT : TabH h) (hK : ∀ h1, Ext h h1 → K (nameV c m) h1) : keys_Name c m K h := by
  have ho := Own.init h
  unfold keys_Name
  simp only [toListE]
  unfold nameV at hK
  repeat (first | ((with_reducible apply newB_o); (with_reducible assumption); intro _ _ _) | ((with_reducible apply gap_o); (with_reducible assumption); intro _ _) | ((with_reducible apply st0); (with_reducible assumption); rfl; intro _ _) | ((with_reducible apply st1); (with_reducible assumption); rfl; intro _ _) | ((with_reducible apply st2); (with_reducible assumption); rfl; intro _ _) | ((with_reducible apply ldI0); (with_reducible assumption); rfl) | ((with_reducible apply ldI1); (with_reducible assumption); rfl) | ((with_reducible apply ldI2); (with_reducible assumption); rfl) | ((with_reducible apply ldB0); (with_reducible assumption); rfl) | ((with_reducible apply ldB1); (with_reducible assumption); rfl) | ((with_reducible apply ldS0); (with_reducible assumption); rfl) | ((with_reducible apply ldS1); (with_reducible assumption); rfl) | (with_reducible refine and_i (Own.tab (by with_reducible assumption) (by with_reducible assumption)) ?_) | (with_reducible apply nz_i))
  have hs1 := namedV_size c
  have hs2 := marks_size m
  have hs3 := encode_size (IntKind.wrap .i32 c)
  split
  · rename_i hc
    rw [if_pos hc] at hK
    repeat (first | ((with_reducible apply newB_o); (with_reducible assumption); intro _ _ _) | ((with_reducible apply gap_o); (with_reducible assumption); intro _ _) | ((with_reducible apply st0); (with_reducible assumption); rfl; intro _ _) | ((with_reducible apply st1); (with_reducible assumption); rfl; intro _ _) | ((with_reducible apply st2); (with_reducible assumption); rfl; intro _ _) | ((with_reducible apply ldI0); (with_reducible assumption); rfl) | ((with_reducible apply ldI1); (with_reducible assumption); rfl) | ((with_reducible apply ldI2); (with_reducible assumption); rfl) | ((with_reducible apply ldB0); (with_reducible assumption); rfl) | ((with_reducible apply ldB1); (with_reducible assumption); rfl) | ((with_reducible apply ldS0); (with_reducible assumption); rfl) | ((with_reducible apply ldS1); (with_reducible assumption); rfl) | (with_reducible refine and_i (Own.tab (by with_reducible assumption) (by with_reducible assumption)) ?_) | (with_reducible apply nz_i))
    exact hK _ (Own.ext (by assumption))
  · rename_i hc
    rw [if_neg hc] at hK
    repeat (first | ((with_reducible apply newB_o); (with_reducible assumption); intro _ _ _) | ((with_reducible apply gap_o); (with_reducible assumption); intro _ _) | ((with_reducible apply st0); (with_reducible assumption); rfl; intro _ _) | ((with_reducible apply st1); (with_reducible assumption); rfl; intro _ _) | ((with_reducible apply st2); (with_reducible assumption); rfl; intro _ _) | ((with_reducible apply ldI0); (with_reducible assumption); rfl) | ((with_reducible apply ldI1); (with_reducible assumption); rfl) | ((with_reducible apply ldI2); (with_reducible assumption); rfl) | ((with_reducible apply ldB0); (with_reducible assumption); rfl) | ((with_reducible apply ldB1); (with_reducible assumption); rfl) | ((with_reducible apply ldS0); (with_reducible assumption); rfl) | ((with_reducible apply ldS1); (with_reducible assumption); rfl) | (with_reducible refine and_i (Own.tab (by with_reducible assumption) (by with_reducible assumption)) ?_) | (with_reducible apply nz_i))
    refine named_sp (Own.tab (by assumption) hT) fun h2 he => ?_
    have ho2 := Own.gap (by assumption) he
    split
    · rename_i hn
      rw [if_pos hn] at hK
      repeat (first | ((with_reducible apply newB_o); (with_reducible assumption); intro _ _ _) | ((with_reducible apply gap_o); (with_reducible assumption); intro _ _) | ((with_reducible apply st0); (with_reducible assumption); rfl; intro _ _) | ((with_reducible apply st1); (with_reducible assumption); rfl; intro _ _) | ((with_reducible apply st2); (with_reducible assumption); rfl; intro _ _) | ((with_reducible apply ldI0); (with_reducible assumption); rfl) | ((with_reducible apply ldI1); (with_reducible assumption); rfl) | ((with_reducible apply ldI2); (with_reducible assumption); rfl) | ((with_reducible apply ldB0); (with_reducible assumption); rfl) | ((with_reducible apply ldB1); (with_reducible assumption); rfl) | ((with_reducible apply ldS0); (with_reducible assumption); rfl) | ((with_reducible apply ldS1); (with_reducible assumption); rfl) | (with_reducible refine and_i (Own.tab (by with_reducible assumption) (by with_reducible assumption)) ?_) | (with_reducible apply nz_i))
      refine ⟨by omega, ?_⟩
      repeat (first | ((with_reducible apply newB_o); (with_reducible assumption); intro _ _ _) | ((with_reducible apply gap_o); (with_reducible assumption); intro _ _) | ((with_reducible apply st0); (with_reducible assumption); rfl; intro _ _) | ((with_reducible apply st1); (with_reducible assumption); rfl; intro _ _) | ((with_reducible apply st2); (with_reducible assumption); rfl; intro _ _) | ((with_reducible apply ldI0); (with_reducible assumption); rfl) | ((with_reducible apply ldI1); (with_reducible assumption); rfl) | ((with_reducible apply ldI2); (with_reducible assumption); rfl) | ((with_reducible apply ldB0); (with_reducible assumption); rfl) | ((with_reducible apply ldB1); (with_reducible assumption); rfl) | ((with_reducible apply ldS0); (with_reducible assumption); rfl) | ((with_reducible apply ldS1); (with_reducible assumption); rfl) | (with_reducible refine and_i (Own.tab (by with_reducible assumption) (by with_reducible assumption)) ?_) | (with_reducible apply nz_i))
      exact hK _ (Own.ext (by assumption))
    · rename_i hn
      rw [if_neg hn] at hK
      repeat (first | ((with_reducible apply newB_o); (with_reducible assumption); intro _ _ _) | ((with_reducible apply gap_o); (with_reducible assumption); intro _ _) | ((with_reducible apply st0); (with_reducible assumption); rfl; intro _ _) | ((with_reducible apply st1); (with_reducible assumption); rfl; intro _ _) | ((with_reducible apply st2); (with_reducible assumption); rfl; intro _ _) | ((with_reducible apply ldI0); (with_reducible assumption); rfl) | ((with_reducible apply ldI1); (with_reducible assumption); rfl) | ((with_reducible apply ldI2); (with_reducible assumption); rfl) | ((with_reducible apply ldB0); (with_reducible assumption); rfl) | ((with_reducible apply ldB1); (with_reducible assumption); rfl) | ((with_reducible apply ldS0); (with_reducible assumption); rfl) | ((with_reducible apply ldS1); (with_reducible assumption); rfl) | (with_reducible refine and_i (Own.tab (by with_reducible assumption) (by with_reducible assumption)) ?_) | (with_reducible apply nz_i))
      refine ⟨(Own.get0 (by assumption)).cell 0 rfl, by omega, hK _ (Own.ext (by assumption))⟩

/-! ### Two slices the same -/
def SlG (h : Heap) (a : Option Addr) (n : Nat) (ks : List (Int × Int)) : Prop :=
  n = ks.length ∧ ∀ i, i < n → ∃ p, a = some p ∧ cellH h (p.add (i * 2)) = some (.int .i64 (ks.getD i (0, 0)).1) ∧ cellH h ((p.add (i * 2)).add 1) = some (.int .i64 (ks.getD i (0, 0)).2)
theorem SlO.slg {a : Option Addr} {n c : Nat} {ks : List (Int × Int)} {t o pre l} {h0 h : Heap} (hs : SlO kf 2 t a n c ks o) (ho : Own h0 h (pre ++ (o ++ l))) : SlG h a n ks := by
  refine ⟨hs.1, fun i hi => ?_⟩
  obtain ⟨p, hp, hc⟩ := hs.get kf_len ho i (0, 0) hi
  refine ⟨p, hp, ?_, hc 1 _ rfl⟩
  have := hc 0 _ rfl
  have e : ∀ q : Addr, q.add 0 = q := fun q => by unfold Addr.add; rfl
  rwa [e] at this
theorem SlG.ext {h h' : Heap} {a : Option Addr} {n : Nat} {ks} (hs : SlG h a n ks) (he : Ext h h') : SlG h' a n ks :=
  ⟨hs.1, fun i hi => (hs.2 i hi).imp fun p hp => ⟨hp.1, he.cell hp.2.1, he.cell hp.2.2⟩⟩
theorem same_loop {K0 : Heap → Prop} {Kr : Bool → Heap → Prop} {h : Heap} {a a' : Option Addr} {n c n' c' : Nat} {ks js : List (Int × Int)} (h1 : SlG h a n ks) (h2 : SlG h a' n' js) (hn : n = n') (hb : n < 9000000000000000000) :
    ∀ (f : Nat) (i : Nat), n < f + i → i ≤ n → ks.take i = js.take i → (ks = js → K0 h) → (ks ≠ js → Kr false h) → law21_same_l0 K0 Kr f a n c a' n' c' i h := by
  intro f
  induction f with
  | zero => intro i hf hi; omega
  | succ f ih =>
    intro i hf hi he hk hr
    unfold law21_same_l0
    have l1 := h1.1
    have l2 := h2.1
    by_cases hlt : (i : Int) < (n : Int)
    · rw [if_pos hlt]
      obtain ⟨p, rfl, c1, c2⟩ := h1.2 i (by omega)
      obtain ⟨q, rfl, d1, d2⟩ := h2.2 i (by omega)
      refine nz_i ⟨by omega, hlt, ⟨_, c1, ⟨_, c2, nz_i ⟨by omega, by omega, ⟨_, d1, ⟨_, d2, ?_⟩⟩⟩⟩⟩⟩
      have g1 : ks.getD i (0, 0) = ks[i]'(by omega) := by rw [List.getD_eq_getElem?_getD, List.getElem?_eq_getElem (by omega)]; rfl
      have g2 : js.getD i (0, 0) = js[i]'(by omega) := by rw [List.getD_eq_getElem?_getD, List.getElem?_eq_getElem (by omega)]; rfl
      simp only []
      split
      · rename_i hd
        refine hr fun hkj => ?_
        subst hkj
        simp at hd
      · rename_i hd
        have he2 : ks[i]'(by omega) = js[i]'(by omega) := by
          rw [← g1, ← g2]
          have : ((ks.getD i (0, 0)).1 == (js.getD i (0, 0)).1 && (ks.getD i (0, 0)).2 == (js.getD i (0, 0)).2) = true := by simpa using hd
          simp only [Bool.and_eq_true, beq_iff_eq] at this
          exact Prod.ext this.1 this.2
        have e1 : IntKind.wrap .i64 ((i : Int) + 1) = ((i + 1 : Nat) : Int) := by rw [wrap64 (by omega) (by omega)]; omega
        rw [e1]
        refine ih (i + 1) (by omega) (by omega) ?_ hk hr
        rw [List.take_add_one, List.take_add_one, he, List.getElem?_eq_getElem (by omega), List.getElem?_eq_getElem (by omega), he2]
    · rw [if_neg hlt]
      refine hk ?_
      rwa [List.take_of_length_le (by omega), List.take_of_length_le (by omega)] at he
theorem same_sp {K : Bool → Heap → Prop} {h : Heap} {a a' : Option Addr} {n c n' c' : Nat} {ks js : List (Int × Int)} (h1 : SlG h a n ks) (h2 : SlG h a' n' js) (hb : n < 9000000000000000000) (hk : K (decide (ks = js)) h) : law21_same a n c a' n' c' K h := by
  unfold law21_same
  have l1 := h1.1
  have l2 := h2.1
  by_cases hn : (n : Int) = (n' : Int)
  · rw [if_pos hn]
    refine ⟨n + 1, same_loop h1 h2 (by omega) hb (n + 1) 0 (by omega) (by omega) (by simp) (fun he => ?_) (fun he => ?_)⟩
    · rwa [decide_eq_true he] at hk
    · rwa [decide_eq_false he] at hk
  · rw [if_neg hn]
    have : ks ≠ js := by rintro rfl; omega
    rwa [decide_eq_false this] at hk
theorem lit_slo {α : Type} {f : α → List Value} {sz : Nat} {t : TypeId} {b n : Nat} (ks : List α) (hn : n = ks.length) : SlO f sz t (some ⟨b, 0, none⟩) n n ks [(b, (ks.flatMap f).toArray, t)] :=
  ⟨hn, .inr ⟨b, _, [], rfl, rfl, by simp, by simp, Nat.le_refl _⟩⟩

/-! ### What must come whatever is asked -/
theorem sure_name : nameV 98 4 = ⟨#[67, 45, 98]⟩ := by decide +kernel
theorem sure_feed : feedV ⟨#[97, 27, 91, 65, 27]⟩ = ([(97, 0), (16777217, 0)], ⟨#[27]⟩) := by decide +kernel
theorem sure_flush : flushV ⟨#[27]⟩ = [(27, 0)] := by decide +kernel
theorem sure_sp {K : Bool → Heap → Prop} {h : Heap} (hT : TabH h) (hK : ∀ h1, Ext h h1 → K true h1) : law21_sure K h := by
  have ho := Own.init h
  unfold law21_sure
  refine new_sp ho fun d h1 ho1 => ?_
  simp only [Option.isNone_some, Bool.false_eq_true, if_false, toListE]
  refine name_sp (ho1.tab hT) fun h2 he => ?_
  have ho2 := ho1.gap he
  rw [sure_name]
  simp only [beq_self_eq_true, Bool.not_true, Bool.false_eq_true, if_false]
  refine feed_sp hT ho2 (by decide) fun a n c o h3 ho3 hs3 => ?_
  have e : (⟨#[]⟩ : ByteArray) ++ (⟨#[97, 27, 91, 65, 27]⟩ : ByteArray) = ⟨#[97, 27, 91, 65, 27]⟩ := by decide
  rw [e, sure_feed] at ho3 hs3
  refine flush_sp ho3 (by decide) fun a2 n2 c2 o2 h4 ho4 hs4 => ?_
  rw [sure_flush] at hs4
  repeat (first | ((with_reducible apply newB_o); (with_reducible assumption); intro _ _ _) | ((with_reducible apply gap_o); (with_reducible assumption); intro _ _) | ((with_reducible apply st0); (with_reducible assumption); rfl; intro _ _) | ((with_reducible apply st1); (with_reducible assumption); rfl; intro _ _) | ((with_reducible apply st2); (with_reducible assumption); rfl; intro _ _) | ((with_reducible apply ldI0); (with_reducible assumption); rfl) | ((with_reducible apply ldI1); (with_reducible assumption); rfl) | ((with_reducible apply ldI2); (with_reducible assumption); rfl) | ((with_reducible apply ldB0); (with_reducible assumption); rfl) | ((with_reducible apply ldB1); (with_reducible assumption); rfl) | ((with_reducible apply ldS0); (with_reducible assumption); rfl) | ((with_reducible apply ldS1); (with_reducible assumption); rfl) | (with_reducible refine and_i (Own.tab (by with_reducible assumption) (by with_reducible assumption)) ?_) | (with_reducible apply nz_i))
  have hO := ‹Own h _ _›
  refine same_sp (ks := [(97, 0), (16777217, 0)]) (js := [(97, 0), (16777217, 0)]) ?_ ?_ ?_ ?_
  · exact SlO.slg hs3 (pre := [_, _] ++ o2) (l := []) (by simpa using hO)
  · exact SlO.slg (pre := []) (lit_slo (f := kf) (sz := 2) (t := 36) [(97, 0), (16777217, 0)] rfl) (by simpa using hO)
  · have := hs3.1; simp at this; omega
  simp only [decide_true, if_true]
  repeat (first | ((with_reducible apply newB_o); (with_reducible assumption); intro _ _ _) | ((with_reducible apply gap_o); (with_reducible assumption); intro _ _) | ((with_reducible apply st0); (with_reducible assumption); rfl; intro _ _) | ((with_reducible apply st1); (with_reducible assumption); rfl; intro _ _) | ((with_reducible apply st2); (with_reducible assumption); rfl; intro _ _) | ((with_reducible apply ldI0); (with_reducible assumption); rfl) | ((with_reducible apply ldI1); (with_reducible assumption); rfl) | ((with_reducible apply ldI2); (with_reducible assumption); rfl) | ((with_reducible apply ldB0); (with_reducible assumption); rfl) | ((with_reducible apply ldB1); (with_reducible assumption); rfl) | ((with_reducible apply ldS0); (with_reducible assumption); rfl) | ((with_reducible apply ldS1); (with_reducible assumption); rfl) | (with_reducible refine and_i (Own.tab (by with_reducible assumption) (by with_reducible assumption)) ?_) | (with_reducible apply nz_i))
  have hO := ‹Own h _ ((_, #[Value.int IntKind.i64 27, Value.int IntKind.i64 0], 36) :: _)›
  refine same_sp (ks := [(27, 0)]) (js := [(27, 0)]) ?_ ?_ ?_ ?_
  · exact SlO.slg hs4 (pre := [_, _, _]) (l := o) (by simpa using hO)
  · exact SlO.slg (pre := []) (lit_slo (f := kf) (sz := 2) (t := 36) [(27, 0)] rfl) (by simpa using hO)
  · have := hs4.1; simp at this; omega
  simp only [decide_true]
  exact hK _ hO.ext
end Go.Proofs.YtkbpnmgkdodcmaaDoor.M
