import Derived.Test.YtkbpnmgkdodcmaaDoorB9
set_option linter.unusedVariables false
set_option linter.unusedSimpArgs false
set_option maxRecDepth 100000
namespace Go.Proofs.YtkbpnmgkdodcmaaDoor.M
open Go Go.Hp

/-! ### The document's names -/
def wordsL : List ByteArray := [⟨#[85, 112]⟩, ⟨#[68, 111, 119, 110]⟩, ⟨#[82, 105, 103, 104, 116]⟩, ⟨#[76, 101, 102, 116]⟩, ⟨#[72, 111, 109, 101]⟩, ⟨#[69, 110, 100]⟩, ⟨#[73, 110, 115, 101, 114, 116]⟩, ⟨#[68, 101, 108, 101, 116, 101]⟩, ⟨#[80, 97, 103, 101, 85, 112]⟩, ⟨#[80, 97, 103, 101, 68, 111, 119, 110]⟩, ⟨#[70, 49]⟩, ⟨#[70, 50]⟩, ⟨#[70, 51]⟩, ⟨#[70, 52]⟩, ⟨#[70, 53]⟩, ⟨#[70, 54]⟩, ⟨#[70, 55]⟩, ⟨#[70, 56]⟩, ⟨#[70, 57]⟩, ⟨#[70, 49, 48]⟩, ⟨#[70, 49, 49]⟩, ⟨#[70, 49, 50]⟩, ⟨#[66, 84, 97, 98]⟩]
theorem words_sp {h0 h : Heap} {l} {K : Option Addr → Nat → Nat → Heap → Prop} (ho : Own h0 h l) (hk : ∀ b h1, Own h0 h1 ((b, (wordsL.map Value.string).toArray, 9) :: l) → K (some ⟨b, 0, none⟩) 23 23 h1) : ref21_words K h := by
  unfold ref21_words
  repeat (first | ((with_reducible apply newB_o); (with_reducible assumption); intro _ _ _) | ((with_reducible apply gap_o); (with_reducible assumption); intro _ _) | ((with_reducible apply st0); (with_reducible assumption); rfl; intro _ _) | ((with_reducible apply st1); (with_reducible assumption); rfl; intro _ _) | ((with_reducible apply st2); (with_reducible assumption); rfl; intro _ _) | ((with_reducible apply ldI0); (with_reducible assumption); rfl) | ((with_reducible apply ldI1); (with_reducible assumption); rfl) | ((with_reducible apply ldI2); (with_reducible assumption); rfl) | ((with_reducible apply ldB0); (with_reducible assumption); rfl) | ((with_reducible apply ldB1); (with_reducible assumption); rfl) | ((with_reducible apply ldS0); (with_reducible assumption); rfl) | ((with_reducible apply ldS1); (with_reducible assumption); rfl) | (with_reducible refine and_i (Own.tab (by with_reducible assumption) (by with_reducible assumption)) ?_) | (with_reducible apply nz_i))
  exact hk _ _ (by assumption)
def bodyR (c : Int) : ByteArray :=
  if c = 32 then ⟨#[83, 112, 97, 99, 101]⟩ else if c = 13 then ⟨#[69, 110, 116, 101, 114]⟩ else if c = 9 then ⟨#[84, 97, 98]⟩
  else if c = 27 then ⟨#[69, 115, 99, 97, 112, 101]⟩ else if c = 127 then ⟨#[66, 83, 112, 97, 99, 101]⟩
  else if 16777217 ≤ c then wordsL.getD (c - 16777217).toNat ⟨#[]⟩ else ref21_utf8 c
theorem words_size : ∀ n : Fin 23, (wordsL.getD n.val ⟨#[]⟩).size ≤ 20 := by decide +kernel
theorem bytesOf_size (l : List Int) : (bytesOf l).size = l.length := by
  unfold bytesOf
  have key : ∀ (l : List Int) (s : ByteArray), (l.foldl (fun s n => s.push (UInt8.ofNat n.toNat)) s).size = s.size + l.length := by
    intro l
    induction l with
    | nil => intro s; rfl
    | cons x l ih => intro s; rw [List.foldl_cons, ih, ByteArray.size_push, List.length_cons]; omega
  rw [key]
  simp
theorem utf8_size (c : Int) : (ref21_utf8 c).size ≤ 4 := by
  unfold ref21_utf8
  repeat' split
  all_goals (rw [bytesOf_size]; simp)
theorem j2_sp {Kr : ByteArray → Heap → Prop} {h0 h : Heap} {b : Nat} {c m : Int} {t l} {s : ByteArray} (hs : s.size ≤ 6) (hc : c ≤ 16777239) (ho : Own h0 h ((b, #[.int .i64 c, .int .i64 m], t) :: l))
    (hK : ∀ h1, Ext h0 h1 → Kr (s ++ bodyR c) h1) : ref21_Name_j2 Kr b s h := by
  unfold ref21_Name_j2
  unfold bodyR at hK
  repeat (first | ((with_reducible apply newB_o); (with_reducible assumption); intro _ _ _) | ((with_reducible apply gap_o); (with_reducible assumption); intro _ _) | ((with_reducible apply st0); (with_reducible assumption); rfl; intro _ _) | ((with_reducible apply st1); (with_reducible assumption); rfl; intro _ _) | ((with_reducible apply st2); (with_reducible assumption); rfl; intro _ _) | ((with_reducible apply ldI0); (with_reducible assumption); rfl) | ((with_reducible apply ldI1); (with_reducible assumption); rfl) | ((with_reducible apply ldI2); (with_reducible assumption); rfl) | ((with_reducible apply ldB0); (with_reducible assumption); rfl) | ((with_reducible apply ldB1); (with_reducible assumption); rfl) | ((with_reducible apply ldS0); (with_reducible assumption); rfl) | ((with_reducible apply ldS1); (with_reducible assumption); rfl) | (with_reducible refine and_i (Own.tab (by with_reducible assumption) (by with_reducible assumption)) ?_) | (with_reducible apply nz_i))
  have z1 : (⟨#[83, 112, 97, 99, 101]⟩ : ByteArray).size = 5 := rfl
  have z2 : (⟨#[69, 110, 116, 101, 114]⟩ : ByteArray).size = 5 := rfl
  have z3 : (⟨#[84, 97, 98]⟩ : ByteArray).size = 3 := rfl
  have z4 : (⟨#[69, 115, 99, 97, 112, 101]⟩ : ByteArray).size = 6 := rfl
  have z5 : (⟨#[66, 83, 112, 97, 99, 101]⟩ : ByteArray).size = 6 := rfl
  by_cases h1 : c = 32
  · rw [if_pos h1] at hK ⊢; exact ⟨by omega, hK _ ho.ext⟩
  rw [if_neg h1] at hK ⊢
  by_cases h1 : c = 13
  · rw [if_pos h1] at hK ⊢; exact ⟨by omega, hK _ ho.ext⟩
  rw [if_neg h1] at hK ⊢
  by_cases h1 : c = 9
  · rw [if_pos h1] at hK ⊢; exact ⟨by omega, hK _ ho.ext⟩
  rw [if_neg h1] at hK ⊢
  by_cases h1 : c = 27
  · rw [if_pos h1] at hK ⊢; exact ⟨by omega, hK _ ho.ext⟩
  rw [if_neg h1] at hK ⊢
  by_cases h1 : c = 127
  · rw [if_pos h1] at hK ⊢; exact ⟨by omega, hK _ ho.ext⟩
  rw [if_neg h1] at hK ⊢
  repeat (first | ((with_reducible apply newB_o); (with_reducible assumption); intro _ _ _) | ((with_reducible apply gap_o); (with_reducible assumption); intro _ _) | ((with_reducible apply st0); (with_reducible assumption); rfl; intro _ _) | ((with_reducible apply st1); (with_reducible assumption); rfl; intro _ _) | ((with_reducible apply st2); (with_reducible assumption); rfl; intro _ _) | ((with_reducible apply ldI0); (with_reducible assumption); rfl) | ((with_reducible apply ldI1); (with_reducible assumption); rfl) | ((with_reducible apply ldI2); (with_reducible assumption); rfl) | ((with_reducible apply ldB0); (with_reducible assumption); rfl) | ((with_reducible apply ldB1); (with_reducible assumption); rfl) | ((with_reducible apply ldS0); (with_reducible assumption); rfl) | ((with_reducible apply ldS1); (with_reducible assumption); rfl) | (with_reducible refine and_i (Own.tab (by with_reducible assumption) (by with_reducible assumption)) ?_) | (with_reducible apply nz_i))
  by_cases h1 : 16777217 ≤ c
  · rw [if_pos h1] at hK ⊢
    repeat (first | ((with_reducible apply newB_o); (with_reducible assumption); intro _ _ _) | ((with_reducible apply gap_o); (with_reducible assumption); intro _ _) | ((with_reducible apply st0); (with_reducible assumption); rfl; intro _ _) | ((with_reducible apply st1); (with_reducible assumption); rfl; intro _ _) | ((with_reducible apply st2); (with_reducible assumption); rfl; intro _ _) | ((with_reducible apply ldI0); (with_reducible assumption); rfl) | ((with_reducible apply ldI1); (with_reducible assumption); rfl) | ((with_reducible apply ldI2); (with_reducible assumption); rfl) | ((with_reducible apply ldB0); (with_reducible assumption); rfl) | ((with_reducible apply ldB1); (with_reducible assumption); rfl) | ((with_reducible apply ldS0); (with_reducible assumption); rfl) | ((with_reducible apply ldS1); (with_reducible assumption); rfl) | (with_reducible refine and_i (Own.tab (by with_reducible assumption) (by with_reducible assumption)) ?_) | (with_reducible apply nz_i))
    have e1 : IntKind.wrap .i64 (c - 16777217) = c - 16777217 := wrap64 (by omega) (by omega)
    refine words_sp ho fun b1 h2 ho2 => ?_
    refine ⟨ho2.get1.cell 0 rfl, nz_i ?_⟩
    rw [e1]
    have hw := words_size ⟨(c - 16777217).toNat, by omega⟩
    have hlen : wordsL.length = 23 := rfl
    refine ⟨by omega, by omega, ldS_x (v := wordsL.getD (c - 16777217).toNat ⟨#[]⟩) ho2.get0 ?_ ⟨by simp only [] at hw; omega, hK _ ho2.ext⟩⟩
    rw [Nat.mul_one, ← Array.getElem?_toList]
    show (wordsL.map Value.string)[(c - 16777217).toNat]? = _
    rw [List.getElem?_map, List.getElem?_eq_getElem (by omega), List.getD_eq_getElem?_getD, List.getElem?_eq_getElem (by omega)]
    rfl
  · rw [if_neg h1] at hK ⊢
    repeat (first | ((with_reducible apply newB_o); (with_reducible assumption); intro _ _ _) | ((with_reducible apply gap_o); (with_reducible assumption); intro _ _) | ((with_reducible apply st0); (with_reducible assumption); rfl; intro _ _) | ((with_reducible apply st1); (with_reducible assumption); rfl; intro _ _) | ((with_reducible apply st2); (with_reducible assumption); rfl; intro _ _) | ((with_reducible apply ldI0); (with_reducible assumption); rfl) | ((with_reducible apply ldI1); (with_reducible assumption); rfl) | ((with_reducible apply ldI2); (with_reducible assumption); rfl) | ((with_reducible apply ldB0); (with_reducible assumption); rfl) | ((with_reducible apply ldB1); (with_reducible assumption); rfl) | ((with_reducible apply ldS0); (with_reducible assumption); rfl) | ((with_reducible apply ldS1); (with_reducible assumption); rfl) | (with_reducible refine and_i (Own.tab (by with_reducible assumption) (by with_reducible assumption)) ?_) | (with_reducible apply nz_i))
    refine ⟨by have := utf8_size c; omega, ?_⟩
    repeat (first | ((with_reducible apply newB_o); (with_reducible assumption); intro _ _ _) | ((with_reducible apply gap_o); (with_reducible assumption); intro _ _) | ((with_reducible apply st0); (with_reducible assumption); rfl; intro _ _) | ((with_reducible apply st1); (with_reducible assumption); rfl; intro _ _) | ((with_reducible apply st2); (with_reducible assumption); rfl; intro _ _) | ((with_reducible apply ldI0); (with_reducible assumption); rfl) | ((with_reducible apply ldI1); (with_reducible assumption); rfl) | ((with_reducible apply ldI2); (with_reducible assumption); rfl) | ((with_reducible apply ldB0); (with_reducible assumption); rfl) | ((with_reducible apply ldB1); (with_reducible assumption); rfl) | ((with_reducible apply ldS0); (with_reducible assumption); rfl) | ((with_reducible apply ldS1); (with_reducible assumption); rfl) | (with_reducible refine and_i (Own.tab (by with_reducible assumption) (by with_reducible assumption)) ?_) | (with_reducible apply nz_i))
    exact hK _ (Own.ext (by assumption))
def marksR (m : Int) : ByteArray :=
  (((if (Int.tmod (IntKind.wrap .i64 (Int.tdiv m 4)) 2) = 1 then (⟨#[67, 45]⟩ : ByteArray) else ⟨#[]⟩) ++ (if (Int.tmod (IntKind.wrap .i64 (Int.tdiv m 2)) 2) = 1 then (⟨#[77, 45]⟩ : ByteArray) else ⟨#[]⟩)) ++ (if (Int.tmod m 2) = 1 then (⟨#[83, 45]⟩ : ByteArray) else ⟨#[]⟩))
theorem app_nil (x : ByteArray) : x ++ (⟨#[]⟩ : ByteArray) = x := by
  apply ByteArray.ext
  rw [ByteArray.data_append]
  simp
theorem j1_sp {Kr : ByteArray → Heap → Prop} {h0 h : Heap} {b : Nat} {c m : Int} {t l} {s : ByteArray} (hs : s.size ≤ 4) (hc : c ≤ 16777239) (ho : Own h0 h ((b, #[.int .i64 c, .int .i64 m], t) :: l))
    (hK : ∀ h1, Ext h0 h1 → Kr ((s ++ (if (Int.tmod m 2) = 1 then (⟨#[83, 45]⟩ : ByteArray) else ⟨#[]⟩)) ++ bodyR c) h1) : ref21_Name_j1 Kr b s h := by
  unfold ref21_Name_j1
  repeat (first | ((with_reducible apply newB_o); (with_reducible assumption); intro _ _ _) | ((with_reducible apply gap_o); (with_reducible assumption); intro _ _) | ((with_reducible apply st0); (with_reducible assumption); rfl; intro _ _) | ((with_reducible apply st1); (with_reducible assumption); rfl; intro _ _) | ((with_reducible apply st2); (with_reducible assumption); rfl; intro _ _) | ((with_reducible apply ldI0); (with_reducible assumption); rfl) | ((with_reducible apply ldI1); (with_reducible assumption); rfl) | ((with_reducible apply ldI2); (with_reducible assumption); rfl) | ((with_reducible apply ldB0); (with_reducible assumption); rfl) | ((with_reducible apply ldB1); (with_reducible assumption); rfl) | ((with_reducible apply ldS0); (with_reducible assumption); rfl) | ((with_reducible apply ldS1); (with_reducible assumption); rfl) | (with_reducible refine and_i (Own.tab (by with_reducible assumption) (by with_reducible assumption)) ?_) | (with_reducible apply nz_i))
  have z1 : (⟨#[83, 45]⟩ : ByteArray).size = 2 := rfl
  split
  · rename_i h1
    rw [if_pos h1] at hK
    exact ⟨by omega, j2_sp (by rw [ByteArray.size_append]; omega) hc ho hK⟩
  · rename_i h1
    rw [if_neg h1, app_nil] at hK
    exact j2_sp (by omega) hc ho hK
theorem j0_sp {Kr : ByteArray → Heap → Prop} {h0 h : Heap} {b : Nat} {c m : Int} {t l} {s : ByteArray} (hs : s.size ≤ 2) (hc : c ≤ 16777239) (ho : Own h0 h ((b, #[.int .i64 c, .int .i64 m], t) :: l))
    (hK : ∀ h1, Ext h0 h1 → Kr (((s ++ (if (Int.tmod (IntKind.wrap .i64 (Int.tdiv m 2)) 2) = 1 then (⟨#[77, 45]⟩ : ByteArray) else ⟨#[]⟩)) ++ (if (Int.tmod m 2) = 1 then (⟨#[83, 45]⟩ : ByteArray) else ⟨#[]⟩)) ++ bodyR c) h1) : ref21_Name_j0 Kr b s h := by
  unfold ref21_Name_j0
  repeat (first | ((with_reducible apply newB_o); (with_reducible assumption); intro _ _ _) | ((with_reducible apply gap_o); (with_reducible assumption); intro _ _) | ((with_reducible apply st0); (with_reducible assumption); rfl; intro _ _) | ((with_reducible apply st1); (with_reducible assumption); rfl; intro _ _) | ((with_reducible apply st2); (with_reducible assumption); rfl; intro _ _) | ((with_reducible apply ldI0); (with_reducible assumption); rfl) | ((with_reducible apply ldI1); (with_reducible assumption); rfl) | ((with_reducible apply ldI2); (with_reducible assumption); rfl) | ((with_reducible apply ldB0); (with_reducible assumption); rfl) | ((with_reducible apply ldB1); (with_reducible assumption); rfl) | ((with_reducible apply ldS0); (with_reducible assumption); rfl) | ((with_reducible apply ldS1); (with_reducible assumption); rfl) | (with_reducible refine and_i (Own.tab (by with_reducible assumption) (by with_reducible assumption)) ?_) | (with_reducible apply nz_i))
  have z1 : (⟨#[77, 45]⟩ : ByteArray).size = 2 := rfl
  split
  · rename_i h1
    rw [if_pos h1] at hK
    exact ⟨by omega, j1_sp (by rw [ByteArray.size_append]; omega) hc ho hK⟩
  · rename_i h1
    rw [if_neg h1, app_nil] at hK
    exact j1_sp (by omega) hc ho hK
theorem valid_le {c m : Int} (h : keys_Valid c m = true) : c ≤ 16777239 ∧ 0 ≤ c ∧ 0 ≤ m ∧ m ≤ 7 := by
  unfold keys_Valid keys_special keys_character keys_control at h
  have hm : ¬ ((decide (m < 0)) || (decide (7 < m))) = true := by intro hh; rw [if_pos hh] at h; cases h
  rw [if_neg hm] at h
  have hm' : ¬ (m < 0 ∨ 7 < m) := by simpa using hm
  refine ⟨?_, ?_, by omega, by omega⟩
  all_goals
    repeat' split at h
    all_goals (simp at *)
    all_goals omega
def nameR (c m : Int) : ByteArray := if (!(keys_Valid c m)) = true then ⟨#[]⟩ else marksR m ++ bodyR c
theorem nameR_sp {c m : Int} {K : ByteArray → Heap → Prop} {h : Heap} (hK : ∀ h1, Ext h h1 → K (nameR c m) h1) : ref21_Name c m K h := by
  have ho := Own.init h
  unfold ref21_Name
  unfold nameR at hK
  repeat (first | ((with_reducible apply newB_o); (with_reducible assumption); intro _ _ _) | ((with_reducible apply gap_o); (with_reducible assumption); intro _ _) | ((with_reducible apply st0); (with_reducible assumption); rfl; intro _ _) | ((with_reducible apply st1); (with_reducible assumption); rfl; intro _ _) | ((with_reducible apply st2); (with_reducible assumption); rfl; intro _ _) | ((with_reducible apply ldI0); (with_reducible assumption); rfl) | ((with_reducible apply ldI1); (with_reducible assumption); rfl) | ((with_reducible apply ldI2); (with_reducible assumption); rfl) | ((with_reducible apply ldB0); (with_reducible assumption); rfl) | ((with_reducible apply ldB1); (with_reducible assumption); rfl) | ((with_reducible apply ldS0); (with_reducible assumption); rfl) | ((with_reducible apply ldS1); (with_reducible assumption); rfl) | (with_reducible refine and_i (Own.tab (by with_reducible assumption) (by with_reducible assumption)) ?_) | (with_reducible apply nz_i))
  rw [valid_eq]
  split
  · rename_i hc
    rw [if_pos hc] at hK
    repeat (first | ((with_reducible apply newB_o); (with_reducible assumption); intro _ _ _) | ((with_reducible apply gap_o); (with_reducible assumption); intro _ _) | ((with_reducible apply st0); (with_reducible assumption); rfl; intro _ _) | ((with_reducible apply st1); (with_reducible assumption); rfl; intro _ _) | ((with_reducible apply st2); (with_reducible assumption); rfl; intro _ _) | ((with_reducible apply ldI0); (with_reducible assumption); rfl) | ((with_reducible apply ldI1); (with_reducible assumption); rfl) | ((with_reducible apply ldI2); (with_reducible assumption); rfl) | ((with_reducible apply ldB0); (with_reducible assumption); rfl) | ((with_reducible apply ldB1); (with_reducible assumption); rfl) | ((with_reducible apply ldS0); (with_reducible assumption); rfl) | ((with_reducible apply ldS1); (with_reducible assumption); rfl) | (with_reducible refine and_i (Own.tab (by with_reducible assumption) (by with_reducible assumption)) ?_) | (with_reducible apply nz_i))
    exact hK _ (Own.ext (by assumption))
  · rename_i hc
    rw [if_neg hc] at hK
    have hv := valid_le (c := c) (m := m) (by simpa using hc)
    repeat (first | ((with_reducible apply newB_o); (with_reducible assumption); intro _ _ _) | ((with_reducible apply gap_o); (with_reducible assumption); intro _ _) | ((with_reducible apply st0); (with_reducible assumption); rfl; intro _ _) | ((with_reducible apply st1); (with_reducible assumption); rfl; intro _ _) | ((with_reducible apply st2); (with_reducible assumption); rfl; intro _ _) | ((with_reducible apply ldI0); (with_reducible assumption); rfl) | ((with_reducible apply ldI1); (with_reducible assumption); rfl) | ((with_reducible apply ldI2); (with_reducible assumption); rfl) | ((with_reducible apply ldB0); (with_reducible assumption); rfl) | ((with_reducible apply ldB1); (with_reducible assumption); rfl) | ((with_reducible apply ldS0); (with_reducible assumption); rfl) | ((with_reducible apply ldS1); (with_reducible assumption); rfl) | (with_reducible refine and_i (Own.tab (by with_reducible assumption) (by with_reducible assumption)) ?_) | (with_reducible apply nz_i))
    unfold marksR at hK
    split
    · rename_i h1
      rw [if_pos h1] at hK
      exact j0_sp (by decide) hv.1 (by assumption) hK
    · rename_i h1
      rw [if_neg h1] at hK
      exact j0_sp (by decide) hv.1 (by assumption) hK
theorem marks_eq : ∀ m : Fin 8, marksR m.val = keys_marks m.val := by decide +kernel
theorem words_rows : ∀ n : Fin 22, wordsL.getD n.val ⟨#[]⟩ = (tab0.getD n.val tab0d).1 := by decide +kernel
theorem name_eq (c m : Int) : nameR c m = nameV c m := by
  unfold nameR nameV
  split
  · rfl
  · rename_i hc
    have hv := valid_le (c := c) (m := m) (by simpa using hc)
    have hm : marksR m = keys_marks m := by
      have := marks_eq ⟨m.toNat, by omega⟩
      simpa [show ((m.toNat : Nat) : Int) = m by omega] using this
    rw [hm]
    have ne : ∀ x : ByteArray, 0 < x.size → (!(x.data.toList == (⟨#[]⟩ : ByteArray).data.toList)) = true := by
      intro x hx
      cases hd : x.data.toList with
      | nil => exact absurd (show x.data.toList.length = 0 by rw [hd]; rfl) (by show x.size ≠ 0; omega)
      | cons a l => rfl
    unfold bodyR namedV
    by_cases h1 : c = 32
    · rw [if_pos h1, if_pos h1, if_pos (by decide)]
    rw [if_neg h1, if_neg h1]
    by_cases h1 : c = 13
    · rw [if_pos h1, if_pos h1, if_pos (by decide)]
    rw [if_neg h1, if_neg h1]
    by_cases h1 : c = 9
    · rw [if_pos h1, if_pos h1, if_pos (by decide)]
    rw [if_neg h1, if_neg h1]
    by_cases h1 : c = 27
    · rw [if_pos h1, if_pos h1, if_pos (by decide)]
    rw [if_neg h1, if_neg h1]
    by_cases h1 : c = 127
    · rw [if_pos h1, if_pos h1, if_pos (by decide)]
    rw [if_neg h1, if_neg h1]
    by_cases h1 : c = 16777239
    · subst h1
      rw [if_pos (by omega), if_pos rfl, if_pos (by decide)]
      rfl
    rw [if_neg h1]
    by_cases h1 : 16777217 ≤ c
    · have hs : keys_special c = true := by unfold keys_special; simp; omega
      rw [if_pos h1, if_pos hs]
      have e := words_rows ⟨(c - 16777217).toNat, by omega⟩
      have hp := (row_name ⟨(c - 16777217).toNat, by omega⟩).1
      simp only [] at e hp
      unfold rowV
      rw [e, if_pos (ne _ hp)]
    · have hs : ¬ keys_special c = true := by unfold keys_special; simp; omega
      rw [if_neg h1, if_neg hs, if_neg (by decide)]
      have hr : c ≤ 1114111 ∧ (c < 55296 ∨ 57343 < c) := by
        have hx : keys_Valid c m = true := by simpa using hc
        unfold keys_Valid keys_character keys_control at hx
        simp only [hs] at hx
        repeat' split at hx
        all_goals (simp at *)
        all_goals omega
      rw [utf8_eq hv.2.1 hr.1 hr.2]
end Go.Proofs.YtkbpnmgkdodcmaaDoor.M
