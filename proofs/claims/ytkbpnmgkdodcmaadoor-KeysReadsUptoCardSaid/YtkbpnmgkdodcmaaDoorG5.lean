import Derived.Test.YtkbpnmgkdodcmaaDoorG4
set_option linter.unusedVariables false
set_option linter.unusedSimpArgs false
set_option maxRecDepth 100000
namespace Go.Proofs.YtkbpnmgkdodcmaaDoor.M
open Go Go.Hp

theorem ext_front {p b : ByteArray} {n : Nat} (h : p.size = n) : (p ++ b).extract 0 n = p := by
  subst h
  apply ByteArray.ext
  rw [ByteArray.data_extract, ByteArray.data_append]
  apply Array.ext_getElem?
  intro i
  have hp : p.data.size = p.size := rfl
  have hb : b.data.size = b.size := rfl
  simp only [Array.getElem?_extract, Array.size_append, Array.getElem?_append]
  grind
theorem ext_back {p b : ByteArray} {n : Nat} (h : p.size = n) : (p ++ b).extract n (p ++ b).size = b := by
  subst h
  rw [ByteArray.size_append]
  apply ByteArray.ext
  rw [ByteArray.data_extract, ByteArray.data_append]
  apply Array.ext_getElem?
  intro i
  have hp : p.data.size = p.size := rfl
  have hb : b.data.size = b.size := rfl
  simp only [Array.getElem?_extract, Array.size_append, Array.getElem?_append]
  grind
/-- What is left behind the document's mark. -/
def behindR (s : ByteArray) : ByteArray × Int := if ((decide (2 < (s.size : Int))) && ((s.extract 0 ((2 : Int).toNat)).data.toList == (⟨#[77, 45]⟩ : ByteArray).data.toList)) = true then (s.extract ((2 : Int).toNat) s.size, 2) else (s, 0)
theorem rest_high {c m : Int} {s : ByteArray} (hv : keys_Valid c m = true) (hn : nameV c m = s) (a0 : 160 ≤ c) (a1 : c ≤ 1114111) (a2 : c < 55296 ∨ 57343 < c) (a3 : m = 0 ∨ m = 2) :
    behindR s = (Utf8.encode (IntKind.wrap .i32 c), m) ∧ firstV (Utf8.encode (IntKind.wrap .i32 c)) = (c, ((Utf8.encode (IntKind.wrap .i32 c)).size : Int), true) := by
  have hn' := high_name hv a0 a1
  obtain ⟨_, h128, hpos⟩ := enc_plain a0 a1 a2
  obtain ⟨w, hf, hv2, hz⟩ := enc_full (s := Utf8.encode (IntKind.wrap .i32 c)) a0 a1 a2 (by rw [utf8_eq (by omega) a1 a2])
  refine ⟨?_, by rw [first_full h128 hf, hv2, hz]⟩
  rw [← hn, hn']
  generalize Utf8.encode (IntKind.wrap .i32 c) = E at *
  unfold behindR
  rcases a3 with rfl | rfl
  · rw [marks0.1, nil_app, if_neg]
    intro h
    simp only [Bool.and_eq_true, decide_eq_true_eq] at h
    have he := of_beq h.2
    have : byteAt (E.extract 0 2) 0 = byteAt E 0 := byteAt_ext E 0 2 0 (by omega) (by omega) (by simp)
    rw [show ((2 : Int).toNat) = 2 from rfl] at he
    rw [he] at this
    have h77 : byteAt (⟨#[77, 45]⟩ : ByteArray) 0 = 77 := rfl
    omega
  · rw [marks0.2, if_pos]
    · rw [show ((2 : Int).toNat) = 2 from rfl, ext_back (n := 2) (p := ⟨#[77, 45]⟩) rfl]
    · have hz2 : ((⟨#[77, 45]⟩ : ByteArray) ++ E).size = 2 + E.size := ByteArray.size_append ..
      rw [show ((2 : Int).toNat) = 2 from rfl, ext_front (n := 2) (p := ⟨#[77, 45]⟩) rfl]
      simp only [Bool.and_eq_true, decide_eq_true_eq]
      exact ⟨by omega, by decide⟩
theorem readR_sp {s : ByteArray} {K : Int → Int → Int → Heap → Prop} {h : Heap} (hs : (s.size : Int) < 9223372036854775806)
    (hK : ∀ c m e h1, Ext h h1 → ReadOk s c m e → K c m e h1) : ref21_Read s K h := by
  unfold ref21_Read
  refine newB_o (Own.init h) fun b h1 ho1 => all_sp ho1 fun a n c o h2 ho2 hs2 => ?_
  have hn : n = allL.length := hs2.1
  have hl := allL_len
  have ho2' : Own h h2 ((b, #[.int .i64 0, .int .i64 0], 36) :: o) := ho2.perm (by (classical exact List.perm_iff_count.2 (fun x => by simp only [List.count_append, List.count_cons, List.count_nil]; omega)))
  refine ⟨n + 1, readR_l0 (by omega) (n + 1) 0 h2 ho2' (SlO.slg (pre := []) hs2 ho2) (by omega) (by omega) (fun j hj => by omega) (fun k m h3 ho3 hv hns => ?_) (fun h3 ho3 hno => ?_)⟩
  · repeat (first | ((with_reducible apply newB_o); (with_reducible assumption); intro _ _ _) | ((with_reducible apply gap_o); (with_reducible assumption); intro _ _) | ((with_reducible apply st0); (with_reducible assumption); rfl; intro _ _) | ((with_reducible apply st1); (with_reducible assumption); rfl; intro _ _) | ((with_reducible apply st2); (with_reducible assumption); rfl; intro _ _) | ((with_reducible apply ldI0); (with_reducible assumption); rfl) | ((with_reducible apply ldI1); (with_reducible assumption); rfl) | ((with_reducible apply ldI2); (with_reducible assumption); rfl) | ((with_reducible apply ldB0); (with_reducible assumption); rfl) | ((with_reducible apply ldB1); (with_reducible assumption); rfl) | ((with_reducible apply ldS0); (with_reducible assumption); rfl) | ((with_reducible apply ldS1); (with_reducible assumption); rfl) | (with_reducible refine and_i (Own.tab (by with_reducible assumption) (by with_reducible assumption)) ?_) | (with_reducible apply nz_i))
    exact hK _ _ _ _ ho3.ext (.inl ⟨rfl, hv, hns⟩)
  · -- no key of the list has the name
    have nofin : ∀ c' m' : Int, keys_Valid c' m' = true → FinK c' → nameV c' m' ≠ s := by
      intro c' m' hv hf hns
      have hr := valid_le hv
      obtain ⟨j, hj, hj2⟩ := List.getElem_of_mem (mem_all hf hr.2.2.1 hr.2.2.2)
      have := hno j (by omega)
      rw [List.getD_eq_getElem?_getD, List.getElem?_eq_getElem hj, hj2] at this
      exact this hv hns
    have last : ∀ c m e, ((e = 0 ∧ keys_Valid c m = true ∧ nameV c m = s) ∨ (e = 210 ∧ c = 0 ∧ m = 0 ∧ ¬ ((firstV (behindR s).1).2.2 = true ∧ (firstV (behindR s).1).2.1 = ((behindR s).1.size : Int) ∧ keys_Valid (firstV (behindR s).1).1 (behindR s).2 = true ∧ nameV (firstV (behindR s).1).1 (behindR s).2 = s))) → ReadOk s c m e := by
      intro c m e hh
      rcases hh with hh | ⟨rfl, rfl, rfl, hh⟩
      · exact .inl hh
      · refine .inr ⟨rfl, rfl, rfl, fun c' m' hv hns => ?_⟩
        rcases fin_or hv with hf | ⟨a0, a1, a2, a3⟩
        · exact nofin c' m' hv hf hns
        · obtain ⟨e1, e2⟩ := rest_high hv hns a0 a1 a2 a3
          rw [e1] at hh
          simp only [] at hh
          rw [e2] at hh
          exact hh ⟨rfl, rfl, hv, hns⟩
    simp only [toListE]
    refine newB_o ho3 fun d h4 ho4 => ?_
    repeat (first | ((with_reducible apply newB_o); (with_reducible assumption); intro _ _ _) | ((with_reducible apply gap_o); (with_reducible assumption); intro _ _) | ((with_reducible apply st0); (with_reducible assumption); rfl; intro _ _) | ((with_reducible apply st1); (with_reducible assumption); rfl; intro _ _) | ((with_reducible apply st2); (with_reducible assumption); rfl; intro _ _) | ((with_reducible apply ldI0); (with_reducible assumption); rfl) | ((with_reducible apply ldI1); (with_reducible assumption); rfl) | ((with_reducible apply ldI2); (with_reducible assumption); rfl) | ((with_reducible apply ldB0); (with_reducible assumption); rfl) | ((with_reducible apply ldB1); (with_reducible assumption); rfl) | ((with_reducible apply ldS0); (with_reducible assumption); rfl) | ((with_reducible apply ldS1); (with_reducible assumption); rfl) | (with_reducible refine and_i (Own.tab (by with_reducible assumption) (by with_reducible assumption)) ?_) | (with_reducible apply nz_i))
    refine ⟨fun hh => by simp only [decide_eq_true_eq] at hh; omega, ?_⟩
    by_cases hc : ((decide (2 < (s.size : Int))) && ((s.extract 0 ((2 : Int).toNat)).data.toList == (⟨#[77, 45]⟩ : ByteArray).data.toList)) = true
    · have er : behindR s = (s.extract ((2 : Int).toNat) s.size, 2) := by unfold behindR; rw [if_pos hc]
      rw [er] at last
      simp only [] at last
      rw [if_pos hc]
      simp only [Bool.and_eq_true, decide_eq_true_eq] at hc
      repeat (first | ((with_reducible apply newB_o); (with_reducible assumption); intro _ _ _) | ((with_reducible apply gap_o); (with_reducible assumption); intro _ _) | ((with_reducible apply st0); (with_reducible assumption); rfl; intro _ _) | ((with_reducible apply st1); (with_reducible assumption); rfl; intro _ _) | ((with_reducible apply st2); (with_reducible assumption); rfl; intro _ _) | ((with_reducible apply ldI0); (with_reducible assumption); rfl) | ((with_reducible apply ldI1); (with_reducible assumption); rfl) | ((with_reducible apply ldI2); (with_reducible assumption); rfl) | ((with_reducible apply ldB0); (with_reducible assumption); rfl) | ((with_reducible apply ldB1); (with_reducible assumption); rfl) | ((with_reducible apply ldS0); (with_reducible assumption); rfl) | ((with_reducible apply ldS1); (with_reducible assumption); rfl) | (with_reducible refine and_i (Own.tab (by with_reducible assumption) (by with_reducible assumption)) ?_) | (with_reducible apply nz_i))
      refine ⟨by omega, readR_j1 (b := b) (l := o) (mm := 2) (by rw [ByteArray.size_extract]; omega) (by assumption) fun c' m' e' h5 ho5 hh => ?_⟩
      repeat (first | ((with_reducible apply newB_o); (with_reducible assumption); intro _ _ _) | ((with_reducible apply gap_o); (with_reducible assumption); intro _ _) | ((with_reducible apply st0); (with_reducible assumption); rfl; intro _ _) | ((with_reducible apply st1); (with_reducible assumption); rfl; intro _ _) | ((with_reducible apply st2); (with_reducible assumption); rfl; intro _ _) | ((with_reducible apply ldI0); (with_reducible assumption); rfl) | ((with_reducible apply ldI1); (with_reducible assumption); rfl) | ((with_reducible apply ldI2); (with_reducible assumption); rfl) | ((with_reducible apply ldB0); (with_reducible assumption); rfl) | ((with_reducible apply ldB1); (with_reducible assumption); rfl) | ((with_reducible apply ldS0); (with_reducible assumption); rfl) | ((with_reducible apply ldS1); (with_reducible assumption); rfl) | (with_reducible refine and_i (Own.tab (by with_reducible assumption) (by with_reducible assumption)) ?_) | (with_reducible apply nz_i))
      exact hK _ _ _ _ ho5.ext (last _ _ _ hh)
    · have er : behindR s = (s, 0) := by unfold behindR; rw [if_neg hc]
      rw [er] at last
      simp only [] at last
      rw [if_neg hc]
      refine readR_j1 (b := b) (l := o) (mm := 0) hs (by assumption) fun c' m' e' h5 ho5 hh => ?_
      repeat (first | ((with_reducible apply newB_o); (with_reducible assumption); intro _ _ _) | ((with_reducible apply gap_o); (with_reducible assumption); intro _ _) | ((with_reducible apply st0); (with_reducible assumption); rfl; intro _ _) | ((with_reducible apply st1); (with_reducible assumption); rfl; intro _ _) | ((with_reducible apply st2); (with_reducible assumption); rfl; intro _ _) | ((with_reducible apply ldI0); (with_reducible assumption); rfl) | ((with_reducible apply ldI1); (with_reducible assumption); rfl) | ((with_reducible apply ldI2); (with_reducible assumption); rfl) | ((with_reducible apply ldB0); (with_reducible assumption); rfl) | ((with_reducible apply ldB1); (with_reducible assumption); rfl) | ((with_reducible apply ldS0); (with_reducible assumption); rfl) | ((with_reducible apply ldS1); (with_reducible assumption); rfl) | (with_reducible refine and_i (Own.tab (by with_reducible assumption) (by with_reducible assumption)) ?_) | (with_reducible apply nz_i))
      exact hK _ _ _ _ ho5.ext (last _ _ _ hh)
theorem reads_sp {s : ByteArray} {K : Bool → Heap → Prop} {h : Heap} (hT : TabH h) (hF : FirstH h) (hA : AccH h) (hs : (s.size : Int) < 9223372036854775806) (hK : ∀ h1, Ext h h1 → K true h1) : law21_KeysReads s K h := by
  unfold law21_KeysReads
  refine read_sp hT hF hA (by omega) fun c m e h2 he2 hr => ?_
  have ho2 := (Own.init h).gap he2
  repeat (first | ((with_reducible apply newB_o); (with_reducible assumption); intro _ _ _) | ((with_reducible apply gap_o); (with_reducible assumption); intro _ _) | ((with_reducible apply st0); (with_reducible assumption); rfl; intro _ _) | ((with_reducible apply st1); (with_reducible assumption); rfl; intro _ _) | ((with_reducible apply st2); (with_reducible assumption); rfl; intro _ _) | ((with_reducible apply ldI0); (with_reducible assumption); rfl) | ((with_reducible apply ldI1); (with_reducible assumption); rfl) | ((with_reducible apply ldI2); (with_reducible assumption); rfl) | ((with_reducible apply ldB0); (with_reducible assumption); rfl) | ((with_reducible apply ldB1); (with_reducible assumption); rfl) | ((with_reducible apply ldS0); (with_reducible assumption); rfl) | ((with_reducible apply ldS1); (with_reducible assumption); rfl) | (with_reducible refine and_i (Own.tab (by with_reducible assumption) (by with_reducible assumption)) ?_) | (with_reducible apply nz_i))
  refine readR_sp hs fun c' m' e' h3 he3 hr' => ?_
  have ho3 := Own.gap (by assumption) he3
  obtain ⟨rfl, rfl, rfl⟩ := read_same hr hr'
  repeat (first | ((with_reducible apply newB_o); (with_reducible assumption); intro _ _ _) | ((with_reducible apply gap_o); (with_reducible assumption); intro _ _) | ((with_reducible apply st0); (with_reducible assumption); rfl; intro _ _) | ((with_reducible apply st1); (with_reducible assumption); rfl; intro _ _) | ((with_reducible apply st2); (with_reducible assumption); rfl; intro _ _) | ((with_reducible apply ldI0); (with_reducible assumption); rfl) | ((with_reducible apply ldI1); (with_reducible assumption); rfl) | ((with_reducible apply ldI2); (with_reducible assumption); rfl) | ((with_reducible apply ldB0); (with_reducible assumption); rfl) | ((with_reducible apply ldB1); (with_reducible assumption); rfl) | ((with_reducible apply ldS0); (with_reducible assumption); rfl) | ((with_reducible apply ldS1); (with_reducible assumption); rfl) | (with_reducible refine and_i (Own.tab (by with_reducible assumption) (by with_reducible assumption)) ?_) | (with_reducible apply nz_i))
  rw [if_pos (by simp)]
  exact sure_sp (Own.tab (by assumption) hT) fun h4 he4 => hK _ (Ext.trans (Own.ext (by assumption)) he4)
theorem back_j0 {Kr : Bool → Heap → Prop} {h0 h : Heap} {s : ByteArray} (hT : TabH h0) (hF : FirstH h0) (hA : AccH h0) (hs : (s.size : Int) < 9223372036854775806) (he0 : Ext h0 h) (hK : ∀ h1, Ext h0 h1 → Kr true h1) : law21_KeysBack_j0 Kr s h := by
  unfold law21_KeysBack_j0
  simp only [toListE]
  refine read_sp (he0.cellsAt hT) (fun b hb => he0.cell (hF b hb)) (he0.cellsAt hA) (by omega) fun c m e h2 he2 hr => ?_
  have ho2 := ((Own.init h0).gap he0).gap he2
  repeat (first | ((with_reducible apply newB_o); (with_reducible assumption); intro _ _ _) | ((with_reducible apply gap_o); (with_reducible assumption); intro _ _) | ((with_reducible apply st0); (with_reducible assumption); rfl; intro _ _) | ((with_reducible apply st1); (with_reducible assumption); rfl; intro _ _) | ((with_reducible apply st2); (with_reducible assumption); rfl; intro _ _) | ((with_reducible apply ldI0); (with_reducible assumption); rfl) | ((with_reducible apply ldI1); (with_reducible assumption); rfl) | ((with_reducible apply ldI2); (with_reducible assumption); rfl) | ((with_reducible apply ldB0); (with_reducible assumption); rfl) | ((with_reducible apply ldB1); (with_reducible assumption); rfl) | ((with_reducible apply ldS0); (with_reducible assumption); rfl) | ((with_reducible apply ldS1); (with_reducible assumption); rfl) | (with_reducible refine and_i (Own.tab (by with_reducible assumption) (by with_reducible assumption)) ?_) | (with_reducible apply nz_i))
  rcases hr with ⟨rfl, hv, hn⟩ | ⟨rfl, rfl, rfl, hn⟩
  · rw [if_pos rfl]
    repeat (first | ((with_reducible apply newB_o); (with_reducible assumption); intro _ _ _) | ((with_reducible apply gap_o); (with_reducible assumption); intro _ _) | ((with_reducible apply st0); (with_reducible assumption); rfl; intro _ _) | ((with_reducible apply st1); (with_reducible assumption); rfl; intro _ _) | ((with_reducible apply st2); (with_reducible assumption); rfl; intro _ _) | ((with_reducible apply ldI0); (with_reducible assumption); rfl) | ((with_reducible apply ldI1); (with_reducible assumption); rfl) | ((with_reducible apply ldI2); (with_reducible assumption); rfl) | ((with_reducible apply ldB0); (with_reducible assumption); rfl) | ((with_reducible apply ldB1); (with_reducible assumption); rfl) | ((with_reducible apply ldS0); (with_reducible assumption); rfl) | ((with_reducible apply ldS1); (with_reducible assumption); rfl) | (with_reducible refine and_i (Own.tab (by with_reducible assumption) (by with_reducible assumption)) ?_) | (with_reducible apply nz_i))
    refine name_sp (Own.tab (by assumption) hT) fun h3 he3 => ?_
    have ho3 := Own.gap (by assumption) he3
    rw [hn, if_neg (by simp)]
    repeat (first | ((with_reducible apply newB_o); (with_reducible assumption); intro _ _ _) | ((with_reducible apply gap_o); (with_reducible assumption); intro _ _) | ((with_reducible apply st0); (with_reducible assumption); rfl; intro _ _) | ((with_reducible apply st1); (with_reducible assumption); rfl; intro _ _) | ((with_reducible apply st2); (with_reducible assumption); rfl; intro _ _) | ((with_reducible apply ldI0); (with_reducible assumption); rfl) | ((with_reducible apply ldI1); (with_reducible assumption); rfl) | ((with_reducible apply ldI2); (with_reducible assumption); rfl) | ((with_reducible apply ldB0); (with_reducible assumption); rfl) | ((with_reducible apply ldB1); (with_reducible assumption); rfl) | ((with_reducible apply ldS0); (with_reducible assumption); rfl) | ((with_reducible apply ldS1); (with_reducible assumption); rfl) | (with_reducible refine and_i (Own.tab (by with_reducible assumption) (by with_reducible assumption)) ?_) | (with_reducible apply nz_i))
    rw [if_neg (by rw [hv]; decide)]
    repeat (first | ((with_reducible apply newB_o); (with_reducible assumption); intro _ _ _) | ((with_reducible apply gap_o); (with_reducible assumption); intro _ _) | ((with_reducible apply st0); (with_reducible assumption); rfl; intro _ _) | ((with_reducible apply st1); (with_reducible assumption); rfl; intro _ _) | ((with_reducible apply st2); (with_reducible assumption); rfl; intro _ _) | ((with_reducible apply ldI0); (with_reducible assumption); rfl) | ((with_reducible apply ldI1); (with_reducible assumption); rfl) | ((with_reducible apply ldI2); (with_reducible assumption); rfl) | ((with_reducible apply ldB0); (with_reducible assumption); rfl) | ((with_reducible apply ldB1); (with_reducible assumption); rfl) | ((with_reducible apply ldS0); (with_reducible assumption); rfl) | ((with_reducible apply ldS1); (with_reducible assumption); rfl) | (with_reducible refine and_i (Own.tab (by with_reducible assumption) (by with_reducible assumption)) ?_) | (with_reducible apply nz_i))
    exact sure_sp (Own.tab (by assumption) hT) fun h4 he4 => hK _ (Ext.trans (Own.ext (by assumption)) he4)
  · rw [if_neg (by decide)]
    repeat (first | ((with_reducible apply newB_o); (with_reducible assumption); intro _ _ _) | ((with_reducible apply gap_o); (with_reducible assumption); intro _ _) | ((with_reducible apply st0); (with_reducible assumption); rfl; intro _ _) | ((with_reducible apply st1); (with_reducible assumption); rfl; intro _ _) | ((with_reducible apply st2); (with_reducible assumption); rfl; intro _ _) | ((with_reducible apply ldI0); (with_reducible assumption); rfl) | ((with_reducible apply ldI1); (with_reducible assumption); rfl) | ((with_reducible apply ldI2); (with_reducible assumption); rfl) | ((with_reducible apply ldB0); (with_reducible assumption); rfl) | ((with_reducible apply ldB1); (with_reducible assumption); rfl) | ((with_reducible apply ldS0); (with_reducible assumption); rfl) | ((with_reducible apply ldS1); (with_reducible assumption); rfl) | (with_reducible refine and_i (Own.tab (by with_reducible assumption) (by with_reducible assumption)) ?_) | (with_reducible apply nz_i))
    rw [if_neg (by decide)]
    exact sure_sp (Own.tab (by assumption) hT) fun h4 he4 => hK _ (Ext.trans (Own.ext (by assumption)) he4)
theorem back_sp {c m : Int} {s : ByteArray} {K : Bool → Heap → Prop} {h : Heap} (hT : TabH h) (hF : FirstH h) (hA : AccH h) (hs : (s.size : Int) < 9223372036854775806) (hK : ∀ h1, Ext h h1 → K true h1) : law21_KeysBack c m s K h := by
  unfold law21_KeysBack
  simp only [toListE]
  refine newB_o (Own.init h) fun b h1 ho1 => ?_
  repeat (first | ((with_reducible apply newB_o); (with_reducible assumption); intro _ _ _) | ((with_reducible apply gap_o); (with_reducible assumption); intro _ _) | ((with_reducible apply st0); (with_reducible assumption); rfl; intro _ _) | ((with_reducible apply st1); (with_reducible assumption); rfl; intro _ _) | ((with_reducible apply st2); (with_reducible assumption); rfl; intro _ _) | ((with_reducible apply ldI0); (with_reducible assumption); rfl) | ((with_reducible apply ldI1); (with_reducible assumption); rfl) | ((with_reducible apply ldI2); (with_reducible assumption); rfl) | ((with_reducible apply ldB0); (with_reducible assumption); rfl) | ((with_reducible apply ldB1); (with_reducible assumption); rfl) | ((with_reducible apply ldS0); (with_reducible assumption); rfl) | ((with_reducible apply ldS1); (with_reducible assumption); rfl) | (with_reducible refine and_i (Own.tab (by with_reducible assumption) (by with_reducible assumption)) ?_) | (with_reducible apply nz_i))
  refine ⟨⟨(Own.get0 (by assumption)).cell 0 rfl, (Own.get0 (by assumption)).cell 1 rfl⟩, ?_⟩
  refine name_sp (Own.tab (by assumption) hT) fun h3 he3 => ?_
  have ho3 := Own.gap (by assumption) he3
  have hve : keys_Valid c m = (!((nameV c m).data.toList == (⟨#[]⟩ : ByteArray).data.toList)) := by
    by_cases hv : keys_Valid c m = true
    · rw [hv]
      have := name_some hv
      cases hd : (nameV c m).data.toList with
      | nil => exact absurd (show (nameV c m).data.toList.length = 0 by rw [hd]; rfl) (by show (nameV c m).size ≠ 0; omega)
      | cons a l => rfl
    · have : keys_Valid c m = false := by simpa using hv
      rw [this, name_bad hv]
      rfl
  rw [← hve, if_neg (by simp)]
  repeat (first | ((with_reducible apply newB_o); (with_reducible assumption); intro _ _ _) | ((with_reducible apply gap_o); (with_reducible assumption); intro _ _) | ((with_reducible apply st0); (with_reducible assumption); rfl; intro _ _) | ((with_reducible apply st1); (with_reducible assumption); rfl; intro _ _) | ((with_reducible apply st2); (with_reducible assumption); rfl; intro _ _) | ((with_reducible apply ldI0); (with_reducible assumption); rfl) | ((with_reducible apply ldI1); (with_reducible assumption); rfl) | ((with_reducible apply ldI2); (with_reducible assumption); rfl) | ((with_reducible apply ldB0); (with_reducible assumption); rfl) | ((with_reducible apply ldB1); (with_reducible assumption); rfl) | ((with_reducible apply ldS0); (with_reducible assumption); rfl) | ((with_reducible apply ldS1); (with_reducible assumption); rfl) | (with_reducible refine and_i (Own.tab (by with_reducible assumption) (by with_reducible assumption)) ?_) | (with_reducible apply nz_i))
  by_cases hv : keys_Valid c m = true
  · rw [if_pos hv]
    repeat (first | ((with_reducible apply newB_o); (with_reducible assumption); intro _ _ _) | ((with_reducible apply gap_o); (with_reducible assumption); intro _ _) | ((with_reducible apply st0); (with_reducible assumption); rfl; intro _ _) | ((with_reducible apply st1); (with_reducible assumption); rfl; intro _ _) | ((with_reducible apply st2); (with_reducible assumption); rfl; intro _ _) | ((with_reducible apply ldI0); (with_reducible assumption); rfl) | ((with_reducible apply ldI1); (with_reducible assumption); rfl) | ((with_reducible apply ldI2); (with_reducible assumption); rfl) | ((with_reducible apply ldB0); (with_reducible assumption); rfl) | ((with_reducible apply ldB1); (with_reducible assumption); rfl) | ((with_reducible apply ldS0); (with_reducible assumption); rfl) | ((with_reducible apply ldS1); (with_reducible assumption); rfl) | (with_reducible refine and_i (Own.tab (by with_reducible assumption) (by with_reducible assumption)) ?_) | (with_reducible apply nz_i))
    refine name_sp (Own.tab (by assumption) hT) fun h4 he4 => ?_
    have ho4 := Own.gap (by assumption) he4
    have hns : (nameV c m).size ≤ 40 := by
      rw [name_body hv, ByteArray.size_append]
      have := marks_size m
      have : (bodyV c).size ≤ 20 := by
        unfold bodyV
        split
        · exact namedV_size c
        · have := encode_size (IntKind.wrap .i32 c); omega
      omega
    refine read_sp (Own.tab (by assumption) hT) (fun b hb => (Own.ext (by assumption)).cell (hF b hb)) (Own.tab (by assumption) hA) (by omega) fun c' m' e' h5 he5 hr => ?_
    have ho5 := Own.gap (by assumption) he5
    obtain ⟨rfl, rfl, rfl⟩ := read_same hr (.inl ⟨rfl, hv, rfl⟩)
    repeat (first | ((with_reducible apply newB_o); (with_reducible assumption); intro _ _ _) | ((with_reducible apply gap_o); (with_reducible assumption); intro _ _) | ((with_reducible apply st0); (with_reducible assumption); rfl; intro _ _) | ((with_reducible apply st1); (with_reducible assumption); rfl; intro _ _) | ((with_reducible apply st2); (with_reducible assumption); rfl; intro _ _) | ((with_reducible apply ldI0); (with_reducible assumption); rfl) | ((with_reducible apply ldI1); (with_reducible assumption); rfl) | ((with_reducible apply ldI2); (with_reducible assumption); rfl) | ((with_reducible apply ldB0); (with_reducible assumption); rfl) | ((with_reducible apply ldB1); (with_reducible assumption); rfl) | ((with_reducible apply ldS0); (with_reducible assumption); rfl) | ((with_reducible apply ldS1); (with_reducible assumption); rfl) | (with_reducible refine and_i (Own.tab (by with_reducible assumption) (by with_reducible assumption)) ?_) | (with_reducible apply nz_i))
    rw [if_neg (by simp)]
    exact back_j0 hT hF hA hs (Own.ext (by assumption)) fun h6 he6 => hK h6 he6
  · rw [if_neg hv]
    repeat (first | ((with_reducible apply newB_o); (with_reducible assumption); intro _ _ _) | ((with_reducible apply gap_o); (with_reducible assumption); intro _ _) | ((with_reducible apply st0); (with_reducible assumption); rfl; intro _ _) | ((with_reducible apply st1); (with_reducible assumption); rfl; intro _ _) | ((with_reducible apply st2); (with_reducible assumption); rfl; intro _ _) | ((with_reducible apply ldI0); (with_reducible assumption); rfl) | ((with_reducible apply ldI1); (with_reducible assumption); rfl) | ((with_reducible apply ldI2); (with_reducible assumption); rfl) | ((with_reducible apply ldB0); (with_reducible assumption); rfl) | ((with_reducible apply ldB1); (with_reducible assumption); rfl) | ((with_reducible apply ldS0); (with_reducible assumption); rfl) | ((with_reducible apply ldS1); (with_reducible assumption); rfl) | (with_reducible refine and_i (Own.tab (by with_reducible assumption) (by with_reducible assumption)) ?_) | (with_reducible apply nz_i))
    exact back_j0 hT hF hA hs (Own.ext (by assumption)) fun h6 he6 => hK h6 he6
end Go.Proofs.YtkbpnmgkdodcmaaDoor.M
