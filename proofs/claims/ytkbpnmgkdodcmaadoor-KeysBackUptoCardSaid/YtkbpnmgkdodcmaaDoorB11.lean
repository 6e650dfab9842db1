import Derived.Test.YtkbpnmgkdodcmaaDoorB10
set_option linter.unusedVariables false
set_option linter.unusedSimpArgs false
set_option maxRecDepth 100000
namespace Go.Proofs.YtkbpnmgkdodcmaaDoor.M
open Go Go.Hp

/-! ### Bytes: the code's -/
def restB (c m : Int) : ByteArray := if (iAnd .i64 m 4) = 0 then Utf8.encode (IntKind.wrap .i32 c) else bytesOf [iAnd .u8 (IntKind.wrap .u8 c) 31]
def bytesV (c m : Int) (app : Bool) : ByteArray :=
  if (!(keys_Valid c m)) = true then ⟨#[]⟩
  else if (keys_special c) = true then spV c m app
  else if c = 16777239 then ⟨#[27, 91, 90]⟩
  else (if (iAnd .i64 m 2) = 0 then (⟨#[]⟩ : ByteArray) else ⟨#[27]⟩) ++ restB c m
theorem bytes_j0 {Kr : ByteArray → Heap → Prop} {h0 h : Heap} {b : Nat} {c m : Int} {t l} {s : ByteArray} (hs : s.size ≤ 4) (ho : Own h0 h ((b, #[.int .i64 c, .int .i64 m], t) :: l))
    (hK : ∀ h1, Ext h0 h1 → Kr (s ++ restB c m) h1) : keys_Bytes_j0 Kr b s h := by
  unfold keys_Bytes_j0
  unfold restB at hK
  repeat (first | ((with_reducible apply newB_o); (with_reducible assumption); intro _ _ _) | ((with_reducible apply gap_o); (with_reducible assumption); intro _ _) | ((with_reducible apply st0); (with_reducible assumption); rfl; intro _ _) | ((with_reducible apply st1); (with_reducible assumption); rfl; intro _ _) | ((with_reducible apply st2); (with_reducible assumption); rfl; intro _ _) | ((with_reducible apply ldI0); (with_reducible assumption); rfl) | ((with_reducible apply ldI1); (with_reducible assumption); rfl) | ((with_reducible apply ldI2); (with_reducible assumption); rfl) | ((with_reducible apply ldB0); (with_reducible assumption); rfl) | ((with_reducible apply ldB1); (with_reducible assumption); rfl) | ((with_reducible apply ldS0); (with_reducible assumption); rfl) | ((with_reducible apply ldS1); (with_reducible assumption); rfl) | (with_reducible refine and_i (Own.tab (by with_reducible assumption) (by with_reducible assumption)) ?_) | (with_reducible apply nz_i))
  split
  · rename_i h1
    rw [if_pos h1] at hK
    repeat (first | ((with_reducible apply newB_o); (with_reducible assumption); intro _ _ _) | ((with_reducible apply gap_o); (with_reducible assumption); intro _ _) | ((with_reducible apply st0); (with_reducible assumption); rfl; intro _ _) | ((with_reducible apply st1); (with_reducible assumption); rfl; intro _ _) | ((with_reducible apply st2); (with_reducible assumption); rfl; intro _ _) | ((with_reducible apply ldI0); (with_reducible assumption); rfl) | ((with_reducible apply ldI1); (with_reducible assumption); rfl) | ((with_reducible apply ldI2); (with_reducible assumption); rfl) | ((with_reducible apply ldB0); (with_reducible assumption); rfl) | ((with_reducible apply ldB1); (with_reducible assumption); rfl) | ((with_reducible apply ldS0); (with_reducible assumption); rfl) | ((with_reducible apply ldS1); (with_reducible assumption); rfl) | (with_reducible refine and_i (Own.tab (by with_reducible assumption) (by with_reducible assumption)) ?_) | (with_reducible apply nz_i))
    exact ⟨by have := encode_size (IntKind.wrap .i32 c); omega, hK _ ho.ext⟩
  · rename_i h1
    rw [if_neg h1] at hK
    repeat (first | ((with_reducible apply newB_o); (with_reducible assumption); intro _ _ _) | ((with_reducible apply gap_o); (with_reducible assumption); intro _ _) | ((with_reducible apply st0); (with_reducible assumption); rfl; intro _ _) | ((with_reducible apply st1); (with_reducible assumption); rfl; intro _ _) | ((with_reducible apply st2); (with_reducible assumption); rfl; intro _ _) | ((with_reducible apply ldI0); (with_reducible assumption); rfl) | ((with_reducible apply ldI1); (with_reducible assumption); rfl) | ((with_reducible apply ldI2); (with_reducible assumption); rfl) | ((with_reducible apply ldB0); (with_reducible assumption); rfl) | ((with_reducible apply ldB1); (with_reducible assumption); rfl) | ((with_reducible apply ldS0); (with_reducible assumption); rfl) | ((with_reducible apply ldS1); (with_reducible assumption); rfl) | (with_reducible refine and_i (Own.tab (by with_reducible assumption) (by with_reducible assumption)) ?_) | (with_reducible apply nz_i))
    refine ⟨by rw [bytesOf1]; omega, ?_⟩
    repeat (first | ((with_reducible apply newB_o); (with_reducible assumption); intro _ _ _) | ((with_reducible apply gap_o); (with_reducible assumption); intro _ _) | ((with_reducible apply st0); (with_reducible assumption); rfl; intro _ _) | ((with_reducible apply st1); (with_reducible assumption); rfl; intro _ _) | ((with_reducible apply st2); (with_reducible assumption); rfl; intro _ _) | ((with_reducible apply ldI0); (with_reducible assumption); rfl) | ((with_reducible apply ldI1); (with_reducible assumption); rfl) | ((with_reducible apply ldI2); (with_reducible assumption); rfl) | ((with_reducible apply ldB0); (with_reducible assumption); rfl) | ((with_reducible apply ldB1); (with_reducible assumption); rfl) | ((with_reducible apply ldS0); (with_reducible assumption); rfl) | ((with_reducible apply ldS1); (with_reducible assumption); rfl) | (with_reducible refine and_i (Own.tab (by with_reducible assumption) (by with_reducible assumption)) ?_) | (with_reducible apply nz_i))
    exact hK _ (Own.ext (by assumption))
theorem bytes_sp {c m : Int} {app : Bool} {K : ByteArray → Heap → Prop} {h : Heap} (hT : TabH h) (hK : ∀ h1, Ext h h1 → K (bytesV c m app) h1) : keys_Bytes c m app K h := by
  have ho := Own.init h
  unfold keys_Bytes
  unfold bytesV at hK
  repeat (first | ((with_reducible apply newB_o); (with_reducible assumption); intro _ _ _) | ((with_reducible apply gap_o); (with_reducible assumption); intro _ _) | ((with_reducible apply st0); (with_reducible assumption); rfl; intro _ _) | ((with_reducible apply st1); (with_reducible assumption); rfl; intro _ _) | ((with_reducible apply st2); (with_reducible assumption); rfl; intro _ _) | ((with_reducible apply ldI0); (with_reducible assumption); rfl) | ((with_reducible apply ldI1); (with_reducible assumption); rfl) | ((with_reducible apply ldI2); (with_reducible assumption); rfl) | ((with_reducible apply ldB0); (with_reducible assumption); rfl) | ((with_reducible apply ldB1); (with_reducible assumption); rfl) | ((with_reducible apply ldS0); (with_reducible assumption); rfl) | ((with_reducible apply ldS1); (with_reducible assumption); rfl) | (with_reducible refine and_i (Own.tab (by with_reducible assumption) (by with_reducible assumption)) ?_) | (with_reducible apply nz_i))
  split
  · rename_i hc
    rw [if_pos hc] at hK
    repeat (first | ((with_reducible apply newB_o); (with_reducible assumption); intro _ _ _) | ((with_reducible apply gap_o); (with_reducible assumption); intro _ _) | ((with_reducible apply st0); (with_reducible assumption); rfl; intro _ _) | ((with_reducible apply st1); (with_reducible assumption); rfl; intro _ _) | ((with_reducible apply st2); (with_reducible assumption); rfl; intro _ _) | ((with_reducible apply ldI0); (with_reducible assumption); rfl) | ((with_reducible apply ldI1); (with_reducible assumption); rfl) | ((with_reducible apply ldI2); (with_reducible assumption); rfl) | ((with_reducible apply ldB0); (with_reducible assumption); rfl) | ((with_reducible apply ldB1); (with_reducible assumption); rfl) | ((with_reducible apply ldS0); (with_reducible assumption); rfl) | ((with_reducible apply ldS1); (with_reducible assumption); rfl) | (with_reducible refine and_i (Own.tab (by with_reducible assumption) (by with_reducible assumption)) ?_) | (with_reducible apply nz_i))
    exact hK _ (Own.ext (by assumption))
  · rename_i hc
    rw [if_neg hc] at hK
    have hv := valid_le (c := c) (m := m) (by simpa using hc)
    repeat (first | ((with_reducible apply newB_o); (with_reducible assumption); intro _ _ _) | ((with_reducible apply gap_o); (with_reducible assumption); intro _ _) | ((with_reducible apply st0); (with_reducible assumption); rfl; intro _ _) | ((with_reducible apply st1); (with_reducible assumption); rfl; intro _ _) | ((with_reducible apply st2); (with_reducible assumption); rfl; intro _ _) | ((with_reducible apply ldI0); (with_reducible assumption); rfl) | ((with_reducible apply ldI1); (with_reducible assumption); rfl) | ((with_reducible apply ldI2); (with_reducible assumption); rfl) | ((with_reducible apply ldB0); (with_reducible assumption); rfl) | ((with_reducible apply ldB1); (with_reducible assumption); rfl) | ((with_reducible apply ldS0); (with_reducible assumption); rfl) | ((with_reducible apply ldS1); (with_reducible assumption); rfl) | (with_reducible refine and_i (Own.tab (by with_reducible assumption) (by with_reducible assumption)) ?_) | (with_reducible apply nz_i))
    split
    · rename_i hs
      rw [if_pos hs] at hK
      have hs' : 16777217 ≤ c ∧ c ≤ 16777238 := by simpa [keys_special] using hs
      repeat (first | ((with_reducible apply newB_o); (with_reducible assumption); intro _ _ _) | ((with_reducible apply gap_o); (with_reducible assumption); intro _ _) | ((with_reducible apply st0); (with_reducible assumption); rfl; intro _ _) | ((with_reducible apply st1); (with_reducible assumption); rfl; intro _ _) | ((with_reducible apply st2); (with_reducible assumption); rfl; intro _ _) | ((with_reducible apply ldI0); (with_reducible assumption); rfl) | ((with_reducible apply ldI1); (with_reducible assumption); rfl) | ((with_reducible apply ldI2); (with_reducible assumption); rfl) | ((with_reducible apply ldB0); (with_reducible assumption); rfl) | ((with_reducible apply ldB1); (with_reducible assumption); rfl) | ((with_reducible apply ldS0); (with_reducible assumption); rfl) | ((with_reducible apply ldS1); (with_reducible assumption); rfl) | (with_reducible refine and_i (Own.tab (by with_reducible assumption) (by with_reducible assumption)) ?_) | (with_reducible apply nz_i))
      refine sp_sp (Own.tab (by assumption) hT) hs'.1 hs'.2 hv.2.2.1 hv.2.2.2 fun h2 he => hK _ ?_
      exact (Own.gap (by assumption) he).ext
    · rename_i hs
      rw [if_neg hs] at hK
      repeat (first | ((with_reducible apply newB_o); (with_reducible assumption); intro _ _ _) | ((with_reducible apply gap_o); (with_reducible assumption); intro _ _) | ((with_reducible apply st0); (with_reducible assumption); rfl; intro _ _) | ((with_reducible apply st1); (with_reducible assumption); rfl; intro _ _) | ((with_reducible apply st2); (with_reducible assumption); rfl; intro _ _) | ((with_reducible apply ldI0); (with_reducible assumption); rfl) | ((with_reducible apply ldI1); (with_reducible assumption); rfl) | ((with_reducible apply ldI2); (with_reducible assumption); rfl) | ((with_reducible apply ldB0); (with_reducible assumption); rfl) | ((with_reducible apply ldB1); (with_reducible assumption); rfl) | ((with_reducible apply ldS0); (with_reducible assumption); rfl) | ((with_reducible apply ldS1); (with_reducible assumption); rfl) | (with_reducible refine and_i (Own.tab (by with_reducible assumption) (by with_reducible assumption)) ?_) | (with_reducible apply nz_i))
      split
      · rename_i hb
        rw [if_pos hb] at hK
        exact hK _ (Own.ext (by assumption))
      · rename_i hb
        rw [if_neg hb] at hK
        repeat (first | ((with_reducible apply newB_o); (with_reducible assumption); intro _ _ _) | ((with_reducible apply gap_o); (with_reducible assumption); intro _ _) | ((with_reducible apply st0); (with_reducible assumption); rfl; intro _ _) | ((with_reducible apply st1); (with_reducible assumption); rfl; intro _ _) | ((with_reducible apply st2); (with_reducible assumption); rfl; intro _ _) | ((with_reducible apply ldI0); (with_reducible assumption); rfl) | ((with_reducible apply ldI1); (with_reducible assumption); rfl) | ((with_reducible apply ldI2); (with_reducible assumption); rfl) | ((with_reducible apply ldB0); (with_reducible assumption); rfl) | ((with_reducible apply ldB1); (with_reducible assumption); rfl) | ((with_reducible apply ldS0); (with_reducible assumption); rfl) | ((with_reducible apply ldS1); (with_reducible assumption); rfl) | (with_reducible refine and_i (Own.tab (by with_reducible assumption) (by with_reducible assumption)) ?_) | (with_reducible apply nz_i))
        split
        · rename_i h1
          rw [if_pos h1] at hK
          exact bytes_j0 (by decide) (by assumption) hK
        · rename_i h1
          rw [if_neg h1] at hK
          exact bytes_j0 (by decide) (by assumption) hK

/-! ### Bytes: the document's -/
def latL : List Int := [16777217, 16777218, 16777219, 16777220, 16777221, 16777222, 16777227, 16777228, 16777229, 16777230]
def natL : List Int := [16777223, 16777224, 16777225, 16777226, 16777231, 16777232, 16777233, 16777234, 16777235, 16777236, 16777237, 16777238]
def numL : List Int := [2, 3, 5, 6, 15, 17, 18, 19, 20, 21, 23, 24]
def letR (c : Int) : Nat → Int → ByteArray
  | 0, _ => ⟨#[]⟩
  | f + 1, i => if i < 10 then if latL.getD i.toNat 0 = c then (⟨#[65, 66, 67, 68, 72, 70, 80, 81, 82, 83]⟩ : ByteArray).extract i.toNat (i + 1).toNat else letR c f (i + 1) else ⟨#[]⟩
def numR (c : Int) : Nat → Int → Int
  | 0, _ => 0
  | f + 1, i => if i < 12 then if natL.getD i.toNat 0 = c then numL.getD i.toNat 0 else numR c f (i + 1) else 0
theorem getInts {L : List Int} {i : Int} (h0 : 0 ≤ i) (h1 : i < L.length) : (L.map (Value.int .i64)).toArray[i.toNat * 1]? = some (Value.int .i64 (L.getD i.toNat 0)) := by
  rw [Nat.mul_one, ← Array.getElem?_toList]
  show (L.map (Value.int .i64))[i.toNat]? = _
  rw [List.getElem?_map, List.getElem?_eq_getElem (by omega), List.getD_eq_getElem?_getD, List.getElem?_eq_getElem (by omega)]
  rfl
theorem letR_loop {K : ByteArray → Heap → Prop} {h0 h : Heap} {c : Int} {b : Nat} {t} {l} (ho : Own h0 h ((b, (latL.map (Value.int .i64)).toArray, t) :: l)) :
    ∀ (f : Nat) (i : Int), 0 ≤ i → 10 - i ≤ f → K (letR c f i) h → ref21_letter_l0 (fun h23 => K ⟨#[]⟩ h23) (fun z25 h26 => K z25 h26) (f + 1) c (some ⟨b, 0, none⟩) 10 10 i h := by
  intro f
  induction f with
  | zero =>
    intro i h1 hf hr
    unfold ref21_letter_l0
    rw [if_neg (by omega)]
    exact hr
  | succ f ih =>
    intro i h1 hf hr
    unfold ref21_letter_l0
    unfold letR at hr
    have hlen : latL.length = 10 := rfl
    have hsz : (⟨#[65, 66, 67, 68, 72, 70, 80, 81, 82, 83]⟩ : ByteArray).size = 10 := rfl
    by_cases hi : i < 10
    · rw [if_pos hi] at hr
      rw [if_pos (by omega)]
      refine nz_i ⟨h1, by omega, ldI_x (v := latL.getD i.toNat 0) ho.get0 (getInts h1 (by omega)) ?_⟩
      have e1 : IntKind.wrap .i64 (i + 1) = i + 1 := wrap64 (by omega) (by omega)
      rw [e1]
      split
      · rename_i hc
        rw [if_pos hc] at hr
        exact ⟨by omega, by omega, h1, by omega, hr⟩
      · rename_i hc
        rw [if_neg hc] at hr
        exact ih (i + 1) (by omega) (by omega) hr
    · rw [if_neg hi] at hr
      rw [if_neg (by omega)]
      exact hr
theorem letR_sp {K : ByteArray → Heap → Prop} {h : Heap} {c : Int} (hK : ∀ h1, Ext h h1 → K (letR c 10 0) h1) : ref21_letter c K h := by
  have ho := Own.init h
  unfold ref21_letter
  refine newB_o ho fun b h1 ho1 => ⟨10 + 1, letR_loop ho1 10 0 (by omega) (by omega) (hK _ ho1.ext)⟩
theorem numR_loop {K : Int → Heap → Prop} {h0 h : Heap} {c : Int} {b b2 : Nat} {t t2} {l} (ho : Own h0 h ((b2, (numL.map (Value.int .i64)).toArray, t2) :: (b, (natL.map (Value.int .i64)).toArray, t) :: l)) :
    ∀ (f : Nat) (i : Int), 0 ≤ i → 12 - i ≤ f → K (numR c f i) h → ref21_number_l0 (fun h29 => K 0 h29) (fun z31 h32 => K z31 h32) (f + 1) c (some ⟨b, 0, none⟩) 12 12 (some ⟨b2, 0, none⟩) 12 12 i h := by
  intro f
  induction f with
  | zero =>
    intro i h1 hf hr
    unfold ref21_number_l0
    rw [if_neg (by omega)]
    exact hr
  | succ f ih =>
    intro i h1 hf hr
    unfold ref21_number_l0
    unfold numR at hr
    have hlen : natL.length = 12 := rfl
    have hlen2 : numL.length = 12 := rfl
    by_cases hi : i < 12
    · rw [if_pos hi] at hr
      rw [if_pos (by omega)]
      refine nz_i ⟨h1, by omega, ldI_x (v := natL.getD i.toNat 0) ho.get1 (getInts h1 (by omega)) ?_⟩
      have e1 : IntKind.wrap .i64 (i + 1) = i + 1 := wrap64 (by omega) (by omega)
      rw [e1]
      split
      · rename_i hc
        rw [if_pos hc] at hr
        exact nz_i ⟨h1, by omega, ldI_x (v := numL.getD i.toNat 0) ho.get0 (getInts h1 (by omega)) hr⟩
      · rename_i hc
        rw [if_neg hc] at hr
        exact ih (i + 1) (by omega) (by omega) hr
    · rw [if_neg hi] at hr
      rw [if_neg (by omega)]
      exact hr
theorem numR_sp {K : Int → Heap → Prop} {h : Heap} {c : Int} (hK : ∀ h1, Ext h h1 → K (numR c 12 0) h1) : ref21_number c K h := by
  have ho := Own.init h
  unfold ref21_number
  refine newB_o ho fun b h1 ho1 => newB_o ho1 fun b2 h2 ho2 => ⟨12 + 1, numR_loop ho2 12 0 (by omega) (by omega) (hK _ ho2.ext)⟩
def putV (n : Int) : ByteArray := if n < 10 then bytesOf [IntKind.wrap .u8 (IntKind.wrap .i64 (48 + n))] else bytesOf [IntKind.wrap .u8 (IntKind.wrap .i64 (48 + n / 10))] ++ bytesOf [IntKind.wrap .u8 (IntKind.wrap .i64 (48 + n % 10))]
theorem put1 {K : ByteArray → Heap → Prop} {h : Heap} {n : Int} (f : Nat) (h0 : 0 ≤ n) (h1 : n < 10) (hK : ∀ h1, Ext h h1 → K (bytesOf [IntKind.wrap .u8 (IntKind.wrap .i64 (48 + n))]) h1) : ref01_PutNumber (f + 1) n K h := by
  unfold ref01_PutNumber
  have : ¬ ((decide (n < 0)) || (decide (4611686018427387904 < n))) = true := by simp; omega
  rw [if_neg this, if_pos h1]
  exact fun h2 he => hK h2 he
theorem put_sp {K : ByteArray → Heap → Prop} {h : Heap} {n : Int} (h0 : 0 ≤ n) (h1 : n < 100) (hK : ∀ h1, Ext h h1 → K (putV n) h1) : ref01_PutNumber 2 n K h := by
  unfold putV at hK
  by_cases hn : n < 10
  · rw [if_pos hn] at hK
    exact put1 1 h0 hn hK
  · rw [if_neg hn] at hK
    unfold ref01_PutNumber
    have : ¬ ((decide (n < 0)) || (decide (4611686018427387904 < n))) = true := by simp; omega
    rw [if_neg this, if_neg hn]
    have e1 : Int.tdiv n 10 = n / 10 := Int.tdiv_eq_ediv_of_nonneg h0
    have e2 : Int.tmod n 10 = n % 10 := Int.tmod_eq_emod_of_nonneg h0
    rw [e1, e2, wrap64 (x := n / 10) (by omega) (by omega)]
    refine put1 0 (by omega) (by omega) fun h2 he => put1 0 (by omega) (by omega) fun h3 he3 => ⟨by rw [bytesOf1, bytesOf1]; omega, hK _ (he.trans he3)⟩
def seqRV (c m : Int) (app : Bool) : ByteArray :=
  if (!((letR c 10 0).data.toList == (⟨#[]⟩ : ByteArray).data.toList)) = true then
    if 0 < m then ((⟨#[27, 91, 49, 59]⟩ : ByteArray) ++ putV (m + 1)) ++ letR c 10 0
    else if app = true then (⟨#[27, 79]⟩ : ByteArray) ++ letR c 10 0
    else if 16777227 ≤ c then (⟨#[27, 79]⟩ : ByteArray) ++ letR c 10 0
    else (⟨#[27, 91]⟩ : ByteArray) ++ letR c 10 0
  else if 0 < m then ((((⟨#[27, 91]⟩ : ByteArray) ++ putV (numR c 12 0)) ++ (⟨#[59]⟩ : ByteArray)) ++ putV (m + 1)) ++ (⟨#[126]⟩ : ByteArray)
  else ((⟨#[27, 91]⟩ : ByteArray) ++ putV (numR c 12 0)) ++ (⟨#[126]⟩ : ByteArray)
theorem seq_eq : ∀ (c : Fin 22) (m : Fin 8) (app : Bool), seqRV (16777217 + c.val) m.val app = spV (16777217 + c.val) m.val app := by decide +kernel
theorem num_rng : ∀ (c : Fin 22), 0 ≤ numR (16777217 + c.val) 12 0 ∧ numR (16777217 + c.val) 12 0 < 100 ∧ (letR (16777217 + c.val) 10 0).size ≤ 1 := by decide +kernel
theorem putV_size (n : Int) : (putV n).size ≤ 2 := by
  unfold putV
  split
  · rw [bytesOf1]; omega
  · rw [ByteArray.size_append, bytesOf1, bytesOf1]; omega
theorem seqR_sp {c m : Int} {app : Bool} {K : ByteArray → Heap → Prop} {h : Heap} (c0 : 16777217 ≤ c) (c1 : c ≤ 16777238) (m0 : 0 ≤ m) (m1 : m ≤ 7) (hK : ∀ h1, Ext h h1 → K (spV c m app) h1) : ref21_sequence c m app K h := by
  have ho := Own.init h
  have he1 : spV c m app = seqRV c m app := by
    have := seq_eq ⟨(c - 16777217).toNat, by omega⟩ ⟨m.toNat, by omega⟩ app
    simp only [show (16777217 + ((c - 16777217).toNat : Int)) = c by omega, show ((m.toNat : Nat) : Int) = m by omega] at this
    exact this.symm
  rw [he1] at hK
  unfold seqRV at hK
  have hr := num_rng ⟨(c - 16777217).toNat, by omega⟩
  simp only [show (16777217 + ((c - 16777217).toNat : Int)) = c by omega] at hr
  obtain ⟨n0, n1, hl⟩ := hr
  have p1 := putV_size (m + 1)
  have p2 := putV_size (numR c 12 0)
  have z1 : (⟨#[27, 91]⟩ : ByteArray).size = 2 := rfl
  have z2 : (⟨#[126]⟩ : ByteArray).size = 1 := rfl
  have z3 : (⟨#[59]⟩ : ByteArray).size = 1 := rfl
  have z4 : (⟨#[27, 91, 49, 59]⟩ : ByteArray).size = 4 := rfl
  have z5 : (⟨#[27, 79]⟩ : ByteArray).size = 2 := rfl
  unfold ref21_sequence
  simp only [toListE]
  repeat (first | ((with_reducible apply newB_o); (with_reducible assumption); intro _ _ _) | ((with_reducible apply gap_o); (with_reducible assumption); intro _ _) | ((with_reducible apply st0); (with_reducible assumption); rfl; intro _ _) | ((with_reducible apply st1); (with_reducible assumption); rfl; intro _ _) | ((with_reducible apply st2); (with_reducible assumption); rfl; intro _ _) | ((with_reducible apply ldI0); (with_reducible assumption); rfl) | ((with_reducible apply ldI1); (with_reducible assumption); rfl) | ((with_reducible apply ldI2); (with_reducible assumption); rfl) | ((with_reducible apply ldB0); (with_reducible assumption); rfl) | ((with_reducible apply ldB1); (with_reducible assumption); rfl) | ((with_reducible apply ldS0); (with_reducible assumption); rfl) | ((with_reducible apply ldS1); (with_reducible assumption); rfl) | (with_reducible refine and_i (Own.tab (by with_reducible assumption) (by with_reducible assumption)) ?_) | (with_reducible apply nz_i))
  refine letR_sp fun h2 he => ?_
  have ho2 := Own.gap (by assumption) he
  repeat (first | ((with_reducible apply newB_o); (with_reducible assumption); intro _ _ _) | ((with_reducible apply gap_o); (with_reducible assumption); intro _ _) | ((with_reducible apply st0); (with_reducible assumption); rfl; intro _ _) | ((with_reducible apply st1); (with_reducible assumption); rfl; intro _ _) | ((with_reducible apply st2); (with_reducible assumption); rfl; intro _ _) | ((with_reducible apply ldI0); (with_reducible assumption); rfl) | ((with_reducible apply ldI1); (with_reducible assumption); rfl) | ((with_reducible apply ldI2); (with_reducible assumption); rfl) | ((with_reducible apply ldB0); (with_reducible assumption); rfl) | ((with_reducible apply ldB1); (with_reducible assumption); rfl) | ((with_reducible apply ldS0); (with_reducible assumption); rfl) | ((with_reducible apply ldS1); (with_reducible assumption); rfl) | (with_reducible refine and_i (Own.tab (by with_reducible assumption) (by with_reducible assumption)) ?_) | (with_reducible apply nz_i))
  refine ⟨2, ?_⟩
  rw [wrap64 (x := m + 1) (by omega) (by omega)]
  refine put_sp (by omega) (by omega) fun h3 he3 => ?_
  have ho3 := ho2.gap he3
  repeat (first | ((with_reducible apply newB_o); (with_reducible assumption); intro _ _ _) | ((with_reducible apply gap_o); (with_reducible assumption); intro _ _) | ((with_reducible apply st0); (with_reducible assumption); rfl; intro _ _) | ((with_reducible apply st1); (with_reducible assumption); rfl; intro _ _) | ((with_reducible apply st2); (with_reducible assumption); rfl; intro _ _) | ((with_reducible apply ldI0); (with_reducible assumption); rfl) | ((with_reducible apply ldI1); (with_reducible assumption); rfl) | ((with_reducible apply ldI2); (with_reducible assumption); rfl) | ((with_reducible apply ldB0); (with_reducible assumption); rfl) | ((with_reducible apply ldB1); (with_reducible assumption); rfl) | ((with_reducible apply ldS0); (with_reducible assumption); rfl) | ((with_reducible apply ldS1); (with_reducible assumption); rfl) | (with_reducible refine and_i (Own.tab (by with_reducible assumption) (by with_reducible assumption)) ?_) | (with_reducible apply nz_i))
  refine numR_sp fun h4 he4 => ?_
  have ho4 := ho3.gap he4
  refine ⟨2, put_sp n0 n1 fun h5 he5 => ?_⟩
  have ho5 := ho4.gap he5
  split
  · rename_i hc
    rw [if_pos hc] at hK
    repeat (first | ((with_reducible apply newB_o); (with_reducible assumption); intro _ _ _) | ((with_reducible apply gap_o); (with_reducible assumption); intro _ _) | ((with_reducible apply st0); (with_reducible assumption); rfl; intro _ _) | ((with_reducible apply st1); (with_reducible assumption); rfl; intro _ _) | ((with_reducible apply st2); (with_reducible assumption); rfl; intro _ _) | ((with_reducible apply ldI0); (with_reducible assumption); rfl) | ((with_reducible apply ldI1); (with_reducible assumption); rfl) | ((with_reducible apply ldI2); (with_reducible assumption); rfl) | ((with_reducible apply ldB0); (with_reducible assumption); rfl) | ((with_reducible apply ldB1); (with_reducible assumption); rfl) | ((with_reducible apply ldS0); (with_reducible assumption); rfl) | ((with_reducible apply ldS1); (with_reducible assumption); rfl) | (with_reducible refine and_i (Own.tab (by with_reducible assumption) (by with_reducible assumption)) ?_) | (with_reducible apply nz_i))
    split
    · rename_i hc
      rw [if_pos hc] at hK
      exact ⟨by omega, by rw [ByteArray.size_append]; omega, hK _ ho5.ext⟩
    · rename_i hc
      rw [if_neg hc] at hK
      split
      · rename_i hc
        rw [if_pos hc] at hK
        exact ⟨by omega, hK _ ho5.ext⟩
      · rename_i hc
        rw [if_neg hc] at hK
        repeat (first | ((with_reducible apply newB_o); (with_reducible assumption); intro _ _ _) | ((with_reducible apply gap_o); (with_reducible assumption); intro _ _) | ((with_reducible apply st0); (with_reducible assumption); rfl; intro _ _) | ((with_reducible apply st1); (with_reducible assumption); rfl; intro _ _) | ((with_reducible apply st2); (with_reducible assumption); rfl; intro _ _) | ((with_reducible apply ldI0); (with_reducible assumption); rfl) | ((with_reducible apply ldI1); (with_reducible assumption); rfl) | ((with_reducible apply ldI2); (with_reducible assumption); rfl) | ((with_reducible apply ldB0); (with_reducible assumption); rfl) | ((with_reducible apply ldB1); (with_reducible assumption); rfl) | ((with_reducible apply ldS0); (with_reducible assumption); rfl) | ((with_reducible apply ldS1); (with_reducible assumption); rfl) | (with_reducible refine and_i (Own.tab (by with_reducible assumption) (by with_reducible assumption)) ?_) | (with_reducible apply nz_i))
        split
        · rename_i hc
          rw [if_pos hc] at hK
          exact ⟨by omega, hK _ ho5.ext⟩
        · rename_i hc
          rw [if_neg hc] at hK
          exact ⟨by omega, hK _ ho5.ext⟩
  · rename_i hc
    rw [if_neg hc] at hK
    repeat (first | ((with_reducible apply newB_o); (with_reducible assumption); intro _ _ _) | ((with_reducible apply gap_o); (with_reducible assumption); intro _ _) | ((with_reducible apply st0); (with_reducible assumption); rfl; intro _ _) | ((with_reducible apply st1); (with_reducible assumption); rfl; intro _ _) | ((with_reducible apply st2); (with_reducible assumption); rfl; intro _ _) | ((with_reducible apply ldI0); (with_reducible assumption); rfl) | ((with_reducible apply ldI1); (with_reducible assumption); rfl) | ((with_reducible apply ldI2); (with_reducible assumption); rfl) | ((with_reducible apply ldB0); (with_reducible assumption); rfl) | ((with_reducible apply ldB1); (with_reducible assumption); rfl) | ((with_reducible apply ldS0); (with_reducible assumption); rfl) | ((with_reducible apply ldS1); (with_reducible assumption); rfl) | (with_reducible refine and_i (Own.tab (by with_reducible assumption) (by with_reducible assumption)) ?_) | (with_reducible apply nz_i))
    split
    · rename_i hc
      rw [if_pos hc] at hK
      exact ⟨by omega, by simp only [ByteArray.size_append]; omega, by simp only [ByteArray.size_append]; omega, by simp only [ByteArray.size_append]; omega, hK _ ho5.ext⟩
    · rename_i hc
      rw [if_neg hc] at hK
      exact ⟨by omega, by simp only [ByteArray.size_append]; omega, hK _ ho5.ext⟩
def restR (c m : Int) : ByteArray := if (Int.tmod (IntKind.wrap .i64 (Int.tdiv m 4)) 2) = 0 then ref21_utf8 c else if c = 32 then ⟨#[0]⟩ else bytesOf [IntKind.wrap .u8 (Int.tmod c 32)]
theorem bytesR_j0 {Kr : ByteArray → Heap → Prop} {h0 h : Heap} {b : Nat} {c m : Int} {t l} {s : ByteArray} (hs : s.size ≤ 4) (ho : Own h0 h ((b, #[.int .i64 c, .int .i64 m], t) :: l))
    (hK : ∀ h1, Ext h0 h1 → Kr (s ++ restR c m) h1) : ref21_Bytes_j0 Kr b s h := by
  unfold ref21_Bytes_j0
  unfold restR at hK
  have z0 : (⟨#[0]⟩ : ByteArray).size = 1 := rfl
  repeat (first | ((with_reducible apply newB_o); (with_reducible assumption); intro _ _ _) | ((with_reducible apply gap_o); (with_reducible assumption); intro _ _) | ((with_reducible apply st0); (with_reducible assumption); rfl; intro _ _) | ((with_reducible apply st1); (with_reducible assumption); rfl; intro _ _) | ((with_reducible apply st2); (with_reducible assumption); rfl; intro _ _) | ((with_reducible apply ldI0); (with_reducible assumption); rfl) | ((with_reducible apply ldI1); (with_reducible assumption); rfl) | ((with_reducible apply ldI2); (with_reducible assumption); rfl) | ((with_reducible apply ldB0); (with_reducible assumption); rfl) | ((with_reducible apply ldB1); (with_reducible assumption); rfl) | ((with_reducible apply ldS0); (with_reducible assumption); rfl) | ((with_reducible apply ldS1); (with_reducible assumption); rfl) | (with_reducible refine and_i (Own.tab (by with_reducible assumption) (by with_reducible assumption)) ?_) | (with_reducible apply nz_i))
  split
  · rename_i h1
    rw [if_pos h1] at hK
    repeat (first | ((with_reducible apply newB_o); (with_reducible assumption); intro _ _ _) | ((with_reducible apply gap_o); (with_reducible assumption); intro _ _) | ((with_reducible apply st0); (with_reducible assumption); rfl; intro _ _) | ((with_reducible apply st1); (with_reducible assumption); rfl; intro _ _) | ((with_reducible apply st2); (with_reducible assumption); rfl; intro _ _) | ((with_reducible apply ldI0); (with_reducible assumption); rfl) | ((with_reducible apply ldI1); (with_reducible assumption); rfl) | ((with_reducible apply ldI2); (with_reducible assumption); rfl) | ((with_reducible apply ldB0); (with_reducible assumption); rfl) | ((with_reducible apply ldB1); (with_reducible assumption); rfl) | ((with_reducible apply ldS0); (with_reducible assumption); rfl) | ((with_reducible apply ldS1); (with_reducible assumption); rfl) | (with_reducible refine and_i (Own.tab (by with_reducible assumption) (by with_reducible assumption)) ?_) | (with_reducible apply nz_i))
    refine ⟨by have := utf8_size c; omega, ?_⟩
    repeat (first | ((with_reducible apply newB_o); (with_reducible assumption); intro _ _ _) | ((with_reducible apply gap_o); (with_reducible assumption); intro _ _) | ((with_reducible apply st0); (with_reducible assumption); rfl; intro _ _) | ((with_reducible apply st1); (with_reducible assumption); rfl; intro _ _) | ((with_reducible apply st2); (with_reducible assumption); rfl; intro _ _) | ((with_reducible apply ldI0); (with_reducible assumption); rfl) | ((with_reducible apply ldI1); (with_reducible assumption); rfl) | ((with_reducible apply ldI2); (with_reducible assumption); rfl) | ((with_reducible apply ldB0); (with_reducible assumption); rfl) | ((with_reducible apply ldB1); (with_reducible assumption); rfl) | ((with_reducible apply ldS0); (with_reducible assumption); rfl) | ((with_reducible apply ldS1); (with_reducible assumption); rfl) | (with_reducible refine and_i (Own.tab (by with_reducible assumption) (by with_reducible assumption)) ?_) | (with_reducible apply nz_i))
    exact hK _ (Own.ext (by assumption))
  · rename_i h1
    rw [if_neg h1] at hK
    repeat (first | ((with_reducible apply newB_o); (with_reducible assumption); intro _ _ _) | ((with_reducible apply gap_o); (with_reducible assumption); intro _ _) | ((with_reducible apply st0); (with_reducible assumption); rfl; intro _ _) | ((with_reducible apply st1); (with_reducible assumption); rfl; intro _ _) | ((with_reducible apply st2); (with_reducible assumption); rfl; intro _ _) | ((with_reducible apply ldI0); (with_reducible assumption); rfl) | ((with_reducible apply ldI1); (with_reducible assumption); rfl) | ((with_reducible apply ldI2); (with_reducible assumption); rfl) | ((with_reducible apply ldB0); (with_reducible assumption); rfl) | ((with_reducible apply ldB1); (with_reducible assumption); rfl) | ((with_reducible apply ldS0); (with_reducible assumption); rfl) | ((with_reducible apply ldS1); (with_reducible assumption); rfl) | (with_reducible refine and_i (Own.tab (by with_reducible assumption) (by with_reducible assumption)) ?_) | (with_reducible apply nz_i))
    split
    · rename_i h2
      rw [if_pos h2] at hK
      exact ⟨by omega, hK _ ho.ext⟩
    · rename_i h2
      rw [if_neg h2] at hK
      repeat (first | ((with_reducible apply newB_o); (with_reducible assumption); intro _ _ _) | ((with_reducible apply gap_o); (with_reducible assumption); intro _ _) | ((with_reducible apply st0); (with_reducible assumption); rfl; intro _ _) | ((with_reducible apply st1); (with_reducible assumption); rfl; intro _ _) | ((with_reducible apply st2); (with_reducible assumption); rfl; intro _ _) | ((with_reducible apply ldI0); (with_reducible assumption); rfl) | ((with_reducible apply ldI1); (with_reducible assumption); rfl) | ((with_reducible apply ldI2); (with_reducible assumption); rfl) | ((with_reducible apply ldB0); (with_reducible assumption); rfl) | ((with_reducible apply ldB1); (with_reducible assumption); rfl) | ((with_reducible apply ldS0); (with_reducible assumption); rfl) | ((with_reducible apply ldS1); (with_reducible assumption); rfl) | (with_reducible refine and_i (Own.tab (by with_reducible assumption) (by with_reducible assumption)) ?_) | (with_reducible apply nz_i))
      refine ⟨by rw [bytesOf1]; omega, ?_⟩
      repeat (first | ((with_reducible apply newB_o); (with_reducible assumption); intro _ _ _) | ((with_reducible apply gap_o); (with_reducible assumption); intro _ _) | ((with_reducible apply st0); (with_reducible assumption); rfl; intro _ _) | ((with_reducible apply st1); (with_reducible assumption); rfl; intro _ _) | ((with_reducible apply st2); (with_reducible assumption); rfl; intro _ _) | ((with_reducible apply ldI0); (with_reducible assumption); rfl) | ((with_reducible apply ldI1); (with_reducible assumption); rfl) | ((with_reducible apply ldI2); (with_reducible assumption); rfl) | ((with_reducible apply ldB0); (with_reducible assumption); rfl) | ((with_reducible apply ldB1); (with_reducible assumption); rfl) | ((with_reducible apply ldS0); (with_reducible assumption); rfl) | ((with_reducible apply ldS1); (with_reducible assumption); rfl) | (with_reducible refine and_i (Own.tab (by with_reducible assumption) (by with_reducible assumption)) ?_) | (with_reducible apply nz_i))
      exact hK _ (Own.ext (by assumption))
theorem m_bits : ∀ m : Fin 8, ((Int.tmod (IntKind.wrap .i64 (Int.tdiv (m.val : Int) 4)) 2 = 0) ↔ iAnd .i64 m.val 4 = 0) ∧ ((Int.tmod (IntKind.wrap .i64 (Int.tdiv (m.val : Int) 2)) 2 = 1) ↔ ¬ iAnd .i64 m.val 2 = 0) := by decide +kernel
theorem ctl_bytes : ∀ c : Fin 128, bytesOf [IntKind.wrap .u8 (Int.tmod (c.val : Int) 32)] = bytesOf [iAnd .u8 (IntKind.wrap .u8 (c.val : Int)) 31] := by decide +kernel
theorem valid_ctl {c m : Int} (h : keys_Valid c m = true) (hs : ¬ keys_special c = true) (hb : ¬ c = 16777239) (h4 : ¬ iAnd .i64 m 4 = 0) : 0 ≤ c ∧ c < 128 := by
  have hv := valid_le h
  obtain ⟨n0, n1, n2, n3, n4, n5, n6, n7⟩ := andNot2
  have h40 : iAnd .i64 0 4 = 0 ∧ iAnd .i64 1 4 = 0 ∧ iAnd .i64 2 4 = 0 ∧ iAnd .i64 3 4 = 0 := by decide +kernel
  refine ⟨hv.2.1, ?_⟩
  unfold keys_Valid keys_control at h
  simp only [hs, if_neg hb] at h
  rcases mods_cases hv.2.2.1 hv.2.2.2 with rfl | rfl | rfl | rfl | rfl | rfl | rfl | rfl <;> simp only [h40, n4, n5, n6, n7] at h h4
  all_goals first | (exact absurd rfl h4) | skip
  all_goals
    repeat' split at h
    all_goals (simp at *)
    all_goals omega
theorem valid_uni {c m : Int} (h : keys_Valid c m = true) (hs : ¬ keys_special c = true) (hb : ¬ c = 16777239) : 0 ≤ c ∧ c ≤ 1114111 ∧ (c < 55296 ∨ 57343 < c) := by
  have hv := valid_le h
  have hm : ¬ ((decide (m < 0)) || (decide (7 < m))) = true := by simp; omega
  unfold keys_Valid keys_character keys_control at h
  rw [if_neg hm, if_neg hs, if_neg hb] at h
  refine ⟨hv.2.1, ?_⟩
  repeat' split at h
  all_goals (simp at *)
  all_goals omega
theorem rest_eq {c m : Int} (h : keys_Valid c m = true) (hs : ¬ keys_special c = true) (hb : ¬ c = 16777239) : restR c m = restB c m := by
  have hv := valid_le h
  have hu := valid_uni h hs hb
  have hm := (m_bits ⟨m.toNat, by omega⟩).1
  simp only [show ((m.toNat : Nat) : Int) = m by omega] at hm
  unfold restR restB
  by_cases h4 : iAnd .i64 m 4 = 0
  · rw [if_pos (hm.2 h4), if_pos h4, utf8_eq hu.1 hu.2.1 hu.2.2]
  · rw [if_neg (fun hh => h4 (hm.1 hh)), if_neg h4]
    have hc := valid_ctl h hs hb h4
    split
    · rename_i h32; subst h32; decide +kernel
    · have := ctl_bytes ⟨c.toNat, by omega⟩
      simpa only [show ((c.toNat : Nat) : Int) = c by omega] using this
theorem bytesR_sp {c m : Int} {app : Bool} {K : ByteArray → Heap → Prop} {h : Heap} (hK : ∀ h1, Ext h h1 → K (bytesV c m app) h1) : ref21_Bytes c m app K h := by
  have ho := Own.init h
  unfold ref21_Bytes
  unfold bytesV at hK
  repeat (first | ((with_reducible apply newB_o); (with_reducible assumption); intro _ _ _) | ((with_reducible apply gap_o); (with_reducible assumption); intro _ _) | ((with_reducible apply st0); (with_reducible assumption); rfl; intro _ _) | ((with_reducible apply st1); (with_reducible assumption); rfl; intro _ _) | ((with_reducible apply st2); (with_reducible assumption); rfl; intro _ _) | ((with_reducible apply ldI0); (with_reducible assumption); rfl) | ((with_reducible apply ldI1); (with_reducible assumption); rfl) | ((with_reducible apply ldI2); (with_reducible assumption); rfl) | ((with_reducible apply ldB0); (with_reducible assumption); rfl) | ((with_reducible apply ldB1); (with_reducible assumption); rfl) | ((with_reducible apply ldS0); (with_reducible assumption); rfl) | ((with_reducible apply ldS1); (with_reducible assumption); rfl) | (with_reducible refine and_i (Own.tab (by with_reducible assumption) (by with_reducible assumption)) ?_) | (with_reducible apply nz_i))
  rw [valid_eq]
  split
  · rename_i hc
    rw [if_pos hc] at hK
    repeat (first | ((with_reducible apply newB_o); (with_reducible assumption); intro _ _ _) | ((with_reducible apply gap_o); (with_reducible assumption); intro _ _) | ((with_reducible apply st0); (with_reducible assumption); rfl; intro _ _) | ((with_reducible apply st1); (with_reducible assumption); rfl; intro _ _) | ((with_reducible apply st2); (with_reducible assumption); rfl; intro _ _) | ((with_reducible apply ldI0); (with_reducible assumption); rfl) | ((with_reducible apply ldI1); (with_reducible assumption); rfl) | ((with_reducible apply ldI2); (with_reducible assumption); rfl) | ((with_reducible apply ldB0); (with_reducible assumption); rfl) | ((with_reducible apply ldB1); (with_reducible assumption); rfl) | ((with_reducible apply ldS0); (with_reducible assumption); rfl) | ((with_reducible apply ldS1); (with_reducible assumption); rfl) | (with_reducible refine and_i (Own.tab (by with_reducible assumption) (by with_reducible assumption)) ?_) | (with_reducible apply nz_i))
    exact hK _ (Own.ext (by assumption))
  · rename_i hc
    rw [if_neg hc] at hK
    have hval : keys_Valid c m = true := by simpa using hc
    have hv := valid_le hval
    have hm := (m_bits ⟨m.toNat, by omega⟩).2
    simp only [show ((m.toNat : Nat) : Int) = m by omega] at hm
    repeat (first | ((with_reducible apply newB_o); (with_reducible assumption); intro _ _ _) | ((with_reducible apply gap_o); (with_reducible assumption); intro _ _) | ((with_reducible apply st0); (with_reducible assumption); rfl; intro _ _) | ((with_reducible apply st1); (with_reducible assumption); rfl; intro _ _) | ((with_reducible apply st2); (with_reducible assumption); rfl; intro _ _) | ((with_reducible apply ldI0); (with_reducible assumption); rfl) | ((with_reducible apply ldI1); (with_reducible assumption); rfl) | ((with_reducible apply ldI2); (with_reducible assumption); rfl) | ((with_reducible apply ldB0); (with_reducible assumption); rfl) | ((with_reducible apply ldB1); (with_reducible assumption); rfl) | ((with_reducible apply ldS0); (with_reducible assumption); rfl) | ((with_reducible apply ldS1); (with_reducible assumption); rfl) | (with_reducible refine and_i (Own.tab (by with_reducible assumption) (by with_reducible assumption)) ?_) | (with_reducible apply nz_i))
    have hsp : ref21_special c = keys_special c := rfl
    split
    · rename_i hb
      have hns : ¬ keys_special c = true := by unfold keys_special; simp; omega
      rw [if_neg hns, if_pos hb] at hK
      exact hK _ (Own.ext (by assumption))
    · rename_i hb
      repeat (first | ((with_reducible apply newB_o); (with_reducible assumption); intro _ _ _) | ((with_reducible apply gap_o); (with_reducible assumption); intro _ _) | ((with_reducible apply st0); (with_reducible assumption); rfl; intro _ _) | ((with_reducible apply st1); (with_reducible assumption); rfl; intro _ _) | ((with_reducible apply st2); (with_reducible assumption); rfl; intro _ _) | ((with_reducible apply ldI0); (with_reducible assumption); rfl) | ((with_reducible apply ldI1); (with_reducible assumption); rfl) | ((with_reducible apply ldI2); (with_reducible assumption); rfl) | ((with_reducible apply ldB0); (with_reducible assumption); rfl) | ((with_reducible apply ldB1); (with_reducible assumption); rfl) | ((with_reducible apply ldS0); (with_reducible assumption); rfl) | ((with_reducible apply ldS1); (with_reducible assumption); rfl) | (with_reducible refine and_i (Own.tab (by with_reducible assumption) (by with_reducible assumption)) ?_) | (with_reducible apply nz_i))
      rw [hsp]
      split
      · rename_i hs
        rw [if_pos hs] at hK
        have hs' : 16777217 ≤ c ∧ c ≤ 16777238 := by simpa [keys_special] using hs
        repeat (first | ((with_reducible apply newB_o); (with_reducible assumption); intro _ _ _) | ((with_reducible apply gap_o); (with_reducible assumption); intro _ _) | ((with_reducible apply st0); (with_reducible assumption); rfl; intro _ _) | ((with_reducible apply st1); (with_reducible assumption); rfl; intro _ _) | ((with_reducible apply st2); (with_reducible assumption); rfl; intro _ _) | ((with_reducible apply ldI0); (with_reducible assumption); rfl) | ((with_reducible apply ldI1); (with_reducible assumption); rfl) | ((with_reducible apply ldI2); (with_reducible assumption); rfl) | ((with_reducible apply ldB0); (with_reducible assumption); rfl) | ((with_reducible apply ldB1); (with_reducible assumption); rfl) | ((with_reducible apply ldS0); (with_reducible assumption); rfl) | ((with_reducible apply ldS1); (with_reducible assumption); rfl) | (with_reducible refine and_i (Own.tab (by with_reducible assumption) (by with_reducible assumption)) ?_) | (with_reducible apply nz_i))
        refine seqR_sp hs'.1 hs'.2 hv.2.2.1 hv.2.2.2 fun h2 he => hK _ ?_
        exact (Own.gap (by assumption) he).ext
      · rename_i hs
        rw [if_neg hs, if_neg hb, ← rest_eq hval hs hb] at hK
        repeat (first | ((with_reducible apply newB_o); (with_reducible assumption); intro _ _ _) | ((with_reducible apply gap_o); (with_reducible assumption); intro _ _) | ((with_reducible apply st0); (with_reducible assumption); rfl; intro _ _) | ((with_reducible apply st1); (with_reducible assumption); rfl; intro _ _) | ((with_reducible apply st2); (with_reducible assumption); rfl; intro _ _) | ((with_reducible apply ldI0); (with_reducible assumption); rfl) | ((with_reducible apply ldI1); (with_reducible assumption); rfl) | ((with_reducible apply ldI2); (with_reducible assumption); rfl) | ((with_reducible apply ldB0); (with_reducible assumption); rfl) | ((with_reducible apply ldB1); (with_reducible assumption); rfl) | ((with_reducible apply ldS0); (with_reducible assumption); rfl) | ((with_reducible apply ldS1); (with_reducible assumption); rfl) | (with_reducible refine and_i (Own.tab (by with_reducible assumption) (by with_reducible assumption)) ?_) | (with_reducible apply nz_i))
        split
        · rename_i h1
          rw [if_neg (hm.1 h1)] at hK
          exact bytesR_j0 (by decide) (by assumption) hK
        · rename_i h1
          rw [if_pos (Decidable.byContradiction fun hh => h1 (hm.2 hh))] at hK
          exact bytesR_j0 (by decide) (by assumption) hK

/-! ### KeysNames -/
theorem names_sp {K : Bool → Heap → Prop} {h : Heap} {c m : Int} {app : Bool} (hT : TabH h) (hK : ∀ h1, Ext h h1 → K true h1) : law21_KeysNames c m app K h := by
  have ho := Own.init h
  unfold law21_KeysNames
  simp only [toListE]
  repeat (first | ((with_reducible apply newB_o); (with_reducible assumption); intro _ _ _) | ((with_reducible apply gap_o); (with_reducible assumption); intro _ _) | ((with_reducible apply st0); (with_reducible assumption); rfl; intro _ _) | ((with_reducible apply st1); (with_reducible assumption); rfl; intro _ _) | ((with_reducible apply st2); (with_reducible assumption); rfl; intro _ _) | ((with_reducible apply ldI0); (with_reducible assumption); rfl) | ((with_reducible apply ldI1); (with_reducible assumption); rfl) | ((with_reducible apply ldI2); (with_reducible assumption); rfl) | ((with_reducible apply ldB0); (with_reducible assumption); rfl) | ((with_reducible apply ldB1); (with_reducible assumption); rfl) | ((with_reducible apply ldS0); (with_reducible assumption); rfl) | ((with_reducible apply ldS1); (with_reducible assumption); rfl) | (with_reducible refine and_i (Own.tab (by with_reducible assumption) (by with_reducible assumption)) ?_) | (with_reducible apply nz_i))
  have ho1 := ‹Own h _ ((_, #[Value.int .i64 c, Value.int .i64 m], 36) :: [])›
  refine ⟨⟨(Own.get0 (by assumption)).cell 0 rfl, (Own.get0 (by assumption)).cell 1 rfl⟩, ?_⟩
  rw [valid_eq, if_pos (by simp)]
  repeat (first | ((with_reducible apply newB_o); (with_reducible assumption); intro _ _ _) | ((with_reducible apply gap_o); (with_reducible assumption); intro _ _) | ((with_reducible apply st0); (with_reducible assumption); rfl; intro _ _) | ((with_reducible apply st1); (with_reducible assumption); rfl; intro _ _) | ((with_reducible apply st2); (with_reducible assumption); rfl; intro _ _) | ((with_reducible apply ldI0); (with_reducible assumption); rfl) | ((with_reducible apply ldI1); (with_reducible assumption); rfl) | ((with_reducible apply ldI2); (with_reducible assumption); rfl) | ((with_reducible apply ldB0); (with_reducible assumption); rfl) | ((with_reducible apply ldB1); (with_reducible assumption); rfl) | ((with_reducible apply ldS0); (with_reducible assumption); rfl) | ((with_reducible apply ldS1); (with_reducible assumption); rfl) | (with_reducible refine and_i (Own.tab (by with_reducible assumption) (by with_reducible assumption)) ?_) | (with_reducible apply nz_i))
  refine name_sp (Own.tab (by assumption) hT) fun h2 he2 => ?_
  have ho2 := Own.gap (by assumption) he2
  refine ⟨⟨ho2.get0.cell 0 rfl, ho2.get0.cell 1 rfl⟩, nameR_sp fun h3 he3 => ?_⟩
  have ho3 := ho2.gap he3
  rw [name_eq, if_pos (by simp)]
  repeat (first | ((with_reducible apply newB_o); (with_reducible assumption); intro _ _ _) | ((with_reducible apply gap_o); (with_reducible assumption); intro _ _) | ((with_reducible apply st0); (with_reducible assumption); rfl; intro _ _) | ((with_reducible apply st1); (with_reducible assumption); rfl; intro _ _) | ((with_reducible apply st2); (with_reducible assumption); rfl; intro _ _) | ((with_reducible apply ldI0); (with_reducible assumption); rfl) | ((with_reducible apply ldI1); (with_reducible assumption); rfl) | ((with_reducible apply ldI2); (with_reducible assumption); rfl) | ((with_reducible apply ldB0); (with_reducible assumption); rfl) | ((with_reducible apply ldB1); (with_reducible assumption); rfl) | ((with_reducible apply ldS0); (with_reducible assumption); rfl) | ((with_reducible apply ldS1); (with_reducible assumption); rfl) | (with_reducible refine and_i (Own.tab (by with_reducible assumption) (by with_reducible assumption)) ?_) | (with_reducible apply nz_i))
  refine bytes_sp (ho3.tab hT) fun h4 he4 => ?_
  have ho4 := ho3.gap he4
  refine ⟨⟨ho4.get0.cell 0 rfl, ho4.get0.cell 1 rfl⟩, bytesR_sp fun h5 he5 => ?_⟩
  have ho5 := ho4.gap he5
  rw [if_pos (by simp)]
  exact sure_sp (ho5.tab hT) fun h6 he6 => hK _ (ho5.gap he6).ext
end Go.Proofs.YtkbpnmgkdodcmaaDoor.M
