import Derived.Test.YtkbpnmgkdodcmaaDoorC2
set_option linter.unusedVariables false
set_option linter.unusedSimpArgs false
set_option maxRecDepth 100000
namespace Go.Proofs.YtkbpnmgkdodcmaaDoor.M
open Go Go.Hp

/-! ### Whether bytes may go on -/
def fillL : List ByteArray := [⟨#[128]⟩, ⟨#[191]⟩]
abbrev lowB : ByteArray := ⟨#[128, 144, 160, 191, 143, 159]⟩
def g2 (fill : ByteArray) : Nat → ByteArray → Int → Bool
  | 0, _, _ => false
  | f + 1, t, n => if n ≤ 4 then if ((firstV t).2.2 && (decide ((firstV t).2.1 = (t.size : Int)))) = true then true else g2 fill f (t ++ fill) (n + 1) else false
def g1 (t : ByteArray) : Nat → Int → Bool
  | 0, _ => false
  | f + 1, j => if j < 2 then if g2 (fillL.getD j.toNat ⟨#[]⟩) 4 t t.size = true then true else g1 t f (j + 1) else false
def g0 (s : ByteArray) : Nat → Int → Bool
  | 0, _ => false
  | f + 1, i => if i < 6 then if g1 (s ++ lowB.extract i.toNat (i + 1).toNat) 2 0 = true then true else g0 s f (i + 1) else false
def growsV (s : ByteArray) : Bool := if 3 < (s.size : Int) then false else g0 s 6 0
theorem fill_size {j : Int} (h0 : 0 ≤ j) (h1 : j < 2) : (fillL.getD j.toNat ⟨#[]⟩).size = 1 := by
  have : j = 0 ∨ j = 1 := by omega
  rcases this with rfl | rfl <;> decide
theorem g2_loop {K4 : ByteArray → ByteArray → Int → Int → Heap → Prop} {Kr : Bool → Heap → Prop} {h0 : Heap} {s : ByteArray} {y19 j : Int} (j0 : 0 ≤ j) (j1 : j < 2) :
    ∀ (f : Nat) (t : ByteArray) (n : Int) (h : Heap), Ext h0 h → 1 ≤ n → 5 - n ≤ f → t.size + f ≤ 100 →
      (g2 (fillL.getD j.toNat ⟨#[]⟩) f t n = true → ∀ h1, Ext h0 h1 → Kr true h1) → (g2 (fillL.getD j.toNat ⟨#[]⟩) f t n = false → ∀ h1, Ext h0 h1 → K4 s lowB y19 j h1) →
      ref21_grows_l2 K4 Kr (f + 1) s lowB y19 j t n h := by
  intro f
  induction f with
  | zero =>
    intro t n h he h1 hf hb hr hk
    unfold ref21_grows_l2
    rw [if_neg (by omega)]
    exact hk rfl h he
  | succ f ih =>
    intro t n h he h1 hf hb hr hk
    unfold ref21_grows_l2
    unfold g2 at hr hk
    by_cases hi : n ≤ 4
    · rw [if_pos hi] at hr hk ⊢
      refine first_sp fun h2 he2 => ?_
      split
      · rename_i hc
        rw [if_pos hc] at hr
        exact hr rfl h2 (he.trans he2)
      · rename_i hc
        rw [if_neg hc] at hr hk
        refine newB_o (Own.init h2) fun b h3 ho3 => ?_
        have hl : fillL.length = 2 := rfl
        refine ⟨j0, j1, ldS_x (v := fillL.getD j.toNat ⟨#[]⟩) ho3.get0 ?_ ?_⟩
        · rw [Nat.mul_one, ← Array.getElem?_toList]
          show (fillL.map Value.string)[j.toNat]? = _
          rw [List.getElem?_map, List.getElem?_eq_getElem (by omega), List.getD_eq_getElem?_getD, List.getElem?_eq_getElem (by omega)]
          rfl
        · have hs := fill_size j0 j1
          rw [wrap64 (x := n + 1) (by omega) (by omega)]
          refine ⟨by omega, ih _ (n + 1) h3 ((he.trans he2).trans ho3.ext) (by omega) (by omega) (by rw [ByteArray.size_append]; omega) hr hk⟩
    · rw [if_neg hi]
      rw [if_neg hi] at hk
      exact hk rfl h he
theorem g1_loop {K2 : ByteArray → ByteArray → Int → Heap → Prop} {Kr : Bool → Heap → Prop} {h0 : Heap} {s : ByteArray} {i : Int} (i0 : 0 ≤ i) (i1 : i < 6) (hs : s.size ≤ 3) (hs0 : 0 < s.size) :
    ∀ (f : Nat) (j : Int) (h : Heap), Ext h0 h → 0 ≤ j → 2 - j ≤ f →
      (g1 (s ++ lowB.extract i.toNat (i + 1).toNat) f j = true → ∀ h1, Ext h0 h1 → Kr true h1) → (g1 (s ++ lowB.extract i.toNat (i + 1).toNat) f j = false → ∀ h1, Ext h0 h1 → K2 s lowB i h1) →
      ref21_grows_l1 K2 Kr (f + 1) s lowB i j h := by
  intro f
  have hz : lowB.size = 6 := rfl
  have hsl : (lowB.extract i.toNat (i + 1).toNat).size = 1 := by rw [ByteArray.size_extract]; omega
  have e1 : IntKind.wrap .i64 (i + 1) = i + 1 := wrap64 (by omega) (by omega)
  induction f with
  | zero =>
    intro j h he h1 hf hr hk
    unfold ref21_grows_l1
    rw [if_neg (by omega)]
    exact hk rfl h he
  | succ f ih =>
    intro j h he h1 hf hr hk
    unfold ref21_grows_l1
    unfold g1 at hr hk
    by_cases hi : j < 2
    · rw [if_pos hi] at hr hk ⊢
      rw [e1]
      refine ⟨by omega, by omega, i0, by omega, by omega, 4 + 1, ?_⟩
      have hst : (s ++ lowB.extract i.toNat (i + 1).toNat).size = s.size + 1 := by rw [ByteArray.size_append, hsl]
      refine g2_loop h1 hi 4 _ _ h he (by omega) (by omega) (by omega) (fun hg h2 he2 => ?_) (fun hg h2 he2 => ?_)
      · rw [if_pos hg] at hr
        exact hr rfl h2 he2
      · rw [hg] at hr hk
        simp only [Bool.false_eq_true, if_false] at hr hk
        rw [wrap64 (x := j + 1) (by omega) (by omega)]
        exact ih (j + 1) h2 he2 (by omega) (by omega) hr hk
    · rw [if_neg hi]
      rw [if_neg hi] at hk
      exact hk rfl h he
theorem g0_loop {K : Bool → Heap → Prop} {h0 : Heap} {s : ByteArray} (hs : s.size ≤ 3) (hs0 : 0 < s.size) :
    ∀ (f : Nat) (i : Int) (h : Heap), Ext h0 h → 0 ≤ i → 6 - i ≤ f → (∀ h1, Ext h0 h1 → K (g0 s f i) h1) →
      ref21_grows_l0 (fun h91 => K false h91) (fun z93 h94 => K z93 h94) (f + 1) s lowB i h := by
  intro f
  have hz : lowB.size = 6 := rfl
  induction f with
  | zero =>
    intro i h he h1 hf hk
    unfold ref21_grows_l0
    rw [if_neg (by omega)]
    exact hk h he
  | succ f ih =>
    intro i h he h1 hf hk
    unfold ref21_grows_l0
    unfold g0 at hk
    by_cases hi : i < 6
    · rw [if_pos hi] at hk
      rw [if_pos (by omega)]
      refine ⟨2 + 1, g1_loop h1 hi hs hs0 2 0 h he (by omega) (by omega) (fun hg h2 he2 => ?_) (fun hg h2 he2 => ?_)⟩
      · rw [if_pos hg] at hk
        exact hk h2 he2
      · rw [hg] at hk
        simp only [Bool.false_eq_true, if_false] at hk
        rw [wrap64 (x := i + 1) (by omega) (by omega)]
        exact ih (i + 1) h2 he2 (by omega) (by omega) hk
    · rw [if_neg hi] at hk
      rw [if_neg (by omega)]
      exact hk h he
theorem grows_sp {K : Bool → Heap → Prop} {h : Heap} {s : ByteArray} (hs0 : 0 < s.size) (hK : ∀ h1, Ext h h1 → K (growsV s) h1) : ref21_grows s K h := by
  unfold ref21_grows
  unfold growsV at hK
  split
  · rename_i hc
    rw [if_pos hc] at hK
    exact hK h (Ext.refl h)
  · rename_i hc
    rw [if_neg hc] at hK
    exact ⟨6 + 1, g0_loop (by omega) hs0 6 0 h (Ext.refl h) (by omega) (by omega) hK⟩

/-! ### The document's plain bytes -/
def kL (s : ByteArray) : Nat → Int → Int
  | 0, k => k
  | f + 1, k => if k < (s.size : Int) then if growsV (s.extract 0 (k + 1).toNat) = true then kL s f (k + 1) else k else k
def plainR (s : ByteArray) : Int × Int × Int :=
  if (((decide ((byteAt s 0) = 13)) || (decide ((byteAt s 0) = 9))) || (decide ((byteAt s 0) = 127))) = true then (byteAt s 0, 0, 1)
  else if byteAt s 0 = 0 then (32, 4, 1)
  else if ((decide (28 ≤ (byteAt s 0))) && (decide ((byteAt s 0) < 32))) = true then (byteAt s 0 + 64, 4, 1)
  else if byteAt s 0 < 27 then (byteAt s 0 + 96, 4, 1)
  else if byteAt s 0 < 128 then (byteAt s 0, 0, 1)
  else if ((firstV s).2.2 && (decide ((firstV s).1 < 160))) = true then (0, 0, (firstV s).2.1)
  else if (firstV s).2.2 = true then ((firstV s).1, 0, (firstV s).2.1)
  else if (s.size : Int) < 4 ∧ growsV s = true then (0, 0, 0)
  else (0, 0, kL s s.size 1)
theorem kL_loop {K1 : Nat → Int → Heap → Prop} {h0 : Heap} {s : ByteArray} {b : Nat} {t} {c : Array Value} {l} (hs : (s.size : Int) < 9223372036854775807) :
    ∀ (f : Nat) (k : Int) (h : Heap), Own h0 h ((b, c, t) :: l) → 1 ≤ k → s.size - k ≤ f → (∀ h1, Own h0 h1 ((b, c, t) :: l) → K1 b (kL s f k) h1) → ref21_plain_l0 K1 (f + 1) s b k h := by
  intro f
  induction f with
  | zero =>
    intro k h ho h1 hf hk
    unfold ref21_plain_l0
    rw [if_neg (by omega)]
    exact hk h ho
  | succ f ih =>
    intro k h ho h1 hf hk
    unfold ref21_plain_l0
    unfold kL at hk
    by_cases hi : k < (s.size : Int)
    · rw [if_pos hi] at hk ⊢
      rw [wrap64 (x := k + 1) (by omega) (by omega)]
      refine ⟨by omega, by omega, grows_sp (by rw [ByteArray.size_extract]; omega) fun h2 he => ?_⟩
      have ho2 := ho.gap he
      split
      · rename_i hc
        rw [if_pos hc] at hk
        exact ih (k + 1) h2 ho2 (by omega) (by omega) hk
      · rename_i hc
        rw [if_neg hc] at hk
        exact hk h2 ho2
    · rw [if_neg hi] at hk ⊢
      exact hk h ho
theorem plainR_sp {s : ByteArray} {K : Int → Int → Int → Heap → Prop} {h : Heap} (hp : 0 < s.size) (hs : (s.size : Int) < 9223372036854775807)
    (hK : ∀ h1, Ext h h1 → K (plainR s).1 (plainR s).2.1 (plainR s).2.2 h1) : ref21_plain s K h := by
  have ho := Own.init h
  have hb0 := byteAt_nonneg s 0
  have hb1 := byteAt_lt s 0
  unfold ref21_plain
  unfold plainR at hK
  repeat (first | ((with_reducible apply newB_o); (with_reducible assumption); intro _ _ _) | ((with_reducible apply gap_o); (with_reducible assumption); intro _ _) | ((with_reducible apply st0); (with_reducible assumption); rfl; intro _ _) | ((with_reducible apply st1); (with_reducible assumption); rfl; intro _ _) | ((with_reducible apply st2); (with_reducible assumption); rfl; intro _ _) | ((with_reducible apply ldI0); (with_reducible assumption); rfl) | ((with_reducible apply ldI1); (with_reducible assumption); rfl) | ((with_reducible apply ldI2); (with_reducible assumption); rfl) | ((with_reducible apply ldB0); (with_reducible assumption); rfl) | ((with_reducible apply ldB1); (with_reducible assumption); rfl) | ((with_reducible apply ldS0); (with_reducible assumption); rfl) | ((with_reducible apply ldS1); (with_reducible assumption); rfl) | (with_reducible refine and_i (Own.tab (by with_reducible assumption) (by with_reducible assumption)) ?_) | (with_reducible apply nz_i))
  rw [wbyte, wrap64 (x := byteAt s 0 + 64) (by omega) (by omega), wrap64 (x := byteAt s 0 + 96) (by omega) (by omega)]
  refine ⟨by omega, ?_⟩
  split
  · rename_i hc
    rw [if_pos hc] at hK
    repeat (first | ((with_reducible apply newB_o); (with_reducible assumption); intro _ _ _) | ((with_reducible apply gap_o); (with_reducible assumption); intro _ _) | ((with_reducible apply st0); (with_reducible assumption); rfl; intro _ _) | ((with_reducible apply st1); (with_reducible assumption); rfl; intro _ _) | ((with_reducible apply st2); (with_reducible assumption); rfl; intro _ _) | ((with_reducible apply ldI0); (with_reducible assumption); rfl) | ((with_reducible apply ldI1); (with_reducible assumption); rfl) | ((with_reducible apply ldI2); (with_reducible assumption); rfl) | ((with_reducible apply ldB0); (with_reducible assumption); rfl) | ((with_reducible apply ldB1); (with_reducible assumption); rfl) | ((with_reducible apply ldS0); (with_reducible assumption); rfl) | ((with_reducible apply ldS1); (with_reducible assumption); rfl) | (with_reducible refine and_i (Own.tab (by with_reducible assumption) (by with_reducible assumption)) ?_) | (with_reducible apply nz_i))
    exact hK _ (Own.ext (by assumption))
  rename_i hc
  rw [if_neg hc] at hK
  split
  · rename_i hc
    rw [if_pos hc] at hK
    repeat (first | ((with_reducible apply newB_o); (with_reducible assumption); intro _ _ _) | ((with_reducible apply gap_o); (with_reducible assumption); intro _ _) | ((with_reducible apply st0); (with_reducible assumption); rfl; intro _ _) | ((with_reducible apply st1); (with_reducible assumption); rfl; intro _ _) | ((with_reducible apply st2); (with_reducible assumption); rfl; intro _ _) | ((with_reducible apply ldI0); (with_reducible assumption); rfl) | ((with_reducible apply ldI1); (with_reducible assumption); rfl) | ((with_reducible apply ldI2); (with_reducible assumption); rfl) | ((with_reducible apply ldB0); (with_reducible assumption); rfl) | ((with_reducible apply ldB1); (with_reducible assumption); rfl) | ((with_reducible apply ldS0); (with_reducible assumption); rfl) | ((with_reducible apply ldS1); (with_reducible assumption); rfl) | (with_reducible refine and_i (Own.tab (by with_reducible assumption) (by with_reducible assumption)) ?_) | (with_reducible apply nz_i))
    exact hK _ (Own.ext (by assumption))
  rename_i hc
  rw [if_neg hc] at hK
  split
  · rename_i hc
    rw [if_pos hc] at hK
    repeat (first | ((with_reducible apply newB_o); (with_reducible assumption); intro _ _ _) | ((with_reducible apply gap_o); (with_reducible assumption); intro _ _) | ((with_reducible apply st0); (with_reducible assumption); rfl; intro _ _) | ((with_reducible apply st1); (with_reducible assumption); rfl; intro _ _) | ((with_reducible apply st2); (with_reducible assumption); rfl; intro _ _) | ((with_reducible apply ldI0); (with_reducible assumption); rfl) | ((with_reducible apply ldI1); (with_reducible assumption); rfl) | ((with_reducible apply ldI2); (with_reducible assumption); rfl) | ((with_reducible apply ldB0); (with_reducible assumption); rfl) | ((with_reducible apply ldB1); (with_reducible assumption); rfl) | ((with_reducible apply ldS0); (with_reducible assumption); rfl) | ((with_reducible apply ldS1); (with_reducible assumption); rfl) | (with_reducible refine and_i (Own.tab (by with_reducible assumption) (by with_reducible assumption)) ?_) | (with_reducible apply nz_i))
    exact hK _ (Own.ext (by assumption))
  rename_i hc
  rw [if_neg hc] at hK
  split
  · rename_i hc
    rw [if_pos hc] at hK
    repeat (first | ((with_reducible apply newB_o); (with_reducible assumption); intro _ _ _) | ((with_reducible apply gap_o); (with_reducible assumption); intro _ _) | ((with_reducible apply st0); (with_reducible assumption); rfl; intro _ _) | ((with_reducible apply st1); (with_reducible assumption); rfl; intro _ _) | ((with_reducible apply st2); (with_reducible assumption); rfl; intro _ _) | ((with_reducible apply ldI0); (with_reducible assumption); rfl) | ((with_reducible apply ldI1); (with_reducible assumption); rfl) | ((with_reducible apply ldI2); (with_reducible assumption); rfl) | ((with_reducible apply ldB0); (with_reducible assumption); rfl) | ((with_reducible apply ldB1); (with_reducible assumption); rfl) | ((with_reducible apply ldS0); (with_reducible assumption); rfl) | ((with_reducible apply ldS1); (with_reducible assumption); rfl) | (with_reducible refine and_i (Own.tab (by with_reducible assumption) (by with_reducible assumption)) ?_) | (with_reducible apply nz_i))
    exact hK _ (Own.ext (by assumption))
  rename_i hc
  rw [if_neg hc] at hK
  split
  · rename_i hc
    rw [if_pos hc] at hK
    repeat (first | ((with_reducible apply newB_o); (with_reducible assumption); intro _ _ _) | ((with_reducible apply gap_o); (with_reducible assumption); intro _ _) | ((with_reducible apply st0); (with_reducible assumption); rfl; intro _ _) | ((with_reducible apply st1); (with_reducible assumption); rfl; intro _ _) | ((with_reducible apply st2); (with_reducible assumption); rfl; intro _ _) | ((with_reducible apply ldI0); (with_reducible assumption); rfl) | ((with_reducible apply ldI1); (with_reducible assumption); rfl) | ((with_reducible apply ldI2); (with_reducible assumption); rfl) | ((with_reducible apply ldB0); (with_reducible assumption); rfl) | ((with_reducible apply ldB1); (with_reducible assumption); rfl) | ((with_reducible apply ldS0); (with_reducible assumption); rfl) | ((with_reducible apply ldS1); (with_reducible assumption); rfl) | (with_reducible refine and_i (Own.tab (by with_reducible assumption) (by with_reducible assumption)) ?_) | (with_reducible apply nz_i))
    exact hK _ (Own.ext (by assumption))
  rename_i hc
  rw [if_neg hc] at hK
  refine first_sp fun h2 he2 => ?_
  have ho2 := Own.gap (by assumption) he2
  split
  · rename_i hc
    rw [if_pos hc] at hK
    repeat (first | ((with_reducible apply newB_o); (with_reducible assumption); intro _ _ _) | ((with_reducible apply gap_o); (with_reducible assumption); intro _ _) | ((with_reducible apply st0); (with_reducible assumption); rfl; intro _ _) | ((with_reducible apply st1); (with_reducible assumption); rfl; intro _ _) | ((with_reducible apply st2); (with_reducible assumption); rfl; intro _ _) | ((with_reducible apply ldI0); (with_reducible assumption); rfl) | ((with_reducible apply ldI1); (with_reducible assumption); rfl) | ((with_reducible apply ldI2); (with_reducible assumption); rfl) | ((with_reducible apply ldB0); (with_reducible assumption); rfl) | ((with_reducible apply ldB1); (with_reducible assumption); rfl) | ((with_reducible apply ldS0); (with_reducible assumption); rfl) | ((with_reducible apply ldS1); (with_reducible assumption); rfl) | (with_reducible refine and_i (Own.tab (by with_reducible assumption) (by with_reducible assumption)) ?_) | (with_reducible apply nz_i))
    exact hK _ (Own.ext (by assumption))
  rename_i hc
  rw [if_neg hc] at hK
  split
  · rename_i hc
    rw [if_pos hc] at hK
    repeat (first | ((with_reducible apply newB_o); (with_reducible assumption); intro _ _ _) | ((with_reducible apply gap_o); (with_reducible assumption); intro _ _) | ((with_reducible apply st0); (with_reducible assumption); rfl; intro _ _) | ((with_reducible apply st1); (with_reducible assumption); rfl; intro _ _) | ((with_reducible apply st2); (with_reducible assumption); rfl; intro _ _) | ((with_reducible apply ldI0); (with_reducible assumption); rfl) | ((with_reducible apply ldI1); (with_reducible assumption); rfl) | ((with_reducible apply ldI2); (with_reducible assumption); rfl) | ((with_reducible apply ldB0); (with_reducible assumption); rfl) | ((with_reducible apply ldB1); (with_reducible assumption); rfl) | ((with_reducible apply ldS0); (with_reducible assumption); rfl) | ((with_reducible apply ldS1); (with_reducible assumption); rfl) | (with_reducible refine and_i (Own.tab (by with_reducible assumption) (by with_reducible assumption)) ?_) | (with_reducible apply nz_i))
    exact hK _ (Own.ext (by assumption))
  rename_i hc
  rw [if_neg hc] at hK
  split
  · rename_i h4
    refine grows_sp hp fun h3 he3 => ?_
    have ho3 := ho2.gap he3
    split
    · rename_i hg
      rw [if_pos ⟨h4, hg⟩] at hK
      repeat (first | ((with_reducible apply newB_o); (with_reducible assumption); intro _ _ _) | ((with_reducible apply gap_o); (with_reducible assumption); intro _ _) | ((with_reducible apply st0); (with_reducible assumption); rfl; intro _ _) | ((with_reducible apply st1); (with_reducible assumption); rfl; intro _ _) | ((with_reducible apply st2); (with_reducible assumption); rfl; intro _ _) | ((with_reducible apply ldI0); (with_reducible assumption); rfl) | ((with_reducible apply ldI1); (with_reducible assumption); rfl) | ((with_reducible apply ldI2); (with_reducible assumption); rfl) | ((with_reducible apply ldB0); (with_reducible assumption); rfl) | ((with_reducible apply ldB1); (with_reducible assumption); rfl) | ((with_reducible apply ldS0); (with_reducible assumption); rfl) | ((with_reducible apply ldS1); (with_reducible assumption); rfl) | (with_reducible refine and_i (Own.tab (by with_reducible assumption) (by with_reducible assumption)) ?_) | (with_reducible apply nz_i))
      exact hK _ (Own.ext (by assumption))
    · rename_i hg
      rw [if_neg (fun hh => hg hh.2)] at hK
      refine ⟨s.size + 1, kL_loop hs s.size 1 h3 ho3 (by omega) (by omega) fun h4 ho4 => ?_⟩
      repeat (first | ((with_reducible apply newB_o); (with_reducible assumption); intro _ _ _) | ((with_reducible apply gap_o); (with_reducible assumption); intro _ _) | ((with_reducible apply st0); (with_reducible assumption); rfl; intro _ _) | ((with_reducible apply st1); (with_reducible assumption); rfl; intro _ _) | ((with_reducible apply st2); (with_reducible assumption); rfl; intro _ _) | ((with_reducible apply ldI0); (with_reducible assumption); rfl) | ((with_reducible apply ldI1); (with_reducible assumption); rfl) | ((with_reducible apply ldI2); (with_reducible assumption); rfl) | ((with_reducible apply ldB0); (with_reducible assumption); rfl) | ((with_reducible apply ldB1); (with_reducible assumption); rfl) | ((with_reducible apply ldS0); (with_reducible assumption); rfl) | ((with_reducible apply ldS1); (with_reducible assumption); rfl) | (with_reducible refine and_i (Own.tab (by with_reducible assumption) (by with_reducible assumption)) ?_) | (with_reducible apply nz_i))
      exact hK _ (Own.ext (by assumption))
  · rename_i h4
    rw [if_neg (fun hh => h4 hh.1)] at hK
    refine ⟨s.size + 1, kL_loop hs s.size 1 h2 ho2 (by omega) (by omega) fun h4 ho4 => ?_⟩
    repeat (first | ((with_reducible apply newB_o); (with_reducible assumption); intro _ _ _) | ((with_reducible apply gap_o); (with_reducible assumption); intro _ _) | ((with_reducible apply st0); (with_reducible assumption); rfl; intro _ _) | ((with_reducible apply st1); (with_reducible assumption); rfl; intro _ _) | ((with_reducible apply st2); (with_reducible assumption); rfl; intro _ _) | ((with_reducible apply ldI0); (with_reducible assumption); rfl) | ((with_reducible apply ldI1); (with_reducible assumption); rfl) | ((with_reducible apply ldI2); (with_reducible assumption); rfl) | ((with_reducible apply ldB0); (with_reducible assumption); rfl) | ((with_reducible apply ldB1); (with_reducible assumption); rfl) | ((with_reducible apply ldS0); (with_reducible assumption); rfl) | ((with_reducible apply ldS1); (with_reducible assumption); rfl) | (with_reducible refine and_i (Own.tab (by with_reducible assumption) (by with_reducible assumption)) ?_) | (with_reducible apply nz_i))
    exact hK _ (Own.ext (by assumption))
end Go.Proofs.YtkbpnmgkdodcmaaDoor.M
