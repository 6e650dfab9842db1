import Derived.Test.YtkbpnmgkdodcmaaDoorB3
set_option linter.unusedVariables false
set_option linter.unusedSimpArgs false
set_option maxRecDepth 100000
namespace Go.Proofs.YtkbpnmgkdodcmaaDoor.M
open Go Go.Hp

@[irreducible] def wholeI (s : ByteArray) : Int × Int × Bool := wholeV s
@[irreducible] def plainI (s : ByteArray) : Int × Int × Bool × Int := plainV s
def seqL (s : ByteArray) : Nat → Int → Option (Int × Int × Bool × Int)
  | 0, _ => none
  | f + 1, i => if i < (s.size : Int) then
      if 256 ≤ i then some (0, 0, false, 256)
      else if ((decide (64 ≤ (byteAt s i))) && (decide ((byteAt s i) ≤ 126))) = true then
        some ((wholeI (s.extract 2 (i + 1).toNat)).1, (wholeI (s.extract 2 (i + 1).toNat)).2.1, (wholeI (s.extract 2 (i + 1).toNat)).2.2, i + 1)
      else if ((decide ((byteAt s i) < 32)) || (decide (63 < (byteAt s i)))) = true then some (0, 0, false, i)
      else seqL s f (i + 1)
    else none
def sequenceV (s : ByteArray) : Int × Int × Bool × Int := match seqL s s.size 2 with
  | some r => r
  | none => if 256 ≤ (s.size : Int) then (0, 0, false, 256) else (0, 0, false, 0)
theorem seq_loop {K0 : ByteArray → Nat → Heap → Prop} {Kr : Nat → Bool → Int → Heap → Prop} {h0 : Heap} {s : ByteArray} {b : Nat} {c0 c1 : Value} {t} {l} (hT : TabH h0) (hs : (s.size : Int) < 9223372036854775807) :
    ∀ (f : Nat) (i : Int) (h : Heap), Own h0 h ((b, #[c0, c1], t) :: l) → 2 ≤ i → s.size - i ≤ f →
      (∀ x y ok n h1, seqL s f i = some (x, y, ok, n) → Own h0 h1 ((b, #[.int .i64 x, .int .i64 y], t) :: l) → Kr b ok n h1) → (∀ h1, seqL s f i = none → Own h0 h1 ((b, #[c0, c1], t) :: l) → K0 s b h1) →
      keys_sequence_l0 K0 Kr (f + 1) s b i h := by
  intro f
  induction f with
  | zero =>
    intro i h ho h1 hf hr hk
    unfold keys_sequence_l0
    rw [if_neg (by omega)]
    exact hk h rfl ho
  | succ f ih =>
    intro i h ho h1 hf hr hk
    unfold keys_sequence_l0
    unfold seqL at hr hk
    by_cases hi : i < (s.size : Int)
    · rw [if_pos hi] at hr hk ⊢
      by_cases hz : 256 ≤ i
      · rw [if_pos hz] at hr hk ⊢
        repeat (first | ((with_reducible apply newB_o); (with_reducible assumption); intro _ _ _) | ((with_reducible apply gap_o); (with_reducible assumption); intro _ _) | ((with_reducible apply st0); (with_reducible assumption); rfl; intro _ _) | ((with_reducible apply st1); (with_reducible assumption); rfl; intro _ _) | ((with_reducible apply st2); (with_reducible assumption); rfl; intro _ _) | ((with_reducible apply ldI0); (with_reducible assumption); rfl) | ((with_reducible apply ldI1); (with_reducible assumption); rfl) | ((with_reducible apply ldI2); (with_reducible assumption); rfl) | ((with_reducible apply ldB0); (with_reducible assumption); rfl) | ((with_reducible apply ldB1); (with_reducible assumption); rfl) | ((with_reducible apply ldS0); (with_reducible assumption); rfl) | ((with_reducible apply ldS1); (with_reducible assumption); rfl) | (with_reducible refine and_i (Own.tab (by with_reducible assumption) (by with_reducible assumption)) ?_) | (with_reducible apply nz_i))
        exact hr _ _ _ _ _ rfl (by assumption)
      · rw [if_neg hz] at hr hk ⊢
        refine ⟨by omega, hi, fun _ => by omega, fun _ => hi, ?_⟩
        split
        · rename_i hc
          rw [if_pos hc] at hr
          have e1 : IntKind.wrap .i64 (i + 1) = i + 1 := wrap64 (by omega) (by omega)
          rw [e1]
          refine ⟨by omega, by omega, by omega, whole_sp (ho.tab hT) fun h2 he => ?_⟩
          have ho2 := ho.gap he
          repeat (first | ((with_reducible apply newB_o); (with_reducible assumption); intro _ _ _) | ((with_reducible apply gap_o); (with_reducible assumption); intro _ _) | ((with_reducible apply st0); (with_reducible assumption); rfl; intro _ _) | ((with_reducible apply st1); (with_reducible assumption); rfl; intro _ _) | ((with_reducible apply st2); (with_reducible assumption); rfl; intro _ _) | ((with_reducible apply ldI0); (with_reducible assumption); rfl) | ((with_reducible apply ldI1); (with_reducible assumption); rfl) | ((with_reducible apply ldI2); (with_reducible assumption); rfl) | ((with_reducible apply ldB0); (with_reducible assumption); rfl) | ((with_reducible apply ldB1); (with_reducible assumption); rfl) | ((with_reducible apply ldS0); (with_reducible assumption); rfl) | ((with_reducible apply ldS1); (with_reducible assumption); rfl) | (with_reducible refine and_i (Own.tab (by with_reducible assumption) (by with_reducible assumption)) ?_) | (with_reducible apply nz_i))
          refine hr _ _ _ _ _ (by unfold wholeI; rfl) (by assumption)
        · rename_i hc
          rw [if_neg hc] at hr hk
          refine ⟨by omega, hi, fun _ => by omega, fun _ => hi, ?_⟩
          split
          · rename_i hc
            rw [if_pos hc] at hr
            repeat (first | ((with_reducible apply newB_o); (with_reducible assumption); intro _ _ _) | ((with_reducible apply gap_o); (with_reducible assumption); intro _ _) | ((with_reducible apply st0); (with_reducible assumption); rfl; intro _ _) | ((with_reducible apply st1); (with_reducible assumption); rfl; intro _ _) | ((with_reducible apply st2); (with_reducible assumption); rfl; intro _ _) | ((with_reducible apply ldI0); (with_reducible assumption); rfl) | ((with_reducible apply ldI1); (with_reducible assumption); rfl) | ((with_reducible apply ldI2); (with_reducible assumption); rfl) | ((with_reducible apply ldB0); (with_reducible assumption); rfl) | ((with_reducible apply ldB1); (with_reducible assumption); rfl) | ((with_reducible apply ldS0); (with_reducible assumption); rfl) | ((with_reducible apply ldS1); (with_reducible assumption); rfl) | (with_reducible refine and_i (Own.tab (by with_reducible assumption) (by with_reducible assumption)) ?_) | (with_reducible apply nz_i))
            exact hr _ _ _ _ _ rfl (by assumption)
          · rename_i hc
            rw [if_neg hc] at hr hk
            rw [wrap64 (by omega) (by omega)]
            exact ih (i + 1) _ ho (by omega) (by omega) hr hk
    · rw [if_neg hi]
      rw [if_neg hi] at hk
      exact hk h rfl ho
theorem sequence_sp {s : ByteArray} {K : Int → Int → Bool → Int → Heap → Prop} {h : Heap} (hT : TabH h) (hs : (s.size : Int) < 9223372036854775807)
    (hK : ∀ h1, Ext h h1 → K (sequenceV s).1 (sequenceV s).2.1 (sequenceV s).2.2.1 (sequenceV s).2.2.2 h1) : keys_sequence s K h := by
  have ho := Own.init h
  unfold keys_sequence
  unfold sequenceV at hK
  repeat (first | ((with_reducible apply newB_o); (with_reducible assumption); intro _ _ _) | ((with_reducible apply gap_o); (with_reducible assumption); intro _ _) | ((with_reducible apply st0); (with_reducible assumption); rfl; intro _ _) | ((with_reducible apply st1); (with_reducible assumption); rfl; intro _ _) | ((with_reducible apply st2); (with_reducible assumption); rfl; intro _ _) | ((with_reducible apply ldI0); (with_reducible assumption); rfl) | ((with_reducible apply ldI1); (with_reducible assumption); rfl) | ((with_reducible apply ldI2); (with_reducible assumption); rfl) | ((with_reducible apply ldB0); (with_reducible assumption); rfl) | ((with_reducible apply ldB1); (with_reducible assumption); rfl) | ((with_reducible apply ldS0); (with_reducible assumption); rfl) | ((with_reducible apply ldS1); (with_reducible assumption); rfl) | (with_reducible refine and_i (Own.tab (by with_reducible assumption) (by with_reducible assumption)) ?_) | (with_reducible apply nz_i))
  refine ⟨s.size + 1, seq_loop hT hs s.size 2 _ (by assumption) (by omega) (by omega) (fun x y ok n h1 hj ho1 => ?_) (fun h1 hj ho1 => ?_)⟩
  · rw [hj] at hK
    repeat (first | ((with_reducible apply newB_o); (with_reducible assumption); intro _ _ _) | ((with_reducible apply gap_o); (with_reducible assumption); intro _ _) | ((with_reducible apply st0); (with_reducible assumption); rfl; intro _ _) | ((with_reducible apply st1); (with_reducible assumption); rfl; intro _ _) | ((with_reducible apply st2); (with_reducible assumption); rfl; intro _ _) | ((with_reducible apply ldI0); (with_reducible assumption); rfl) | ((with_reducible apply ldI1); (with_reducible assumption); rfl) | ((with_reducible apply ldI2); (with_reducible assumption); rfl) | ((with_reducible apply ldB0); (with_reducible assumption); rfl) | ((with_reducible apply ldB1); (with_reducible assumption); rfl) | ((with_reducible apply ldS0); (with_reducible assumption); rfl) | ((with_reducible apply ldS1); (with_reducible assumption); rfl) | (with_reducible refine and_i (Own.tab (by with_reducible assumption) (by with_reducible assumption)) ?_) | (with_reducible apply nz_i))
    exact hK _ ho1.ext
  · rw [hj] at hK
    simp only [] at hK
    split
    · rename_i hc
      rw [if_pos hc] at hK
      repeat (first | ((with_reducible apply newB_o); (with_reducible assumption); intro _ _ _) | ((with_reducible apply gap_o); (with_reducible assumption); intro _ _) | ((with_reducible apply st0); (with_reducible assumption); rfl; intro _ _) | ((with_reducible apply st1); (with_reducible assumption); rfl; intro _ _) | ((with_reducible apply st2); (with_reducible assumption); rfl; intro _ _) | ((with_reducible apply ldI0); (with_reducible assumption); rfl) | ((with_reducible apply ldI1); (with_reducible assumption); rfl) | ((with_reducible apply ldI2); (with_reducible assumption); rfl) | ((with_reducible apply ldB0); (with_reducible assumption); rfl) | ((with_reducible apply ldB1); (with_reducible assumption); rfl) | ((with_reducible apply ldS0); (with_reducible assumption); rfl) | ((with_reducible apply ldS1); (with_reducible assumption); rfl) | (with_reducible refine and_i (Own.tab (by with_reducible assumption) (by with_reducible assumption)) ?_) | (with_reducible apply nz_i))
      exact hK _ (Own.ext (by assumption))
    · rename_i hc
      rw [if_neg hc] at hK
      repeat (first | ((with_reducible apply newB_o); (with_reducible assumption); intro _ _ _) | ((with_reducible apply gap_o); (with_reducible assumption); intro _ _) | ((with_reducible apply st0); (with_reducible assumption); rfl; intro _ _) | ((with_reducible apply st1); (with_reducible assumption); rfl; intro _ _) | ((with_reducible apply st2); (with_reducible assumption); rfl; intro _ _) | ((with_reducible apply ldI0); (with_reducible assumption); rfl) | ((with_reducible apply ldI1); (with_reducible assumption); rfl) | ((with_reducible apply ldI2); (with_reducible assumption); rfl) | ((with_reducible apply ldB0); (with_reducible assumption); rfl) | ((with_reducible apply ldB1); (with_reducible assumption); rfl) | ((with_reducible apply ldS0); (with_reducible assumption); rfl) | ((with_reducible apply ldS1); (with_reducible assumption); rfl) | (with_reducible refine and_i (Own.tab (by with_reducible assumption) (by with_reducible assumption)) ?_) | (with_reducible apply nz_i))
      exact hK _ (Own.ext (by assumption))

def nextV (s : ByteArray) : Int × Int × Bool × Int :=
  if 1 < (s.size : Int) then
    if byteAt s 0 = 27 then
      if byteAt s 1 = 91 then sequenceV s
      else if byteAt s 1 = 79 then
        if (s.size : Int) < 3 then (0, 0, false, 0) else ((letterV (byteAt s 2)).1, (letterV (byteAt s 2)).2.1, (letterV (byteAt s 2)).2.2, 3)
      else bareV s
    else bareV s
  else bareV s
theorem next_sp {s : ByteArray} {K : Int → Int → Bool → Int → Heap → Prop} {h : Heap} (hT : TabH h) (hp : 0 < s.size) (hs : (s.size : Int) < 9223372036854775807)
    (hK : ∀ h1, Ext h h1 → K (nextV s).1 (nextV s).2.1 (nextV s).2.2.1 (nextV s).2.2.2 h1) : keys_next s K h := by
  have ho := Own.init h
  unfold keys_next
  unfold nextV at hK
  repeat (first | ((with_reducible apply newB_o); (with_reducible assumption); intro _ _ _) | ((with_reducible apply gap_o); (with_reducible assumption); intro _ _) | ((with_reducible apply st0); (with_reducible assumption); rfl; intro _ _) | ((with_reducible apply st1); (with_reducible assumption); rfl; intro _ _) | ((with_reducible apply st2); (with_reducible assumption); rfl; intro _ _) | ((with_reducible apply ldI0); (with_reducible assumption); rfl) | ((with_reducible apply ldI1); (with_reducible assumption); rfl) | ((with_reducible apply ldI2); (with_reducible assumption); rfl) | ((with_reducible apply ldB0); (with_reducible assumption); rfl) | ((with_reducible apply ldB1); (with_reducible assumption); rfl) | ((with_reducible apply ldS0); (with_reducible assumption); rfl) | ((with_reducible apply ldS1); (with_reducible assumption); rfl) | (with_reducible refine and_i (Own.tab (by with_reducible assumption) (by with_reducible assumption)) ?_) | (with_reducible apply nz_i))
  have hO := ‹Own h _ _›
  split
  · rename_i hc
    rw [if_pos hc] at hK
    refine ⟨by omega, ?_⟩
    split
    · rename_i hc
      rw [if_pos hc] at hK
      refine ⟨by omega, ?_⟩
      split
      · rename_i hc
        rw [if_pos hc] at hK
        refine sequence_sp (Own.tab (by assumption) hT) hs fun h2 he => ?_
        have ho2 := Own.gap (by assumption) he
        repeat (first | ((with_reducible apply newB_o); (with_reducible assumption); intro _ _ _) | ((with_reducible apply gap_o); (with_reducible assumption); intro _ _) | ((with_reducible apply st0); (with_reducible assumption); rfl; intro _ _) | ((with_reducible apply st1); (with_reducible assumption); rfl; intro _ _) | ((with_reducible apply st2); (with_reducible assumption); rfl; intro _ _) | ((with_reducible apply ldI0); (with_reducible assumption); rfl) | ((with_reducible apply ldI1); (with_reducible assumption); rfl) | ((with_reducible apply ldI2); (with_reducible assumption); rfl) | ((with_reducible apply ldB0); (with_reducible assumption); rfl) | ((with_reducible apply ldB1); (with_reducible assumption); rfl) | ((with_reducible apply ldS0); (with_reducible assumption); rfl) | ((with_reducible apply ldS1); (with_reducible assumption); rfl) | (with_reducible refine and_i (Own.tab (by with_reducible assumption) (by with_reducible assumption)) ?_) | (with_reducible apply nz_i))
        exact hK _ (Own.ext (by assumption))
      · rename_i hc
        rw [if_neg hc] at hK
        split
        · rename_i hc
          rw [if_pos hc] at hK
          split
          · rename_i hc
            rw [if_pos hc] at hK
            repeat (first | ((with_reducible apply newB_o); (with_reducible assumption); intro _ _ _) | ((with_reducible apply gap_o); (with_reducible assumption); intro _ _) | ((with_reducible apply st0); (with_reducible assumption); rfl; intro _ _) | ((with_reducible apply st1); (with_reducible assumption); rfl; intro _ _) | ((with_reducible apply st2); (with_reducible assumption); rfl; intro _ _) | ((with_reducible apply ldI0); (with_reducible assumption); rfl) | ((with_reducible apply ldI1); (with_reducible assumption); rfl) | ((with_reducible apply ldI2); (with_reducible assumption); rfl) | ((with_reducible apply ldB0); (with_reducible assumption); rfl) | ((with_reducible apply ldB1); (with_reducible assumption); rfl) | ((with_reducible apply ldS0); (with_reducible assumption); rfl) | ((with_reducible apply ldS1); (with_reducible assumption); rfl) | (with_reducible refine and_i (Own.tab (by with_reducible assumption) (by with_reducible assumption)) ?_) | (with_reducible apply nz_i))
            exact hK _ (Own.ext (by assumption))
          · rename_i hc
            rw [if_neg hc] at hK
            refine ⟨by omega, letter_sp (Own.tab (by assumption) hT) fun h2 he => ?_⟩
            have ho2 := Own.gap (by assumption) he
            repeat (first | ((with_reducible apply newB_o); (with_reducible assumption); intro _ _ _) | ((with_reducible apply gap_o); (with_reducible assumption); intro _ _) | ((with_reducible apply st0); (with_reducible assumption); rfl; intro _ _) | ((with_reducible apply st1); (with_reducible assumption); rfl; intro _ _) | ((with_reducible apply st2); (with_reducible assumption); rfl; intro _ _) | ((with_reducible apply ldI0); (with_reducible assumption); rfl) | ((with_reducible apply ldI1); (with_reducible assumption); rfl) | ((with_reducible apply ldI2); (with_reducible assumption); rfl) | ((with_reducible apply ldB0); (with_reducible assumption); rfl) | ((with_reducible apply ldB1); (with_reducible assumption); rfl) | ((with_reducible apply ldS0); (with_reducible assumption); rfl) | ((with_reducible apply ldS1); (with_reducible assumption); rfl) | (with_reducible refine and_i (Own.tab (by with_reducible assumption) (by with_reducible assumption)) ?_) | (with_reducible apply nz_i))
            exact hK _ (Own.ext (by assumption))
        · rename_i hc
          rw [if_neg hc] at hK
          refine bare_sp hp hs fun h2 he => ?_
          have ho2 := Own.gap (by assumption) he
          repeat (first | ((with_reducible apply newB_o); (with_reducible assumption); intro _ _ _) | ((with_reducible apply gap_o); (with_reducible assumption); intro _ _) | ((with_reducible apply st0); (with_reducible assumption); rfl; intro _ _) | ((with_reducible apply st1); (with_reducible assumption); rfl; intro _ _) | ((with_reducible apply st2); (with_reducible assumption); rfl; intro _ _) | ((with_reducible apply ldI0); (with_reducible assumption); rfl) | ((with_reducible apply ldI1); (with_reducible assumption); rfl) | ((with_reducible apply ldI2); (with_reducible assumption); rfl) | ((with_reducible apply ldB0); (with_reducible assumption); rfl) | ((with_reducible apply ldB1); (with_reducible assumption); rfl) | ((with_reducible apply ldS0); (with_reducible assumption); rfl) | ((with_reducible apply ldS1); (with_reducible assumption); rfl) | (with_reducible refine and_i (Own.tab (by with_reducible assumption) (by with_reducible assumption)) ?_) | (with_reducible apply nz_i))
          exact hK _ (Own.ext (by assumption))
    · rename_i hc
      rw [if_neg hc] at hK
      refine bare_sp hp hs fun h2 he => ?_
      have ho2 := Own.gap (by assumption) he
      repeat (first | ((with_reducible apply newB_o); (with_reducible assumption); intro _ _ _) | ((with_reducible apply gap_o); (with_reducible assumption); intro _ _) | ((with_reducible apply st0); (with_reducible assumption); rfl; intro _ _) | ((with_reducible apply st1); (with_reducible assumption); rfl; intro _ _) | ((with_reducible apply st2); (with_reducible assumption); rfl; intro _ _) | ((with_reducible apply ldI0); (with_reducible assumption); rfl) | ((with_reducible apply ldI1); (with_reducible assumption); rfl) | ((with_reducible apply ldI2); (with_reducible assumption); rfl) | ((with_reducible apply ldB0); (with_reducible assumption); rfl) | ((with_reducible apply ldB1); (with_reducible assumption); rfl) | ((with_reducible apply ldS0); (with_reducible assumption); rfl) | ((with_reducible apply ldS1); (with_reducible assumption); rfl) | (with_reducible refine and_i (Own.tab (by with_reducible assumption) (by with_reducible assumption)) ?_) | (with_reducible apply nz_i))
      exact hK _ (Own.ext (by assumption))
  · rename_i hc
    rw [if_neg hc] at hK
    refine bare_sp hp hs fun h2 he => ?_
    have ho2 := Own.gap (by assumption) he
    repeat (first | ((with_reducible apply newB_o); (with_reducible assumption); intro _ _ _) | ((with_reducible apply gap_o); (with_reducible assumption); intro _ _) | ((with_reducible apply st0); (with_reducible assumption); rfl; intro _ _) | ((with_reducible apply st1); (with_reducible assumption); rfl; intro _ _) | ((with_reducible apply st2); (with_reducible assumption); rfl; intro _ _) | ((with_reducible apply ldI0); (with_reducible assumption); rfl) | ((with_reducible apply ldI1); (with_reducible assumption); rfl) | ((with_reducible apply ldI2); (with_reducible assumption); rfl) | ((with_reducible apply ldB0); (with_reducible assumption); rfl) | ((with_reducible apply ldB1); (with_reducible assumption); rfl) | ((with_reducible apply ldS0); (with_reducible assumption); rfl) | ((with_reducible apply ldS1); (with_reducible assumption); rfl) | (with_reducible refine and_i (Own.tab (by with_reducible assumption) (by with_reducible assumption)) ?_) | (with_reducible apply nz_i))
    exact hK _ (Own.ext (by assumption))

/-! ### How many bytes are read -/
theorem scanV_n (s : ByteArray) (w : Int) : ∀ (f : Nat) (i : Int), 1 ≤ i → match scanV s w f i with
    | some n => 0 ≤ n ∧ (n ≤ s.size)
    | none => w - i < f → i ≤ s.size → w ≤ s.size ∨ w ≤ i := by
  intro f
  induction f with
  | zero => intro i h1; unfold scanV; simp only []; intro h2 h3; right; omega
  | succ f ih =>
    intro i h1
    unfold scanV
    by_cases hi : i < w
    · rw [if_pos hi]
      by_cases hz : (s.size : Int) ≤ i
      · rw [if_pos hz]; simp only []; omega
      · rw [if_neg hz]
        by_cases hv : follV (byteAt s 0) i (byteAt s i) = true
        · rw [if_pos hv]
          have := ih (i + 1) (by omega)
          revert this
          cases scanV s w f (i + 1) with
          | some n => exact id
          | none => simp only []; intro h h2 h3; have := h (by omega) (by omega); omega
        · rw [if_neg hv]; simp only []; omega
    · rw [if_neg hi]; simp only []; intro _ _; right; omega
theorem restV_n (s : ByteArray) (w : Int) (h0 : 0 < s.size) (h2 : 2 ≤ w) (h4 : w ≤ 4) : 0 ≤ (restV s w).2.2.2 ∧ (restV s w).2.2.2 ≤ s.size := by
  have := scanV_n s w 4 1 (by omega)
  unfold restV
  revert this
  cases scanV s w 4 1 with
  | some n => simp only []; exact id
  | none => simp only []; intro h; have := h (by omega) (by omega); omega
theorem plainV_n (s : ByteArray) (h0 : 0 < s.size) : 0 ≤ (plainV s).2.2.2 ∧ (plainV s).2.2.2 ≤ s.size := by
  unfold plainV
  repeat' split
  all_goals first
    | (simp only []; omega)
    | exact restV_n s _ h0 (by omega) (by omega)
theorem bareV_n (s : ByteArray) (h0 : 0 < s.size) (hs : (s.size : Int) < 9223372036854775807) : 0 ≤ (bareV s).2.2.2 ∧ (bareV s).2.2.2 ≤ s.size := by
  unfold bareV
  split
  · split
    · simp only []; omega
    · split
      · simp only []; omega
      · have hsz : (s.extract ((1 : Int).toNat) s.size).size = s.size - 1 := by rw [ByteArray.size_extract]; omega
        have := plainV_n (s.extract ((1 : Int).toNat) s.size) (by omega)
        split
        · simp only []; omega
        · simp only []
          rw [wrap64 (by omega) (by omega)]
          omega
  · exact plainV_n s h0
theorem seqL_n (s : ByteArray) : ∀ (f : Nat) (i : Int), 2 ≤ i → ∀ r, seqL s f i = some r → 0 ≤ r.2.2.2 ∧ r.2.2.2 ≤ s.size := by
  intro f
  induction f with
  | zero => intro i h1 r hr; unfold seqL at hr; cases hr
  | succ f ih =>
    intro i h1 r hr
    unfold seqL at hr
    split at hr
    · split at hr
      · obtain rfl := Option.some.inj hr; simp only []; omega
      · split at hr
        · obtain rfl := Option.some.inj hr; simp only []; omega
        · split at hr
          · obtain rfl := Option.some.inj hr; simp only []; omega
          · exact ih (i + 1) (by omega) r hr
    · cases hr
theorem sequenceV_n (s : ByteArray) (h0 : 0 < s.size) : 0 ≤ (sequenceV s).2.2.2 ∧ (sequenceV s).2.2.2 ≤ s.size := by
  unfold sequenceV
  split
  · rename_i r hr; exact seqL_n s _ 2 (by omega) r hr
  · split
    · simp only []; omega
    · simp only []; omega
theorem nextV_n (s : ByteArray) (h0 : 0 < s.size) (hs : (s.size : Int) < 9223372036854775807) : 0 ≤ (nextV s).2.2.2 ∧ (nextV s).2.2.2 ≤ s.size := by
  unfold nextV
  split
  · split
    · split
      · exact sequenceV_n s h0
      · split
        · split
          · simp only []; omega
          · simp only []; omega
        · exact bareV_n s h0 hs
    · exact bareV_n s h0 hs
  · exact bareV_n s h0 hs

/-! ### Feed, Flush -/
abbrev kf (k : Int × Int) : List Value := [.int .i64 k.1, .int .i64 k.2]
theorem kf_len (k : Int × Int) : (kf k).length = 2 := rfl
@[irreducible] def nextI (s : ByteArray) : Int × Int × Bool × Int := nextV s
def feedL : Nat → ByteArray → List (Int × Int) → List (Int × Int) × ByteArray
  | 0, s, acc => (acc, s)
  | f + 1, s, acc => if (!(s.data.toList == (⟨#[]⟩ : ByteArray).data.toList)) = true then
      if (nextI s).2.2.2 = 0 then (acc, s)
      else feedL f (s.extract (nextI s).2.2.2.toNat s.size) (if (nextI s).2.2.1 = true then acc ++ [((nextI s).1, (nextI s).2.1)] else acc)
    else (acc, s)
theorem ne_empty {s : ByteArray} (h : (!(s.data.toList == (⟨#[]⟩ : ByteArray).data.toList)) = true) : 0 < s.size := by
  rcases Nat.eq_zero_or_pos s.size with h0 | h0
  · exfalso
    have : s.data.toList = [] := List.eq_nil_of_length_eq_zero h0
    simp [this] at h
  · exact h0
theorem feed_loop {K0 : Option Addr → Nat → Nat → Heap → Prop} {h0 : Heap} {d : Nat} {t} {l} (hT : TabH h0) :
    ∀ (f : Nat) (s : ByteArray) (acc : List (Int × Int)) (a : Option Addr) (n c : Nat) (o) (h : Heap), Own h0 h ([(d, #[.string s], t)] ++ (o ++ l)) → SlO kf 2 36 a n c acc o → s.size < f → acc.length + s.size ≤ 4000000000000 →
      (∀ a' n' c' o' h', Own h0 h' ([(d, #[.string (feedL f s acc).2], t)] ++ (o' ++ l)) → SlO kf 2 36 a' n' c' (feedL f s acc).1 o' → K0 a' n' c' h') →
      keys_Decoder_Feed_l0 K0 f ⟨d, 0, none⟩ a n c h := by
  intro f
  induction f with
  | zero => intro s acc a n c o h ho hs hf; omega
  | succ f ih =>
    intro s acc a n c o h ho hs hf hb hk
    unfold keys_Decoder_Feed_l0
    simp only [toListE]
    unfold feedL at hk
    have ho : Own h0 h ((d, #[.string s], t) :: (o ++ l)) := ho
    repeat (first | ((with_reducible apply newB_o); (with_reducible assumption); intro _ _ _) | ((with_reducible apply gap_o); (with_reducible assumption); intro _ _) | ((with_reducible apply st0); (with_reducible assumption); rfl; intro _ _) | ((with_reducible apply st1); (with_reducible assumption); rfl; intro _ _) | ((with_reducible apply st2); (with_reducible assumption); rfl; intro _ _) | ((with_reducible apply ldI0); (with_reducible assumption); rfl) | ((with_reducible apply ldI1); (with_reducible assumption); rfl) | ((with_reducible apply ldI2); (with_reducible assumption); rfl) | ((with_reducible apply ldB0); (with_reducible assumption); rfl) | ((with_reducible apply ldB1); (with_reducible assumption); rfl) | ((with_reducible apply ldS0); (with_reducible assumption); rfl) | ((with_reducible apply ldS1); (with_reducible assumption); rfl) | (with_reducible refine and_i (Own.tab (by with_reducible assumption) (by with_reducible assumption)) ?_) | (with_reducible apply nz_i))
    split
    · rename_i hne
      rw [if_pos hne] at hk
      have hpos := ne_empty hne
      repeat (first | ((with_reducible apply newB_o); (with_reducible assumption); intro _ _ _) | ((with_reducible apply gap_o); (with_reducible assumption); intro _ _) | ((with_reducible apply st0); (with_reducible assumption); rfl; intro _ _) | ((with_reducible apply st1); (with_reducible assumption); rfl; intro _ _) | ((with_reducible apply st2); (with_reducible assumption); rfl; intro _ _) | ((with_reducible apply ldI0); (with_reducible assumption); rfl) | ((with_reducible apply ldI1); (with_reducible assumption); rfl) | ((with_reducible apply ldI2); (with_reducible assumption); rfl) | ((with_reducible apply ldB0); (with_reducible assumption); rfl) | ((with_reducible apply ldB1); (with_reducible assumption); rfl) | ((with_reducible apply ldS0); (with_reducible assumption); rfl) | ((with_reducible apply ldS1); (with_reducible assumption); rfl) | (with_reducible refine and_i (Own.tab (by with_reducible assumption) (by with_reducible assumption)) ?_) | (with_reducible apply nz_i))
      refine next_sp (ho.tab hT) hpos (by omega) fun h2 he => ?_
      have ho2 := ho.gap he
      have hI : nextI s = nextV s := by unfold nextI; rfl
      rw [hI] at hk
      have hn := nextV_n s hpos (by omega)
      split
      · rename_i hc
        rw [if_pos hc] at hk
        repeat (first | ((with_reducible apply newB_o); (with_reducible assumption); intro _ _ _) | ((with_reducible apply gap_o); (with_reducible assumption); intro _ _) | ((with_reducible apply st0); (with_reducible assumption); rfl; intro _ _) | ((with_reducible apply st1); (with_reducible assumption); rfl; intro _ _) | ((with_reducible apply st2); (with_reducible assumption); rfl; intro _ _) | ((with_reducible apply ldI0); (with_reducible assumption); rfl) | ((with_reducible apply ldI1); (with_reducible assumption); rfl) | ((with_reducible apply ldI2); (with_reducible assumption); rfl) | ((with_reducible apply ldB0); (with_reducible assumption); rfl) | ((with_reducible apply ldB1); (with_reducible assumption); rfl) | ((with_reducible apply ldS0); (with_reducible assumption); rfl) | ((with_reducible apply ldS1); (with_reducible assumption); rfl) | (with_reducible refine and_i (Own.tab (by with_reducible assumption) (by with_reducible assumption)) ?_) | (with_reducible apply nz_i))
        exact hk _ _ _ _ _ (by assumption) hs
      · rename_i hc
        rw [if_neg hc] at hk
        have hsz : (s.extract (nextV s).2.2.2.toNat s.size).size = s.size - (nextV s).2.2.2.toNat := by rw [ByteArray.size_extract]; omega
        split
        · rename_i hok
          rw [if_pos hok] at hk
          refine gap_o ho2 fun h3 ho3 => ?_
          refine SlO.app (f := kf) (sz := 2) (js := [((nextV s).1, (nextV s).2.1)]) (pre := [(d, #[.string s], t)]) kf_len rfl hs ho3 ?_ ?_ fun a' c' o' h' ho4 hs4 => ?_
          · have := hs.1; simp only [List.length_singleton]; omega
          · have := hs.1; simp only [List.length_singleton]; omega
          · have ho4 : Own h0 h' ((d, #[.string s], t) :: (o' ++ l)) := ho4
            repeat (first | ((with_reducible apply newB_o); (with_reducible assumption); intro _ _ _) | ((with_reducible apply gap_o); (with_reducible assumption); intro _ _) | ((with_reducible apply st0); (with_reducible assumption); rfl; intro _ _) | ((with_reducible apply st1); (with_reducible assumption); rfl; intro _ _) | ((with_reducible apply st2); (with_reducible assumption); rfl; intro _ _) | ((with_reducible apply ldI0); (with_reducible assumption); rfl) | ((with_reducible apply ldI1); (with_reducible assumption); rfl) | ((with_reducible apply ldI2); (with_reducible assumption); rfl) | ((with_reducible apply ldB0); (with_reducible assumption); rfl) | ((with_reducible apply ldB1); (with_reducible assumption); rfl) | ((with_reducible apply ldS0); (with_reducible assumption); rfl) | ((with_reducible apply ldS1); (with_reducible assumption); rfl) | (with_reducible refine and_i (Own.tab (by with_reducible assumption) (by with_reducible assumption)) ?_) | (with_reducible apply nz_i))
            refine ⟨hn.1, hn.2, ?_⟩
            repeat (first | ((with_reducible apply newB_o); (with_reducible assumption); intro _ _ _) | ((with_reducible apply gap_o); (with_reducible assumption); intro _ _) | ((with_reducible apply st0); (with_reducible assumption); rfl; intro _ _) | ((with_reducible apply st1); (with_reducible assumption); rfl; intro _ _) | ((with_reducible apply st2); (with_reducible assumption); rfl; intro _ _) | ((with_reducible apply ldI0); (with_reducible assumption); rfl) | ((with_reducible apply ldI1); (with_reducible assumption); rfl) | ((with_reducible apply ldI2); (with_reducible assumption); rfl) | ((with_reducible apply ldB0); (with_reducible assumption); rfl) | ((with_reducible apply ldB1); (with_reducible assumption); rfl) | ((with_reducible apply ldS0); (with_reducible assumption); rfl) | ((with_reducible apply ldS1); (with_reducible assumption); rfl) | (with_reducible refine and_i (Own.tab (by with_reducible assumption) (by with_reducible assumption)) ?_) | (with_reducible apply nz_i))
            exact ih _ _ _ _ _ o' _ (by assumption) hs4 (by omega) (by simp only [List.length_append, List.length_singleton]; omega) hk
        · rename_i hok
          rw [if_neg hok] at hk
          repeat (first | ((with_reducible apply newB_o); (with_reducible assumption); intro _ _ _) | ((with_reducible apply gap_o); (with_reducible assumption); intro _ _) | ((with_reducible apply st0); (with_reducible assumption); rfl; intro _ _) | ((with_reducible apply st1); (with_reducible assumption); rfl; intro _ _) | ((with_reducible apply st2); (with_reducible assumption); rfl; intro _ _) | ((with_reducible apply ldI0); (with_reducible assumption); rfl) | ((with_reducible apply ldI1); (with_reducible assumption); rfl) | ((with_reducible apply ldI2); (with_reducible assumption); rfl) | ((with_reducible apply ldB0); (with_reducible assumption); rfl) | ((with_reducible apply ldB1); (with_reducible assumption); rfl) | ((with_reducible apply ldS0); (with_reducible assumption); rfl) | ((with_reducible apply ldS1); (with_reducible assumption); rfl) | (with_reducible refine and_i (Own.tab (by with_reducible assumption) (by with_reducible assumption)) ?_) | (with_reducible apply nz_i))
          refine ⟨hn.1, hn.2, ?_⟩
          repeat (first | ((with_reducible apply newB_o); (with_reducible assumption); intro _ _ _) | ((with_reducible apply gap_o); (with_reducible assumption); intro _ _) | ((with_reducible apply st0); (with_reducible assumption); rfl; intro _ _) | ((with_reducible apply st1); (with_reducible assumption); rfl; intro _ _) | ((with_reducible apply st2); (with_reducible assumption); rfl; intro _ _) | ((with_reducible apply ldI0); (with_reducible assumption); rfl) | ((with_reducible apply ldI1); (with_reducible assumption); rfl) | ((with_reducible apply ldI2); (with_reducible assumption); rfl) | ((with_reducible apply ldB0); (with_reducible assumption); rfl) | ((with_reducible apply ldB1); (with_reducible assumption); rfl) | ((with_reducible apply ldS0); (with_reducible assumption); rfl) | ((with_reducible apply ldS1); (with_reducible assumption); rfl) | (with_reducible refine and_i (Own.tab (by with_reducible assumption) (by with_reducible assumption)) ?_) | (with_reducible apply nz_i))
          exact ih _ _ _ _ _ o _ (by assumption) hs (by omega) (by omega) hk
    · rename_i hne
      rw [if_neg hne] at hk
      exact hk _ _ _ _ _ ho hs
def feedV (s : ByteArray) : List (Int × Int) × ByteArray := feedL (s.size + 1) s []
theorem feed_sp {K : Option Addr → Nat → Nat → Heap → Prop} {h0 h : Heap} {d : Nat} {t} {l} {s x : ByteArray} (hT : TabH h0) (ho : Own h0 h ((d, #[.string s], t) :: l)) (hb : s.size + x.size ≤ 4000000000000)
    (hk : ∀ a n c o h', Own h0 h' ((d, #[.string (feedV (s ++ x)).2], t) :: (o ++ l)) → SlO kf 2 36 a n c (feedV (s ++ x)).1 o → K a n c h') : keys_Decoder_Feed (some ⟨d, 0, none⟩) x K h := by
  unfold keys_Decoder_Feed
  repeat (first | ((with_reducible apply newB_o); (with_reducible assumption); intro _ _ _) | ((with_reducible apply gap_o); (with_reducible assumption); intro _ _) | ((with_reducible apply st0); (with_reducible assumption); rfl; intro _ _) | ((with_reducible apply st1); (with_reducible assumption); rfl; intro _ _) | ((with_reducible apply st2); (with_reducible assumption); rfl; intro _ _) | ((with_reducible apply ldI0); (with_reducible assumption); rfl) | ((with_reducible apply ldI1); (with_reducible assumption); rfl) | ((with_reducible apply ldI2); (with_reducible assumption); rfl) | ((with_reducible apply ldB0); (with_reducible assumption); rfl) | ((with_reducible apply ldB1); (with_reducible assumption); rfl) | ((with_reducible apply ldS0); (with_reducible assumption); rfl) | ((with_reducible apply ldS1); (with_reducible assumption); rfl) | (with_reducible refine and_i (Own.tab (by with_reducible assumption) (by with_reducible assumption)) ?_) | (with_reducible apply nz_i))
  refine ⟨by omega, ?_⟩
  repeat (first | ((with_reducible apply newB_o); (with_reducible assumption); intro _ _ _) | ((with_reducible apply gap_o); (with_reducible assumption); intro _ _) | ((with_reducible apply st0); (with_reducible assumption); rfl; intro _ _) | ((with_reducible apply st1); (with_reducible assumption); rfl; intro _ _) | ((with_reducible apply st2); (with_reducible assumption); rfl; intro _ _) | ((with_reducible apply ldI0); (with_reducible assumption); rfl) | ((with_reducible apply ldI1); (with_reducible assumption); rfl) | ((with_reducible apply ldI2); (with_reducible assumption); rfl) | ((with_reducible apply ldB0); (with_reducible assumption); rfl) | ((with_reducible apply ldB1); (with_reducible assumption); rfl) | ((with_reducible apply ldS0); (with_reducible assumption); rfl) | ((with_reducible apply ldS1); (with_reducible assumption); rfl) | (with_reducible refine and_i (Own.tab (by with_reducible assumption) (by with_reducible assumption)) ?_) | (with_reducible apply nz_i))
  refine ⟨(s ++ x).size + 1, feed_loop hT _ (s ++ x) [] none 0 0 [] _ (by assumption) SlO.nil (by omega) (by simp only [ByteArray.size_append, List.length_nil]; omega) fun a n c o h' ho' hs' => hk a n c o h' ho' hs'⟩
theorem held_sp {K : ByteArray → Heap → Prop} {h0 h : Heap} {d : Nat} {t} {l} {s : ByteArray} (ho : Own h0 h ((d, #[.string s], t) :: l)) (hk : K s h) : keys_Decoder_Held (some ⟨d, 0, none⟩) K h := by
  unfold keys_Decoder_Held
  repeat (first | ((with_reducible apply newB_o); (with_reducible assumption); intro _ _ _) | ((with_reducible apply gap_o); (with_reducible assumption); intro _ _) | ((with_reducible apply st0); (with_reducible assumption); rfl; intro _ _) | ((with_reducible apply st1); (with_reducible assumption); rfl; intro _ _) | ((with_reducible apply st2); (with_reducible assumption); rfl; intro _ _) | ((with_reducible apply ldI0); (with_reducible assumption); rfl) | ((with_reducible apply ldI1); (with_reducible assumption); rfl) | ((with_reducible apply ldI2); (with_reducible assumption); rfl) | ((with_reducible apply ldB0); (with_reducible assumption); rfl) | ((with_reducible apply ldB1); (with_reducible assumption); rfl) | ((with_reducible apply ldS0); (with_reducible assumption); rfl) | ((with_reducible apply ldS1); (with_reducible assumption); rfl) | (with_reducible refine and_i (Own.tab (by with_reducible assumption) (by with_reducible assumption)) ?_) | (with_reducible apply nz_i))
  exact hk
theorem new_sp {K : Option Addr → Heap → Prop} {h0 h : Heap} {l} (ho : Own h0 h l) (hk : ∀ d h1, Own h0 h1 ((d, #[.string ⟨#[]⟩], 53) :: l) → K (some ⟨d, 0, none⟩) h1) : keys_New K h := by
  unfold keys_New
  repeat (first | ((with_reducible apply newB_o); (with_reducible assumption); intro _ _ _) | ((with_reducible apply gap_o); (with_reducible assumption); intro _ _) | ((with_reducible apply st0); (with_reducible assumption); rfl; intro _ _) | ((with_reducible apply st1); (with_reducible assumption); rfl; intro _ _) | ((with_reducible apply st2); (with_reducible assumption); rfl; intro _ _) | ((with_reducible apply ldI0); (with_reducible assumption); rfl) | ((with_reducible apply ldI1); (with_reducible assumption); rfl) | ((with_reducible apply ldI2); (with_reducible assumption); rfl) | ((with_reducible apply ldB0); (with_reducible assumption); rfl) | ((with_reducible apply ldB1); (with_reducible assumption); rfl) | ((with_reducible apply ldS0); (with_reducible assumption); rfl) | ((with_reducible apply ldS1); (with_reducible assumption); rfl) | (with_reducible refine and_i (Own.tab (by with_reducible assumption) (by with_reducible assumption)) ?_) | (with_reducible apply nz_i))
  exact hk _ _ (by assumption)

def flushL : Nat → ByteArray → List (Int × Int) → List (Int × Int)
  | 0, s, acc => acc
  | f + 1, s, acc => if (!(s.data.toList == (⟨#[]⟩ : ByteArray).data.toList)) = true then
      if (bareV s).2.2.2 = 0 then (if (s.data.toList == (⟨#[27]⟩ : ByteArray).data.toList) = true then acc ++ [(27, 0)] else acc)
      else flushL f (s.extract (bareV s).2.2.2.toNat s.size) (if (bareV s).2.2.1 = true then acc ++ [((bareV s).1, (bareV s).2.1)] else acc)
    else acc
theorem flush_loop {K0 : Addr → Option Addr → Nat → Nat → Heap → Prop} {h0 : Heap} {d : Addr} {x} {l} :
    ∀ (f : Nat) (s : ByteArray) (acc : List (Int × Int)) (a : Option Addr) (n c : Nat) (o) (h : Heap), Own h0 h ([x] ++ (o ++ l)) → SlO kf 2 36 a n c acc o → s.size < f → acc.length + s.size ≤ 4000000000000 →
      (∀ a' n' c' o' h', Own h0 h' ([x] ++ (o' ++ l)) → SlO kf 2 36 a' n' c' (flushL f s acc) o' → K0 d a' n' c' h') →
      keys_Decoder_Flush_l0 K0 f d a n c s h := by
  intro f
  induction f with
  | zero => intro s acc a n c o h ho hs hf; omega
  | succ f ih =>
    intro s acc a n c o h ho hs hf hb hk
    unfold keys_Decoder_Flush_l0
    simp only [toListE]
    unfold flushL at hk
    split
    · rename_i hne
      rw [if_pos hne] at hk
      have hpos := ne_empty hne
      refine bare_sp hpos (by omega) fun h2 he => ?_
      have ho2 := ho.gap he
      have hn := bareV_n s hpos (by omega)
      have hl := hs.1
      split
      · rename_i hc
        rw [if_pos hc] at hk
        split
        · rename_i h27
          rw [if_pos h27] at hk
          refine gap_o ho2 fun h3 ho3 => ?_
          refine SlO.app (f := kf) (sz := 2) (js := [(27, 0)]) (pre := [x]) kf_len rfl hs ho3 ?_ ?_ fun a' c' o' h' ho4 hs4 => ?_
          · simp only [List.length_singleton]; omega
          · simp only [List.length_singleton]; omega
          · exact hk _ _ _ o' _ ho4 hs4
        · rename_i h27
          rw [if_neg h27] at hk
          repeat (first | ((with_reducible apply newB_o); (with_reducible assumption); intro _ _ _) | ((with_reducible apply gap_o); (with_reducible assumption); intro _ _) | ((with_reducible apply st0); (with_reducible assumption); rfl; intro _ _) | ((with_reducible apply st1); (with_reducible assumption); rfl; intro _ _) | ((with_reducible apply st2); (with_reducible assumption); rfl; intro _ _) | ((with_reducible apply ldI0); (with_reducible assumption); rfl) | ((with_reducible apply ldI1); (with_reducible assumption); rfl) | ((with_reducible apply ldI2); (with_reducible assumption); rfl) | ((with_reducible apply ldB0); (with_reducible assumption); rfl) | ((with_reducible apply ldB1); (with_reducible assumption); rfl) | ((with_reducible apply ldS0); (with_reducible assumption); rfl) | ((with_reducible apply ldS1); (with_reducible assumption); rfl) | (with_reducible refine and_i (Own.tab (by with_reducible assumption) (by with_reducible assumption)) ?_) | (with_reducible apply nz_i))
          exact hk _ _ _ _ _ (by assumption) hs
      · rename_i hc
        rw [if_neg hc] at hk
        have hsz : (s.extract (bareV s).2.2.2.toNat s.size).size = s.size - (bareV s).2.2.2.toNat := by rw [ByteArray.size_extract]; omega
        split
        · rename_i hok
          rw [if_pos hok] at hk
          refine gap_o ho2 fun h3 ho3 => ?_
          refine SlO.app (f := kf) (sz := 2) (js := [((bareV s).1, (bareV s).2.1)]) (pre := [x]) kf_len rfl hs ho3 ?_ ?_ fun a' c' o' h' ho4 hs4 => ?_
          · simp only [List.length_singleton]; omega
          · simp only [List.length_singleton]; omega
          · refine ⟨hn.1, hn.2, ?_⟩
            exact ih _ _ _ _ _ o' _ ho4 hs4 (by omega) (by simp only [List.length_append, List.length_singleton]; omega) hk
        · rename_i hok
          rw [if_neg hok] at hk
          refine ⟨hn.1, hn.2, ?_⟩
          refine gap_o ho2 fun h3 ho3 => ?_
          exact ih _ _ _ _ _ o _ ho3 hs (by omega) (by omega) hk
    · rename_i hne
      rw [if_neg hne] at hk
      exact hk _ _ _ _ _ ho hs
def flushV (s : ByteArray) : List (Int × Int) := flushL (s.size + 1) s []
theorem flush_sp {K : Option Addr → Nat → Nat → Heap → Prop} {h0 h : Heap} {d : Nat} {t} {l} {s : ByteArray} (ho : Own h0 h ((d, #[.string s], t) :: l)) (hb : s.size ≤ 4000000000000)
    (hk : ∀ a n c o h', Own h0 h' ((d, #[.string ⟨#[]⟩], t) :: (o ++ l)) → SlO kf 2 36 a n c (flushV s) o → K a n c h') : keys_Decoder_Flush (some ⟨d, 0, none⟩) K h := by
  unfold keys_Decoder_Flush
  repeat (first | ((with_reducible apply newB_o); (with_reducible assumption); intro _ _ _) | ((with_reducible apply gap_o); (with_reducible assumption); intro _ _) | ((with_reducible apply st0); (with_reducible assumption); rfl; intro _ _) | ((with_reducible apply st1); (with_reducible assumption); rfl; intro _ _) | ((with_reducible apply st2); (with_reducible assumption); rfl; intro _ _) | ((with_reducible apply ldI0); (with_reducible assumption); rfl) | ((with_reducible apply ldI1); (with_reducible assumption); rfl) | ((with_reducible apply ldI2); (with_reducible assumption); rfl) | ((with_reducible apply ldB0); (with_reducible assumption); rfl) | ((with_reducible apply ldB1); (with_reducible assumption); rfl) | ((with_reducible apply ldS0); (with_reducible assumption); rfl) | ((with_reducible apply ldS1); (with_reducible assumption); rfl) | (with_reducible refine and_i (Own.tab (by with_reducible assumption) (by with_reducible assumption)) ?_) | (with_reducible apply nz_i))
  refine ⟨s.size + 1, flush_loop _ s [] none 0 0 [] _ (x := (d, #[.string s], t)) (by assumption) SlO.nil (by omega) (by simp only [List.length_nil]; omega) fun a n c o h' ho' hs' => ?_⟩
  have ho' : Own h0 h' ((d, #[.string s], t) :: (o ++ l)) := ho'
  repeat (first | ((with_reducible apply newB_o); (with_reducible assumption); intro _ _ _) | ((with_reducible apply gap_o); (with_reducible assumption); intro _ _) | ((with_reducible apply st0); (with_reducible assumption); rfl; intro _ _) | ((with_reducible apply st1); (with_reducible assumption); rfl; intro _ _) | ((with_reducible apply st2); (with_reducible assumption); rfl; intro _ _) | ((with_reducible apply ldI0); (with_reducible assumption); rfl) | ((with_reducible apply ldI1); (with_reducible assumption); rfl) | ((with_reducible apply ldI2); (with_reducible assumption); rfl) | ((with_reducible apply ldB0); (with_reducible assumption); rfl) | ((with_reducible apply ldB1); (with_reducible assumption); rfl) | ((with_reducible apply ldS0); (with_reducible assumption); rfl) | ((with_reducible apply ldS1); (with_reducible assumption); rfl) | (with_reducible refine and_i (Own.tab (by with_reducible assumption) (by with_reducible assumption)) ?_) | (with_reducible apply nz_i))
  exact hk a n c o _ (by assumption) hs'
end Go.Proofs.YtkbpnmgkdodcmaaDoor.M
