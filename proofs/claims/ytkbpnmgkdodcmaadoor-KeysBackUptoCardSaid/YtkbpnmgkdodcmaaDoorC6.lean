import Derived.Test.YtkbpnmgkdodcmaaDoorC5
set_option linter.unusedVariables false
set_option linter.unusedSimpArgs false
set_option maxRecDepth 100000
namespace Go.Proofs.YtkbpnmgkdodcmaaDoor.M
open Go Go.Hp

theorem al0_len : ∀ (f : Nat) (m : Int) (acc : List (Int × Int)), (al0 f m acc).length ≤ acc.length + f * 200 := by
  intro f
  induction f with
  | zero => intro m acc; simp [al0]
  | succ f ih =>
    intro m acc
    unfold al0
    split
    · have h := ih (m + 1) (al12 m acc)
      have e : al12 m acc = al2 m 24 16777217 (al1 m 129 0 acc) := by unfold al12; rfl
      have l2 := al2_len m 24 16777217 (al1 m 129 0 acc)
      have l1 := al1_len m 129 0 acc
      rw [e] at h ⊢
      omega
    · omega
theorem allL_len : allL.length ≤ 1800 := by
  have := al0_len 9 0 []
  unfold allL
  simpa using this
theorem ctlR_sp {s : ByteArray} {K : Int → Int → Int → Heap → Prop} {h : Heap} (hp : 2 ≤ s.size) (hs : (s.size : Int) < 9223372036854775806)
    (hK : ∀ h1, Ext h h1 → K (ctlR s).1 (ctlR s).2.1 (ctlR s).2.2 h1) : ref21_control s K h := by
  have ho := Own.init h
  unfold ref21_control
  unfold ctlR at hK
  have hci : cII s = cI s s.size 2 := by unfold cII; rfl
  have hrg := cI_rng s s.size 2 (by omega) (by omega)
  rw [← hci] at hrg
  repeat (first | ((with_reducible apply newB_o); (with_reducible assumption); intro _ _ _) | ((with_reducible apply gap_o); (with_reducible assumption); intro _ _) | ((with_reducible apply st0); (with_reducible assumption); rfl; intro _ _) | ((with_reducible apply st1); (with_reducible assumption); rfl; intro _ _) | ((with_reducible apply st2); (with_reducible assumption); rfl; intro _ _) | ((with_reducible apply ldI0); (with_reducible assumption); rfl) | ((with_reducible apply ldI1); (with_reducible assumption); rfl) | ((with_reducible apply ldI2); (with_reducible assumption); rfl) | ((with_reducible apply ldB0); (with_reducible assumption); rfl) | ((with_reducible apply ldB1); (with_reducible assumption); rfl) | ((with_reducible apply ldS0); (with_reducible assumption); rfl) | ((with_reducible apply ldS1); (with_reducible assumption); rfl) | (with_reducible refine and_i (Own.tab (by with_reducible assumption) (by with_reducible assumption)) ?_) | (with_reducible apply nz_i))
  refine ⟨s.size + 1, cI_loop (by omega) s.size 2 (by omega) (by omega) ?_⟩
  rw [← hci]
  generalize cII s = i at *
  split
  · rename_i hc
    rw [if_pos hc] at hK
    repeat (first | ((with_reducible apply newB_o); (with_reducible assumption); intro _ _ _) | ((with_reducible apply gap_o); (with_reducible assumption); intro _ _) | ((with_reducible apply st0); (with_reducible assumption); rfl; intro _ _) | ((with_reducible apply st1); (with_reducible assumption); rfl; intro _ _) | ((with_reducible apply st2); (with_reducible assumption); rfl; intro _ _) | ((with_reducible apply ldI0); (with_reducible assumption); rfl) | ((with_reducible apply ldI1); (with_reducible assumption); rfl) | ((with_reducible apply ldI2); (with_reducible assumption); rfl) | ((with_reducible apply ldB0); (with_reducible assumption); rfl) | ((with_reducible apply ldB1); (with_reducible assumption); rfl) | ((with_reducible apply ldS0); (with_reducible assumption); rfl) | ((with_reducible apply ldS1); (with_reducible assumption); rfl) | (with_reducible refine and_i (Own.tab (by with_reducible assumption) (by with_reducible assumption)) ?_) | (with_reducible apply nz_i))
    exact hK _ (Own.ext (by assumption))
  rename_i hc
  rw [if_neg hc] at hK
  split
  · rename_i hc
    rw [if_pos hc] at hK
    repeat (first | ((with_reducible apply newB_o); (with_reducible assumption); intro _ _ _) | ((with_reducible apply gap_o); (with_reducible assumption); intro _ _) | ((with_reducible apply st0); (with_reducible assumption); rfl; intro _ _) | ((with_reducible apply st1); (with_reducible assumption); rfl; intro _ _) | ((with_reducible apply st2); (with_reducible assumption); rfl; intro _ _) | ((with_reducible apply ldI0); (with_reducible assumption); rfl) | ((with_reducible apply ldI1); (with_reducible assumption); rfl) | ((with_reducible apply ldI2); (with_reducible assumption); rfl) | ((with_reducible apply ldB0); (with_reducible assumption); rfl) | ((with_reducible apply ldB1); (with_reducible assumption); rfl) | ((with_reducible apply ldS0); (with_reducible assumption); rfl) | ((with_reducible apply ldS1); (with_reducible assumption); rfl) | (with_reducible refine and_i (Own.tab (by with_reducible assumption) (by with_reducible assumption)) ?_) | (with_reducible apply nz_i))
    exact hK _ (Own.ext (by assumption))
  rename_i hc2
  rw [if_neg hc2] at hK
  refine ⟨by omega, by omega, fun _ => by omega, fun _ => by omega, ?_⟩
  split
  · rename_i hc
    rw [if_pos hc] at hK
    repeat (first | ((with_reducible apply newB_o); (with_reducible assumption); intro _ _ _) | ((with_reducible apply gap_o); (with_reducible assumption); intro _ _) | ((with_reducible apply st0); (with_reducible assumption); rfl; intro _ _) | ((with_reducible apply st1); (with_reducible assumption); rfl; intro _ _) | ((with_reducible apply st2); (with_reducible assumption); rfl; intro _ _) | ((with_reducible apply ldI0); (with_reducible assumption); rfl) | ((with_reducible apply ldI1); (with_reducible assumption); rfl) | ((with_reducible apply ldI2); (with_reducible assumption); rfl) | ((with_reducible apply ldB0); (with_reducible assumption); rfl) | ((with_reducible apply ldB1); (with_reducible assumption); rfl) | ((with_reducible apply ldS0); (with_reducible assumption); rfl) | ((with_reducible apply ldS1); (with_reducible assumption); rfl) | (with_reducible refine and_i (Own.tab (by with_reducible assumption) (by with_reducible assumption)) ?_) | (with_reducible apply nz_i))
    exact hK _ (Own.ext (by assumption))
  rename_i hc3
  rw [if_neg hc3] at hK
  have e1 : IntKind.wrap .i64 (i + 1) = i + 1 := wrap64 (by omega) (by omega)
  rw [e1] at hK ⊢
  refine ⟨by omega, by omega, ?_⟩
  have hoB := ‹Own h _ ((_, #[Value.int .i64 0, Value.int .i64 0], 36) :: [])›
  refine all_sp hoB fun a n c o h2 ho2 hs2 => ?_
  have hl := allL_len
  have hn := hs2.1
  have hfa : faI (s.extract 0 (i + 1).toNat) = fa (s.extract 0 (i + 1).toNat) allL := by unfold faI; rfl
  have hfm : fmI (s.extract 0 (i + 1).toNat) = fm (s.extract 0 (i + 1).toNat) 6 0 := by unfold fmI; rfl
  unfold findR at hK
  rw [hfa, hfm] at hK
  generalize s.extract 0 (i + 1).toNat = t at *
  refine ⟨n + 1, fa_loop (c0 := .int .i64 0) (c1 := .int .i64 0) (tb := 36) (l := o) (by omega) (n + 1) 0 h2 (ho2.perm (by (classical exact List.perm_iff_count.2 (fun x => by simp only [List.count_append, List.count_cons, List.count_nil]; omega)))) (SlO.slg (pre := []) hs2 ho2) (by omega) (by omega) (fun k h3 hk ho3 => ?_) (fun h3 hk ho3 => ?_)⟩
  · rw [List.drop_zero] at hk
    rw [hk] at hK
    rw [e1]
    repeat (first | ((with_reducible apply newB_o); (with_reducible assumption); intro _ _ _) | ((with_reducible apply gap_o); (with_reducible assumption); intro _ _) | ((with_reducible apply st0); (with_reducible assumption); rfl; intro _ _) | ((with_reducible apply st1); (with_reducible assumption); rfl; intro _ _) | ((with_reducible apply st2); (with_reducible assumption); rfl; intro _ _) | ((with_reducible apply ldI0); (with_reducible assumption); rfl) | ((with_reducible apply ldI1); (with_reducible assumption); rfl) | ((with_reducible apply ldI2); (with_reducible assumption); rfl) | ((with_reducible apply ldB0); (with_reducible assumption); rfl) | ((with_reducible apply ldB1); (with_reducible assumption); rfl) | ((with_reducible apply ldS0); (with_reducible assumption); rfl) | ((with_reducible apply ldS1); (with_reducible assumption); rfl) | (with_reducible refine and_i (Own.tab (by with_reducible assumption) (by with_reducible assumption)) ?_) | (with_reducible apply nz_i))
    exact hK _ ho3.ext
  · rw [List.drop_zero] at hk
    rw [hk] at hK
    refine newB_o ho3 fun b1 h4 ho4 => newB_o ho4 fun b2 h5 ho5 => ⟨6 + 1, ?_⟩
    refine fm_loop (h0 := h) (t1 := 9) (t2 := 3) (l := o) 6 0 h5 ho5 (by omega) (by omega) (fun k h6 hk6 ho6 => ?_) (fun hk6 => ?_)
    · rw [hk6] at hK
      rw [e1]
      repeat (first | ((with_reducible apply newB_o); (with_reducible assumption); intro _ _ _) | ((with_reducible apply gap_o); (with_reducible assumption); intro _ _) | ((with_reducible apply st0); (with_reducible assumption); rfl; intro _ _) | ((with_reducible apply st1); (with_reducible assumption); rfl; intro _ _) | ((with_reducible apply st2); (with_reducible assumption); rfl; intro _ _) | ((with_reducible apply ldI0); (with_reducible assumption); rfl) | ((with_reducible apply ldI1); (with_reducible assumption); rfl) | ((with_reducible apply ldI2); (with_reducible assumption); rfl) | ((with_reducible apply ldB0); (with_reducible assumption); rfl) | ((with_reducible apply ldB1); (with_reducible assumption); rfl) | ((with_reducible apply ldS0); (with_reducible assumption); rfl) | ((with_reducible apply ldS1); (with_reducible assumption); rfl) | (with_reducible refine and_i (Own.tab (by with_reducible assumption) (by with_reducible assumption)) ?_) | (with_reducible apply nz_i))
      exact hK _ ho6.ext
    · rw [hk6] at hK
      rw [e1]
      repeat (first | ((with_reducible apply newB_o); (with_reducible assumption); intro _ _ _) | ((with_reducible apply gap_o); (with_reducible assumption); intro _ _) | ((with_reducible apply st0); (with_reducible assumption); rfl; intro _ _) | ((with_reducible apply st1); (with_reducible assumption); rfl; intro _ _) | ((with_reducible apply st2); (with_reducible assumption); rfl; intro _ _) | ((with_reducible apply ldI0); (with_reducible assumption); rfl) | ((with_reducible apply ldI1); (with_reducible assumption); rfl) | ((with_reducible apply ldI2); (with_reducible assumption); rfl) | ((with_reducible apply ldB0); (with_reducible assumption); rfl) | ((with_reducible apply ldB1); (with_reducible assumption); rfl) | ((with_reducible apply ldS0); (with_reducible assumption); rfl) | ((with_reducible apply ldS1); (with_reducible assumption); rfl) | (with_reducible refine and_i (Own.tab (by with_reducible assumption) (by with_reducible assumption)) ?_) | (with_reducible apply nz_i))
      exact hK _ (Own.ext (by assumption))
def lS (x : ByteArray) : Nat → Int → Option Int
  | 0, _ => none
  | f + 1, c => if c ≤ 16777238 then if ((letR c 10 0).data.toList == x.data.toList) = true then some c else lS x f (c + 1) else none
theorem lS_loop {K1 : Nat → Heap → Prop} {Kr : Nat → Int → Heap → Prop} {h0 : Heap} {s : ByteArray} {b : Nat} {c0 c1 : Value} {t} {l} (hs : 3 ≤ s.size) :
    ∀ (f : Nat) (c : Int) (h : Heap), Own h0 h ((b, #[c0, c1], t) :: l) → 0 ≤ c → c ≤ 16777239 → 16777239 - c ≤ f →
      (∀ k h1, lS (s.extract 2 3) f c = some k → Own h0 h1 ((b, #[.int .i64 k, .int .i64 0], t) :: l) → Kr b 3 h1) → (∀ h1, lS (s.extract 2 3) f c = none → Own h0 h1 ((b, #[c0, c1], t) :: l) → K1 b h1) →
      ref21_begin_l0 K1 Kr (f + 1) s b c h := by
  intro f
  induction f with
  | zero =>
    intro c h ho h1 h2 hf hr hk
    unfold ref21_begin_l0
    rw [if_neg (by omega)]
    exact hk h rfl ho
  | succ f ih =>
    intro c h ho h1 h2 hf hr hk
    unfold ref21_begin_l0
    simp only [toListE]
    unfold lS at hr hk
    by_cases hi : c ≤ 16777238
    · rw [if_pos hi] at hr hk ⊢
      refine ⟨by omega, by omega, letR_sp fun h3 he3 => ?_⟩
      have ho3 := ho.gap he3
      split
      · rename_i hc
        rw [if_pos (show ((letR c 10 0).data.toList == (s.extract 2 3).data.toList) = true from hc)] at hr
        repeat (first | ((with_reducible apply newB_o); (with_reducible assumption); intro _ _ _) | ((with_reducible apply gap_o); (with_reducible assumption); intro _ _) | ((with_reducible apply st0); (with_reducible assumption); rfl; intro _ _) | ((with_reducible apply st1); (with_reducible assumption); rfl; intro _ _) | ((with_reducible apply st2); (with_reducible assumption); rfl; intro _ _) | ((with_reducible apply ldI0); (with_reducible assumption); rfl) | ((with_reducible apply ldI1); (with_reducible assumption); rfl) | ((with_reducible apply ldI2); (with_reducible assumption); rfl) | ((with_reducible apply ldB0); (with_reducible assumption); rfl) | ((with_reducible apply ldB1); (with_reducible assumption); rfl) | ((with_reducible apply ldS0); (with_reducible assumption); rfl) | ((with_reducible apply ldS1); (with_reducible assumption); rfl) | (with_reducible refine and_i (Own.tab (by with_reducible assumption) (by with_reducible assumption)) ?_) | (with_reducible apply nz_i))
        exact hr c _ rfl (by assumption)
      · rename_i hc
        rw [if_neg (show ¬ ((letR c 10 0).data.toList == (s.extract 2 3).data.toList) = true from hc)] at hr hk
        rw [wrap64 (x := c + 1) (by omega) (by omega)]
        exact ih (c + 1) h3 ho3 (by omega) (by omega) (by omega) hr hk
    · rw [if_neg hi]
      rw [if_neg hi] at hk
      exact hk h rfl ho
@[irreducible] def lSI (x : ByteArray) : Option Int := lS x 22 16777217
@[irreducible] def metaI (s : ByteArray) : Int × Int × Int := metaR s
@[irreducible] def ctlI (s : ByteArray) : Int × Int × Int := ctlR s
def beginR (s : ByteArray) : Int × Int × Int :=
  if byteAt s 0 = 27 then
    if (s.size : Int) = 1 then (0, 0, 0)
    else if byteAt s 1 = 91 then ctlI s
    else if byteAt s 1 = 79 then
      if (s.size : Int) < 3 then (0, 0, 0)
      else match lSI (s.extract 2 3) with
        | some c => (c, 0, 3)
        | none => (0, 0, 3)
    else metaI s
  else plainRI s
theorem beginR_sp {s : ByteArray} {K : Int → Int → Int → Heap → Prop} {h : Heap} (hp : 0 < s.size) (hs : (s.size : Int) < 9223372036854775806)
    (hK : ∀ h1, Ext h h1 → K (beginR s).1 (beginR s).2.1 (beginR s).2.2 h1) : ref21_begin s K h := by
  have ho := Own.init h
  unfold ref21_begin
  unfold beginR at hK
  repeat (first | ((with_reducible apply newB_o); (with_reducible assumption); intro _ _ _) | ((with_reducible apply gap_o); (with_reducible assumption); intro _ _) | ((with_reducible apply st0); (with_reducible assumption); rfl; intro _ _) | ((with_reducible apply st1); (with_reducible assumption); rfl; intro _ _) | ((with_reducible apply st2); (with_reducible assumption); rfl; intro _ _) | ((with_reducible apply ldI0); (with_reducible assumption); rfl) | ((with_reducible apply ldI1); (with_reducible assumption); rfl) | ((with_reducible apply ldI2); (with_reducible assumption); rfl) | ((with_reducible apply ldB0); (with_reducible assumption); rfl) | ((with_reducible apply ldB1); (with_reducible assumption); rfl) | ((with_reducible apply ldS0); (with_reducible assumption); rfl) | ((with_reducible apply ldS1); (with_reducible assumption); rfl) | (with_reducible refine and_i (Own.tab (by with_reducible assumption) (by with_reducible assumption)) ?_) | (with_reducible apply nz_i))
  refine ⟨by omega, ?_⟩
  split
  · rename_i hc
    rw [if_pos hc] at hK
    split
    · rename_i hc
      rw [if_pos hc] at hK
      repeat (first | ((with_reducible apply newB_o); (with_reducible assumption); intro _ _ _) | ((with_reducible apply gap_o); (with_reducible assumption); intro _ _) | ((with_reducible apply st0); (with_reducible assumption); rfl; intro _ _) | ((with_reducible apply st1); (with_reducible assumption); rfl; intro _ _) | ((with_reducible apply st2); (with_reducible assumption); rfl; intro _ _) | ((with_reducible apply ldI0); (with_reducible assumption); rfl) | ((with_reducible apply ldI1); (with_reducible assumption); rfl) | ((with_reducible apply ldI2); (with_reducible assumption); rfl) | ((with_reducible apply ldB0); (with_reducible assumption); rfl) | ((with_reducible apply ldB1); (with_reducible assumption); rfl) | ((with_reducible apply ldS0); (with_reducible assumption); rfl) | ((with_reducible apply ldS1); (with_reducible assumption); rfl) | (with_reducible refine and_i (Own.tab (by with_reducible assumption) (by with_reducible assumption)) ?_) | (with_reducible apply nz_i))
      exact hK _ (Own.ext (by assumption))
    rename_i hc
    rw [if_neg hc] at hK
    refine ⟨by omega, ?_⟩
    split
    · rename_i hc
      rw [if_pos hc] at hK
      refine ctlR_sp (by omega) hs fun h2 he => ?_
      have ho2 := Own.gap (by assumption) he
      have e : ctlI s = ctlR s := by unfold ctlI; rfl
      rw [e] at hK
      repeat (first | ((with_reducible apply newB_o); (with_reducible assumption); intro _ _ _) | ((with_reducible apply gap_o); (with_reducible assumption); intro _ _) | ((with_reducible apply st0); (with_reducible assumption); rfl; intro _ _) | ((with_reducible apply st1); (with_reducible assumption); rfl; intro _ _) | ((with_reducible apply st2); (with_reducible assumption); rfl; intro _ _) | ((with_reducible apply ldI0); (with_reducible assumption); rfl) | ((with_reducible apply ldI1); (with_reducible assumption); rfl) | ((with_reducible apply ldI2); (with_reducible assumption); rfl) | ((with_reducible apply ldB0); (with_reducible assumption); rfl) | ((with_reducible apply ldB1); (with_reducible assumption); rfl) | ((with_reducible apply ldS0); (with_reducible assumption); rfl) | ((with_reducible apply ldS1); (with_reducible assumption); rfl) | (with_reducible refine and_i (Own.tab (by with_reducible assumption) (by with_reducible assumption)) ?_) | (with_reducible apply nz_i))
      exact hK _ (Own.ext (by assumption))
    rename_i hc
    rw [if_neg hc] at hK
    split
    · rename_i hc
      rw [if_pos hc] at hK
      split
      · rename_i hc
        rw [if_pos hc] at hK
        repeat (first | ((with_reducible apply newB_o); (with_reducible assumption); intro _ _ _) | ((with_reducible apply gap_o); (with_reducible assumption); intro _ _) | ((with_reducible apply st0); (with_reducible assumption); rfl; intro _ _) | ((with_reducible apply st1); (with_reducible assumption); rfl; intro _ _) | ((with_reducible apply st2); (with_reducible assumption); rfl; intro _ _) | ((with_reducible apply ldI0); (with_reducible assumption); rfl) | ((with_reducible apply ldI1); (with_reducible assumption); rfl) | ((with_reducible apply ldI2); (with_reducible assumption); rfl) | ((with_reducible apply ldB0); (with_reducible assumption); rfl) | ((with_reducible apply ldB1); (with_reducible assumption); rfl) | ((with_reducible apply ldS0); (with_reducible assumption); rfl) | ((with_reducible apply ldS1); (with_reducible assumption); rfl) | (with_reducible refine and_i (Own.tab (by with_reducible assumption) (by with_reducible assumption)) ?_) | (with_reducible apply nz_i))
        exact hK _ (Own.ext (by assumption))
      rename_i h3
      rw [if_neg h3] at hK
      have e : lSI (s.extract 2 3) = lS (s.extract 2 3) 22 16777217 := by unfold lSI; rfl
      rw [e] at hK
      refine ⟨22 + 1, lS_loop (by omega) 22 16777217 _ (by assumption) (by omega) (by omega) (by omega) (fun k h2 hk ho2 => ?_) (fun h2 hk ho2 => ?_)⟩
      · rw [hk] at hK
        repeat (first | ((with_reducible apply newB_o); (with_reducible assumption); intro _ _ _) | ((with_reducible apply gap_o); (with_reducible assumption); intro _ _) | ((with_reducible apply st0); (with_reducible assumption); rfl; intro _ _) | ((with_reducible apply st1); (with_reducible assumption); rfl; intro _ _) | ((with_reducible apply st2); (with_reducible assumption); rfl; intro _ _) | ((with_reducible apply ldI0); (with_reducible assumption); rfl) | ((with_reducible apply ldI1); (with_reducible assumption); rfl) | ((with_reducible apply ldI2); (with_reducible assumption); rfl) | ((with_reducible apply ldB0); (with_reducible assumption); rfl) | ((with_reducible apply ldB1); (with_reducible assumption); rfl) | ((with_reducible apply ldS0); (with_reducible assumption); rfl) | ((with_reducible apply ldS1); (with_reducible assumption); rfl) | (with_reducible refine and_i (Own.tab (by with_reducible assumption) (by with_reducible assumption)) ?_) | (with_reducible apply nz_i))
        exact hK _ ho2.ext
      · rw [hk] at hK
        repeat (first | ((with_reducible apply newB_o); (with_reducible assumption); intro _ _ _) | ((with_reducible apply gap_o); (with_reducible assumption); intro _ _) | ((with_reducible apply st0); (with_reducible assumption); rfl; intro _ _) | ((with_reducible apply st1); (with_reducible assumption); rfl; intro _ _) | ((with_reducible apply st2); (with_reducible assumption); rfl; intro _ _) | ((with_reducible apply ldI0); (with_reducible assumption); rfl) | ((with_reducible apply ldI1); (with_reducible assumption); rfl) | ((with_reducible apply ldI2); (with_reducible assumption); rfl) | ((with_reducible apply ldB0); (with_reducible assumption); rfl) | ((with_reducible apply ldB1); (with_reducible assumption); rfl) | ((with_reducible apply ldS0); (with_reducible assumption); rfl) | ((with_reducible apply ldS1); (with_reducible assumption); rfl) | (with_reducible refine and_i (Own.tab (by with_reducible assumption) (by with_reducible assumption)) ?_) | (with_reducible apply nz_i))
        exact hK _ (Own.ext (by assumption))
    · rename_i hc
      rw [if_neg hc] at hK
      refine metaR_sp (by omega) (by omega) fun h2 he => ?_
      have ho2 := Own.gap (by assumption) he
      have e : metaI s = metaR s := by unfold metaI; rfl
      rw [e] at hK
      repeat (first | ((with_reducible apply newB_o); (with_reducible assumption); intro _ _ _) | ((with_reducible apply gap_o); (with_reducible assumption); intro _ _) | ((with_reducible apply st0); (with_reducible assumption); rfl; intro _ _) | ((with_reducible apply st1); (with_reducible assumption); rfl; intro _ _) | ((with_reducible apply st2); (with_reducible assumption); rfl; intro _ _) | ((with_reducible apply ldI0); (with_reducible assumption); rfl) | ((with_reducible apply ldI1); (with_reducible assumption); rfl) | ((with_reducible apply ldI2); (with_reducible assumption); rfl) | ((with_reducible apply ldB0); (with_reducible assumption); rfl) | ((with_reducible apply ldB1); (with_reducible assumption); rfl) | ((with_reducible apply ldS0); (with_reducible assumption); rfl) | ((with_reducible apply ldS1); (with_reducible assumption); rfl) | (with_reducible refine and_i (Own.tab (by with_reducible assumption) (by with_reducible assumption)) ?_) | (with_reducible apply nz_i))
      exact hK _ (Own.ext (by assumption))
  · rename_i hc
    rw [if_neg hc] at hK
    refine plainRI_sp hp (by omega) fun h2 he => ?_
    have ho2 := Own.gap (by assumption) he
    repeat (first | ((with_reducible apply newB_o); (with_reducible assumption); intro _ _ _) | ((with_reducible apply gap_o); (with_reducible assumption); intro _ _) | ((with_reducible apply st0); (with_reducible assumption); rfl; intro _ _) | ((with_reducible apply st1); (with_reducible assumption); rfl; intro _ _) | ((with_reducible apply st2); (with_reducible assumption); rfl; intro _ _) | ((with_reducible apply ldI0); (with_reducible assumption); rfl) | ((with_reducible apply ldI1); (with_reducible assumption); rfl) | ((with_reducible apply ldI2); (with_reducible assumption); rfl) | ((with_reducible apply ldB0); (with_reducible assumption); rfl) | ((with_reducible apply ldB1); (with_reducible assumption); rfl) | ((with_reducible apply ldS0); (with_reducible assumption); rfl) | ((with_reducible apply ldS1); (with_reducible assumption); rfl) | (with_reducible refine and_i (Own.tab (by with_reducible assumption) (by with_reducible assumption)) ?_) | (with_reducible apply nz_i))
    exact hK _ (Own.ext (by assumption))
end Go.Proofs.YtkbpnmgkdodcmaaDoor.M
