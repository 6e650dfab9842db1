import Derived.Test.YthjdnhhifjpidaaDoorV3
set_option linter.unusedVariables false
set_option linter.unusedSimpArgs false
set_option maxRecDepth 100000
namespace Go.Proofs.YthjdnhhifjpidaaDoor.M
open Go Go.Hp

theorem bf_len (b : Int) : (bf b).length = 1 := rfl
abbrev inf (b : Int) : List Value := [.int .i64 b]
theorem inf_len (b : Int) : (inf b).length = 1 := rfl
theorem broken_sp {h0 h : Heap} {s : Nat} {S : Sc} {K : Heap → Prop} (hs : St h0 h s S) (hk : K h) : vt_Screen_broken (some ⟨s, 0, none⟩) K h := by
  obtain ⟨rs, rc, ta, ga, gc, r0, r1, oR, oG, ho, q1, q2⟩ := hs
  unfold vt_Screen_broken
  refine nz_i ?_
  simp only [add0, Nat.zero_add]
  repeat (first | ((with_reducible apply newB_o); (with_reducible assumption); intro _ _ _) | ((with_reducible apply gap_o); (with_reducible assumption); intro _ _) | ((with_reducible apply st0); (with_reducible assumption); rfl; intro _ _) | ((with_reducible apply st1); (with_reducible assumption); rfl; intro _ _) | ((with_reducible apply st2); (with_reducible assumption); rfl; intro _ _) | ((with_reducible apply ldI0); (with_reducible assumption); rfl) | ((with_reducible apply ldI1); (with_reducible assumption); rfl) | ((with_reducible apply ldI2); (with_reducible assumption); rfl) | ((with_reducible apply ldB0); (with_reducible assumption); rfl) | ((with_reducible apply ldB1); (with_reducible assumption); rfl) | ((with_reducible apply ldS0); (with_reducible assumption); rfl) | ((with_reducible apply ldS1); (with_reducible assumption); rfl) | (with_reducible refine and_i (Own.tab (by with_reducible assumption) (by with_reducible assumption)) ?_) | (with_reducible apply nz_i))
  rw [if_neg (by decide)]
  exact hk
theorem gather_sp {h0 h : Heap} {s : Nat} {S : Sc} {b : Int} {K : Heap → Prop} (hs : St h0 h s S) (hl : S.gs.length < 200) (hk : ∀ h1, St h0 h1 s { S with gs := S.gs ++ [b] } → K h1) : vt_Screen_gather (some ⟨s, 0, none⟩) b K h := by
  obtain ⟨x, y, fore, st, gs, last, a0, a1, a2, b0, b1, b2⟩ := S
  obtain ⟨rs, rc, ta, ga, gc, r0, r1, oR, oG, ho, q1, q2⟩ := hs
  simp only at ho q1 q2 hl hk
  unfold vt_Screen_gather
  refine nz_i ?_
  simp only [add0, Nat.zero_add]
  refine ldL0 (by assumption) rfl ?_
  rw [if_neg (by omega)]
  refine ldL0 (by assumption) rfl ?_
  refine gap_o ho fun h1 ho1 => ?_
  refine SlO.app (f := bf) (sz := 1) (js := [b]) (pre := (s, _, 69) :: (r0, _, 43) :: (r1, _, 43) :: oR) (l := []) bf_len rfl q2 (by simpa using ho1) (by simp only [List.length_singleton]; omega) (by simp only [List.length_singleton]; omega) fun a' c' o' h' ho2 hs2 => ?_
  have ho2 : Own h0 h' ((s, scr rs rc ta x y fore st ga gs.length gc last, 69) :: (r0, rowC a0 a1 a2, 43) :: (r1, rowC b0 b1 b2, 43) :: (oR ++ (o' ++ []))) := by simpa using ho2
  repeat (first | ((with_reducible apply newB_o); (with_reducible assumption); intro _ _ _) | ((with_reducible apply gap_o); (with_reducible assumption); intro _ _) | ((with_reducible apply st0); (with_reducible assumption); rfl; intro _ _) | ((with_reducible apply st1); (with_reducible assumption); rfl; intro _ _) | ((with_reducible apply st2); (with_reducible assumption); rfl; intro _ _) | ((with_reducible apply ldI0); (with_reducible assumption); rfl) | ((with_reducible apply ldI1); (with_reducible assumption); rfl) | ((with_reducible apply ldI2); (with_reducible assumption); rfl) | ((with_reducible apply ldB0); (with_reducible assumption); rfl) | ((with_reducible apply ldB1); (with_reducible assumption); rfl) | ((with_reducible apply ldS0); (with_reducible assumption); rfl) | ((with_reducible apply ldS1); (with_reducible assumption); rfl) | (with_reducible refine and_i (Own.tab (by with_reducible assumption) (by with_reducible assumption)) ?_) | (with_reducible apply nz_i))
  have el : (gs ++ [b]).length = gs.length + 1 := by simp
  refine hk _ ⟨rs, rc, ta, a', c', r0, r1, oR, o', ?_, q1, ?_⟩
  · simp only [el]
    assumption
  · simp only [el]
    exact hs2
theorem at_sp {h : Heap} {p : Addr} {n c : Nat} {z i w : Int} {K : Int → Heap → Prop} (hn : n = 1) (hc : cellH h p = some (.int .i64 z)) (hz : 0 ≤ z) (hi : i = 0) (hk : K z h) : vt_at (some p) n c i w K h := by
  subst hn hi
  unfold vt_at
  rw [if_pos (by decide)]
  refine nz_i ⟨by decide, by decide, ⟨z, hc, ?_⟩⟩
  simp only []
  rw [if_pos hz]
  exact ⟨by decide, by decide, ⟨z, hc, hk⟩⟩
theorem pens_sp {h0 h : Heap} {s : Nat} {S : Sc} {p : Addr} {c : Nat} {K : Heap → Prop} (hs : St h0 h s S) (hc : cellH h p = some (.int .i64 31)) (hk : ∀ h1, St h0 h1 s { S with fore := 2 } → K h1) : vt_Screen_pens (some ⟨s, 0, none⟩) (some p) 1 c K h := by
  unfold vt_Screen_pens vt_Screen_pens_j0
  rw [if_neg (by decide)]
  refine newB_o (Own.init h) fun b9 h10 ho10 => ?_
  refine st0 ho10 rfl fun h12 ho12 => ⟨2, ?_⟩
  have hs2 := hs.gap ho12.ext
  have hc2 : cellH h12 p = some (.int .i64 31) := ho12.ext.cell hc
  obtain ⟨x, y, fore, st, gs, last, a0, a1, a2, b0, b1, b2⟩ := S
  obtain ⟨rs, rc, ta, ga, gc, r0, r1, oR, oG, ho, q1, q2⟩ := hs2
  simp only at ho q1 q2 hk
  unfold vt_Screen_pens_l1
  rw [if_pos (by decide)]
  refine nz_i ⟨by decide, by decide, ⟨31, hc2, ?_⟩⟩
  simp only []
  rw [show imax 0 31 = 31 from by decide]
  rw [if_neg (by decide), if_neg (by decide), if_neg (by decide), if_neg (by decide), if_neg (by decide), if_pos (by decide)]
  refine nz_i ?_
  simp only [add0, Nat.zero_add]
  repeat (first | ((with_reducible apply newB_o); (with_reducible assumption); intro _ _ _) | ((with_reducible apply gap_o); (with_reducible assumption); intro _ _) | ((with_reducible apply st0); (with_reducible assumption); rfl; intro _ _) | ((with_reducible apply st1); (with_reducible assumption); rfl; intro _ _) | ((with_reducible apply st2); (with_reducible assumption); rfl; intro _ _) | ((with_reducible apply ldI0); (with_reducible assumption); rfl) | ((with_reducible apply ldI1); (with_reducible assumption); rfl) | ((with_reducible apply ldI2); (with_reducible assumption); rfl) | ((with_reducible apply ldB0); (with_reducible assumption); rfl) | ((with_reducible apply ldB1); (with_reducible assumption); rfl) | ((with_reducible apply ldS0); (with_reducible assumption); rfl) | ((with_reducible apply ldS1); (with_reducible assumption); rfl) | (with_reducible refine and_i (Own.tab (by with_reducible assumption) (by with_reducible assumption)) ?_) | (with_reducible apply nz_i))
  unfold vt_Screen_pens_l1
  rw [if_neg (by decide)]
  exact hk _ ⟨rs, rc, ta, ga, gc, r0, r1, oR, oG, by assumption, q1, q2⟩
theorem plain_sp {h0 h : Heap} {s : Nat} {S : Sc} {p : Addr} {c : Nat} {K : Heap → Prop} (hs : St h0 h s S) (hc : cellH h p = some (.int .i64 31)) (hk : ∀ h1, St h0 h1 s { S with fore := 2 } → K h1) : vt_Screen_plain (some ⟨s, 0, none⟩) 109 (some p) 1 c K h := by
  unfold vt_Screen_plain
  refine at_sp rfl hc (by decide) rfl ?_
  rw [if_neg (by decide), if_neg (by decide)]
  unfold vt_Screen_plain_j0
  rw [if_neg (by decide), if_neg (by decide)]
  unfold vt_Screen_plain_j1
  rw [if_neg (by decide), if_neg (by decide), if_neg (by decide), if_neg (by decide), if_neg (by decide)]
  unfold vt_Screen_plain_j2
  rw [if_neg (by decide), if_neg (by decide)]
  unfold vt_Screen_plain_j3
  rw [if_neg (by decide), if_neg (by decide), if_neg (by decide), if_neg (by decide), if_neg (by decide)]
  unfold vt_Screen_plain_j4
  rw [if_neg (by decide), if_neg (by decide)]
  unfold vt_Screen_plain_j5
  rw [if_neg (by decide), if_neg (by decide), if_neg (by decide)]
  unfold vt_Screen_plain_j6
  rw [if_neg (by decide), if_neg (by decide), if_neg (by decide)]
  unfold vt_Screen_others
  refine at_sp rfl hc (by decide) rfl ?_
  rw [if_neg (by decide), if_neg (by decide), if_neg (by decide)]
  unfold vt_Screen_others_j1
  rw [if_neg (by decide), if_pos (by decide)]
  exact pens_sp hs hc hk
theorem numbers_sp {h0 h : Heap} {s : Nat} {S : Sc} {K : Int → Option Addr → Nat → Nat → ByteArray → Bool → Heap → Prop} (hs : St h0 h s S) (hg : S.gs = [51, 49])
    (hk : ∀ p c h1, St h0 h1 s S → cellH h1 p = some (.int .i64 31) → K 0 (some p) 1 c ⟨#[]⟩ true h1) : vt_Screen_numbers (some ⟨s, 0, none⟩) K h := by
  have hs0 := hs
  obtain ⟨x, y, fore, st, gs, last, a0, a1, a2, b0, b1, b2⟩ := S
  simp only at hg
  subst hg
  obtain ⟨rs, rc, ta, ga, gc, r0, r1, oR, oG, ho, q1, q2⟩ := hs
  simp only at ho q1 q2 hk hs0
  unfold vt_Screen_numbers
  refine nz_i ?_
  simp only [add0, Nat.zero_add]
  refine ldL0 (by assumption) rfl ?_
  have g := SlO.get bf_len q2 (pre := (s, _, 69) :: (r0, _, 43) :: (r1, _, 43) :: oR) (l := []) (by simpa using ho)
  obtain ⟨p, hp, c0⟩ := g 0 0 (by decide)
  obtain ⟨p', hp', c1⟩ := g 1 0 (by decide)
  obtain rfl : p = p' := Option.some.inj (hp.symm.trans hp')
  have c0 := c0 0 _ rfl
  have c1 := c1 0 _ rfl
  rw [addz] at c0 c1
  subst hp
  rw [if_pos (by decide)]
  refine nz_i ⟨by decide, by decide, ⟨51, c0, ?_⟩⟩
  simp only []
  rw [if_neg (by decide)]
  unfold vt_Screen_numbers_j0
  refine ⟨3, ?_⟩
  unfold vt_Screen_numbers_l1
  rw [if_pos (by decide)]
  refine nz_i ⟨by decide, by decide, ⟨51, c0, ?_⟩⟩
  simp only []
  rw [if_pos (by decide)]
  refine ⟨by decide, by decide, ⟨51, c0, ?_⟩⟩
  simp only []
  rw [if_pos (by decide), show IntKind.wrap .i64 ((0 : Int) + 1) = 1 from by decide]
  unfold vt_Screen_numbers_l1
  rw [if_pos (by decide)]
  refine nz_i ⟨by decide, by decide, ⟨49, c1, ?_⟩⟩
  simp only []
  rw [if_pos (by decide)]
  refine ⟨by decide, by decide, ⟨49, c1, ?_⟩⟩
  simp only []
  rw [if_pos (by decide), show IntKind.wrap .i64 ((1 : Int) + 1) = 2 from by decide]
  unfold vt_Screen_numbers_l1
  rw [if_neg (by decide)]
  refine ⟨by decide, by decide, ⟨⟨#[]⟩, ⟨[], rfl, ?_, rfl⟩, ?_⟩⟩
  · unfold srcAt
    split
    · rfl
    · trivial
  refine ⟨1, ?_⟩
  unfold vt_Screen_numbers_l2
  rw [if_neg (by decide)]
  refine ⟨3, ?_⟩
  unfold vt_Screen_numbers_l3
  rw [if_pos (by decide)]
  refine nz_i ⟨by decide, by decide, ⟨51, c0, ?_⟩⟩
  simp only []
  rw [if_neg (by decide)]
  refine ⟨by decide, by decide, ⟨51, c0, ?_⟩⟩
  simp only []
  rw [if_neg (by decide)]
  refine ⟨by decide, by decide, ⟨51, c0, ?_⟩⟩
  simp only []
  rw [show IntKind.wrap .i64 ((0 : Int) + 1) = 1 from by decide, show imin 9999 (IntKind.wrap .i64 ((IntKind.wrap .i64 ((imax (-1) 0) * 10)) + (IntKind.wrap .i64 (IntKind.wrap .u8 (51 - 48))))) = 3 from by decide]
  unfold vt_Screen_numbers_l3
  rw [if_pos (by decide)]
  refine nz_i ⟨by decide, by decide, ⟨49, c1, ?_⟩⟩
  simp only []
  rw [if_neg (by decide)]
  refine ⟨by decide, by decide, ⟨49, c1, ?_⟩⟩
  simp only []
  rw [if_neg (by decide)]
  refine ⟨by decide, by decide, ⟨49, c1, ?_⟩⟩
  simp only []
  rw [show IntKind.wrap .i64 ((1 : Int) + 1) = 2 from by decide, show imin 9999 (IntKind.wrap .i64 ((IntKind.wrap .i64 ((imax 3 0) * 10)) + (IntKind.wrap .i64 (IntKind.wrap .u8 (49 - 48))))) = 31 from by decide]
  unfold vt_Screen_numbers_l3
  rw [if_neg (by decide), if_pos (by decide)]
  refine gap_o (Own.init h) fun h1 ho1 => ?_
  refine SlO.app (f := inf) (sz := 1) (js := [31]) (pre := []) (l := []) inf_len rfl SlO.nil ho1 (by decide) (by decide) fun a' c' o' h' ho2 hs2 => ?_
  unfold vt_Screen_numbers_j4
  obtain ⟨q, hq, cq⟩ := SlO.get inf_len hs2 ho2 0 0 (by decide)
  have cq := cq 0 _ rfl
  rw [addz] at cq
  subst hq
  exact hk q c' h' (hs0.gap ho2.ext) cq
theorem controlled_sp {h0 h : Heap} {s : Nat} {S : Sc} {K : Heap → Prop} (hs : St h0 h s S) (hg : S.gs = [51, 49]) (hk : ∀ h1, St h0 h1 s { S with fore := 2 } → K h1) : vt_Screen_controlled (some ⟨s, 0, none⟩) 109 K h := by
  unfold vt_Screen_controlled
  refine numbers_sp hs hg fun p c h1 hs1 hc => ?_
  rw [if_neg (by decide), if_neg (by decide +kernel), if_neg (by decide +kernel), if_pos (by decide +kernel)]
  exact plain_sp hs1 hc hk
end Go.Proofs.YthjdnhhifjpidaaDoor.M
