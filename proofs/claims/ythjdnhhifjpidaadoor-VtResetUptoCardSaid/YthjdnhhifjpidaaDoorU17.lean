import Derived.Test.YthjdnhhifjpidaaDoorU16
set_option linter.unusedVariables false
set_option linter.unusedSimpArgs false
set_option maxRecDepth 100000
namespace Go.Proofs.YthjdnhhifjpidaaDoor.M
open Go Go.Hp

/-! ### The same, where a block stands besides -/
theorem RepX.gap {h0 : Base} {h h1 : Heap} {s : Nat} {S : Scr} {X : Blks} (hs : RepX h0 h s S X) (he : Ext h h1) : RepX h0 h1 s S X := by
  obtain ⟨A, oM, oO, oP, oT, oG, oK, oL, ho, hp⟩ := hs
  exact ⟨A, oM, oO, oP, oT, oG, oK, oL, ho.gap he, hp⟩
theorem to_spX {h0 : Base} {h : Heap} {s : Nat} {S : Scr} {X : Blks} {x y : Int} {K : Heap → Prop} (hs : RepX h0 h s S X) (hk : ∀ h1, RepX h0 h1 s (toV S x y) X → K h1) : vt_Screen_to (some ⟨s, 0, none⟩) x y K h := by
  obtain ⟨A, oM, oO, oP, oT, oG, oK, oL, ho, hp⟩ := hs
  unfold vt_Screen_to
  refine nz_i ?_
  simp only [add0, Nat.zero_add]
  repeat (first | ((with_reducible apply newB_o); (with_reducible assumption); intro _ _ _) | ((with_reducible apply st0); (with_reducible assumption); rfl; intro _ _) | ((with_reducible apply ldI0); (with_reducible assumption); rfl) | ((with_reducible apply ldB0); (with_reducible assumption); rfl) | ((with_reducible apply ldS0); (with_reducible assumption); rfl) | (with_reducible apply nz_i))
  exact hk _ ⟨A, oM, oO, oP, oT, oG, oK, oL, by assumption, hp.1, hp.2, hp.3, hp.4, hp.5, hp.6, hp.7⟩
theorem home_spX {h0 : Base} {h : Heap} {s : Nat} {S : Scr} {X : Blks} {x y : Int} {K : Heap → Prop} (hs : RepX h0 h s S X) (hk : ∀ h1, RepX h0 h1 s (homeV S y x) X → K h1) : vt_Screen_home (some ⟨s, 0, none⟩) y x K h := by
  have hs0 := hs
  obtain ⟨A, oM, oO, oP, oT, oG, oK, oL, ho, hp⟩ := hs
  unfold vt_Screen_home
  unfold homeV at hk
  refine nz_i ?_
  simp only [add0, Nat.zero_add]
  repeat (first | ((with_reducible apply newB_o); (with_reducible assumption); intro _ _ _) | ((with_reducible apply st0); (with_reducible assumption); rfl; intro _ _) | ((with_reducible apply ldI0); (with_reducible assumption); rfl) | ((with_reducible apply ldB0); (with_reducible assumption); rfl) | ((with_reducible apply ldS0); (with_reducible assumption); rfl) | (with_reducible apply nz_i))
  by_cases hc : S.pl.origin = true
  · rw [if_pos hc] at hk ⊢
    repeat (first | ((with_reducible apply newB_o); (with_reducible assumption); intro _ _ _) | ((with_reducible apply st0); (with_reducible assumption); rfl; intro _ _) | ((with_reducible apply ldI0); (with_reducible assumption); rfl) | ((with_reducible apply ldB0); (with_reducible assumption); rfl) | ((with_reducible apply ldS0); (with_reducible assumption); rfl) | (with_reducible apply nz_i))
    exact to_spX hs0 hk
  · rw [if_neg hc] at hk ⊢
    exact to_spX hs0 hk
theorem unwait_stX {h0 : Base} {h : Heap} {s : Nat} {S : Scr} {X : Blks} {K : Heap → Prop} (hs : RepX h0 h s S X) (hk : ∀ h1, RepX h0 h1 s (unwait S) X → K h1) : stN ⟨s, 18, none⟩ [.bool false] 0 h K := by
  obtain ⟨A, oM, oO, oP, oT, oG, oK, oL, ho, hp⟩ := hs
  repeat (first | ((with_reducible apply newB_o); (with_reducible assumption); intro _ _ _) | ((with_reducible apply st0); (with_reducible assumption); rfl; intro _ _) | ((with_reducible apply ldI0); (with_reducible assumption); rfl) | ((with_reducible apply ldB0); (with_reducible assumption); rfl) | ((with_reducible apply ldS0); (with_reducible assumption); rfl) | (with_reducible apply nz_i))
  exact hk _ ⟨A, oM, oO, oP, oT, oG, oK, oL, by assumption, hp.1, hp.2, hp.3, hp.4, hp.5, hp.6, hp.7⟩
theorem keepCursor_spX {h0 : Base} {h : Heap} {s : Nat} {S : Scr} {X : Blks} {K : Heap → Prop} (hs : RepX h0 h s S X) (hk : ∀ h1, RepX h0 h1 s (keepCursorV S) X → K h1) : vt_Screen_keepCursor (some ⟨s, 0, none⟩) K h := by
  obtain ⟨A, oM, oO, oP, oT, oG, oK, oL, ho, hp⟩ := hs
  unfold vt_Screen_keepCursor
  refine nz_i ?_
  simp only [add0, Nat.zero_add]
  repeat (first | ((with_reducible apply newB_o); (with_reducible assumption); intro _ _ _) | ((with_reducible apply st0); (with_reducible assumption); rfl; intro _ _) | ((with_reducible apply ldI0); (with_reducible assumption); rfl) | ((with_reducible apply ldB0); (with_reducible assumption); rfl) | ((with_reducible apply ldS0); (with_reducible assumption); rfl) | (with_reducible apply nz_i))
  rename_i b h1 ho1 h2 ho2
  have ho2 : Own h0 h2 ((b, plC S.pl, 63) :: (s, scrC S A, 69) :: (oM ++ (oO ++ (oP ++ (oT ++ (oG ++ (oK ++ (oL ++ X)))))))) := own_cs ho2 (by kernel_rfl)
  have ho3 := ho2.perm (List.Perm.swap _ _ _)
  refine shown_o ho3 rfl (fun ha => nz_i ?_) (fun ha => nz_i ?_)
  · simp only [add0, Nat.zero_add]
    refine st0 ho3 rfl fun h4 ho4 => ?_
    have ho5 : Own h0 h4 (oL ++ ((s, scrC { S with okept := some S.pl } { A with oq := some ⟨b, 0, none⟩ }, 69) :: (oM ++ (oO ++ (oP ++ (oT ++ (oG ++ (oK ++ ([(b, plC S.pl, 63)] ++ X))))))))) := Own.perm (l := (s, scrC { S with okept := some S.pl } { A with oq := some ⟨b, 0, none⟩ }, 69) :: (b, plC S.pl, 63) :: (oM ++ (oO ++ (oP ++ (oT ++ (oG ++ (oK ++ (oL ++ X)))))))) (own_cs ho4 (by kernel_rfl)) (by (classical exact List.perm_iff_count.2 (fun x => by simp only [List.count_append, List.count_cons, List.count_nil]; omega)))
    refine hk h4 ?_
    unfold keepCursorV Scr.setKept
    rw [if_pos ha]
    exact ⟨{ A with oq := some ⟨b, 0, none⟩ }, oM, oO, oP, oT, oG, oK, _, ho5.sub (List.sublist_append_right _ _), hp.1, hp.2, hp.3, hp.4, hp.5, hp.6, ⟨b, rfl, rfl⟩⟩
  · simp only [add0, Nat.zero_add]
    refine st0 ho3 rfl fun h4 ho4 => ?_
    have ho5 : Own h0 h4 (oK ++ ((s, scrC { S with mkept := some S.pl } { A with mq := some ⟨b, 0, none⟩ }, 69) :: (oM ++ (oO ++ (oP ++ (oT ++ (oG ++ ([(b, plC S.pl, 63)] ++ (oL ++ X))))))))) := Own.perm (l := (s, scrC { S with mkept := some S.pl } { A with mq := some ⟨b, 0, none⟩ }, 69) :: (b, plC S.pl, 63) :: (oM ++ (oO ++ (oP ++ (oT ++ (oG ++ (oK ++ (oL ++ X)))))))) (own_cs ho4 (by kernel_rfl)) (by (classical exact List.perm_iff_count.2 (fun x => by simp only [List.count_append, List.count_cons, List.count_nil]; omega)))
    refine hk h4 ?_
    unfold keepCursorV Scr.setKept
    rw [if_neg (by rw [ha]; decide)]
    exact ⟨{ A with mq := some ⟨b, 0, none⟩ }, oM, oO, oP, oT, oG, _, oL, ho5.sub (List.sublist_append_right _ _), hp.1, hp.2, hp.3, hp.4, hp.5, ⟨b, rfl, rfl⟩, hp.7⟩
theorem backCursor_spX {h0 : Base} {h : Heap} {s : Nat} {S : Scr} {X : Blks} {K : Heap → Prop} (hs : RepX h0 h s S X) (hk : ∀ h1, RepX h0 h1 s (backCursorV S) X → K h1) : vt_Screen_backCursor (some ⟨s, 0, none⟩) K h := by
  obtain ⟨A, oM, oO, oP, oT, oG, oK, oL, ho, hp⟩ := hs
  unfold vt_Screen_backCursor
  unfold backCursorV Scr.kept at hk
  refine shown_o ho rfl (fun ha => nz_i ?_) (fun ha => nz_i ?_)
  · rw [if_pos ha] at hk
    simp only [add0, Nat.zero_add]
    refine ldP0 ho rfl ?_
    have ho1 : Own h0 h ((s, scrC S A, 69) :: (oL ++ (oM ++ (oO ++ (oP ++ (oT ++ (oG ++ (oK ++ X)))))))) := ho.perm (by (classical exact List.perm_iff_count.2 (fun x => by simp only [List.count_append, List.count_cons, List.count_nil]; omega)))
    have := backCursor_k (K := K) (cs := scrC S A) ho1 hp.okept fun h1 ho2 => hk h1 ⟨A, oM, oO, oP, oT, oG, oK, oL, ho2.perm (by (classical exact List.perm_iff_count.2 (fun x => by simp only [List.count_append, List.count_cons, List.count_nil]; omega))), hp.1, hp.2, hp.3, hp.4, hp.5, hp.6, hp.7⟩
    exact this
  · rw [if_neg (by rw [ha]; decide)] at hk
    simp only [add0, Nat.zero_add]
    refine ldP0 ho rfl ?_
    have ho1 : Own h0 h ((s, scrC S A, 69) :: (oK ++ (oM ++ (oO ++ (oP ++ (oT ++ (oG ++ (oL ++ X)))))))) := ho.perm (by (classical exact List.perm_iff_count.2 (fun x => by simp only [List.count_append, List.count_cons, List.count_nil]; omega)))
    have := backCursor_k (K := K) (cs := scrC S A) ho1 hp.mkept fun h1 ho2 => hk h1 ⟨A, oM, oO, oP, oT, oG, oK, oL, ho2.perm (by (classical exact List.perm_iff_count.2 (fun x => by simp only [List.count_append, List.count_cons, List.count_nil]; omega))), hp.1, hp.2, hp.3, hp.4, hp.5, hp.6, hp.7⟩
    exact this

theorem swap_spX {h0 : Base} {h : Heap} {s : Nat} {S : Scr} {X : Blks} {on : Bool} {K : Heap → Prop} (hs : RepX h0 h s S X) (o : Ok S) (hk : ∀ h1, RepX h0 h1 s (swapV S on) X → K h1) : vt_Screen_swap (some ⟨s, 0, none⟩) on K h := by
  have hh0 := o.d.h0
  have hh1 := o.d.h1
  have hw0 := o.d.w0
  have hw1 := o.d.w1
  have hs0 := hs
  obtain ⟨A, oM, oO, oP, oT, oG, oK, oL, ho, hp⟩ := hs
  unfold vt_Screen_swap
  unfold swapV at hk
  refine nz_i ?_
  simp only [add0, Nat.zero_add]
  refine ldB0 ho rfl ?_
  by_cases he : on = S.alt
  · rw [if_pos he] at hk
    rw [if_pos (by simp [he])]
    exact hk _ hs0
  rw [if_neg he] at hk
  rw [if_neg (by simpa using he)]
  refine st0 ho rfl fun h1 ho1 => st0 ho1 rfl fun h2 ho2 => ?_
  have ho3 : Own h0 h2 ((oO ++ oL) ++ ((s, scrC { S with alt := on, other := [], okept := none } { A with o := none, on := 0, oc := 0, oq := none }, 69) :: (oM ++ (oP ++ (oT ++ (oG ++ (oK ++ X))))))) := Own.perm (l := (s, scrC { S with alt := on, other := [], okept := none } { A with o := none, on := 0, oc := 0, oq := none }, 69) :: (oM ++ (oO ++ (oP ++ (oT ++ (oG ++ (oK ++ (oL ++ X)))))))) (own_cs ho2 (by kernel_rfl)) (by (classical exact List.perm_iff_count.2 (fun x => by simp only [List.count_append, List.count_cons, List.count_nil]; omega)))
  have ho4 := ho3.sub (List.sublist_append_right _ _)
  by_cases hon : on = true
  · rw [if_pos hon] at hk ⊢
    refine ldI0 ho4 rfl ?_
    refine ldI0 ho4 rfl ?_
    refine erased_o ho4 rfl fun h5 he5 => ?_
    have ho5 := ho4.gap he5
    refine ⟨⟨ho5.get0.cell 1 rfl, ho5.get0.cell 0 rfl⟩, sheet_sp (w := S.w) (hh := S.h) ho5 (by omega) (by omega) (by omega) (by omega) fun a n c oS h6 ho6 hR => ?_⟩
    have ho7 := ho6.perm (List.perm_append_comm)
    refine st0 ho7 rfl fun h8 ho8 => ?_
    have hr : RepX h0 h8 s { S with alt := on, other := sheetV S.w S.h 0 S.pl.back 0, okept := none } X := by
      refine ⟨{ A with o := a, on := n, oc := c, oq := none }, oM, oS, oP, oT, oG, oK, [], Own.perm (l := (s, scrC { S with alt := on, other := sheetV S.w S.h 0 S.pl.back 0, okept := none } { A with o := a, on := n, oc := c, oq := none }, 69) :: ((oM ++ (oP ++ (oT ++ (oG ++ (oK ++ X))))) ++ oS)) (own_cs ho8 (by kernel_rfl)) (by (classical exact List.perm_iff_count.2 (fun x => by simp only [List.count_append, List.count_cons, List.count_nil]; omega))), hp.1, hR, hp.3, hp.4, hp.5, hp.6, ⟨rfl, rfl⟩⟩
    rw [hon] at hr
    exact unwait_stX hr hk
  · rw [if_neg hon] at hk ⊢
    have hr : RepX h0 h2 s { S with alt := on, other := [], okept := none } X :=
      ⟨{ A with o := none, on := 0, oc := 0, oq := none }, oM, [], oP, oT, oG, oK, [], Own.perm (l := (s, scrC { S with alt := on, other := [], okept := none } { A with o := none, on := 0, oc := 0, oq := none }, 69) :: (oM ++ (oP ++ (oT ++ (oG ++ (oK ++ X)))))) (own_cs ho4 (by kernel_rfl)) (by (classical exact List.perm_iff_count.2 (fun x => by simp only [List.count_append, List.count_cons, List.count_nil]; omega))), hp.1, ⟨[], [], [], rfl, SlO.nil, RowsB.nil⟩, hp.3, hp.4, hp.5, hp.6, ⟨rfl, rfl⟩⟩
    have : on = false := by simpa using hon
    rw [this] at hr
    exact unwait_stX hr hk
end Go.Proofs.YthjdnhhifjpidaaDoor.M
