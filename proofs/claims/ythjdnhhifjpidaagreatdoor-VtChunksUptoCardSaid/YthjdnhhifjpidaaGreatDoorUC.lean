import Derived.Test.YthjdnhhifjpidaaGreatDoorUB
import GoSem.PinnedTables
set_option linter.unusedVariables false
set_option linter.unusedSimpArgs false
set_option maxRecDepth 100000
namespace Go.Proofs.YthjdnhhifjpidaaGreatDoor.M
open Go Go.Hp

/-! ### The same, where a block stands besides -/
theorem RepX.gap {h0 : Base} {h h1 : Heap} {s : Nat} {S : Scr} {X : Blks} (hs : RepX h0 h s S X) (he : Ext h h1) : RepX h0 h1 s S X := by
  obtain ⟨A, oM, oO, oP, oT, oG, oK, oL, ho, hp⟩ := hs
  exact ⟨A, oM, oO, oP, oT, oG, oK, oL, ho.gap he, hp⟩
theorem to_spX {h0 : Base} {h : Heap} {s : Nat} {S : Scr} {X : Blks} {x y : Int} {K : Heap → Prop} (hs : RepX h0 h s S X) (hk : ∀ h1, RepX h0 h1 s (toV S x y) X → K h1) : vt_Screen_to (some ⟨s, 0, none⟩) x y K h := by
  obtain ⟨A, oM, oO, oP, oT, oG, oK, oL, ho, hp⟩ := hs
  unfold vt_Screen_to
  refine nz_i ?_
  simp only [add0, Nat.zero_add]
  repeat (first | ((with_reducible apply newB_o); (with_reducible assumption); intro _ _ _) | ((with_reducible apply st0); (with_reducible assumption); rfl; intro _ _) | ((with_reducible apply ldI0); (with_reducible assumption); rfl) | ((with_reducible apply ldB0); (with_reducible assumption); rfl) | ((with_reducible apply ldS0); (with_reducible assumption); rfl) | (with_reducible apply nz_i))
  exact hk _ ⟨A, oM, oO, oP, oT, oG, oK, oL, by assumption, hp.1, hp.2, hp.3, hp.4, hp.5, hp.6, hp.7⟩
theorem home_spX {h0 : Base} {h : Heap} {s : Nat} {S : Scr} {X : Blks} {x y : Int} {K : Heap → Prop} (hs : RepX h0 h s S X) (hk : ∀ h1, RepX h0 h1 s (homeV S y x) X → K h1) : vt_Screen_home (some ⟨s, 0, none⟩) y x K h := by
  have hs0 := hs
  obtain ⟨A, oM, oO, oP, oT, oG, oK, oL, ho, hp⟩ := hs
  unfold vt_Screen_home
  unfold homeV at hk
  refine nz_i ?_
  simp only [add0, Nat.zero_add]
  repeat (first | ((with_reducible apply newB_o); (with_reducible assumption); intro _ _ _) | ((with_reducible apply st0); (with_reducible assumption); rfl; intro _ _) | ((with_reducible apply ldI0); (with_reducible assumption); rfl) | ((with_reducible apply ldB0); (with_reducible assumption); rfl) | ((with_reducible apply ldS0); (with_reducible assumption); rfl) | (with_reducible apply nz_i))
  by_cases hc : S.pl.origin = true
  · rw [if_pos hc] at hk ⊢
    repeat (first | ((with_reducible apply newB_o); (with_reducible assumption); intro _ _ _) | ((with_reducible apply st0); (with_reducible assumption); rfl; intro _ _) | ((with_reducible apply ldI0); (with_reducible assumption); rfl) | ((with_reducible apply ldB0); (with_reducible assumption); rfl) | ((with_reducible apply ldS0); (with_reducible assumption); rfl) | (with_reducible apply nz_i))
    exact to_spX hs0 hk
  · rw [if_neg hc] at hk ⊢
    exact to_spX hs0 hk
theorem unwait_stX {h0 : Base} {h : Heap} {s : Nat} {S : Scr} {X : Blks} {K : Heap → Prop} (hs : RepX h0 h s S X) (hk : ∀ h1, RepX h0 h1 s (unwait S) X → K h1) : stN ⟨s, 18, none⟩ [.bool false] 0 h K := by
  obtain ⟨A, oM, oO, oP, oT, oG, oK, oL, ho, hp⟩ := hs
  repeat (first | ((with_reducible apply newB_o); (with_reducible assumption); intro _ _ _) | ((with_reducible apply st0); (with_reducible assumption); rfl; intro _ _) | ((with_reducible apply ldI0); (with_reducible assumption); rfl) | ((with_reducible apply ldB0); (with_reducible assumption); rfl) | ((with_reducible apply ldS0); (with_reducible assumption); rfl) | (with_reducible apply nz_i))
  exact hk _ ⟨A, oM, oO, oP, oT, oG, oK, oL, by assumption, hp.1, hp.2, hp.3, hp.4, hp.5, hp.6, hp.7⟩
theorem keepCursor_spX {h0 : Base} {h : Heap} {s : Nat} {S : Scr} {X : Blks} {K : Heap → Prop} (hs : RepX h0 h s S X) (hk : ∀ h1, RepX h0 h1 s (keepCursorV S) X → K h1) : vt_Screen_keepCursor (some ⟨s, 0, none⟩) K h := by
  obtain ⟨A, oM, oO, oP, oT, oG, oK, oL, ho, hp⟩ := hs
  unfold vt_Screen_keepCursor
  refine nz_i ?_
  simp only [add0, Nat.zero_add]
  repeat (first | ((with_reducible apply newB_o); (with_reducible assumption); intro _ _ _) | ((with_reducible apply st0); (with_reducible assumption); rfl; intro _ _) | ((with_reducible apply ldI0); (with_reducible assumption); rfl) | ((with_reducible apply ldB0); (with_reducible assumption); rfl) | ((with_reducible apply ldS0); (with_reducible assumption); rfl) | (with_reducible apply nz_i))
  rename_i b h1 ho1 h2 ho2
  have ho2 : Own h0 h2 ((b, plC S.pl, 74) :: (s, scrC S A, 80) :: (oM ++ (oO ++ (oP ++ (oT ++ (oG ++ (oK ++ (oL ++ X)))))))) := own_cs ho2 (by kernel_rfl)
  have ho3 := ho2.perm (List.Perm.swap _ _ _)
  refine shown_o ho3 rfl (fun ha => nz_i ?_) (fun ha => nz_i ?_)
  · simp only [add0, Nat.zero_add]
    refine st0 ho3 rfl fun h4 ho4 => ?_
    have ho5 : Own h0 h4 (oL ++ ((s, scrC { S with okept := some S.pl } { A with oq := some ⟨b, 0, none⟩ }, 80) :: (oM ++ (oO ++ (oP ++ (oT ++ (oG ++ (oK ++ ([(b, plC S.pl, 74)] ++ X))))))))) := Own.perm (l := (s, scrC { S with okept := some S.pl } { A with oq := some ⟨b, 0, none⟩ }, 80) :: (b, plC S.pl, 74) :: (oM ++ (oO ++ (oP ++ (oT ++ (oG ++ (oK ++ (oL ++ X)))))))) (own_cs ho4 (by kernel_rfl)) (by exact pc)
    refine hk h4 ?_
    unfold keepCursorV Scr.setKept
    rw [if_pos ha]
    exact ⟨{ A with oq := some ⟨b, 0, none⟩ }, oM, oO, oP, oT, oG, oK, _, ho5.sub (List.sublist_append_right _ _), hp.1, hp.2, hp.3, hp.4, hp.5, hp.6, ⟨b, rfl, rfl⟩⟩
  · simp only [add0, Nat.zero_add]
    refine st0 ho3 rfl fun h4 ho4 => ?_
    have ho5 : Own h0 h4 (oK ++ ((s, scrC { S with mkept := some S.pl } { A with mq := some ⟨b, 0, none⟩ }, 80) :: (oM ++ (oO ++ (oP ++ (oT ++ (oG ++ ([(b, plC S.pl, 74)] ++ (oL ++ X))))))))) := Own.perm (l := (s, scrC { S with mkept := some S.pl } { A with mq := some ⟨b, 0, none⟩ }, 80) :: (b, plC S.pl, 74) :: (oM ++ (oO ++ (oP ++ (oT ++ (oG ++ (oK ++ (oL ++ X)))))))) (own_cs ho4 (by kernel_rfl)) (by exact pc)
    refine hk h4 ?_
    unfold keepCursorV Scr.setKept
    rw [if_neg (by rw [ha]; decide)]
    exact ⟨{ A with mq := some ⟨b, 0, none⟩ }, oM, oO, oP, oT, oG, _, oL, ho5.sub (List.sublist_append_right _ _), hp.1, hp.2, hp.3, hp.4, hp.5, ⟨b, rfl, rfl⟩, hp.7⟩
theorem backCursor_spX {h0 : Base} {h : Heap} {s : Nat} {S : Scr} {X : Blks} {K : Heap → Prop} (hs : RepX h0 h s S X) (hk : ∀ h1, RepX h0 h1 s (backCursorV S) X → K h1) : vt_Screen_backCursor (some ⟨s, 0, none⟩) K h := by
  obtain ⟨A, oM, oO, oP, oT, oG, oK, oL, ho, hp⟩ := hs
  unfold vt_Screen_backCursor
  unfold backCursorV Scr.kept at hk
  refine shown_o ho rfl (fun ha => nz_i ?_) (fun ha => nz_i ?_)
  · rw [if_pos ha] at hk
    simp only [add0, Nat.zero_add]
    refine ldP0 ho rfl ?_
    have ho1 : Own h0 h ((s, scrC S A, 80) :: (oL ++ (oM ++ (oO ++ (oP ++ (oT ++ (oG ++ (oK ++ X)))))))) := ho.perm (by exact pc)
    have := backCursor_k (K := K) (cs := scrC S A) ho1 hp.okept fun h1 ho2 => hk h1 ⟨A, oM, oO, oP, oT, oG, oK, oL, ho2.perm (by exact pc), hp.1, hp.2, hp.3, hp.4, hp.5, hp.6, hp.7⟩
    exact this
  · rw [if_neg (by rw [ha]; decide)] at hk
    simp only [add0, Nat.zero_add]
    refine ldP0 ho rfl ?_
    have ho1 : Own h0 h ((s, scrC S A, 80) :: (oK ++ (oM ++ (oO ++ (oP ++ (oT ++ (oG ++ (oL ++ X)))))))) := ho.perm (by exact pc)
    have := backCursor_k (K := K) (cs := scrC S A) ho1 hp.mkept fun h1 ho2 => hk h1 ⟨A, oM, oO, oP, oT, oG, oK, oL, ho2.perm (by exact pc), hp.1, hp.2, hp.3, hp.4, hp.5, hp.6, hp.7⟩
    exact this

theorem swap_spX {h0 : Base} {h : Heap} {s : Nat} {S : Scr} {X : Blks} {on : Bool} {K : Heap → Prop} (hs : RepX h0 h s S X) (o : Ok S) (hk : ∀ h1, RepX h0 h1 s (swapV S on) X → K h1) : vt_Screen_swap (some ⟨s, 0, none⟩) on K h := by
  have hh0 := o.d.h0
  have hh1 := o.d.h1
  have hw0 := o.d.w0
  have hw1 := o.d.w1
  have hs0 := hs
  obtain ⟨A, oM, oO, oP, oT, oG, oK, oL, ho, hp⟩ := hs
  unfold vt_Screen_swap
  unfold swapV at hk
  refine nz_i ?_
  simp only [add0, Nat.zero_add]
  refine ldB0 ho rfl ?_
  by_cases he : on = S.alt
  · rw [if_pos he] at hk
    rw [if_pos (by simp [he])]
    exact hk _ hs0
  rw [if_neg he] at hk
  rw [if_neg (by simpa using he)]
  refine st0 ho rfl fun h1 ho1 => st0 ho1 rfl fun h2 ho2 => ?_
  have ho3 : Own h0 h2 ((oO ++ oL) ++ ((s, scrC { S with alt := on, other := [], okept := none } { A with o := none, on := 0, oc := 0, oq := none }, 80) :: (oM ++ (oP ++ (oT ++ (oG ++ (oK ++ X))))))) := Own.perm (l := (s, scrC { S with alt := on, other := [], okept := none } { A with o := none, on := 0, oc := 0, oq := none }, 80) :: (oM ++ (oO ++ (oP ++ (oT ++ (oG ++ (oK ++ (oL ++ X)))))))) (own_cs ho2 (by kernel_rfl)) (by exact pc)
  have ho4 := ho3.sub (List.sublist_append_right _ _)
  by_cases hon : on = true
  · rw [if_pos hon] at hk ⊢
    refine ldI0 ho4 rfl ?_
    refine ldI0 ho4 rfl ?_
    refine erased_o ho4 rfl fun h5 he5 => ?_
    have ho5 := ho4.gap he5
    refine ⟨⟨ho5.get0.cell 1 rfl, ho5.get0.cell 0 rfl⟩, sheet_sp (w := S.w) (hh := S.h) ho5 (by omega) (by omega) (by omega) (by omega) fun a n c oS h6 ho6 hR => ?_⟩
    have ho7 := ho6.perm (List.perm_append_comm)
    refine st0 ho7 rfl fun h8 ho8 => ?_
    have hr : RepX h0 h8 s { S with alt := on, other := sheetV S.w S.h 0 S.pl.back 0, okept := none } X := by
      refine ⟨{ A with o := a, on := n, oc := c, oq := none }, oM, oS, oP, oT, oG, oK, [], Own.perm (l := (s, scrC { S with alt := on, other := sheetV S.w S.h 0 S.pl.back 0, okept := none } { A with o := a, on := n, oc := c, oq := none }, 80) :: ((oM ++ (oP ++ (oT ++ (oG ++ (oK ++ X))))) ++ oS)) (own_cs ho8 (by kernel_rfl)) (by exact pc), hp.1, hR, hp.3, hp.4, hp.5, hp.6, ⟨rfl, rfl⟩⟩
    rw [hon] at hr
    exact unwait_stX hr hk
  · rw [if_neg hon] at hk ⊢
    have hr : RepX h0 h2 s { S with alt := on, other := [], okept := none } X :=
      ⟨{ A with o := none, on := 0, oc := 0, oq := none }, oM, [], oP, oT, oG, oK, [], Own.perm (l := (s, scrC { S with alt := on, other := [], okept := none } { A with o := none, on := 0, oc := 0, oq := none }, 80) :: (oM ++ (oP ++ (oT ++ (oG ++ (oK ++ X)))))) (own_cs ho4 (by kernel_rfl)) (by exact pc), hp.1, ⟨[], [], [], rfl, SlO.nil, RowsB.nil⟩, hp.3, hp.4, hp.5, hp.6, ⟨rfl, rfl⟩⟩
    have : on = false := by simpa using hon
    rw [this] at hr
    exact unwait_stX hr hk
end Go.Proofs.YthjdnhhifjpidaaGreatDoor.M
set_option maxRecDepth 100000
namespace Go.Proofs.YthjdnhhifjpidaaGreatDoor.M
open Go Go.Hp

/-! ### Modes of the mark ? -/
def privateV (S : Scr) (n : Int) (on : Bool) : Scr :=
  if n = 1 then { S with app := on } else if n = 2004 then { S with bracket := on } else
  if n = 6 then homeV (S.setPl { S.pl with origin := on }) 1 1 else
  if n = 7 then (Scr.setPl { S with wrap := on } { S.pl with waiting := S.pl.waiting && on }) else
  if n = 25 then { S with hidden := !on } else
  if n = 47 ∨ n = 1047 then swapV S on else
  if n = 1048 then (if on = true then keepCursorV S else backCursorV S) else
  if n = 1049 then (if on = true then (if S.alt = false then swapV (keepCursorV S) true else S) else if S.alt = true then backCursorV (swapV S false) else S) else S
theorem Ok.setOrigin {S : Scr} (o : Ok S) (b : Bool) : Ok (S.setPl { S.pl with origin := b }) := Ok.setPl (p := { S.pl with origin := b }) o ⟨o.c.p.x0, o.c.p.x1, o.c.p.y0, o.c.p.y1⟩
theorem Ok.private {S : Scr} (o : Ok S) (n : Int) (on : Bool) : Ok (privateV S n on) := by
  unfold privateV
  split
  · exact ⟨⟨o.d.w0, o.d.w1, o.d.h0, o.d.h1, o.d.m0, o.d.m1, o.d.past, o.d.main, o.d.other⟩, ⟨o.c.p, o.c.t0, o.c.tb, o.c.bh, o.c.tabs, o.c.gath, o.c.ans, o.c.hv0, o.c.hv1, o.c.km, o.c.ko⟩⟩
  split
  · exact ⟨⟨o.d.w0, o.d.w1, o.d.h0, o.d.h1, o.d.m0, o.d.m1, o.d.past, o.d.main, o.d.other⟩, ⟨o.c.p, o.c.t0, o.c.tb, o.c.bh, o.c.tabs, o.c.gath, o.c.ans, o.c.hv0, o.c.hv1, o.c.km, o.c.ko⟩⟩
  split
  · exact (o.setOrigin on).home 1 1
  split
  · have o1 : Ok { S with wrap := on } := ⟨⟨o.d.w0, o.d.w1, o.d.h0, o.d.h1, o.d.m0, o.d.m1, o.d.past, o.d.main, o.d.other⟩, ⟨o.c.p, o.c.t0, o.c.tb, o.c.bh, o.c.tabs, o.c.gath, o.c.ans, o.c.hv0, o.c.hv1, o.c.km, o.c.ko⟩⟩
    exact Ok.setPl (p := { S.pl with waiting := S.pl.waiting && on }) o1 ⟨o.c.p.x0, o.c.p.x1, o.c.p.y0, o.c.p.y1⟩
  split
  · exact ⟨⟨o.d.w0, o.d.w1, o.d.h0, o.d.h1, o.d.m0, o.d.m1, o.d.past, o.d.main, o.d.other⟩, ⟨o.c.p, o.c.t0, o.c.tb, o.c.bh, o.c.tabs, o.c.gath, o.c.ans, o.c.hv0, o.c.hv1, o.c.km, o.c.ko⟩⟩
  split
  · exact o.swap on
  split
  · split
    · exact o.keepCursor
    · exact o.backCursor
  split
  · split
    · split
      · exact o.keepCursor.swap true
      · exact o
    · split
      · exact (o.swap false).backCursor
      · exact o
  · exact o
theorem private_j0 {h0 : Base} {h : Heap} {s : Nat} {S : Scr} {X : Blks} {n : Int} {on q : Bool} {K : Heap → Prop} (hs : RepX h0 h s S X) (o : Ok S) (h1 : n ≠ 1) (h2 : n ≠ 2004) (h3 : n ≠ 6) (h4 : n ≠ 7) (h5 : n ≠ 25) (hq : q = decide (n = 47 ∨ n = 1047)) (hk : ∀ h1, RepX h0 h1 s (privateV S n on) X → K h1) :
    vt_Screen_private_j0 K (some ⟨s, 0, none⟩) on n q h := by
  have hs0 := hs
  unfold vt_Screen_private_j0
  unfold privateV at hk
  rw [if_neg h1, if_neg h2, if_neg h3, if_neg h4, if_neg h5] at hk
  subst hq
  by_cases h6 : n = 47 ∨ n = 1047
  · rw [if_pos h6] at hk
    rw [if_pos (by simpa using h6)]
    exact swap_spX hs o hk
  rw [if_neg h6] at hk
  rw [if_neg (by simpa using h6)]
  by_cases h7 : n = 1048
  · rw [if_pos h7] at hk ⊢
    by_cases h8 : on = true
    · rw [if_pos h8] at hk ⊢
      exact keepCursor_spX hs hk
    · rw [if_neg h8] at hk ⊢
      exact backCursor_spX hs hk
  rw [if_neg h7] at hk ⊢
  by_cases h8 : n = 1049
  · rw [if_pos h8] at hk ⊢
    obtain ⟨A, oM, oO, oP, oT, oG, oK, oL, ho, hp⟩ := hs
    by_cases h9 : on = true
    · rw [if_pos h9] at hk ⊢
      refine nz_i ?_
      simp only [add0, Nat.zero_add]
      refine ldB0 ho rfl ?_
      show if (!S.alt) = true then _ else _
      by_cases ha : S.alt = false
      · rw [if_pos ha] at hk
        rw [if_pos (by rw [ha]; rfl)]
        exact keepCursor_spX hs0 fun h10 hs10 => swap_spX hs10 o.keepCursor hk
      · rw [if_neg ha] at hk
        rw [if_neg (by simpa using ha)]
        exact hk h hs0
    · rw [if_neg h9] at hk ⊢
      refine nz_i ?_
      simp only [add0, Nat.zero_add]
      refine ldB0 ho rfl ?_
      show if S.alt = true then _ else _
      by_cases ha : S.alt = true
      · rw [if_pos ha] at hk ⊢
        exact swap_spX hs0 o fun h10 hs10 => backCursor_spX hs10 hk
      · rw [if_neg ha] at hk ⊢
        exact hk h hs0
  · rw [if_neg h8] at hk ⊢
    exact hk h hs0
theorem private_spX {h0 : Base} {h : Heap} {s : Nat} {S : Scr} {X : Blks} {n : Int} {on : Bool} {K : Heap → Prop} (hs : RepX h0 h s S X) (o : Ok S) (hk : ∀ h1, RepX h0 h1 s (privateV S n on) X → K h1) : vt_Screen_private (some ⟨s, 0, none⟩) n on K h := by
  have hs0 := hs
  obtain ⟨A, oM, oO, oP, oT, oG, oK, oL, ho, hp⟩ := hs
  unfold vt_Screen_private
  have hk0 := hk
  unfold privateV at hk
  by_cases h1 : n = 1
  · rw [if_pos h1] at hk ⊢
    refine nz_i ?_
    simp only [add0, Nat.zero_add]
    refine st0 ho rfl fun h1 ho1 => hk h1 ⟨A, oM, oO, oP, oT, oG, oK, oL, by assumption, hp.1, hp.2, hp.3, hp.4, hp.5, hp.6, hp.7⟩
  rw [if_neg h1] at hk ⊢
  by_cases h2 : n = 2004
  · rw [if_pos h2] at hk ⊢
    refine nz_i ?_
    simp only [add0, Nat.zero_add]
    refine st0 ho rfl fun h1 ho1 => hk h1 ⟨A, oM, oO, oP, oT, oG, oK, oL, by assumption, hp.1, hp.2, hp.3, hp.4, hp.5, hp.6, hp.7⟩
  rw [if_neg h2] at hk ⊢
  by_cases h3 : n = 6
  · rw [if_pos h3] at hk ⊢
    refine nz_i ?_
    simp only [add0, Nat.zero_add]
    refine st0 ho rfl fun h1 ho1 => ?_
    have hs1 : RepX h0 h1 s (S.setPl { S.pl with origin := on }) X := ⟨A, oM, oO, oP, oT, oG, oK, oL, by assumption, hp.1, hp.2, hp.3, hp.4, hp.5, hp.6, hp.7⟩
    exact home_spX hs1 hk
  rw [if_neg h3] at hk ⊢
  by_cases h4 : n = 7
  · rw [if_pos h4] at hk ⊢
    refine nz_i ?_
    simp only [add0, Nat.zero_add]
    refine st0 ho rfl fun h1 ho1 => ?_
    refine ldB0 ho1 rfl ?_
    refine st0 ho1 rfl fun h2 ho2 => hk h2 ⟨A, oM, oO, oP, oT, oG, oK, oL, by assumption, hp.1, hp.2, hp.3, hp.4, hp.5, hp.6, hp.7⟩
  rw [if_neg h4] at hk ⊢
  by_cases h5 : n = 25
  · rw [if_pos h5] at hk ⊢
    refine nz_i ?_
    simp only [add0, Nat.zero_add]
    refine st0 ho rfl fun h1 ho1 => hk h1 ⟨A, oM, oO, oP, oT, oG, oK, oL, by assumption, hp.1, hp.2, hp.3, hp.4, hp.5, hp.6, hp.7⟩
  rw [if_neg h5] at hk ⊢
  by_cases h6 : n = 47
  · rw [if_pos h6]
    exact private_j0 hs0 o h1 h2 h3 h4 h5 (by simp [h6]) hk0
  · rw [if_neg h6]
    exact private_j0 hs0 o h1 h2 h3 h4 h5 (by simp [h6]) hk0

/-! ### The numbers of a sequence -/
def BAt (h : Heap) (a : Option Addr) (n : Nat) (g : List Int) : Prop := n = g.length ∧ ∀ i, i < n → ∃ p, a = some p ∧ cellH h (p.add (i * 1)) = some (.int .u8 (g.getD i 0))
theorem cellsAt_of {h : Heap} {a : Addr} : ∀ (vs : List Value) (k : Nat), (∀ j v, vs[j]? = some v → cellH h (a.add (k + j)) = some v) → cellsAt h a k vs
  | [], _, _ => trivial
  | v :: vs, k, hv => ⟨hv 0 v rfl, cellsAt_of vs (k + 1) fun j w hw => by
      have := hv (j + 1) w (by simpa using hw)
      rw [show k + 1 + j = k + (j + 1) by omega]
      exact this⟩
theorem BAt.cut {h : Heap} {a : Option Addr} {n c : Nat} {g : List Int} (hb : BAt h a n g) (hc : n ≤ c) (e : Nat) (he : e ≤ n) : BAt h (cutA a c e 1) (n - e) (g.drop e) := by
  obtain ⟨hn, hd⟩ := hb
  refine ⟨by rw [List.length_drop, hn], fun i hi => ?_⟩
  obtain ⟨p, rfl, hp⟩ := hd (e + i) (by omega)
  unfold cutA
  rw [if_neg (by omega)]
  refine ⟨p.add (e * 1), rfl, ?_⟩
  rw [addadd, List.getD_eq_getElem?_getD, List.getElem?_drop, ← List.getD_eq_getElem?_getD, show e * 1 + i * 1 = (e + i) * 1 by omega]
  exact hp
theorem BAt.byts {h : Heap} {a : Option Addr} {n : Nat} {g : List Int} (hb : BAt h a n g) {K : ByteArray → Prop} (hk : K (bytesOf g)) : bytM h a n K := by
  obtain ⟨hn, hd⟩ := hb
  refine ⟨_, ⟨g, hn.symm, ?_, rfl⟩, hk⟩
  unfold srcAt
  cases a with
  | none =>
    cases g with
    | nil => rfl
    | cons x g =>
      obtain ⟨p, hp, _⟩ := hd 0 (by simp at hn; omega)
      cases hp
  | some a =>
    refine cellsAt_of _ 0 fun j v hv => ?_
    rw [List.getElem?_map] at hv
    cases hg : g[j]? with
    | none => rw [hg] at hv; cases hv
    | some x =>
      rw [hg] at hv
      obtain rfl : Value.int .u8 x = v := Option.some.inj hv
      have hj := (List.getElem?_eq_some_iff.1 hg).1
      obtain ⟨p, hp, hc⟩ := hd j (by omega)
      obtain rfl : a = p := Option.some.inj hp
      rw [Nat.zero_add]
      rw [Nat.mul_one, List.getD_eq_getElem?_getD, hg] at hc
      exact hc
def endV (g : List Int) : Nat → Nat → Nat
  | 0, e => e
  | f + 1, e => if 48 ≤ g.getD e 0 ∧ g.getD e 0 ≤ 59 then endV g f (e + 1) else e
theorem endV_le (g : List Int) : ∀ (f e : Nat), endV g f e ≤ e + f
  | 0, e => Nat.le_refl _
  | f + 1, e => by
    unfold endV
    split
    · have := endV_le g f (e + 1)
      omega
    · omega
theorem numbers_l1 {K0 : Option Addr → Nat → Nat → Int → Int → Heap → Prop} {h : Heap} {a : Option Addr} {n c : Nat} {g : List Int} {mk : Int} (hb : BAt h a n g) (hn : n ≤ 1000) :
    ∀ (q e : Nat), n - e = q → e ≤ n → K0 a n c mk (endV g q e) h → vt_Screen_numbers_l1 K0 (q + 1) a n c mk e h := by
  intro q
  induction q with
  | zero =>
    intro e hq he hk
    unfold vt_Screen_numbers_l1
    rw [if_neg (by omega)]
    exact hk
  | succ q ih =>
    intro e hq he hk
    unfold vt_Screen_numbers_l1
    rw [if_pos (by omega)]
    unfold endV at hk
    obtain ⟨p, rfl, hp⟩ := hb.2 e (by omega)
    have hte : ((e : Int)).toNat = e := by omega
    refine nz_i ⟨by omega, by omega, ⟨_, by rw [hte]; exact hp, ?_⟩⟩
    show if 48 ≤ g.getD e 0 then _ else _
    by_cases h1 : 48 ≤ g.getD e 0
    · rw [if_pos h1]
      refine ⟨by omega, by omega, ⟨_, by rw [hte]; exact hp, ?_⟩⟩
      show if g.getD e 0 ≤ 59 then _ else _
      by_cases h2 : g.getD e 0 ≤ 59
      · rw [if_pos h2]
        rw [if_pos ⟨h1, h2⟩] at hk
        rw [wrap64 (by omega) (by omega), show (e : Int) + 1 = ((e + 1 : Nat) : Int) by omega]
        exact ih (e + 1) (by omega) (by omega) hk
      · rw [if_neg h2]
        rw [if_neg (fun hh => h2 hh.2)] at hk
        exact hk
    · rw [if_neg h1]
      rw [if_neg (fun hh => h1 hh.1)] at hk
      exact hk
def badL (s : ByteArray) : Nat → Int → Bool
  | 0, _ => false
  | q + 1, i => if 48 ≤ byteAt s i then true else badL s q (i + 1)
theorem numbers_l2 {K2 : Option Addr → Nat → Nat → Int → Int → ByteArray → Heap → Prop} {Kr : Int → Option Addr → Nat → Nat → ByteArray → Bool → Heap → Prop} {h : Heap} {a : Option Addr} {n c : Nat} {mk e : Int} {s : ByteArray} (hz : s.size ≤ 1000000) :
    ∀ (q : Nat) (i : Int), ((s.size : Int) - i).toNat = q → 0 ≤ i → (badL s q i = true → Kr 0 none 0 0 ⟨#[]⟩ false h) → (badL s q i = false → K2 a n c mk e s h) → vt_Screen_numbers_l2 K2 Kr (q + 1) a n c mk e s (s.size : Int) i h := by
  intro q
  induction q with
  | zero =>
    intro i hq hi hr hk
    unfold vt_Screen_numbers_l2
    rw [if_neg (by omega)]
    exact hk rfl
  | succ q ih =>
    intro i hq hi hr hk
    unfold vt_Screen_numbers_l2
    rw [if_pos (by omega)]
    refine ⟨hi, by omega, ?_⟩
    unfold badL at hr hk
    by_cases h1 : 48 ≤ byteAt s i
    · rw [if_pos h1]
      exact hr (if_pos h1)
    · rw [if_neg h1] at hr hk ⊢
      rw [wrap64 (by omega) (by omega)]
      exact ih (i + 1) (by omega) (by omega) hr hk
abbrev nf (b : Int) : List Value := [.int .i64 b]
theorem nf_len (b : Int) : (nf b).length = 1 := rfl
def numsL (g : List Int) : Nat → Nat → List Int → Int → List Int × Int
  | 0, _, out, n => (out, n)
  | q + 1, i, out, n => if g.getD i 0 = 59 then numsL g q (i + 1) (out ++ [n]) (-1) else if g.getD i 0 = 58 then numsL g q (i + 1) (out ++ [n]) (-1) else
    numsL g q (i + 1) out (imin 9999 (IntKind.wrap .i64 ((IntKind.wrap .i64 ((imax n 0) * 10)) + (IntKind.wrap .i64 (IntKind.wrap .u8 (g.getD i 0 - 48))))))
theorem numsL_len (g : List Int) : ∀ (q i : Nat) (out : List Int) (n : Int), (numsL g q i out n).1.length ≤ out.length + q
  | 0, _, out, n => Nat.le_refl _
  | q + 1, i, out, n => by
    unfold numsL
    split
    · have := numsL_len g q (i + 1) (out ++ [n]) (-1)
      simp only [List.length_append, List.length_singleton] at this
      omega
    · split
      · have := numsL_len g q (i + 1) (out ++ [n]) (-1)
        simp only [List.length_append, List.length_singleton] at this
        omega
      · have := numsL_len g q (i + 1) out (imin 9999 (IntKind.wrap .i64 ((IntKind.wrap .i64 ((imax n 0) * 10)) + (IntKind.wrap .i64 (IntKind.wrap .u8 (g.getD i 0 - 48))))))
        omega
theorem numbers_l3 {K4 : Int → Int → ByteArray → Option Addr → Nat → Nat → Int → Heap → Prop} {h0 : Base} {L : Blks} {a : Option Addr} {n c : Nat} {g : List Int} {mk : Int} {e : Nat} {bs : ByteArray} (hB : ∀ h o, Own h0 h (L ++ (o ++ [])) → BAt h a n g) (hn : n ≤ 1000) (he : e ≤ n) :
    ∀ (q i : Nat) (h : Heap) (oa : Option Addr) (on oc : Nat) (out : List Int) (o : Blks) (m : Int), e - i = q → i ≤ e → on ≤ i → Own h0 h (L ++ (o ++ [])) → SlO nf 1 3 oa on oc out o →
      (∀ h' oa' on' oc' o', Own h0 h' (L ++ (o' ++ [])) → SlO nf 1 3 oa' on' oc' (numsL g q i out m).1 o' → K4 mk e bs oa' on' oc' (numsL g q i out m).2 h') →
      vt_Screen_numbers_l3 K4 (q + 1) a n c mk e bs oa on oc m i h := by
  intro q
  induction q with
  | zero =>
    intro i h oa on oc out o m hq hi ho' ho hs hk
    unfold vt_Screen_numbers_l3
    rw [if_neg (by omega)]
    exact hk h oa on oc o ho hs
  | succ q ih =>
    intro i h oa on oc out o m hq hi ho' ho hs hk
    unfold vt_Screen_numbers_l3
    rw [if_pos (by omega)]
    unfold numsL at hk
    obtain ⟨p, rfl, hp⟩ := (hB h o ho).2 i (by omega)
    have hte : ((i : Int)).toNat = i := by omega
    rw [wrap64 (x := (i : Int) + 1) (by omega) (by omega), show (i : Int) + 1 = ((i + 1 : Nat) : Int) by omega]
    refine nz_i ⟨by omega, by omega, ⟨_, by rw [hte]; exact hp, ?_⟩⟩
    show if g.getD i 0 = 59 then _ else _
    by_cases h1 : g.getD i 0 = 59
    · rw [if_pos h1] at hk ⊢
      refine gap_o ho fun h1 ho1 => ?_
      refine SlO.app (f := nf) (sz := 1) (js := [m]) nf_len rfl hs ho1 (by simp only [List.length_singleton]; omega) (by simp only [List.length_singleton]; omega) fun a' c' o' h' ho2 hs2 => ?_
      exact ih (i + 1) h' a' (on + 1) c' _ o' (-1) (by omega) (by omega) (by omega) ho2 hs2 hk
    rw [if_neg h1] at hk ⊢
    refine ⟨by omega, by omega, ⟨_, by rw [hte]; exact hp, ?_⟩⟩
    show if g.getD i 0 = 58 then _ else _
    by_cases h2 : g.getD i 0 = 58
    · rw [if_pos h2] at hk ⊢
      refine gap_o ho fun h1 ho1 => ?_
      refine SlO.app (f := nf) (sz := 1) (js := [m]) nf_len rfl hs ho1 (by simp only [List.length_singleton]; omega) (by simp only [List.length_singleton]; omega) fun a' c' o' h' ho2 hs2 => ?_
      exact ih (i + 1) h' a' (on + 1) c' _ o' (-1) (by omega) (by omega) (by omega) ho2 hs2 hk
    rw [if_neg h2] at hk ⊢
    refine ⟨by omega, by omega, ⟨_, by rw [hte]; exact hp, ?_⟩⟩
    exact ih (i + 1) h oa on oc out o _ (by omega) (by omega) (by omega) ho hs hk
def numbers0 (mk : Int) (g : List Int) : Int × List Int × ByteArray × Bool :=
  if badL (bytesOf (g.drop (endV g g.length 0))) (bytesOf (g.drop (endV g g.length 0))).size 0 = true then (0, [], ⟨#[]⟩, false) else
  if 0 < endV g g.length 0 then (mk, (numsL g (endV g g.length 0) 0 [] (-1)).1 ++ [(numsL g (endV g g.length 0) 0 [] (-1)).2], bytesOf (g.drop (endV g g.length 0)), decide (((((numsL g (endV g g.length 0) 0 [] (-1)).1 ++ [(numsL g (endV g g.length 0) 0 [] (-1)).2]).length : Nat) : Int) ≤ 16)) else
  (mk, (numsL g (endV g g.length 0) 0 [] (-1)).1, bytesOf (g.drop (endV g g.length 0)), decide (((((numsL g (endV g g.length 0) 0 [] (-1)).1).length : Nat) : Int) ≤ 16))
theorem bytesOf_size (l : List Int) : (bytesOf l).size = l.length := by
  unfold bytesOf
  have : ∀ (l : List Int) (s : ByteArray), (l.foldl (fun s n => s.push (UInt8.ofNat n.toNat)) s).size = s.size + l.length := by
    intro l
    induction l with
    | nil => intro s; rfl
    | cons x l ih => intro s; rw [List.foldl_cons, ih, ByteArray.size_push, List.length_cons]; omega
  rw [this]
  simp
theorem numbers_j0 {Kr : Int → Option Addr → Nat → Nat → ByteArray → Bool → Heap → Prop} {h0 : Base} {h : Heap} {L : Blks} {a : Option Addr} {n c : Nat} {g : List Int} {mk : Int} (hB : ∀ h o, Own h0 h (L ++ (o ++ [])) → BAt h a n g) (hn : n ≤ 1000) (hnc : n ≤ c) (ho : Own h0 h L)
    (hk : ∀ h' oa on oc o, Own h0 h' (L ++ (o ++ [])) → SlO nf 1 3 oa on oc (numbers0 mk g).2.1 o → Kr (numbers0 mk g).1 oa on oc (numbers0 mk g).2.2.1 (numbers0 mk g).2.2.2 h') : vt_Screen_numbers_j0 Kr a n c mk h := by
  have ho0 : Own h0 h (L ++ ([] ++ [])) := by simpa using ho
  have hb := hB h [] ho0
  have hl := hb.1
  unfold vt_Screen_numbers_j0
  refine ⟨n + 1, ?_⟩
  refine numbers_l1 hb hn n 0 (by omega) (by omega) ?_
  unfold numbers0 at hk
  rw [hl] at hn hnc ⊢
  rw [hl] at hB
  have hee := endV_le g g.length 0
  generalize endV g g.length 0 = e at *
  refine ⟨by omega, by omega, ?_⟩
  rw [show ((e : Int)).toNat = e by omega]
  rw [hl] at hb
  refine (hb.cut hnc e (by omega)).byts ?_
  have hsz := bytesOf_size (g.drop e)
  rw [List.length_drop] at hsz
  refine ⟨(bytesOf (g.drop e)).size + 1, ?_⟩
  generalize bytesOf (g.drop e) = bs at *
  refine numbers_l2 (by omega) bs.size 0 (by omega) (by omega) (fun hbad => ?_) (fun hbad => ?_)
  · simp only [if_pos hbad] at hk
    exact hk h none 0 0 [] ho0 SlO.nil
  · simp only [hbad, Bool.false_eq_true, if_false] at hk
    refine ⟨e + 1, ?_⟩
    refine numbers_l3 hB (by omega) (by omega) e 0 h none 0 0 [] [] (-1) (by omega) (by omega) (by omega) ho0 SlO.nil fun hh oa on oc o ho1 hs1 => ?_
    have hlen := numsL_len g e 0 [] (-1)
    simp only [List.length_nil] at hlen
    have hon := hs1.1
    generalize numsL g e 0 [] (-1) = r at *
    by_cases h1 : 0 < e
    · simp only [if_pos h1] at hk
      rw [if_pos (by omega)]
      refine gap_o ho1 fun h2 ho2 => ?_
      refine SlO.app (f := nf) (sz := 1) (js := [r.2]) nf_len rfl hs1 ho2 (by simp only [List.length_singleton]; omega) (by simp only [List.length_singleton]; omega) fun a' c' o' h' ho3 hs3 => ?_
      have := hk h' a' _ c' o' ho3 hs3
      unfold vt_Screen_numbers_j4
      have e1 : ((r.1 ++ [r.2]).length : Int) = ((on + 1 : Nat) : Int) := by rw [List.length_append, List.length_singleton, hon]
      rw [e1] at this
      exact this
    · simp only [if_neg h1] at hk
      rw [if_neg (by omega)]
      have := hk hh oa _ oc o ho1 hs1
      unfold vt_Screen_numbers_j4
      rw [← hon] at this
      exact this
def numbersV (g : List Int) : Int × List Int × ByteArray × Bool :=
  if 0 < g.length ∧ 60 ≤ g.getD 0 0 ∧ g.getD 0 0 ≤ 63 then numbers0 (g.getD 0 0) (g.drop 1) else numbers0 0 g
theorem gath_at {h0 : Base} {h : Heap} {s : Nat} {cs : Array Value} {S : Scr} {A : Refs} {oM oO oP oT oG oK oL o : Blks} (hp : Parts S A oM oO oP oT oG oK oL) (ho : Own h0 h (((s, cs, 80) :: (oM ++ (oO ++ (oP ++ (oT ++ (oG ++ (oK ++ oL))))))) ++ (o ++ []))) : BAt h A.g A.gn S.gathered := by
  refine ⟨hp.gath.1, fun i hi => ?_⟩
  have ho1 : Own h0 h (((s, cs, 80) :: (oM ++ (oO ++ (oP ++ oT)))) ++ (oG ++ (oK ++ (oL ++ o)))) := by simpa using ho
  obtain ⟨p, hpp, d⟩ := SlO.get bf_len hp.gath ho1 i 0 hi
  exact ⟨p, hpp, d 0 _ rfl⟩
theorem slo_cap {α : Type} {f : α → List Value} {sz : Nat} {t : TypeId} {a : Option Addr} {n c : Nat} {ks : List α} {o : Blks} (hs : SlO f sz t a n c ks o) : n ≤ c := by
  obtain ⟨_, ⟨_, _, h3, h4⟩ | ⟨_, _, _, _, _, _, _, hle⟩⟩ := hs
  · subst h4; have := ‹n = _›; simp at this; omega
  · exact hle
theorem numbers_sp {h0 : Base} {h : Heap} {s : Nat} {S : Scr} {K : Int → Option Addr → Nat → Nat → ByteArray → Bool → Heap → Prop} (hs : Rep h0 h s S) (ok : Ok S)
    (hk : ∀ h1 oa on oc o, RepX h0 h1 s S o → SlO nf 1 3 oa on oc (numbersV S.gathered).2.1 o → K (numbersV S.gathered).1 oa on oc (numbersV S.gathered).2.2.1 (numbersV S.gathered).2.2.2 h1) : vt_Screen_numbers (some ⟨s, 0, none⟩) K h := by
  obtain ⟨A, oM, oO, oP, oT, oG, oK, oL, ho, hp⟩ := hs
  have hgl := ok.c.gath
  have hn := hp.gath.1
  have hcap := slo_cap hp.gath
  have hk1 : ∀ h1 oa on oc o, Own h0 h1 (((s, scrC S A, 80) :: (oM ++ (oO ++ (oP ++ (oT ++ (oG ++ (oK ++ oL))))))) ++ (o ++ [])) → SlO nf 1 3 oa on oc (numbersV S.gathered).2.1 o → K (numbersV S.gathered).1 oa on oc (numbersV S.gathered).2.2.1 (numbersV S.gathered).2.2.2 h1 := by
    intro h1 oa on oc o ho1 hs1
    exact hk h1 oa on oc o ⟨A, oM, oO, oP, oT, oG, oK, oL, by simpa using ho1, hp⟩ hs1
  clear hk
  unfold vt_Screen_numbers
  unfold numbersV at hk1
  refine nz_i ?_
  simp only [add0, Nat.zero_add]
  refine ldL0 ho rfl ?_
  have hB : ∀ h o, Own h0 h (((s, scrC S A, 80) :: (oM ++ (oO ++ (oP ++ (oT ++ (oG ++ (oK ++ oL))))))) ++ (o ++ [])) → BAt h A.g A.gn S.gathered := fun h o ho => gath_at hp ho
  have hb := hB h [] (by simpa using ho)
  by_cases h1 : 0 < A.gn
  · rw [if_pos (by omega)]
    obtain ⟨p, hpp, hd⟩ := hb.2 0 h1
    rw [hpp]
    refine nz_i ⟨by omega, by omega, ⟨_, hd, ?_⟩⟩
    show if 60 ≤ S.gathered.getD 0 0 then _ else _
    by_cases h2 : 60 ≤ S.gathered.getD 0 0
    · rw [if_pos h2]
      refine ⟨by omega, by omega, ⟨_, hd, ?_⟩⟩
      show if S.gathered.getD 0 0 ≤ 63 then _ else _
      by_cases h3 : S.gathered.getD 0 0 ≤ 63
      · rw [if_pos h3]
        rw [if_pos ⟨by omega, h2, h3⟩] at hk1
        refine ⟨by omega, by omega, ⟨_, hd, ⟨by omega, ?_⟩⟩⟩
        rw [← hpp]
        exact numbers_j0 (fun h o ho => (hB h o ho).cut hcap 1 (by omega)) (by omega) (by show A.gn - 1 ≤ A.gc - 1; omega) ho hk1
      · rw [if_neg h3]
        rw [if_neg (fun hh => h3 hh.2.2)] at hk1
        rw [← hpp]
        exact numbers_j0 hB (by omega) hcap ho hk1
    · rw [if_neg h2]
      rw [if_neg (fun hh => h2 hh.2.1)] at hk1
      rw [← hpp]
      exact numbers_j0 hB (by omega) hcap ho hk1
  · rw [if_neg (by omega)]
    rw [if_neg (fun hh => h1 (by omega))] at hk1
    exact numbers_j0 hB (by omega) hcap ho hk1
end Go.Proofs.YthjdnhhifjpidaaGreatDoor.M
set_option maxRecDepth 100000
namespace Go.Proofs.YthjdnhhifjpidaaGreatDoor.M
open Go Go.Hp

/-! ### Loads and stores of the screen's own cells -/
theorem RepX.ldi {h0 : Base} {h : Heap} {s : Nat} {S : Scr} {X : Blks} {off : Nat} {k : IntKind} {v : Int} {K : Int → Prop} (hs : RepX h0 h s S X) (e : ∀ A, (scrC S A)[off]? = some (.int k v)) (hk : K v) : ldI h k ⟨s, off, none⟩ K := by
  obtain ⟨A, oM, oO, oP, oT, oG, oK, oL, ho, hp⟩ := hs
  exact ldI0 ho (e A) hk
theorem RepX.ldb {h0 : Base} {h : Heap} {s : Nat} {S : Scr} {X : Blks} {off : Nat} {v : Bool} {K : Bool → Prop} (hs : RepX h0 h s S X) (e : ∀ A, (scrC S A)[off]? = some (.bool v)) (hk : K v) : ldB h ⟨s, off, none⟩ K := by
  obtain ⟨A, oM, oO, oP, oT, oG, oK, oL, ho, hp⟩ := hs
  exact ldB0 ho (e A) hk
theorem Rep.ldi {h0 : Base} {h : Heap} {s : Nat} {S : Scr} {off : Nat} {k : IntKind} {v : Int} {K : Int → Prop} (hs : Rep h0 h s S) (e : ∀ A, (scrC S A)[off]? = some (.int k v)) (hk : K v) : ldI h k ⟨s, off, none⟩ K := by
  obtain ⟨A, oM, oO, oP, oT, oG, oK, oL, ho, hp⟩ := hs
  exact ldI0 ho (e A) hk
theorem Rep.ldb {h0 : Base} {h : Heap} {s : Nat} {S : Scr} {off : Nat} {v : Bool} {K : Bool → Prop} (hs : Rep h0 h s S) (e : ∀ A, (scrC S A)[off]? = some (.bool v)) (hk : K v) : ldB h ⟨s, off, none⟩ K := by
  obtain ⟨A, oM, oO, oP, oT, oG, oK, oL, ho, hp⟩ := hs
  exact ldB0 ho (e A) hk
theorem scrC_size (S : Scr) (A : Refs) : (scrC S A).size = 41 := rfl
theorem RepX.stp {h0 : Base} {h : Heap} {s : Nat} {S : Scr} {X : Blks} {off : Nat} {vs : List Value} {K : Heap → Prop} (p : Pl) (hs : RepX h0 h s S X) (hle : off + vs.length ≤ 41) (e : ∀ A, setL (scrC S A) off vs = scrC (S.setPl p) A) (hk : ∀ h1, RepX h0 h1 s (S.setPl p) X → K h1) : stN ⟨s, off, none⟩ vs 0 h K := by
  obtain ⟨A, oM, oO, oP, oT, oG, oK, oL, ho, hp⟩ := hs
  refine st0 ho (Nat.ble_eq_true_of_le (by rw [scrC_size]; exact hle)) fun h1 ho1 => hk h1 ?_
  have ho1 := own_cs ho1 (e A)
  exact ⟨A, oM, oO, oP, oT, oG, oK, oL, by assumption, hp.1, hp.2, hp.3, hp.4, hp.5, hp.6, hp.7⟩

/-! ### The numbers that were given -/
def IAt (h : Heap) (a : Option Addr) (n : Nat) (l : List Int) : Prop := n = l.length ∧ ∀ i, i < n → ∃ p, a = some p ∧ cellH h (p.add (i * 1)) = some (.int .i64 (l.getD i 0))
theorem RepX.ints {h0 : Base} {h : Heap} {s : Nat} {S : Scr} {o X : Blks} {a : Option Addr} {n c : Nat} {l : List Int} (hs : RepX h0 h s S (o ++ X)) (hl : SlO nf 1 3 a n c l o) : IAt h a n l := by
  obtain ⟨A, oM, oO, oP, oT, oG, oK, oL, ho, hp⟩ := hs
  refine ⟨hl.1, fun i hi => ?_⟩
  have ho1 : Own h0 h (((s, scrC S A, 80) :: (oM ++ (oO ++ (oP ++ (oT ++ (oG ++ (oK ++ oL))))))) ++ (o ++ X)) := by simpa using ho
  obtain ⟨p, hpp, d⟩ := SlO.get nf_len hl ho1 i 0 hi
  exact ⟨p, hpp, d 0 _ rfl⟩
theorem IAt.cut {h : Heap} {a : Option Addr} {n c : Nat} {g : List Int} (hb : IAt h a n g) (hc : n ≤ c) (e : Nat) (he : e ≤ n) : IAt h (cutA a c e 1) (n - e) (g.drop e) := by
  obtain ⟨hn, hd⟩ := hb
  refine ⟨by rw [List.length_drop, hn], fun i hi => ?_⟩
  obtain ⟨p, rfl, hp⟩ := hd (e + i) (by omega)
  unfold cutA
  rw [if_neg (by omega)]
  refine ⟨p.add (e * 1), rfl, ?_⟩
  rw [addadd, List.getD_eq_getElem?_getD, List.getElem?_drop, ← List.getD_eq_getElem?_getD, show e * 1 + i * 1 = (e + i) * 1 by omega]
  exact hp
def atV (l : List Int) (i : Nat) (d : Int) : Int := if i < l.length then if 0 ≤ l.getD i 0 then l.getD i 0 else d else d
theorem at_sp {h : Heap} {a : Option Addr} {n c : Nat} {l : List Int} {d : Int} {K : Int → Heap → Prop} (hb : IAt h a n l) (i : Nat) (hk : K (atV l i d) h) : vt_at a n c (i : Int) d K h := by
  have hn := hb.1
  unfold vt_at
  unfold atV at hk
  by_cases h1 : i < l.length
  · rw [if_pos h1] at hk
    rw [if_pos (by omega)]
    obtain ⟨p, hp, hd⟩ := hb.2 i (by omega)
    rw [hp]
    have hte : ((i : Int)).toNat = i := by omega
    refine nz_i ⟨by omega, by omega, ⟨_, by rw [hte]; exact hd, ?_⟩⟩
    show if 0 ≤ l.getD i 0 then _ else _
    by_cases h2 : 0 ≤ l.getD i 0
    · rw [if_pos h2] at hk ⊢
      exact ⟨by omega, by omega, ⟨_, by rw [hte]; exact hd, hk⟩⟩
    · rw [if_neg h2] at hk ⊢
      exact hk
  · rw [if_neg h1] at hk
    rw [if_neg (by omega)]
    exact hk

/-! ### A colour -/
def colL (l : List Int) : Nat → Nat → Int → Int × Int
  | 0, _, c => (IntKind.wrap .i64 (257 + c), 4)
  | q + 1, i, c => if 255 < l.getD (1 + i) 0 then (-1, 4) else colL l q (i + 1) (IntKind.wrap .i64 ((IntKind.wrap .i64 (c * 256)) + (imax 0 (l.getD (1 + i) 0))))
def colourV (l : List Int) : Int × Int :=
  if 2 ≤ l.length then if l.getD 0 0 = 5 then if 255 < imax 0 (l.getD 1 0) then (-1, 2) else (IntKind.wrap .i64 (imax 0 (l.getD 1 0) + 1), 2)
    else if 4 ≤ l.length then if l.getD 0 0 = 2 then colL l 3 0 0 else (0, 0) else (0, 0) else (0, 0)
theorem colL_used (l : List Int) : ∀ (q i : Nat) (c : Int), (colL l q i c).2 = 4
  | 0, _, _ => rfl
  | q + 1, i, c => by
    unfold colL
    split
    · rfl
    · exact colL_used l q (i + 1) _
theorem colourV_used (l : List Int) : (colourV l).2 = 0 ∨ (colourV l).2 = 2 ∨ (colourV l).2 = 4 := by
  unfold colourV
  split
  · split
    · split
      · exact .inr (.inl rfl)
      · exact .inr (.inl rfl)
    · split
      · split
        · exact .inr (.inr (colL_used l 3 0 0))
        · exact .inl rfl
      · exact .inl rfl
  · exact .inl rfl
theorem colour_l0 {h : Heap} {p : Addr} {c : Nat} {l : List Int} {K : Int → Int → Heap → Prop} (hd : ∀ i, i < 3 → cellH h (p.add (i * 1)) = some (.int .i64 (l.getD (1 + i) 0))) :
    ∀ (q : Nat) (i : Nat) (y : Int), 3 - i = q → i ≤ 3 → K (colL l q i y).1 (colL l q i y).2 h → vt_colour_l0 (fun z54 h55 => K (IntKind.wrap .i64 (257 + z54)) 4 h55) (fun z57 z58 h59 => K z57 z58 h59) (q + 1) y (some p) 3 c 3 i h := by
  intro q
  induction q with
  | zero =>
    intro i y hq hi hk
    unfold vt_colour_l0
    rw [if_neg (by omega)]
    exact hk
  | succ q ih =>
    intro i y hq hi hk
    unfold vt_colour_l0
    rw [if_pos (by omega)]
    unfold colL at hk
    have hte : ((i : Int)).toNat = i := by omega
    refine nz_i ⟨by omega, by omega, ⟨_, by rw [hte]; exact hd i (by omega), ?_⟩⟩
    show if 255 < l.getD (1 + i) 0 then _ else _
    by_cases h1 : 255 < l.getD (1 + i) 0
    · rw [if_pos h1] at hk ⊢
      exact hk
    · rw [if_neg h1] at hk ⊢
      rw [wrap64 (x := (i : Int) + 1) (by omega) (by omega), show (i : Int) + 1 = ((i + 1 : Nat) : Int) by omega]
      exact ih (i + 1) _ (by omega) (by omega) hk
theorem colour_sp {h : Heap} {a : Option Addr} {n c : Nat} {l : List Int} {K : Int → Int → Heap → Prop} (hb : IAt h a n l) (hc : n ≤ c) (hk : K (colourV l).1 (colourV l).2 h) : vt_colour a n c K h := by
  have hn := hb.1
  unfold vt_colour
  unfold colourV at hk
  by_cases h1 : 2 ≤ l.length
  · rw [if_pos h1] at hk
    rw [if_pos (by omega)]
    obtain ⟨p, hp, hd⟩ := hb.2 0 (by omega)
    obtain ⟨p', hp', hd'⟩ := hb.2 1 (by omega)
    obtain rfl : p = p' := Option.some.inj (hp.symm.trans hp')
    have hb2 := hb.2
    rw [hp]
    refine nz_i ⟨by omega, by omega, ⟨_, hd, ?_⟩⟩
    show if l.getD 0 0 = 5 then _ else _
    by_cases h2 : l.getD 0 0 = 5
    · rw [if_pos h2] at hk ⊢
      refine ⟨by omega, by omega, ⟨_, hd', ?_⟩⟩
      show if 255 < imax 0 (l.getD 1 0) then _ else _
      by_cases h3 : 255 < imax 0 (l.getD 1 0)
      · rw [if_pos h3] at hk ⊢
        exact hk
      · rw [if_neg h3] at hk ⊢
        exact hk
    rw [if_neg h2] at hk ⊢
    by_cases h3 : 4 ≤ l.length
    · rw [if_pos h3] at hk
      rw [if_pos (by omega)]
      refine ⟨by omega, by omega, ⟨_, hd, ?_⟩⟩
      show if l.getD 0 0 = 2 then _ else _
      by_cases h4 : l.getD 0 0 = 2
      · rw [if_pos h4] at hk ⊢
        refine ⟨by omega, by omega, ⟨4, ?_⟩⟩
        have e : cutA (some p) c (1 : Int).toNat 1 = some (p.add 1) := by
          unfold cutA
          rw [if_neg (show ¬ c = (1 : Int).toNat by show ¬ c = 1; omega)]
          rfl
        rw [e]
        refine colour_l0 (l := l) (fun i hi => ?_) 3 0 0 (by omega) (by omega) hk
        obtain ⟨p2, hp2, hd2⟩ := hb2 (1 + i) (by omega)
        obtain rfl : p = p2 := Option.some.inj (hp.symm.trans hp2)
        rw [addadd, show 1 + i * 1 = (1 + i) * 1 by omega]
        exact hd2
      · rw [if_neg h4] at hk ⊢
        exact hk
    · rw [if_neg h3] at hk
      rw [if_neg (by omega)]
      exact hk
  · rw [if_neg h1] at hk
    rw [if_neg (by omega), if_neg (by omega)]
    exact hk

/-! ### The pen -/
def marksL : List Int := [0, 1, 2, 4, 8, 16, 0, 32, 64, 128]
def pensL (l : List Int) : Nat → Nat → Scr → Scr
  | 0, _, S => S
  | q + 1, i, S =>
    if i < l.length then
    if imax 0 (l.getD i 0) = 0 then pensL l q (i + 1) (S.setPl { S.pl with fore := 0, back := 0, marks := 0 }) else
    if imax 0 (l.getD i 0) < 10 then pensL l q (i + 1) (S.setPl { S.pl with marks := iOr .i64 S.pl.marks (marksL.getD (imax 0 (l.getD i 0)).toNat 0) }) else
    if imax 0 (l.getD i 0) = 21 then pensL l q (i + 1) (S.setPl { S.pl with marks := iOr .i64 S.pl.marks 8 }) else
    if imax 0 (l.getD i 0) = 22 then pensL l q (i + 1) (S.setPl { S.pl with marks := iAndNot .i64 S.pl.marks 3 }) else
    if 23 ≤ imax 0 (l.getD i 0) ∧ imax 0 (l.getD i 0) ≤ 29 then pensL l q (i + 1) (S.setPl { S.pl with marks := iAndNot .i64 S.pl.marks (marksL.getD (imax 0 (l.getD i 0) - 20).toNat 0) }) else
    if 30 ≤ imax 0 (l.getD i 0) ∧ imax 0 (l.getD i 0) ≤ 37 then pensL l q (i + 1) (S.setPl { S.pl with fore := imax 0 (l.getD i 0) - 29 }) else
    if 40 ≤ imax 0 (l.getD i 0) ∧ imax 0 (l.getD i 0) ≤ 47 then pensL l q (i + 1) (S.setPl { S.pl with back := imax 0 (l.getD i 0) - 39 }) else
    if 90 ≤ imax 0 (l.getD i 0) ∧ imax 0 (l.getD i 0) ≤ 97 then pensL l q (i + 1) (S.setPl { S.pl with fore := imax 0 (l.getD i 0) - 81 }) else
    if 100 ≤ imax 0 (l.getD i 0) ∧ imax 0 (l.getD i 0) ≤ 107 then pensL l q (i + 1) (S.setPl { S.pl with back := imax 0 (l.getD i 0) - 91 }) else
    if imax 0 (l.getD i 0) = 39 then pensL l q (i + 1) (S.setPl { S.pl with fore := 0 }) else
    if imax 0 (l.getD i 0) = 49 then pensL l q (i + 1) (S.setPl { S.pl with back := 0 }) else
    if imax 0 (l.getD i 0) = 38 ∨ imax 0 (l.getD i 0) = 48 then
      if (colourV (l.drop (i + 1))).2 = 0 then S else
      if 0 ≤ (colourV (l.drop (i + 1))).1 ∧ imax 0 (l.getD i 0) = 38 then pensL l q (i + (colourV (l.drop (i + 1))).2.toNat + 1) (S.setPl { S.pl with fore := (colourV (l.drop (i + 1))).1 }) else
      if 0 ≤ (colourV (l.drop (i + 1))).1 then pensL l q (i + (colourV (l.drop (i + 1))).2.toNat + 1) (S.setPl { S.pl with back := (colourV (l.drop (i + 1))).1 }) else
      pensL l q (i + (colourV (l.drop (i + 1))).2.toNat + 1) S
    else pensL l q (i + 1) S else S
theorem Ok.pen {S : Scr} (o : Ok S) (f b m : Int) : Ok (S.setPl { S.pl with fore := f, back := b, marks := m }) := Ok.setPl (p := { S.pl with fore := f, back := b, marks := m }) o ⟨o.c.p.x0, o.c.p.x1, o.c.p.y0, o.c.p.y1⟩
theorem ite_ok {c : Prop} [Decidable c] {a b : Scr} (ha : c → Ok a) (hb : ¬c → Ok b) : Ok (if c then a else b) := by
  by_cases h : c
  · rw [if_pos h]; exact ha h
  · rw [if_neg h]; exact hb h
theorem ite_p {c : Prop} [Decidable c] {a b : Prop} (ha : c → a) (hb : ¬c → b) : if c then a else b := by
  by_cases h : c
  · rw [if_pos h]; exact ha h
  · rw [if_neg h]; exact hb h
theorem Ok.pensL (l : List Int) : ∀ (q i : Nat) (S : Scr), Ok S → Ok (pensL l q i S)
  | 0, _, S, o => o
  | q + 1, i, S, o => by
    unfold M.pensL
    refine ite_ok (fun _ => ?_) (fun _ => o)
    refine ite_ok (fun _ => Ok.pensL l q _ _ (o.pen _ _ _)) (fun _ => ?_)
    refine ite_ok (fun _ => Ok.pensL l q _ _ (o.pen _ _ _)) (fun _ => ?_)
    refine ite_ok (fun _ => Ok.pensL l q _ _ (o.pen _ _ _)) (fun _ => ?_)
    refine ite_ok (fun _ => Ok.pensL l q _ _ (o.pen _ _ _)) (fun _ => ?_)
    refine ite_ok (fun _ => Ok.pensL l q _ _ (o.pen _ _ _)) (fun _ => ?_)
    refine ite_ok (fun _ => Ok.pensL l q _ _ (o.pen _ _ _)) (fun _ => ?_)
    refine ite_ok (fun _ => Ok.pensL l q _ _ (o.pen _ _ _)) (fun _ => ?_)
    refine ite_ok (fun _ => Ok.pensL l q _ _ (o.pen _ _ _)) (fun _ => ?_)
    refine ite_ok (fun _ => Ok.pensL l q _ _ (o.pen _ _ _)) (fun _ => ?_)
    refine ite_ok (fun _ => Ok.pensL l q _ _ (o.pen _ _ _)) (fun _ => ?_)
    refine ite_ok (fun _ => Ok.pensL l q _ _ (o.pen _ _ _)) (fun _ => ?_)
    refine ite_ok (fun _ => ?_) (fun _ => Ok.pensL l q _ _ o)
    refine ite_ok (fun _ => o) (fun _ => ?_)
    refine ite_ok (fun _ => Ok.pensL l q _ _ (o.pen _ _ _)) (fun _ => ?_)
    refine ite_ok (fun _ => Ok.pensL l q _ _ (o.pen _ _ _)) (fun _ => ?_)
    exact Ok.pensL l q _ _ o
abbrev marksC : Array Value := #[.int .i64 0, .int .i64 1, .int .i64 2, .int .i64 4, .int .i64 8, .int .i64 16, .int .i64 0, .int .i64 32, .int .i64 64, .int .i64 128]
theorem marks_at {h : Heap} {b : Nat} (hb : Blk h b marksC 175) (i : Int) (h0 : 0 ≤ i) (h1 : i < 10) {K : Int → Prop} (hk : K (marksL.getD i.toNat 0)) : ldI h .i64 ⟨b, i.toNat * 1, none⟩ K := by
  rw [Nat.mul_one]
  refine ⟨_, hb.cell i.toNat ?_, hk⟩
  have : i.toNat < 10 := by omega
  generalize i.toNat = j at *
  match j, this with
  | 0, _ => rfl
  | 1, _ => rfl
  | 2, _ => rfl
  | 3, _ => rfl
  | 4, _ => rfl
  | 5, _ => rfl
  | 6, _ => rfl
  | 7, _ => rfl
  | 8, _ => rfl
  | 9, _ => rfl
  | n + 10, h => omega
theorem imax0 (x : Int) : 0 ≤ imax 0 x := by unfold imax; split <;> omega
theorem pens_l1 {h0 : Base} {s b : Nat} {o : Blks} {a : Option Addr} {n c : Nat} {l : List Int} {K : Heap → Prop} (hl : SlO nf 1 3 a n c l o) (hn : n ≤ 1000) :
    ∀ (q i : Nat) (S : Scr) (h : Heap), RepX h0 h s S (o ++ [(b, marksC, 175)]) → n ≤ q + i → (∀ h1, RepX h0 h1 s (pensL l q i S) (o ++ [(b, marksC, 175)]) → K h1) →
      vt_Screen_pens_l1 (fun h124 => K h124) (fun h126 => K h126) (q + 1) (some ⟨s, 0, none⟩) a n c b i h := by
  have hnl := hl.1
  have hnc := slo_cap hl
  intro q
  induction q with
  | zero =>
    intro i S h hs hq hk
    unfold vt_Screen_pens_l1
    rw [if_neg (by omega)]
    exact hk h hs
  | succ q ih =>
    intro i S h hs hq hk
    unfold vt_Screen_pens_l1
    unfold pensL at hk
    by_cases hi : i < l.length
    case neg =>
      rw [if_neg hi] at hk
      rw [if_neg (by omega)]
      exact hk h hs
    rw [if_pos hi] at hk
    rw [if_pos (by omega)]
    have hints := hs.ints hl
    obtain ⟨p, hp, hd⟩ := hints.2 i (by omega)
    have hte : ((i : Int)).toNat = i := by omega
    have hbk : Blk h b marksC 175 := by
      obtain ⟨A, oM, oO, oP, oT, oG, oK, oL, ho, hp⟩ := hs
      exact (ho.blk (b, marksC, 175) (by simp)).1
    subst hp
    refine nz_i ⟨by omega, by omega, ⟨_, by rw [hte]; exact hd, ?_⟩⟩
    simp only []
    have hx0 := imax0 (l.getD i 0)
    rw [wrap64 (x := (i : Int) + 1) (by omega) (by omega)]
    have e1 : (i : Int) + 1 = ((i + 1 : Nat) : Int) := by omega
    rw [e1]
    have hcut := hints.cut hnc (i + 1) (by omega)
    generalize imax 0 (l.getD i 0) = x at *
    refine ite_p (fun h1 => ?_) (fun h1 => ?_)
    · rw [if_pos h1] at hk
      refine nz_i ?_
      simp only [add0, Nat.zero_add]
      exact hs.stp { S.pl with fore := 0, back := 0, marks := 0 } (by simp) (fun A => by kernel_rfl) fun h2 hs2 => ih (i + 1) _ h2 hs2 (by omega) hk
    rw [if_neg h1] at hk
    refine ite_p (fun h2 => ?_) (fun h2 => ?_)
    · rw [if_pos h2] at hk
      refine nz_i ?_
      simp only [add0, Nat.zero_add]
      refine hs.ldi (fun A => rfl) ⟨hx0, h2, marks_at hbk x hx0 h2 ?_⟩
      exact hs.stp { S.pl with marks := iOr .i64 S.pl.marks (marksL.getD x.toNat 0) } (by simp) (fun A => by kernel_rfl) fun h2 hs2 => ih (i + 1) _ h2 hs2 (by omega) hk
    rw [if_neg h2] at hk
    refine ite_p (fun h3 => ?_) (fun h3 => ?_)
    · rw [if_pos h3] at hk
      refine nz_i ?_
      simp only [add0, Nat.zero_add]
      refine hs.ldi (fun A => rfl) ?_
      exact hs.stp { S.pl with marks := iOr .i64 S.pl.marks 8 } (by simp) (fun A => by kernel_rfl) fun h2 hs2 => ih (i + 1) _ h2 hs2 (by omega) hk
    rw [if_neg h3] at hk
    refine ite_p (fun h4 => ?_) (fun h4 => ?_)
    · rw [if_pos h4] at hk
      refine nz_i ?_
      simp only [add0, Nat.zero_add]
      refine hs.ldi (fun A => rfl) ?_
      exact hs.stp { S.pl with marks := iAndNot .i64 S.pl.marks 3 } (by simp) (fun A => by kernel_rfl) fun h2 hs2 => ih (i + 1) _ h2 hs2 (by omega) hk
    rw [if_neg h4] at hk
    refine ite_p (fun h5 => ?_) (fun h5 => ?_)
    · have h5 : 23 ≤ x ∧ x ≤ 29 := by simpa using h5
      rw [if_pos h5] at hk
      refine nz_i ?_
      simp only [add0, Nat.zero_add]
      rw [wrap64 (x := x - 20) (by omega) (by omega)]
      refine hs.ldi (fun A => rfl) ⟨by omega, by omega, marks_at hbk (x - 20) (by omega) (by omega) ?_⟩
      exact hs.stp { S.pl with marks := iAndNot .i64 S.pl.marks (marksL.getD (x - 20).toNat 0) } (by simp) (fun A => by kernel_rfl) fun h2 hs2 => ih (i + 1) _ h2 hs2 (by omega) hk
    rw [if_neg (by simpa using h5)] at hk
    refine ite_p (fun h6 => ?_) (fun h6 => ?_)
    · have h6 : 30 ≤ x ∧ x ≤ 37 := by simpa using h6
      rw [if_pos h6] at hk
      refine nz_i ?_
      simp only [add0, Nat.zero_add]
      rw [wrap64 (x := x - 29) (by omega) (by omega)]
      exact hs.stp { S.pl with fore := x - 29 } (by simp) (fun A => by kernel_rfl) fun h2 hs2 => ih (i + 1) _ h2 hs2 (by omega) hk
    rw [if_neg (by simpa using h6)] at hk
    refine ite_p (fun h7 => ?_) (fun h7 => ?_)
    · have h7 : 40 ≤ x ∧ x ≤ 47 := by simpa using h7
      rw [if_pos h7] at hk
      refine nz_i ?_
      simp only [add0, Nat.zero_add]
      rw [wrap64 (x := x - 39) (by omega) (by omega)]
      exact hs.stp { S.pl with back := x - 39 } (by simp) (fun A => by kernel_rfl) fun h2 hs2 => ih (i + 1) _ h2 hs2 (by omega) hk
    rw [if_neg (by simpa using h7)] at hk
    refine ite_p (fun h8 => ?_) (fun h8 => ?_)
    · have h8 : 90 ≤ x ∧ x ≤ 97 := by simpa using h8
      rw [if_pos h8] at hk
      refine nz_i ?_
      simp only [add0, Nat.zero_add]
      rw [wrap64 (x := x - 81) (by omega) (by omega)]
      exact hs.stp { S.pl with fore := x - 81 } (by simp) (fun A => by kernel_rfl) fun h2 hs2 => ih (i + 1) _ h2 hs2 (by omega) hk
    rw [if_neg (by simpa using h8)] at hk
    refine ite_p (fun h9 => ?_) (fun h9 => ?_)
    · have h9 : 100 ≤ x ∧ x ≤ 107 := by simpa using h9
      rw [if_pos h9] at hk
      refine nz_i ?_
      simp only [add0, Nat.zero_add]
      rw [wrap64 (x := x - 91) (by omega) (by omega)]
      exact hs.stp { S.pl with back := x - 91 } (by simp) (fun A => by kernel_rfl) fun h2 hs2 => ih (i + 1) _ h2 hs2 (by omega) hk
    rw [if_neg (by simpa using h9)] at hk
    refine ite_p (fun h10 => ?_) (fun h10 => ?_)
    · rw [if_pos h10] at hk
      refine nz_i ?_
      simp only [add0, Nat.zero_add]
      exact hs.stp { S.pl with fore := 0 } (by simp) (fun A => by kernel_rfl) fun h2 hs2 => ih (i + 1) _ h2 hs2 (by omega) hk
    rw [if_neg h10] at hk
    refine ite_p (fun h11 => ?_) (fun h11 => ?_)
    · rw [if_pos h11] at hk
      refine nz_i ?_
      simp only [add0, Nat.zero_add]
      exact hs.stp { S.pl with back := 0 } (by simp) (fun A => by kernel_rfl) fun h2 hs2 => ih (i + 1) _ h2 hs2 (by omega) hk
    rw [if_neg h11] at hk
    refine ite_p (fun h12 => ?_) (fun h12 => ?_)
    · have h12 : x = 38 ∨ x = 48 := by simpa using h12
      rw [if_pos h12] at hk
      refine ⟨by omega, by omega, ?_⟩
      rw [show (((i + 1 : Nat) : Int)).toNat = i + 1 by omega]
      refine colour_sp hcut (by omega) ?_
      have hu := colourV_used (l.drop (i + 1))
      generalize colourV (l.drop (i + 1)) = r at *
      by_cases h13 : r.2 = 0
      · rw [if_pos h13] at hk ⊢
        exact hk h hs
      rw [if_neg h13] at hk ⊢
      rw [wrap64 (x := (i : Int) + r.2) (by omega) (by omega), wrap64 (x := (i : Int) + r.2 + 1) (by omega) (by omega), show (i : Int) + r.2 + 1 = ((i + r.2.toNat + 1 : Nat) : Int) by omega]
      by_cases h14 : 0 ≤ r.1 ∧ x = 38
      · rw [if_pos h14] at hk
        rw [if_pos (by simpa using h14)]
        refine nz_i ?_
        simp only [add0, Nat.zero_add]
        exact hs.stp { S.pl with fore := r.1 } (by simp) (fun A => by kernel_rfl) fun h2 hs2 => ih _ _ h2 hs2 (by omega) hk
      rw [if_neg h14] at hk
      rw [if_neg (by simpa using h14)]
      by_cases h15 : 0 ≤ r.1
      · rw [if_pos h15] at hk ⊢
        refine nz_i ?_
        simp only [add0, Nat.zero_add]
        exact hs.stp { S.pl with back := r.1 } (by simp) (fun A => by kernel_rfl) fun h2 hs2 => ih _ _ h2 hs2 (by omega) hk
      · rw [if_neg h15] at hk ⊢
        exact ih _ _ h hs (by omega) hk
    · rw [if_neg (by simpa using h12)] at hk
      exact ih (i + 1) _ h hs (by omega) hk
def pensV (S : Scr) (l : List Int) : Scr := if l.length = 0 then pensL [0] 1 0 S else pensL l l.length 0 S
theorem Ok.pens {S : Scr} (o : Ok S) (l : List Int) : Ok (pensV S l) := by
  unfold pensV
  split <;> exact Ok.pensL _ _ _ _ o
theorem pens_j0 {h0 : Base} {h : Heap} {s : Nat} {S : Scr} {o : Blks} {a : Option Addr} {n c : Nat} {l : List Int} {K : Heap → Prop} (hs : RepX h0 h s S o) (hl : SlO nf 1 3 a n c l o) (hn : n ≤ 1000) (hk : ∀ h1, Rep h0 h1 s (pensL l n 0 S) → K h1) :
    vt_Screen_pens_j0 (fun h129 => K h129) (fun h131 => K h131) (some ⟨s, 0, none⟩) a n c h := by
  obtain ⟨A, oM, oO, oP, oT, oG, oK, oL, ho, hp⟩ := hs
  unfold vt_Screen_pens_j0
  refine newB_o ho fun b h1 ho1 => ?_
  refine st0 ho1 rfl fun h2 ho2 => ?_
  have ho2 : Own h0 h2 ((s, scrC S A, 80) :: (oM ++ (oO ++ (oP ++ (oT ++ (oG ++ (oK ++ (oL ++ (o ++ [(b, marksC, 175)]))))))))) := Own.perm (l := (b, marksC, 175) :: (s, scrC S A, 80) :: (oM ++ (oO ++ (oP ++ (oT ++ (oG ++ (oK ++ (oL ++ o)))))))) (own_cs ho2 (by kernel_rfl)) (by exact pc)
  have hs2 : RepX h0 h2 s S (o ++ [(b, marksC, 175)]) := ⟨A, oM, oO, oP, oT, oG, oK, oL, ho2, hp⟩
  exact ⟨n + 1, pens_l1 hl hn n 0 S h2 hs2 (by omega) fun h3 hs3 => hk h3 hs3.rep⟩
theorem pens_sp {h0 : Base} {h : Heap} {s : Nat} {S : Scr} {o : Blks} {a : Option Addr} {n c : Nat} {l : List Int} {K : Heap → Prop} (hs : RepX h0 h s S o) (hl : SlO nf 1 3 a n c l o) (hn : n ≤ 1000) (hk : ∀ h1, Rep h0 h1 s (pensV S l) → K h1) :
    vt_Screen_pens (some ⟨s, 0, none⟩) a n c K h := by
  have hnl := hl.1
  unfold vt_Screen_pens
  unfold pensV at hk
  by_cases h1 : l.length = 0
  · rw [if_pos h1] at hk
    rw [if_pos (by omega)]
    obtain ⟨A, oM, oO, oP, oT, oG, oK, oL, ho, hp⟩ := hs.rep
    refine newB_o ho fun b h1 ho1 => ?_
    have ho2 : Own h0 h1 ((s, scrC S A, 80) :: (oM ++ (oO ++ (oP ++ (oT ++ (oG ++ (oK ++ (oL ++ [(b, #[.int .i64 0], 3)])))))))) := ho1.perm (by exact pc)
    exact pens_j0 ⟨A, oM, oO, oP, oT, oG, oK, oL, ho2, hp⟩ (l := [0]) ⟨rfl, .inr ⟨b, _, [], rfl, rfl, rfl, rfl, Nat.le_refl _⟩⟩ (by omega) hk
  · rw [if_neg h1] at hk
    rw [if_neg (by omega)]
    rw [← hnl] at hk
    exact pens_j0 hs hl hn hk
end Go.Proofs.YthjdnhhifjpidaaGreatDoor.M
set_option maxRecDepth 100000
namespace Go.Proofs.YthjdnhhifjpidaaGreatDoor.M
open Go Go.Hp

/-! ### The tables -/
structure Tabs (h : Heap) : Prop where
  first : cellsAt h ⟨0, 0, none⟩ 0 (Pinned.utf8FirstZ.map fun x => .int .u8 (x : Nat))
  acc : cellsAt h ⟨1, 0, none⟩ 0 (tab1.flatMap tab1f)
  pow : PowH h
theorem PowH.ext {h h' : Heap} (hp : PowH h) (he : Ext h h') : PowH h' := by
  obtain ⟨t, fr, e⟩ := hp
  exact ⟨t, fr, (he.2.1 3 (Array.getElem?_eq_some_iff.1 e).1).trans e⟩
theorem Tabs.ext {h h' : Heap} (ht : Tabs h) (he : Ext h h') : Tabs h' := ⟨he.cellsAt ht.first, he.cellsAt ht.acc, ht.pow.ext he⟩

/-! ### A number in letters -/
def itoaV (a : Int) : ByteArray := ⟨(Lib.itoa a).toArray⟩
end Go.Proofs.YthjdnhhifjpidaaGreatDoor.M
set_option maxRecDepth 100000
namespace Go.Proofs.YthjdnhhifjpidaaGreatDoor.M
open Go Go.Hp

theorem itoa_sp {h : Heap} {a : Int} {K : ByteArray → Heap → Prop} (ht : Tabs h) (a0 : -1000 ≤ a) (a1 : a ≤ 1010) (hk : ∀ h1, Ext h h1 → K (itoaV a) h1) : strconv_Itoa a K h :=
  ⟨by omega, by omega, ht.pow, hk⟩
theorem itoaV_size (a : Int) (a0 : -1000 ≤ a) (a1 : a ≤ 1010) : (itoaV a).size ≤ 21 := by
  have := Lib.itoa_length_le a (by omega) (by omega)
  show (Lib.itoa a).toArray.size ≤ 21
  simpa using this
end Go.Proofs.YthjdnhhifjpidaaGreatDoor.M
set_option maxRecDepth 100000
namespace Go.Proofs.YthjdnhhifjpidaaGreatDoor.M
open Go Go.Hp

/-! ### Tab stops are set and cleared -/
theorem SlO.all {α : Type} {f : α → List Value} {sz : Nat} {t : TypeId} {a : Option Addr} {n c : Nat} {ks ks' : List α} {o pre l : Blks} {h0 : Base} {h : Heap} {K : Heap → Prop} (hf : ∀ k, (f k).length = sz) (hs : SlO f sz t a n c ks o) (ho : Own h0 h (pre ++ (o ++ l))) (hl : ks'.length = ks.length) {p : Addr} (hp : a = some p)
    (hK : ∀ h' o', Own h0 h' (pre ++ (o' ++ l)) → SlO f sz t a n c ks' o' → K h') : stN p (ks'.flatMap f) 0 h K := by
  obtain ⟨hn, ⟨_, h2, _, h4⟩ | ⟨b, cs, rest, rfl, h2, hcs, hr, hle⟩⟩ := hs
  · rw [h2] at hp; cases hp
  · obtain rfl : p = ⟨b, 0, none⟩ := Option.some.inj (hp.symm.trans h2)
    have hfl := flat_len f hf ks
    have hfl' := flat_len f hf ks'
    have hcl : cs.size = (ks.flatMap f).length + rest.length := by rw [← Array.length_toList, hcs, List.length_append]
    have hsame : (ks'.flatMap f).length = (ks.flatMap f).length := by rw [hfl, hfl', hl]
    refine stN_blk (Own.mid (x := (b, cs, t)) (by simpa using ho)).1 (show 0 + 0 + (ks'.flatMap f).length ≤ cs.size by omega) fun h1 hp1 => ?_
    refine hK h1 [(b, setL cs (0 + 0) (ks'.flatMap f), t)] (Own.putAt (l := pre) (l2 := l) (by simpa using ho) hp1) ⟨by omega, .inr ⟨b, _, rest, rfl, h2, ?_, hr, hle⟩⟩
    rw [Nat.add_zero, setL_toList _ _ _ (by omega), hcs, List.take_zero, List.nil_append, Nat.zero_add, hsame, List.drop_left]
def setTab (S : Scr) (x : Int) (b : Bool) : Scr := { S with tabs := S.tabs.set x.toNat b }
theorem Ok.setTab {S : Scr} (o : Ok S) (x : Int) (b : Bool) : Ok (setTab S x b) :=
  ⟨⟨o.d.w0, o.d.w1, o.d.h0, o.d.h1, o.d.m0, o.d.m1, o.d.past, o.d.main, o.d.other⟩, ⟨o.c.p, o.c.t0, o.c.tb, o.c.bh, by show ((S.tabs.set x.toNat b).length : Int) = S.w; rw [List.length_set]; exact o.c.tabs, o.c.gath, o.c.ans, o.c.hv0, o.c.hv1, o.c.km, o.c.ko⟩⟩
theorem Rep.tabset {h0 : Base} {h : Heap} {s : Nat} {S : Scr} {K : Heap → Prop} {b : Bool} (hs : Rep h0 h s S) (ok : Ok S)
    (hk : ∀ h1, Rep h0 h1 s (setTab S S.pl.x b) → K h1) : ldL h ⟨s, 21, none⟩ fun x28 x28n x28c => ldI h .i64 ⟨s, 9, none⟩ fun x32 => nz x28 fun p38 => 0 ≤ x32 ∧ x32 < (x28n : Int) ∧ stN (p38.add ((x32).toNat * 1)) [.bool b] 0 h K := by
  obtain ⟨A, oM, oO, oP, oT, oG, oK, oL, ho, hp⟩ := hs
  have hl := hp.4.1
  have ht := ok.c.tabs
  have x0 := ok.c.p.x0
  have x1 := ok.c.p.x1
  refine ldL0 ho rfl ?_
  refine ldI0 ho rfl ?_
  have hoA : Own h0 h (((s, scrC S A, 80) :: (oM ++ (oO ++ oP))) ++ (oT ++ (oG ++ (oK ++ oL)))) := by simpa using ho
  obtain ⟨p, hpp, d⟩ := SlO.get tf_len hp.4 hoA S.pl.x.toNat false (by omega)
  rw [hpp]
  refine nz_i ⟨x0, by show S.pl.x < _; omega, ?_⟩
  refine SlO.set tf_len hp.4 hoA S.pl.x.toNat b (by omega) hpp fun h2 o2 ho2 hs2 => ?_
  have ho2 : Own h0 h2 ((s, scrC S A, 80) :: (oM ++ (oO ++ (oP ++ (o2 ++ (oG ++ (oK ++ oL))))))) := by simpa using ho2
  have ho2 := own_cs (c' := scrC (setTab S S.pl.x b) A) ho2 (by kernel_rfl)
  exact hk h2 ⟨A, oM, oO, oP, o2, oG, oK, oL, ho2, hp.1, hp.2, hp.3, hs2, hp.5, hp.6, hp.7⟩
def noTabs (S : Scr) : Scr := { S with tabs := List.replicate S.tabs.length false }
theorem Ok.noTabs {S : Scr} (o : Ok S) : Ok (noTabs S) :=
  ⟨⟨o.d.w0, o.d.w1, o.d.h0, o.d.h1, o.d.m0, o.d.m1, o.d.past, o.d.main, o.d.other⟩, ⟨o.c.p, o.c.t0, o.c.tb, o.c.bh, by show ((List.replicate S.tabs.length false).length : Int) = S.w; rw [List.length_replicate]; exact o.c.tabs, o.c.gath, o.c.ans, o.c.hv0, o.c.hv1, o.c.km, o.c.ko⟩⟩
theorem Rep.tabclear {h0 : Base} {h : Heap} {s : Nat} {S : Scr} {K : Heap → Prop} (hs : Rep h0 h s S)
    (hk : ∀ h1, Rep h0 h1 s (noTabs S) → K h1) : ldL h ⟨s, 21, none⟩ fun x42 x42n x42c => clM h [.bool false] x42 x42n K := by
  obtain ⟨A, oM, oO, oP, oT, oG, oK, oL, ho, hp⟩ := hs
  have hl := hp.4.1
  refine ldL0 ho rfl ?_
  have hoA : Own h0 h (((s, scrC S A, 80) :: (oM ++ (oO ++ oP))) ++ (oT ++ (oG ++ (oK ++ oL)))) := by simpa using ho
  cases ha : A.t with
  | none =>
    have e : S.tabs = [] := by
      obtain ⟨_, ⟨_, _, _, e4⟩ | ⟨_, _, _, _, e2, _⟩⟩ := hp.4
      · exact e4
      · rw [ha] at e2; cases e2
    have : noTabs S = S := by
      have : List.replicate S.tabs.length false = S.tabs := by rw [e]; rfl
      show ({ S with tabs := List.replicate S.tabs.length false } : Scr) = S
      rw [this]
    rw [this] at hk
    exact hk h ⟨A, oM, oO, oP, oT, oG, oK, oL, ho, hp⟩
  | some p =>
    show stN p (zeros [.bool false] A.tn) 0 h K
    rw [show zeros [Value.bool false] A.tn = (List.replicate S.tabs.length false).flatMap tf by rw [rep_flat, hl]]
    refine SlO.all tf_len hp.4 hoA (by simp) ha fun h2 o2 ho2 hs2 => ?_
    have ho2 : Own h0 h2 ((s, scrC S A, 80) :: (oM ++ (oO ++ (oP ++ (o2 ++ (oG ++ (oK ++ oL))))))) := by simpa using ho2
    have ho2 := own_cs (c' := scrC (noTabs S) A) ho2 (by kernel_rfl)
    exact hk h2 ⟨A, oM, oO, oP, o2, oG, oK, oL, ho2, hp.1, hp.2, hp.3, hs2, hp.5, hp.6, hp.7⟩

/-! ### What is left of the control sequences -/
def repL : Nat → Scr → Scr
  | 0, S => S
  | q + 1, S => if S.last = 0 then S else repL q (writeV S S.last)
theorem Ok.repL : ∀ (q : Nat) (S : Scr), Ok S → Ok (repL q S)
  | 0, S, o => o
  | q + 1, S, o => by
    unfold M.repL
    split
    · exact o
    · exact Ok.repL q _ (o.write _)
theorem others_l0 {h0 : Base} {s : Nat} {n : Int} {K : Heap → Prop} (hn : n ≤ 100000) : ∀ (q : Nat) (S : Scr) (h : Heap) (i : Int), Rep h0 h s S → Ok S → 0 ≤ i → (n - i).toNat = q → (∀ h1, Rep h0 h1 s (repL q S) → K h1) → vt_Screen_others_l0 K (q + 1) (some ⟨s, 0, none⟩) n i h := by
  intro q
  induction q with
  | zero =>
    intro S h i hs o i0 hq hk
    unfold vt_Screen_others_l0
    rw [if_neg (by omega)]
    exact hk h hs
  | succ q ih =>
    intro S h i hs o i0 hq hk
    unfold vt_Screen_others_l0
    unfold repL at hk
    rw [if_pos (by omega)]
    refine nz_i ?_
    simp only [add0, Nat.zero_add]
    refine hs.ldi (v := S.last) (fun A => rfl) ?_
    by_cases h1 : S.last = 0
    · rw [if_pos h1] at hk ⊢
      exact hk h hs
    rw [if_neg h1] at hk ⊢
    refine hs.ldi (v := S.last) (fun A => rfl) ?_
    refine write_sp hs o fun h2 hs2 => ?_
    rw [wrap64 (by omega) (by omega)]
    exact ih _ h2 (i + 1) hs2 (o.write _) (by omega) (by omega) hk
def modesL (on : Bool) : List Int → Scr → Scr
  | [], S => S
  | m :: l, S => modesL on l (if m = 4 then { S with insert := on } else if m = 20 then { S with newline := on } else S)
theorem Ok.modesL (on : Bool) : ∀ (l : List Int) (S : Scr), Ok S → Ok (modesL on l S)
  | [], S, o => o
  | m :: l, S, o => by
    unfold M.modesL
    refine Ok.modesL on l _ ?_
    split
    · exact ⟨⟨o.d.w0, o.d.w1, o.d.h0, o.d.h1, o.d.m0, o.d.m1, o.d.past, o.d.main, o.d.other⟩, ⟨o.c.p, o.c.t0, o.c.tb, o.c.bh, o.c.tabs, o.c.gath, o.c.ans, o.c.hv0, o.c.hv1, o.c.km, o.c.ko⟩⟩
    split
    · exact ⟨⟨o.d.w0, o.d.w1, o.d.h0, o.d.h1, o.d.m0, o.d.m1, o.d.past, o.d.main, o.d.other⟩, ⟨o.c.p, o.c.t0, o.c.tb, o.c.bh, o.c.tabs, o.c.gath, o.c.ans, o.c.hv0, o.c.hv1, o.c.km, o.c.ko⟩⟩
    · exact o
theorem others_l2 {h0 : Base} {s : Nat} {b : Int} {ob : Blks} {a : Option Addr} {n c : Nat} {l : List Int} {K : Heap → Prop} (hl : SlO nf 1 3 a n c l ob) (hn : n ≤ 1000) :
    ∀ (q i : Nat) (S : Scr) (h : Heap), RepX h0 h s S (ob ++ []) → n - i = q → i ≤ n → (∀ h1, Rep h0 h1 s (modesL (decide (b = 104)) (l.drop i) S) → K h1) → vt_Screen_others_l2 K (q + 1) (some ⟨s, 0, none⟩) b a n c (n : Int) i h := by
  have hnl := hl.1
  intro q
  induction q with
  | zero =>
    intro i S h hs hq hi hk
    unfold vt_Screen_others_l2
    rw [if_neg (by omega)]
    rw [List.drop_of_length_le (by omega)] at hk
    exact hk h hs.rep
  | succ q ih =>
    intro i S h hs hq hi hk
    unfold vt_Screen_others_l2
    rw [if_pos (by omega)]
    obtain ⟨p, hp, hd⟩ := (hs.ints hl).2 i (by omega)
    have hte : ((i : Int)).toNat = i := by omega
    rw [List.drop_eq_getElem_cons (by omega)] at hk
    unfold modesL at hk
    have e : l.getD i 0 = l[i]'(by omega) := by rw [List.getD_eq_getElem?_getD, List.getElem?_eq_getElem (by omega)]; rfl
    rw [← e] at hk
    subst hp
    refine nz_i ⟨by omega, by omega, ⟨_, by rw [hte]; exact hd, ?_⟩⟩
    rw [wrap64 (by omega) (by omega), show (i : Int) + 1 = ((i + 1 : Nat) : Int) by omega]
    show if l.getD i 0 = 4 then _ else _
    by_cases h1 : l.getD i 0 = 4
    · rw [if_pos h1] at hk ⊢
      refine nz_i ?_
      simp only [add0, Nat.zero_add]
      obtain ⟨A, oM, oO, oP, oT, oG, oK, oL, ho, hp⟩ := hs
      refine st0 ho rfl fun h2 ho2 => ?_
      have hs2 : RepX h0 h2 s { S with insert := decide (b = 104) } (ob ++ []) := ⟨A, oM, oO, oP, oT, oG, oK, oL, by assumption, hp.1, hp.2, hp.3, hp.4, hp.5, hp.6, hp.7⟩
      exact ih (i + 1) _ h2 hs2 (by omega) (by omega) hk
    rw [if_neg h1] at hk ⊢
    by_cases h2 : l.getD i 0 = 20
    · rw [if_pos h2] at hk ⊢
      refine nz_i ?_
      simp only [add0, Nat.zero_add]
      obtain ⟨A, oM, oO, oP, oT, oG, oK, oL, ho, hp⟩ := hs
      refine st0 ho rfl fun h2 ho2 => ?_
      have hs2 : RepX h0 h2 s { S with newline := decide (b = 104) } (ob ++ []) := ⟨A, oM, oO, oP, oT, oG, oK, oL, by assumption, hp.1, hp.2, hp.3, hp.4, hp.5, hp.6, hp.7⟩
      exact ih (i + 1) _ h2 hs2 (by omega) (by omega) hk
    · rw [if_neg h2] at hk ⊢
      exact ih (i + 1) S h hs (by omega) (by omega) hk
theorem sendsV_ok {S : Scr} (o : Ok S) (t : ByteArray) : Ok (sendsV S t) := by
  unfold sendsV
  split
  · rename_i h
    exact ⟨⟨o.d.w0, o.d.w1, o.d.h0, o.d.h1, o.d.m0, o.d.m1, o.d.past, o.d.main, o.d.other⟩, ⟨o.c.p, o.c.t0, o.c.tb, o.c.bh, o.c.tabs, o.c.gath, by show (S.answer ++ t).size ≤ 4096; rw [ByteArray.size_append]; exact h, o.c.hv0, o.c.hv1, o.c.km, o.c.ko⟩⟩
  · exact o
def whereV (S : Scr) : Int := if S.pl.origin = true then S.pl.y + 1 - S.top else S.pl.y + 1
def toldV (S : Scr) (y : Int) : ByteArray := ((((⟨#[27, 91]⟩ : ByteArray) ++ itoaV y) ++ (⟨#[59]⟩ : ByteArray)) ++ itoaV (S.pl.x + 1)) ++ (⟨#[82]⟩ : ByteArray)
def tellsV (S : Scr) (first y : Int) : Scr := if first = 5 then sendsV S ⟨#[27, 91, 48, 110]⟩ else if first = 6 then sendsV S (toldV S y) else S
theorem Ok.tells {S : Scr} (o : Ok S) (f y : Int) : Ok (tellsV S f y) := by
  unfold tellsV
  split
  · exact sendsV_ok o _
  split
  · exact sendsV_ok o _
  · exact o
theorem others_j3 {h0 : Base} {h : Heap} {s : Nat} {S : Scr} {first y : Int} {K : Heap → Prop} (ht : Tabs h0.h) (hs : Rep h0 h s S) (o : Ok S) (y0 : -1000 ≤ y) (y1 : y ≤ 1010) (hk : ∀ h1, Rep h0 h1 s (tellsV S first y) → K h1) : vt_Screen_others_j3 K ⟨s, 0, none⟩ first y h := by
  have hx0 := o.c.p.x0
  have hx1 := o.c.p.x1
  have hw1 := o.d.w1
  unfold vt_Screen_others_j3
  unfold tellsV at hk
  by_cases h1 : first = 5
  · rw [if_pos h1] at hk ⊢
    exact sends_sp hs o.c.ans (by decide) hk
  rw [if_neg h1] at hk ⊢
  by_cases h2 : first = 6
  · rw [if_pos h2] at hk ⊢
    simp only [add0, Nat.zero_add]
    refine hs.ldi (v := S.pl.x) (fun A => rfl) ?_
    refine itoa_sp (ht.ext hs.ext) y0 y1 fun h3 he3 => ?_
    have hs3 := hs.gap he3
    have z1 : (itoaV y).size ≤ 21 := by first | exact itoaV_size y (by omega) (by omega) | (have := itoaV_size y; omega)
    have z2 : (itoaV (S.pl.x + 1)).size ≤ 21 := by first | exact itoaV_size (S.pl.x + 1) (by omega) (by omega) | (have := itoaV_size (S.pl.x + 1); omega)
    have t1 : (⟨#[27, 91]⟩ : ByteArray).size = 2 := rfl
    have t2 : (⟨#[59]⟩ : ByteArray).size = 1 := rfl
    have t3 : (⟨#[82]⟩ : ByteArray).size = 1 := rfl
    refine ⟨?_, by omega, by rw [ByteArray.size_append]; omega, ?_⟩
    · obtain ⟨A, oM, oO, oP, oT, oG, oK, oL, ho, hp⟩ := hs3
      exact ho.get0.cell 9 rfl
    rw [wrap64 (by omega) (by omega)]
    refine itoa_sp (ht.ext hs3.ext) (by omega) (by omega) fun h4 he4 => ⟨by simp only [ByteArray.size_append]; omega, by simp only [ByteArray.size_append]; omega, ?_⟩
    refine sends_sp (hs3.gap he4) o.c.ans ?_ hk
    simp only [ByteArray.size_append]
    omega
  · rw [if_neg h2] at hk ⊢
    exact hk h hs
def region (S : Scr) (n e : Int) : Scr := if n < e then homeV { S with top := n - 1, bottom := e - 1 } 1 1 else S
theorem Ok.region {S : Scr} (o : Ok S) {n e : Int} (hn : 1 ≤ n) (he : e ≤ S.h) : Ok (region S n e) := by
  unfold M.region
  split
  · have o1 : Ok { S with top := n - 1, bottom := e - 1 } := ⟨⟨o.d.w0, o.d.w1, o.d.h0, o.d.h1, o.d.m0, o.d.m1, o.d.past, o.d.main, o.d.other⟩, ⟨o.c.p, by show 0 ≤ n - 1; omega, by show n - 1 ≤ e - 1; omega, by show e - 1 < S.h; omega, o.c.tabs, o.c.gath, o.c.ans, o.c.hv0, o.c.hv1, o.c.km, o.c.ko⟩⟩
    exact o1.home 1 1
  · exact o
theorem others_j4 {h0 : Base} {h : Heap} {s : Nat} {S : Scr} {n e : Int} {K : Heap → Prop} (hs : Rep h0 h s S) (n0 : 0 ≤ n) (n1 : n ≤ 100000) (e0 : -10 ≤ e) (e1 : e ≤ 1000) (hk : ∀ h1, Rep h0 h1 s (region S n e) → K h1) : vt_Screen_others_j4 K ⟨s, 0, none⟩ n e h := by
  unfold vt_Screen_others_j4
  unfold region at hk
  by_cases h1 : n < e
  · rw [if_pos h1] at hk ⊢
    simp only [add0, Nat.zero_add]
    rw [wrap64 (x := n - 1) (by omega) (by omega), wrap64 (x := e - 1) (by omega) (by omega)]
    obtain ⟨A, oM, oO, oP, oT, oG, oK, oL, ho, hp⟩ := hs
    refine st0 ho rfl fun h2 ho2 => ?_
    refine st0 ho2 rfl fun h3 ho3 => ?_
    have hs3 : Rep h0 h3 s { S with top := n - 1, bottom := e - 1 } := ⟨A, oM, oO, oP, oT, oG, oK, oL, by assumption, hp.1, hp.2, hp.3, hp.4, hp.5, hp.6, hp.7⟩
    exact home_sp hs3 hk
  · rw [if_neg h1] at hk ⊢
    exact hk h hs
def endAt (S : Scr) (l : List Int) : Int := if atV l 1 S.h = 0 then S.h else if S.h < atV l 1 S.h then S.h else atV l 1 S.h
def others1 (S : Scr) (b : Int) (l : List Int) (n : Int) : Scr :=
  if b = 104 ∨ b = 108 then modesL (decide (b = 104)) l S else
  if b = 109 then pensV S l else
  if b = 110 then tellsV S (atV l 0 0) (whereV S) else
  if b = 99 then (if atV l 0 0 = 0 then sendsV S ⟨#[27, 91, 63, 49, 59, 50, 99]⟩ else S) else
  if b = 114 then region S n (endAt S l) else
  if b = 115 then unwait (keepCursorV S) else
  if b = 117 then backCursorV S else S
def othersV (S : Scr) (b : Int) (l : List Int) (n : Int) : Scr :=
  if b = 98 then repL n.toNat S else
  if b = 103 then (if atV l 0 0 = 0 then setTab S S.pl.x false else if atV l 0 0 = 3 then noTabs S else S) else others1 S b l n
theorem endAt_le (S : Scr) (l : List Int) : endAt S l ≤ S.h := by
  unfold endAt
  split
  · omega
  · split <;> omega
theorem Ok.others {S : Scr} (o : Ok S) (b : Int) (l : List Int) {n : Int} (hn : 1 ≤ n) : Ok (othersV S b l n) := by
  unfold othersV
  refine ite_ok (fun _ => Ok.repL _ _ o) (fun _ => ?_)
  refine ite_ok (fun _ => ite_ok (fun _ => o.setTab _ _) (fun _ => ite_ok (fun _ => o.noTabs) (fun _ => o))) (fun _ => ?_)
  unfold others1
  refine ite_ok (fun _ => Ok.modesL _ _ _ o) (fun _ => ?_)
  refine ite_ok (fun _ => o.pens l) (fun _ => ?_)
  refine ite_ok (fun _ => o.tells _ _) (fun _ => ?_)
  refine ite_ok (fun _ => ite_ok (fun _ => sendsV_ok o _) (fun _ => o)) (fun _ => ?_)
  refine ite_ok (fun _ => o.region hn (endAt_le S l)) (fun _ => ?_)
  refine ite_ok (fun _ => o.keepCursor.unwait) (fun _ => ?_)
  exact ite_ok (fun _ => o.backCursor) (fun _ => o)
theorem atV_ge (l : List Int) (i : Nat) (d : Int) (hd : 0 ≤ d) : 0 ≤ atV l i d := by
  unfold atV
  split
  · split
    · assumption
    · exact hd
  · exact hd
theorem others_j1 {h0 : Base} {h : Heap} {s : Nat} {S : Scr} {ob : Blks} {a : Option Addr} {n c : Nat} {l : List Int} {b m : Int} {q : Bool} {K : Heap → Prop} (ht : Tabs h0.h) (hs : RepX h0 h s S ob) (hl : SlO nf 1 3 a n c l ob) (o : Ok S) (hn : n ≤ 1000) (m0 : 1 ≤ m) (m1 : m ≤ 100000)
    (hq : q = decide (b = 104 ∨ b = 108)) (hk : ∀ h1, Rep h0 h1 s (others1 S b l m) → K h1) : vt_Screen_others_j1 K (some ⟨s, 0, none⟩) b a n c m (atV l 0 0) b q h := by
  have hnl := hl.1
  have y0 := o.c.p.y0
  have y1 := o.c.p.y1
  have hh0 := o.d.h0
  have hh1 := o.d.h1
  have ht0 := o.c.t0
  have htb := o.c.tb
  have hbh := o.c.bh
  have hsX : RepX h0 h s S (ob ++ []) := by rw [List.append_nil]; exact hs
  have hr := hs.rep
  unfold vt_Screen_others_j1
  unfold others1 at hk
  subst hq
  by_cases h1 : b = 104 ∨ b = 108
  · rw [if_pos h1] at hk
    rw [if_pos (by simpa using h1)]
    exact ⟨n + 1, others_l2 hl hn n 0 S h hsX (by omega) (by omega) hk⟩
  rw [if_neg h1] at hk
  rw [if_neg (by simpa using h1)]
  by_cases h2 : b = 109
  · rw [if_pos h2] at hk ⊢
    exact pens_sp hs hl hn hk
  rw [if_neg h2] at hk ⊢
  by_cases h3 : b = 110
  · rw [if_pos h3] at hk ⊢
    refine nz_i ?_
    simp only [add0, Nat.zero_add]
    refine hr.ldi (v := S.pl.y) (fun A => rfl) ?_
    refine hr.ldb (v := S.pl.origin) (fun A => rfl) ?_
    unfold whereV at hk
    rw [wrap64 (x := S.pl.y + 1) (by omega) (by omega)]
    by_cases h4 : S.pl.origin = true
    · rw [if_pos h4] at hk ⊢
      refine hr.ldi (v := S.top) (fun A => rfl) ?_
      rw [wrap64 (x := S.pl.y + 1 - S.top) (by omega) (by omega)]
      exact others_j3 ht hr o (by omega) (by omega) hk
    · rw [if_neg h4] at hk ⊢
      exact others_j3 ht hr o (by omega) (by omega) hk
  rw [if_neg h3] at hk ⊢
  by_cases h4 : b = 99
  · rw [if_pos h4] at hk ⊢
    by_cases h5 : atV l 0 0 = 0
    · rw [if_pos h5] at hk ⊢
      exact sends_sp hr o.c.ans (by decide) hk
    · rw [if_neg h5] at hk ⊢
      exact hk h hr
  rw [if_neg h4] at hk ⊢
  by_cases h5 : b = 114
  · rw [if_pos h5] at hk ⊢
    refine nz_i ?_
    simp only [add0, Nat.zero_add]
    refine hr.ldi (v := S.h) (fun A => rfl) ?_
    refine at_sp (hsX.ints hl) 1 ?_
    have hge := atV_ge l 1 S.h (by omega)
    unfold endAt at hk
    by_cases h6 : atV l 1 S.h = 0
    · rw [if_pos h6] at hk ⊢
      refine hr.ldi (v := S.h) (fun A => rfl) ?_
      exact others_j4 hr (by omega) m1 (by omega) (by omega) hk
    rw [if_neg h6] at hk ⊢
    refine hr.ldi (v := S.h) (fun A => rfl) ?_
    by_cases h7 : S.h < atV l 1 S.h
    · rw [if_pos h7] at hk ⊢
      refine hr.ldi (v := S.h) (fun A => rfl) ?_
      exact others_j4 hr (by omega) m1 (by omega) (by omega) hk
    · rw [if_neg h7] at hk ⊢
      exact others_j4 hr (by omega) m1 (by omega) (by omega) hk
  rw [if_neg h5] at hk ⊢
  by_cases h6 : b = 115
  · rw [if_pos h6] at hk ⊢
    refine keepCursor_sp hr fun h7 hs7 => nz_i ?_
    simp only [add0, Nat.zero_add]
    exact unwait_st hs7 hk
  rw [if_neg h6] at hk ⊢
  by_cases h7 : b = 117
  · rw [if_pos h7] at hk ⊢
    exact backCursor_sp hr hk
  · rw [if_neg h7] at hk ⊢
    exact hk h hr
theorem others_sp {h0 : Base} {h : Heap} {s : Nat} {S : Scr} {ob : Blks} {a : Option Addr} {n c : Nat} {l : List Int} {b m : Int} {K : Heap → Prop} (ht : Tabs h0.h) (hs : RepX h0 h s S ob) (hl : SlO nf 1 3 a n c l ob) (o : Ok S) (hn : n ≤ 1000) (m0 : 1 ≤ m) (m1 : m ≤ 100000)
    (hk : ∀ h1, Rep h0 h1 s (othersV S b l m) → K h1) : vt_Screen_others (some ⟨s, 0, none⟩) b a n c m K h := by
  have hsX : RepX h0 h s S (ob ++ []) := by rw [List.append_nil]; exact hs
  have hr := hs.rep
  unfold vt_Screen_others
  unfold othersV at hk
  refine at_sp (hsX.ints hl) 0 ?_
  by_cases h1 : b = 98
  · rw [if_pos h1] at hk ⊢
    exact ⟨m.toNat + 1, others_l0 m1 m.toNat S h 0 hr o (by omega) (by omega) hk⟩
  rw [if_neg h1] at hk ⊢
  by_cases h2 : b = 103
  · rw [if_pos h2] at hk ⊢
    by_cases h3 : atV l 0 0 = 0
    · rw [if_pos h3] at hk ⊢
      refine nz_i ?_
      simp only [add0, Nat.zero_add]
      exact hr.tabset (b := false) (K := K) o hk
    rw [if_neg h3] at hk ⊢
    by_cases h4 : atV l 0 0 = 3
    · rw [if_pos h4] at hk ⊢
      refine nz_i ?_
      simp only [add0, Nat.zero_add]
      exact hr.tabclear hk
    · rw [if_neg h4] at hk ⊢
      exact hk h hr
  rw [if_neg h2] at hk ⊢
  by_cases h3 : b = 104
  · rw [if_pos h3]
    exact others_j1 ht hs hl o hn m0 m1 (by simp [h3]) hk
  · rw [if_neg h3]
    exact others_j1 ht hs hl o hn m0 m1 (by simp [h3]) hk
end Go.Proofs.YthjdnhhifjpidaaGreatDoor.M
set_option maxRecDepth 100000
namespace Go.Proofs.YthjdnhhifjpidaaGreatDoor.M
open Go Go.Hp

/-! ### A control sequence without a mark -/
def plain4 (S : Scr) (b : Int) (l : List Int) (n : Int) : Scr :=
  if b = 74 ∨ b = 75 then clearsV S b (atV l 0 0) else
  if b = 76 ∨ b = 77 then lines1V S b n else
  if b = 64 ∨ b = 80 ∨ b = 88 then placesV S b n else
  if b = 83 then unwait (upV S S.top S.bottom n true) else
  if b = 84 then unwait (downV S S.top S.bottom n) else othersV S b l n
def plain2 (S : Scr) (b : Int) (l : List Int) (n : Int) : Scr :=
  if b = 71 ∨ b = 96 then toV S (n - 1) S.pl.y else
  if b = 72 ∨ b = 102 then homeV S n (imax 1 (atV l 1 1)) else
  if b = 100 then homeV S n (S.pl.x + 1) else
  if b = 73 then tabV S n else
  if b = 90 then backV S n else plain4 S b l n
def plain1 (S : Scr) (b : Int) (l : List Int) (n : Int) : Scr :=
  if b = 65 then rowsUpV S n else
  if b = 66 ∨ b = 101 then rowsDownV S n else
  if b = 67 ∨ b = 97 then toV S (S.pl.x + n) S.pl.y else
  if b = 68 then toV S (S.pl.x - n) S.pl.y else
  if b = 69 then toV (rowsDownV S n) 0 (rowsDownV S n).pl.y else
  if b = 70 then toV (rowsUpV S n) 0 (rowsUpV S n).pl.y else plain2 S b l n
def plainV (S : Scr) (b : Int) (l : List Int) : Scr := plain1 S b l (imax 1 (atV l 0 1))
theorem imax1 (x : Int) : 1 ≤ imax 1 x := by unfold imax; split <;> omega
theorem Ok.plain {S : Scr} (o : Ok S) (b : Int) (l : List Int) : Ok (plainV S b l) := by
  unfold plainV
  have hn := imax1 (atV l 0 1)
  generalize imax 1 (atV l 0 1) = n at *
  unfold plain1
  refine ite_ok (fun _ => o.rowsUp _) (fun _ => ?_)
  refine ite_ok (fun _ => o.rowsDown _) (fun _ => ?_)
  refine ite_ok (fun _ => o.to _ _) (fun _ => ?_)
  refine ite_ok (fun _ => o.to _ _) (fun _ => ?_)
  refine ite_ok (fun _ => (o.rowsDown _).to _ _) (fun _ => ?_)
  refine ite_ok (fun _ => (o.rowsUp _).to _ _) (fun _ => ?_)
  unfold plain2
  refine ite_ok (fun _ => o.to _ _) (fun _ => ?_)
  refine ite_ok (fun _ => o.home _ _) (fun _ => ?_)
  refine ite_ok (fun _ => o.home _ _) (fun _ => ?_)
  refine ite_ok (fun _ => o.tab _) (fun _ => ?_)
  refine ite_ok (fun _ => o.back _) (fun _ => ?_)
  unfold plain4
  refine ite_ok (fun _ => o.clears _ _) (fun _ => ?_)
  refine ite_ok (fun _ => o.lines1 _ _) (fun _ => ?_)
  refine ite_ok (fun _ => o.places _ (by omega)) (fun _ => ?_)
  refine ite_ok (fun _ => (o.up o.c.t0 o.c.tb o.c.bh).unwait) (fun _ => ?_)
  refine ite_ok (fun _ => (o.down o.c.t0 o.c.tb o.c.bh).unwait) (fun _ => ?_)
  exact o.others b l hn
section
variable {h0 : Base} {h : Heap} {s : Nat} {S : Scr} {ob : Blks} {a : Option Addr} {n c : Nat} {l : List Int} {b m : Int} {q : Bool} {K : Heap → Prop}
theorem plain_j6 (ht : Tabs h0.h) (hs : RepX h0 h s S ob) (hl : SlO nf 1 3 a n c l ob) (o : Ok S) (hn : n ≤ 1000) (m0 : 1 ≤ m) (m1 : m ≤ 100000) (h1 : ¬ (b = 74 ∨ b = 75)) (h2 : ¬ (b = 76 ∨ b = 77)) (hq : q = decide (b = 64 ∨ b = 80 ∨ b = 88)) (hk : ∀ h1, Rep h0 h1 s (plain4 S b l m) → K h1) :
    vt_Screen_plain_j6 K (some ⟨s, 0, none⟩) b a n c m b q h := by
  have hr := hs.rep
  unfold vt_Screen_plain_j6
  unfold plain4 at hk
  rw [if_neg h1, if_neg h2] at hk
  subst hq
  by_cases h3 : b = 64 ∨ b = 80 ∨ b = 88
  · rw [if_pos h3] at hk
    rw [if_pos (by simpa using h3)]
    exact places_sp hr o (by omega) m1 hk
  rw [if_neg h3] at hk
  rw [if_neg (by simpa using h3)]
  by_cases h4 : b = 83
  · rw [if_pos h4] at hk ⊢
    refine nz_i ?_
    simp only [add0, Nat.zero_add]
    refine hr.ldi (v := S.top) (fun A => rfl) ?_
    refine hr.ldi (v := S.bottom) (fun A => rfl) ?_
    exact up_sp hr o.d o.c.t0 o.c.tb o.c.bh fun h5 hs5 => unwait_st hs5 hk
  rw [if_neg h4] at hk ⊢
  by_cases h5 : b = 84
  · rw [if_pos h5] at hk ⊢
    refine nz_i ?_
    simp only [add0, Nat.zero_add]
    refine hr.ldi (v := S.top) (fun A => rfl) ?_
    refine hr.ldi (v := S.bottom) (fun A => rfl) ?_
    exact down_sp hr o.d o.c.t0 o.c.tb o.c.bh fun h5 hs5 => unwait_st hs5 hk
  rw [if_neg h5] at hk ⊢
  exact others_sp ht hs hl o hn m0 m1 hk
theorem plain_j5 (ht : Tabs h0.h) (hs : RepX h0 h s S ob) (hl : SlO nf 1 3 a n c l ob) (o : Ok S) (hn : n ≤ 1000) (m0 : 1 ≤ m) (m1 : m ≤ 100000) (h1 : ¬ (b = 74 ∨ b = 75)) (hq : q = decide (b = 76 ∨ b = 77)) (hk : ∀ h1, Rep h0 h1 s (plain4 S b l m) → K h1) :
    vt_Screen_plain_j5 K (some ⟨s, 0, none⟩) b a n c m b q h := by
  have hr := hs.rep
  have hk0 := hk
  unfold vt_Screen_plain_j5
  unfold plain4 at hk
  rw [if_neg h1] at hk
  subst hq
  by_cases h3 : b = 76 ∨ b = 77
  · rw [if_pos h3] at hk
    rw [if_pos (by simpa using h3)]
    exact lines1_sp hr o hk
  rw [if_neg (by simpa using h3)]
  by_cases h4 : b = 64
  · rw [if_pos h4]
    exact plain_j6 ht hs hl o hn m0 m1 h1 h3 (by simp [h4]) hk0
  rw [if_neg h4]
  by_cases h5 : b = 80
  · rw [if_pos h5]
    exact plain_j6 ht hs hl o hn m0 m1 h1 h3 (by simp [h5]) hk0
  · rw [if_neg h5]
    exact plain_j6 ht hs hl o hn m0 m1 h1 h3 (by simp [h4, h5]) hk0
theorem plain_j4 (ht : Tabs h0.h) (hs : RepX h0 h s S ob) (hl : SlO nf 1 3 a n c l ob) (o : Ok S) (hn : n ≤ 1000) (m0 : 1 ≤ m) (m1 : m ≤ 100000) (hq : q = decide (b = 74 ∨ b = 75)) (hk : ∀ h1, Rep h0 h1 s (plain4 S b l m) → K h1) :
    vt_Screen_plain_j4 K (some ⟨s, 0, none⟩) b a n c m b q h := by
  have hsX : RepX h0 h s S (ob ++ []) := by rw [List.append_nil]; exact hs
  have hr := hs.rep
  have hk0 := hk
  unfold vt_Screen_plain_j4
  unfold plain4 at hk
  subst hq
  by_cases h3 : b = 74 ∨ b = 75
  · rw [if_pos h3] at hk
    rw [if_pos (by simpa using h3)]
    refine at_sp (hsX.ints hl) 0 ?_
    exact clears_sp hr o hk
  rw [if_neg (by simpa using h3)]
  by_cases h4 : b = 76
  · rw [if_pos h4]
    exact plain_j5 ht hs hl o hn m0 m1 h3 (by simp [h4]) hk0
  · rw [if_neg h4]
    exact plain_j5 ht hs hl o hn m0 m1 h3 (by simp [h4]) hk0
theorem plain_j3 (ht : Tabs h0.h) (hs : RepX h0 h s S ob) (hl : SlO nf 1 3 a n c l ob) (o : Ok S) (hn : n ≤ 1000) (m0 : 1 ≤ m) (m1 : m ≤ 100000) (h1 : ¬ (b = 71 ∨ b = 96)) (hq : q = decide (b = 72 ∨ b = 102)) (hk : ∀ h1, Rep h0 h1 s (plain2 S b l m) → K h1) :
    vt_Screen_plain_j3 K (some ⟨s, 0, none⟩) b a n c m b q h := by
  have hsX : RepX h0 h s S (ob ++ []) := by rw [List.append_nil]; exact hs
  have hr := hs.rep
  have hx0 := o.c.p.x0
  have hx1 := o.c.p.x1
  have hw1 := o.d.w1
  unfold vt_Screen_plain_j3
  unfold plain2 at hk
  rw [if_neg h1] at hk
  subst hq
  by_cases h3 : b = 72 ∨ b = 102
  · rw [if_pos h3] at hk
    rw [if_pos (by simpa using h3)]
    refine at_sp (hsX.ints hl) 1 ?_
    exact home_sp hr hk
  rw [if_neg h3] at hk
  rw [if_neg (by simpa using h3)]
  by_cases h4 : b = 100
  · rw [if_pos h4] at hk ⊢
    refine nz_i ?_
    simp only [add0, Nat.zero_add]
    refine hr.ldi (v := S.pl.x) (fun A => rfl) ?_
    rw [wrap64 (x := S.pl.x + 1) (by omega) (by omega)]
    exact home_sp hr hk
  rw [if_neg h4] at hk ⊢
  by_cases h5 : b = 73
  · rw [if_pos h5] at hk ⊢
    exact tab_sp hr o (by omega) hk
  rw [if_neg h5] at hk ⊢
  by_cases h6 : b = 90
  · rw [if_pos h6] at hk ⊢
    exact back_sp hr o (by omega) hk
  rw [if_neg h6] at hk ⊢
  by_cases h7 : b = 74
  · rw [if_pos h7]
    exact plain_j4 ht hs hl o hn m0 m1 (by simp [h7]) hk
  · rw [if_neg h7]
    exact plain_j4 ht hs hl o hn m0 m1 (by simp [h7]) hk
theorem plain_j2 (ht : Tabs h0.h) (hs : RepX h0 h s S ob) (hl : SlO nf 1 3 a n c l ob) (o : Ok S) (hn : n ≤ 1000) (m0 : 1 ≤ m) (m1 : m ≤ 100000) (hq : q = decide (b = 71 ∨ b = 96)) (hk : ∀ h1, Rep h0 h1 s (plain2 S b l m) → K h1) :
    vt_Screen_plain_j2 K (some ⟨s, 0, none⟩) b a n c m b q h := by
  have hr := hs.rep
  have hk0 := hk
  unfold vt_Screen_plain_j2
  unfold plain2 at hk
  subst hq
  by_cases h3 : b = 71 ∨ b = 96
  · rw [if_pos h3] at hk
    rw [if_pos (by simpa using h3)]
    refine nz_i ?_
    simp only [add0, Nat.zero_add]
    refine hr.ldi (v := S.pl.y) (fun A => rfl) ?_
    rw [wrap64 (x := m - 1) (by omega) (by omega)]
    exact to_sp hr hk
  rw [if_neg (by simpa using h3)]
  by_cases h4 : b = 72
  · rw [if_pos h4]
    exact plain_j3 ht hs hl o hn m0 m1 h3 (by simp [h4]) hk0
  · rw [if_neg h4]
    exact plain_j3 ht hs hl o hn m0 m1 h3 (by simp [h4]) hk0
theorem plain_j1 (ht : Tabs h0.h) (hs : RepX h0 h s S ob) (hl : SlO nf 1 3 a n c l ob) (o : Ok S) (hn : n ≤ 1000) (m0 : 1 ≤ m) (m1 : m ≤ 100000) (h1 : ¬ b = 65) (h2 : ¬ (b = 66 ∨ b = 101)) (hq : q = decide (b = 67 ∨ b = 97)) (hk : ∀ h1, Rep h0 h1 s (plain1 S b l m) → K h1) :
    vt_Screen_plain_j1 K (some ⟨s, 0, none⟩) b a n c m b q h := by
  have hr := hs.rep
  have hx0 := o.c.p.x0
  have hx1 := o.c.p.x1
  have hw1 := o.d.w1
  unfold vt_Screen_plain_j1
  unfold plain1 at hk
  rw [if_neg h1, if_neg h2] at hk
  subst hq
  by_cases h3 : b = 67 ∨ b = 97
  · rw [if_pos h3] at hk
    rw [if_pos (by simpa using h3)]
    refine nz_i ?_
    simp only [add0, Nat.zero_add]
    refine hr.ldi (v := S.pl.x) (fun A => rfl) ?_
    refine hr.ldi (v := S.pl.y) (fun A => rfl) ?_
    rw [wrap64 (x := S.pl.x + m) (by omega) (by omega)]
    exact to_sp hr hk
  rw [if_neg h3] at hk
  rw [if_neg (by simpa using h3)]
  by_cases h4 : b = 68
  · rw [if_pos h4] at hk ⊢
    refine nz_i ?_
    simp only [add0, Nat.zero_add]
    refine hr.ldi (v := S.pl.x) (fun A => rfl) ?_
    refine hr.ldi (v := S.pl.y) (fun A => rfl) ?_
    rw [wrap64 (x := S.pl.x - m) (by omega) (by omega)]
    exact to_sp hr hk
  rw [if_neg h4] at hk ⊢
  by_cases h5 : b = 69
  · rw [if_pos h5] at hk ⊢
    refine rowsDown_sp hr fun h6 hs6 => nz_i ?_
    simp only [add0, Nat.zero_add]
    refine hs6.ldi (v := (rowsDownV S m).pl.y) (fun A => rfl) ?_
    exact to_sp hs6 hk
  rw [if_neg h5] at hk ⊢
  by_cases h6 : b = 70
  · rw [if_pos h6] at hk ⊢
    refine rowsUp_sp hr fun h6 hs6 => nz_i ?_
    simp only [add0, Nat.zero_add]
    refine hs6.ldi (v := (rowsUpV S m).pl.y) (fun A => rfl) ?_
    exact to_sp hs6 hk
  rw [if_neg h6] at hk ⊢
  by_cases h7 : b = 71
  · rw [if_pos h7]
    exact plain_j2 ht hs hl o hn m0 m1 (by simp [h7]) hk
  · rw [if_neg h7]
    exact plain_j2 ht hs hl o hn m0 m1 (by simp [h7]) hk
theorem plain_j0 (ht : Tabs h0.h) (hs : RepX h0 h s S ob) (hl : SlO nf 1 3 a n c l ob) (o : Ok S) (hn : n ≤ 1000) (m0 : 1 ≤ m) (m1 : m ≤ 100000) (h1 : ¬ b = 65) (hq : q = decide (b = 66 ∨ b = 101)) (hk : ∀ h1, Rep h0 h1 s (plain1 S b l m) → K h1) :
    vt_Screen_plain_j0 K (some ⟨s, 0, none⟩) b a n c m b q h := by
  have hr := hs.rep
  have hk0 := hk
  unfold vt_Screen_plain_j0
  unfold plain1 at hk
  rw [if_neg h1] at hk
  subst hq
  by_cases h3 : b = 66 ∨ b = 101
  · rw [if_pos h3] at hk
    rw [if_pos (by simpa using h3)]
    exact rowsDown_sp hr hk
  rw [if_neg (by simpa using h3)]
  by_cases h4 : b = 67
  · rw [if_pos h4]
    exact plain_j1 ht hs hl o hn m0 m1 h1 h3 (by simp [h4]) hk0
  · rw [if_neg h4]
    exact plain_j1 ht hs hl o hn m0 m1 h1 h3 (by simp [h4]) hk0
theorem plain_sp (ht : Tabs h0.h) (hs : RepX h0 h s S ob) (hl : SlO nf 1 3 a n c l ob) (o : Ok S) (hn : n ≤ 1000) (hm : atV l 0 1 ≤ 100000) (hk : ∀ h1, Rep h0 h1 s (plainV S b l) → K h1) : vt_Screen_plain (some ⟨s, 0, none⟩) b a n c K h := by
  have hsX : RepX h0 h s S (ob ++ []) := by rw [List.append_nil]; exact hs
  have hr := hs.rep
  unfold vt_Screen_plain
  unfold plainV at hk
  refine at_sp (hsX.ints hl) 0 ?_
  have m0 := imax1 (atV l 0 1)
  have m1 : imax 1 (atV l 0 1) ≤ 100000 := by unfold imax; split <;> omega
  generalize imax 1 (atV l 0 1) = m at *
  have hk0 := hk
  unfold plain1 at hk
  by_cases h1 : b = 65
  · rw [if_pos h1] at hk ⊢
    exact rowsUp_sp hr hk
  rw [if_neg h1]
  by_cases h2 : b = 66
  · rw [if_pos h2]
    exact plain_j0 ht hs hl o hn m0 m1 h1 (by simp [h2]) hk0
  · rw [if_neg h2]
    exact plain_j0 ht hs hl o hn m0 m1 h1 (by simp [h2]) hk0
end
end Go.Proofs.YthjdnhhifjpidaaGreatDoor.M
set_option maxRecDepth 100000
namespace Go.Proofs.YthjdnhhifjpidaaGreatDoor.M
open Go Go.Hp

/-! ### What the numbers may be -/
theorem imin_le (a b : Int) : imin a b ≤ a := by unfold imin; split <;> omega
theorem numsL_le (g : List Int) : ∀ (q i : Nat) (out : List Int) (n : Int), (∀ x ∈ out, x ≤ 9999) → n ≤ 9999 → (∀ x ∈ (numsL g q i out n).1, x ≤ 9999) ∧ (numsL g q i out n).2 ≤ 9999
  | 0, _, out, n, h1, h2 => ⟨h1, h2⟩
  | q + 1, i, out, n, h1, h2 => by
    have h3 : ∀ x ∈ out ++ [n], x ≤ 9999 := by
      intro x hx
      rcases List.mem_append.1 hx with h | h
      · exact h1 x h
      · rw [List.mem_singleton.1 h]; exact h2
    unfold numsL
    split
    · exact numsL_le g q (i + 1) _ _ h3 (by omega)
    · split
      · exact numsL_le g q (i + 1) _ _ h3 (by omega)
      · exact numsL_le g q (i + 1) _ _ h1 (imin_le _ _)
theorem numbers0_le (mk : Int) (g : List Int) : (∀ x ∈ (numbers0 mk g).2.1, x ≤ 9999) ∧ (numbers0 mk g).2.1.length ≤ g.length + 1 := by
  have h1 := numsL_le g (endV g g.length 0) 0 [] (-1) (fun x hx => by cases hx) (by omega)
  have h2 := numsL_len g (endV g g.length 0) 0 [] (-1)
  have h3 := endV_le g g.length 0
  simp only [List.length_nil] at h2
  unfold numbers0
  split
  · exact ⟨fun x hx => absurd (show x ∈ [] from hx) (by simp), Nat.zero_le _⟩
  · split
    · refine ⟨fun x hx => ?_, by simp only [List.length_append, List.length_singleton]; omega⟩
      rcases List.mem_append.1 hx with h | h
      · exact h1.1 x h
      · rw [List.mem_singleton.1 h]; exact h1.2
    · exact ⟨h1.1, by show (numsL g (endV g g.length 0) 0 [] (-1)).1.length ≤ g.length + 1; omega⟩
theorem numbersV_le (g : List Int) : (∀ x ∈ (numbersV g).2.1, x ≤ 9999) ∧ (numbersV g).2.1.length ≤ g.length + 1 := by
  unfold numbersV
  split
  · have h := numbers0_le (g.getD 0 0) (g.drop 1)
    rw [List.length_drop] at h
    exact ⟨h.1, by omega⟩
  · exact numbers0_le 0 g
theorem atV_le {l : List Int} (hl : ∀ x ∈ l, x ≤ 9999) (i : Nat) {d : Int} (hd : d ≤ 9999) : atV l i d ≤ 9999 := by
  unfold atV
  split
  · split
    · rename_i h1 h2
      refine hl _ ?_
      rw [List.getD_eq_getElem?_getD, List.getElem?_eq_getElem h1]
      exact List.getElem_mem _
    · exact hd
  · exact hd

/-! ### A control sequence -/
def privL (on : Bool) : List Int → Scr → Scr
  | [], S => S
  | m :: l, S => privL on l (privateV S m on)
theorem Ok.privL (on : Bool) : ∀ (l : List Int) (S : Scr), Ok S → Ok (privL on l S)
  | [], S, o => o
  | m :: l, S, o => Ok.privL on l _ (o.private m on)
def controlledV (S : Scr) (b : Int) : Scr :=
  if (numbersV S.gathered).2.2.2 = true then
    if (numbersV S.gathered).1 = 63 ∧ (numbersV S.gathered).2.2.1 = ⟨#[]⟩ ∧ (b = 104 ∨ b = 108) then privL (decide (b = 104)) (numbersV S.gathered).2.1 S else
    if (numbersV S.gathered).1 = 0 ∧ (numbersV S.gathered).2.2.1 = ⟨#[33]⟩ ∧ b = 112 then softV S else
    if (numbersV S.gathered).1 = 0 ∧ (numbersV S.gathered).2.2.1 = ⟨#[]⟩ then plainV S b (numbersV S.gathered).2.1 else S
  else S
theorem Ok.controlled {S : Scr} (o : Ok S) (b : Int) : Ok (controlledV S b) := by
  unfold controlledV
  refine ite_ok (fun _ => ?_) (fun _ => o)
  refine ite_ok (fun _ => Ok.privL _ _ _ o) (fun _ => ?_)
  refine ite_ok (fun _ => o.soft) (fun _ => ?_)
  refine ite_ok (fun _ => o.plain _ _) (fun _ => o)
end Go.Proofs.YthjdnhhifjpidaaGreatDoor.M
