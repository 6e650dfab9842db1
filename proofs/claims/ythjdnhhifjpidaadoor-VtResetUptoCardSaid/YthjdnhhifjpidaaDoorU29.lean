import Derived.Test.YthjdnhhifjpidaaDoorU28
set_option linter.unusedVariables false
set_option linter.unusedSimpArgs false
set_option maxRecDepth 100000
namespace Go.Proofs.YthjdnhhifjpidaaDoor.M
open Go Go.Hp

/-! ### A tab stop at each eighth column -/
def setTabs (S : Scr) (l : List Bool) : Scr := { S with tabs := l }
theorem Rep.tabAt {h0 : Base} {h : Heap} {s : Nat} {S : Scr} {K : Heap → Prop} {i : Int} (hs : Rep h0 h s S) (i0 : 0 ≤ i) (i1 : i < (S.tabs.length : Int))
    (hk : ∀ h1, Rep h0 h1 s (setTab S i true) → K h1) : ldL h ⟨s, 21, none⟩ fun x15 x15n x15c => nz x15 fun p20 => 0 ≤ i ∧ i < (x15n : Int) ∧ stN (p20.add ((i).toNat * 1)) [.bool true] 0 h K := by
  obtain ⟨A, oM, oO, oP, oT, oG, oK, oL, ho, hp⟩ := hs
  have hl := hp.4.1
  refine ldL0 ho rfl ?_
  have hoA : Own h0 h (((s, scrC S A, 69) :: (oM ++ (oO ++ oP))) ++ (oT ++ (oG ++ (oK ++ oL)))) := by simpa using ho
  obtain ⟨p, hpp, d⟩ := SlO.get tf_len hp.4 hoA i.toNat false (by omega)
  rw [hpp]
  refine nz_i ⟨i0, by omega, ?_⟩
  refine SlO.set tf_len hp.4 hoA i.toNat true (by omega) hpp fun h2 o2 ho2 hs2 => ?_
  have ho2 : Own h0 h2 ((s, scrC S A, 69) :: (oM ++ (oO ++ (oP ++ (o2 ++ (oG ++ (oK ++ oL))))))) := by simpa using ho2
  have ho2 := own_cs (c' := scrC (setTab S i true) A) ho2 (by kernel_rfl)
  exact hk h2 ⟨A, oM, oO, oP, o2, oG, oK, oL, ho2, hp.1, hp.2, hp.3, hs2, hp.5, hp.6, hp.7⟩
theorem stops_l0 {h0 : Base} {s : Nat} {K : Heap → Prop} : ∀ (q : Nat) (i : Int) (S : Scr) (h : Heap), Rep h0 h s S → S.w ≤ 1000 → (S.tabs.length : Int) = S.w → 0 ≤ i → i ≤ 2000 → (S.w - i).toNat ≤ q → (∀ h1, Rep h0 h1 s (setTabs S (stopsL S.w q i S.tabs)) → K h1) → vt_Screen_stops_l0 K (q + 1) ⟨s, 0, none⟩ i h := by
  intro q
  induction q with
  | zero =>
    intro i S h hs hw hl i0 i1 hq hk
    unfold vt_Screen_stops_l0
    refine hs.ldi (v := S.w) (fun A => rfl) ?_
    rw [if_neg (by omega)]
    exact hk h hs
  | succ q ih =>
    intro i S h hs hw hl i0 i1 hq hk
    unfold vt_Screen_stops_l0
    unfold stopsL at hk
    refine hs.ldi (v := S.w) (fun A => rfl) ?_
    by_cases hi : i < S.w
    · rw [if_pos hi] at hk ⊢
      simp only [add0, Nat.zero_add]
      refine hs.tabAt i0 (by omega) fun h1 hs1 => ?_
      rw [wrap64 (by omega) (by omega)]
      exact ih (i + 8) _ h1 hs1 hw (by show ((S.tabs.set i.toNat true).length : Int) = S.w; rw [List.length_set]; exact hl) (by omega) (by omega) (by show (S.w - (i + 8)).toNat ≤ q; omega) hk
    · rw [if_neg hi] at hk ⊢
      exact hk h hs
theorem stops_sp {h0 : Base} {h : Heap} {s : Nat} {S : Scr} {K : Heap → Prop} (hs : Rep h0 h s S) (w0 : 1 ≤ S.w) (w1 : S.w ≤ 1000) (hk : ∀ h1, Rep h0 h1 s (stopsV S) → K h1) : vt_Screen_stops (some ⟨s, 0, none⟩) K h := by
  obtain ⟨A, oM, oO, oP, oT, oG, oK, oL, ho, hp⟩ := hs
  unfold vt_Screen_stops
  refine nz_i ?_
  simp only [add0, Nat.zero_add]
  refine ldI0 ho rfl ?_
  refine mk_o ho (show 0 ≤ S.w by omega) (show (1 : Int) * S.w ≤ _ by omega) (show S.w ≤ _ by omega) fun b h1 ho1 => ?_
  have ho1 := ho1.perm (List.Perm.swap _ _ _)
  refine st0 ho1 rfl fun h2 ho2 => ?_
  have hz : SlO tf 1 4 (some ⟨b, 0, none⟩) S.w.toNat S.w.toNat (List.replicate S.w.toNat false) [(b, (zeros (tf false) S.w.toNat).toArray, 4)] := zeros_slo false
  have ho2 := own_cs (c' := scrC (setTabs S (List.replicate S.w.toNat false)) { A with t := some ⟨b, 0, none⟩, tn := S.w.toNat, tc := S.w.toNat }) ho2 (by kernel_rfl)
  have ho3 : Own h0 h2 (oT ++ ((s, scrC (setTabs S (List.replicate S.w.toNat false)) { A with t := some ⟨b, 0, none⟩, tn := S.w.toNat, tc := S.w.toNat }, 69) :: (oM ++ (oO ++ (oP ++ ([(b, (zeros [Value.bool false] S.w.toNat).toArray, 4)] ++ (oG ++ (oK ++ oL)))))))) := ho2.perm (by (classical exact List.perm_iff_count.2 (fun x => by simp only [List.count_append, List.count_cons, List.count_nil]; omega)))
  have hs3 : Rep h0 h2 s (setTabs S (List.replicate S.w.toNat false)) := ⟨{ A with t := some ⟨b, 0, none⟩, tn := S.w.toNat, tc := S.w.toNat }, oM, oO, oP, _, oG, oK, oL, ho3.sub (List.sublist_append_right _ _), hp.1, hp.2, hp.3, hz, hp.5, hp.6, hp.7⟩
  refine ⟨S.w.toNat + 1, stops_l0 S.w.toNat 8 _ h2 hs3 w1 ?_ (by omega) (by omega) ?_ hk⟩
  · show ((List.replicate S.w.toNat false).length : Int) = S.w
    rw [List.length_replicate]; omega
  · show (S.w - 8).toNat ≤ _
    omega

/-! ### All is as it was at first -/
theorem reset_sp {h0 : Base} {h : Heap} {s : Nat} {S : Scr} {K : Heap → Prop} (hs : Rep h0 h s S) (w0 : 1 ≤ S.w) (w1 : S.w ≤ 1000) (hh0 : 1 ≤ S.h) (hh1 : S.h ≤ 1000) (hk : ∀ h1, Rep h0 h1 s (resetV S) → K h1) : vt_Screen_reset (some ⟨s, 0, none⟩) K h := by
  obtain ⟨A, oM, oO, oP, oT, oG, oK, oL, ho, hp⟩ := hs
  unfold vt_Screen_reset
  refine nz_i ?_
  simp only [add0, Nat.zero_add]
  refine ldI0 ho rfl ?_
  refine ldI0 ho rfl ?_
  refine ldI0 ho rfl ?_
  refine ldL0 ho rfl ?_
  refine ldI0 ho rfl ?_
  refine ldS0 ho rfl ?_
  refine ldI0 ho rfl ?_
  rw [wrap64 (x := S.h - 1) (by omega) (by omega)]
  refine newB_o ho fun b h1 ho1 => ?_
  have ho1 := own_cs (c' := scrC (bare S.w S.h S.most S.past S.bells S.answer) ⟨none, 0, 0, none, none, 0, 0, none, A.p, A.pn, A.pc, none, 0, 0, none, 0, 0⟩) ho1 (by kernel_rfl)
  refine ldI0 ho1 rfl ?_
  refine ldI0 ho1 rfl ?_
  refine ldI0 ho1 rfl ?_
  refine ldL0 ho1 rfl ?_
  refine ldP0 ho1 rfl ?_
  refine ldL0 ho1 rfl ?_
  refine ldP0 ho1 rfl ?_
  refine ldB0 ho1 rfl ?_
  refine ldL0 ho1 rfl ?_
  refine ldI0 ho1 rfl ?_
  refine ldI0 ho1 rfl ?_
  refine ldI0 ho1 rfl ?_
  refine ldI0 ho1 rfl ?_
  refine ldI0 ho1 rfl ?_
  refine ldB0 ho1 rfl ?_
  refine ldB0 ho1 rfl ?_
  refine ldB0 ho1 rfl ?_
  refine ldB0 ho1 rfl ?_
  refine ldB0 ho1 rfl ?_
  refine ldI0 ho1 rfl ?_
  refine ldI0 ho1 rfl ?_
  refine ldL0 ho1 rfl ?_
  refine ldB0 ho1 rfl ?_
  refine ldB0 ho1 rfl ?_
  refine ldB0 ho1 rfl ?_
  refine ldB0 ho1 rfl ?_
  refine ldB0 ho1 rfl ?_
  refine ldB0 ho1 rfl ?_
  refine ldS0 ho1 rfl ?_
  refine ldI0 ho1 rfl ?_
  refine ldS0 ho1 rfl ?_
  refine ldI0 ho1 rfl ?_
  refine ldL0 ho1 rfl ?_
  refine ldB0 ho1 rfl ?_
  refine ldI0 ho1 rfl ?_
  refine ldI0 ho1 rfl ?_
  refine ldI0 ho1 rfl ?_
  refine ldI0 ho1 rfl ?_
  refine ldI0 ho1 rfl ?_
  refine ldI0 ho1 rfl ?_
  refine ldI0 ho1 rfl ?_
  have ho1 := ho1.perm (List.Perm.swap _ _ _)
  refine st0 ho1 rfl fun h2 ho2 => ?_
  have ho2 := own_cs (c' := scrC (bare S.w S.h S.most S.past S.bells S.answer) ⟨none, 0, 0, none, none, 0, 0, none, A.p, A.pn, A.pc, none, 0, 0, none, 0, 0⟩) ho2 (by kernel_rfl)
  refine ldI0 ho2 rfl ?_
  refine ldI0 ho2 rfl ?_
  have ho3 : Own h0 h2 (((b, scrC (bare S.w S.h S.most S.past S.bells S.answer) ⟨none, 0, 0, none, none, 0, 0, none, A.p, A.pn, A.pc, none, 0, 0, none, 0, 0⟩, 69) :: (oM ++ (oO ++ (oT ++ (oG ++ (oK ++ oL)))))) ++ ((s, scrC (bare S.w S.h S.most S.past S.bells S.answer) ⟨none, 0, 0, none, none, 0, 0, none, A.p, A.pn, A.pc, none, 0, 0, none, 0, 0⟩, 69) :: oP)) := ho2.perm (by (classical exact List.perm_iff_count.2 (fun x => by simp only [List.count_append, List.count_cons, List.count_nil]; omega)))
  have ho3 := ho3.sub (List.sublist_append_right _ _)
  refine sheet_sp (w := S.w) (hh := S.h) ho3 (by omega) (by omega) (by omega) (by omega) fun a n c oS h4 ho4 hR => ?_
  have ho4 := ho4.perm List.perm_append_comm
  refine st0 ho4 rfl fun h5 ho5 => ?_
  have ho5 := own_cs (c' := scrC { bare S.w S.h S.most S.past S.bells S.answer with main := sheetV S.w S.h 0 0 0 } ⟨a, n, c, none, none, 0, 0, none, A.p, A.pn, A.pc, none, 0, 0, none, 0, 0⟩) ho5 (by kernel_rfl)
  have hs5 : Rep h0 h5 s { bare S.w S.h S.most S.past S.bells S.answer with main := sheetV S.w S.h 0 0 0 } := by
    refine ⟨⟨a, n, c, none, none, 0, 0, none, A.p, A.pn, A.pc, none, 0, 0, none, 0, 0⟩, oS, [], oP, [], [], [], [], ?_, hR, ⟨[], [], [], rfl, SlO.nil, RowsB.nil⟩, hp.3, SlO.nil, SlO.nil, ⟨rfl, rfl⟩, ⟨rfl, rfl⟩⟩
    exact Own.perm (l := (s, scrC { bare S.w S.h S.most S.past S.bells S.answer with main := sheetV S.w S.h 0 0 0 } ⟨a, n, c, none, none, 0, 0, none, A.p, A.pn, A.pc, none, 0, 0, none, 0, 0⟩, 69) :: (oP ++ oS)) ho5 (by (classical exact List.perm_iff_count.2 (fun x => by simp only [List.count_append, List.count_cons, List.count_nil]; omega)))
  exact stops_sp hs5 w0 w1 hk
end Go.Proofs.YthjdnhhifjpidaaDoor.M
