import Derived.Test.YthjdnhhifjpidaaDoorU1
set_option linter.unusedVariables false
set_option linter.unusedSimpArgs false
set_option maxRecDepth 100000
namespace Go.Proofs.YthjdnhhifjpidaaDoor.M
open Go Go.Hp

theorem home_sp {h0 : Base} {h : Heap} {s : Nat} {S : Scr} {x y : Int} {K : Heap → Prop} (hs : Rep h0 h s S) (hk : ∀ h1, Rep h0 h1 s (homeV S y x) → K h1) : vt_Screen_home (some ⟨s, 0, none⟩) y x K h := by
  have hs0 := hs
  obtain ⟨A, oM, oO, oP, oT, oG, oK, oL, ho, hp⟩ := hs
  unfold vt_Screen_home
  unfold homeV at hk
  refine nz_i ?_
  simp only [add0, Nat.zero_add]
  repeat (first | ((with_reducible apply newB_o); (with_reducible assumption); intro _ _ _) | ((with_reducible apply st0); (with_reducible assumption); rfl; intro _ _) | ((with_reducible apply ldI0); (with_reducible assumption); rfl) | ((with_reducible apply ldB0); (with_reducible assumption); rfl) | ((with_reducible apply ldS0); (with_reducible assumption); rfl) | (with_reducible apply nz_i))
  by_cases hc : S.pl.origin = true
  · rw [if_pos hc] at hk ⊢
    repeat (first | ((with_reducible apply newB_o); (with_reducible assumption); intro _ _ _) | ((with_reducible apply st0); (with_reducible assumption); rfl; intro _ _) | ((with_reducible apply ldI0); (with_reducible assumption); rfl) | ((with_reducible apply ldB0); (with_reducible assumption); rfl) | ((with_reducible apply ldS0); (with_reducible assumption); rfl) | (with_reducible apply nz_i))
    exact to_sp hs0 hk
  · rw [if_neg hc] at hk ⊢
    exact to_sp hs0 hk
theorem rowsUp_sp {h0 : Base} {h : Heap} {s : Nat} {S : Scr} {n : Int} {K : Heap → Prop} (hs : Rep h0 h s S) (hk : ∀ h1, Rep h0 h1 s (rowsUpV S n) → K h1) : vt_Screen_rowsUp (some ⟨s, 0, none⟩) n K h := by
  have hs0 := hs
  obtain ⟨A, oM, oO, oP, oT, oG, oK, oL, ho, hp⟩ := hs
  unfold vt_Screen_rowsUp vt_Screen_rowsUp_j0
  unfold rowsUpV at hk
  refine nz_i ?_
  simp only [add0, Nat.zero_add]
  repeat (first | ((with_reducible apply newB_o); (with_reducible assumption); intro _ _ _) | ((with_reducible apply st0); (with_reducible assumption); rfl; intro _ _) | ((with_reducible apply ldI0); (with_reducible assumption); rfl) | ((with_reducible apply ldB0); (with_reducible assumption); rfl) | ((with_reducible apply ldS0); (with_reducible assumption); rfl) | (with_reducible apply nz_i))
  by_cases hc : S.top ≤ S.pl.y
  · rw [if_pos hc] at hk ⊢
    repeat (first | ((with_reducible apply newB_o); (with_reducible assumption); intro _ _ _) | ((with_reducible apply st0); (with_reducible assumption); rfl; intro _ _) | ((with_reducible apply ldI0); (with_reducible assumption); rfl) | ((with_reducible apply ldB0); (with_reducible assumption); rfl) | ((with_reducible apply ldS0); (with_reducible assumption); rfl) | (with_reducible apply nz_i))
    exact to_sp hs0 hk
  · rw [if_neg hc] at hk ⊢
    repeat (first | ((with_reducible apply newB_o); (with_reducible assumption); intro _ _ _) | ((with_reducible apply st0); (with_reducible assumption); rfl; intro _ _) | ((with_reducible apply ldI0); (with_reducible assumption); rfl) | ((with_reducible apply ldB0); (with_reducible assumption); rfl) | ((with_reducible apply ldS0); (with_reducible assumption); rfl) | (with_reducible apply nz_i))
    exact to_sp hs0 hk
theorem rowsDown_sp {h0 : Base} {h : Heap} {s : Nat} {S : Scr} {n : Int} {K : Heap → Prop} (hs : Rep h0 h s S) (hk : ∀ h1, Rep h0 h1 s (rowsDownV S n) → K h1) : vt_Screen_rowsDown (some ⟨s, 0, none⟩) n K h := by
  have hs0 := hs
  obtain ⟨A, oM, oO, oP, oT, oG, oK, oL, ho, hp⟩ := hs
  unfold vt_Screen_rowsDown vt_Screen_rowsDown_j0
  unfold rowsDownV at hk
  refine nz_i ?_
  simp only [add0, Nat.zero_add]
  repeat (first | ((with_reducible apply newB_o); (with_reducible assumption); intro _ _ _) | ((with_reducible apply st0); (with_reducible assumption); rfl; intro _ _) | ((with_reducible apply ldI0); (with_reducible assumption); rfl) | ((with_reducible apply ldB0); (with_reducible assumption); rfl) | ((with_reducible apply ldS0); (with_reducible assumption); rfl) | (with_reducible apply nz_i))
  by_cases hc : S.pl.y ≤ S.bottom
  · rw [if_pos hc] at hk ⊢
    repeat (first | ((with_reducible apply newB_o); (with_reducible assumption); intro _ _ _) | ((with_reducible apply st0); (with_reducible assumption); rfl; intro _ _) | ((with_reducible apply ldI0); (with_reducible assumption); rfl) | ((with_reducible apply ldB0); (with_reducible assumption); rfl) | ((with_reducible apply ldS0); (with_reducible assumption); rfl) | (with_reducible apply nz_i))
    exact to_sp hs0 hk
  · rw [if_neg hc] at hk ⊢
    repeat (first | ((with_reducible apply newB_o); (with_reducible assumption); intro _ _ _) | ((with_reducible apply st0); (with_reducible assumption); rfl; intro _ _) | ((with_reducible apply ldI0); (with_reducible assumption); rfl) | ((with_reducible apply ldB0); (with_reducible assumption); rfl) | ((with_reducible apply ldS0); (with_reducible assumption); rfl) | (with_reducible apply nz_i))
    exact to_sp hs0 hk
theorem shown_sp {h0 : Base} {h : Heap} {s : Nat} {S : Scr} {K : Option Addr → Heap → Prop} (hs : Rep h0 h s S) (h1 : S.alt = true → K (some ⟨s, 5, none⟩) h) (h2 : S.alt = false → K (some ⟨s, 3, none⟩) h) : vt_Screen_shown (some ⟨s, 0, none⟩) K h := by
  obtain ⟨A, oM, oO, oP, oT, oG, oK, oL, ho, hp⟩ := hs
  unfold vt_Screen_shown
  refine nz_i ?_
  simp only [add0, Nat.zero_add]
  repeat (first | ((with_reducible apply newB_o); (with_reducible assumption); intro _ _ _) | ((with_reducible apply st0); (with_reducible assumption); rfl; intro _ _) | ((with_reducible apply ldI0); (with_reducible assumption); rfl) | ((with_reducible apply ldB0); (with_reducible assumption); rfl) | ((with_reducible apply ldS0); (with_reducible assumption); rfl) | (with_reducible apply nz_i))
  by_cases hc : S.alt = true
  · rw [if_pos hc]; exact h1 hc
  · rw [if_neg hc]; exact h2 (by simpa using hc)
def erasedG (S : Scr) : Gl := (⟨#[32]⟩, 1, 0, S.pl.back, 0)
def beginV (S : Scr) (z : Int) : Scr := { S with state := z, gathered := [], over := false }
theorem SlO.cut0 {α : Type} {f : α → List Value} {sz : Nat} {t : TypeId} {a : Option Addr} {n c : Nat} {ks : List α} {o : Blks} (hf : ∀ k, (f k).length = sz) (hs : SlO f sz t a n c ks o) : SlO f sz t a 0 c [] o := by
  obtain ⟨hn, ⟨h1, h2, h3, h4⟩ | ⟨b, cs, rest, h1, h2, hcs, hr, hle⟩⟩ := hs
  · exact ⟨rfl, .inl ⟨h1, h2, h3, rfl⟩⟩
  · refine ⟨rfl, .inr ⟨b, cs, cs.toList, h1, h2, rfl, ?_, by omega⟩⟩
    rw [hcs, List.length_append, flat_len f hf, hr, ← hn, ← Nat.add_mul]
    congr 1
    omega
theorem begin_sp {h0 : Base} {h : Heap} {s : Nat} {S : Scr} {z : Int} {K : Heap → Prop} (hs : Rep h0 h s S) (hk : ∀ h1, Rep h0 h1 s (beginV S z) → K h1) : vt_Screen_begin (some ⟨s, 0, none⟩) z K h := by
  obtain ⟨A, oM, oO, oP, oT, oG, oK, oL, ho, hp⟩ := hs
  unfold vt_Screen_begin
  refine nz_i ?_
  simp only [add0, Nat.zero_add]
  repeat (first | ((with_reducible apply newB_o); (with_reducible assumption); intro _ _ _) | ((with_reducible apply st0); (with_reducible assumption); rfl; intro _ _) | ((with_reducible apply ldI0); (with_reducible assumption); rfl) | ((with_reducible apply ldB0); (with_reducible assumption); rfl) | ((with_reducible apply ldS0); (with_reducible assumption); rfl) | (with_reducible apply nz_i))
  refine ldL0 (by assumption) rfl ⟨by omega, ?_⟩
  have e : cutA A.g A.gc 0 1 = A.g := by
    unfold cutA
    split
    · rfl
    · cases A.g with
      | none => rfl
      | some a => rfl
  rw [e]
  repeat (first | ((with_reducible apply newB_o); (with_reducible assumption); intro _ _ _) | ((with_reducible apply st0); (with_reducible assumption); rfl; intro _ _) | ((with_reducible apply ldI0); (with_reducible assumption); rfl) | ((with_reducible apply ldB0); (with_reducible assumption); rfl) | ((with_reducible apply ldS0); (with_reducible assumption); rfl) | (with_reducible apply nz_i))
  exact hk _ ⟨{ A with gn := 0 }, oM, oO, oP, oT, oG, oK, oL, by assumption, hp.1, hp.2, hp.3, hp.4, SlO.cut0 bf_len hp.5, hp.6, hp.7⟩
def gatherV (S : Scr) (b : Int) : Scr := if (S.gathered.length : Int) = 256 then { S with over := true } else { S with gathered := S.gathered ++ [b] }
theorem gather_sp {h0 : Base} {h : Heap} {s : Nat} {S : Scr} {b : Int} {K : Heap → Prop} (hs : Rep h0 h s S) (hl : S.gathered.length ≤ 256) (hk : ∀ h1, Rep h0 h1 s (gatherV S b) → K h1) : vt_Screen_gather (some ⟨s, 0, none⟩) b K h := by
  obtain ⟨A, oM, oO, oP, oT, oG, oK, oL, ho, hp⟩ := hs
  unfold vt_Screen_gather
  unfold gatherV at hk
  have hn := hp.5.1
  refine nz_i ?_
  simp only [add0, Nat.zero_add]
  refine ldL0 (by assumption) rfl ?_
  rw [← hn] at hk
  by_cases hc : (A.gn : Int) = 256
  · rw [if_pos hc] at hk ⊢
    repeat (first | ((with_reducible apply newB_o); (with_reducible assumption); intro _ _ _) | ((with_reducible apply st0); (with_reducible assumption); rfl; intro _ _) | ((with_reducible apply ldI0); (with_reducible assumption); rfl) | ((with_reducible apply ldB0); (with_reducible assumption); rfl) | ((with_reducible apply ldS0); (with_reducible assumption); rfl) | (with_reducible apply nz_i))
    exact hk _ ⟨A, oM, oO, oP, oT, oG, oK, oL, by assumption, hp.1, hp.2, hp.3, hp.4, hp.5, hp.6, hp.7⟩
  rw [if_neg hc] at hk ⊢
  refine ldL0 (by assumption) rfl ?_
  refine gap_o ho fun h1 ho1 => ?_
  have hoA : Own h0 h1 (((s, scrC S A, 69) :: (oM ++ (oO ++ (oP ++ oT)))) ++ (oG ++ (oK ++ oL))) := by simpa using ho1
  refine SlO.app (f := bf) (sz := 1) (js := [b]) bf_len rfl hp.5 hoA (by simp only [List.length_singleton]; omega) (by simp only [List.length_singleton]; omega) fun a' c' o' h' ho2 hs2 => ?_
  have ho2 : Own h0 h' ((s, scrC S A, 69) :: (oM ++ (oO ++ (oP ++ (oT ++ (o' ++ (oK ++ oL))))))) := by simpa using ho2
  repeat (first | ((with_reducible apply newB_o); (with_reducible assumption); intro _ _ _) | ((with_reducible apply st0); (with_reducible assumption); rfl; intro _ _) | ((with_reducible apply ldI0); (with_reducible assumption); rfl) | ((with_reducible apply ldB0); (with_reducible assumption); rfl) | ((with_reducible apply ldS0); (with_reducible assumption); rfl) | (with_reducible apply nz_i))
  exact hk _ ⟨{ A with g := a', gn := A.gn + 1, gc := c' }, oM, oO, oP, oT, o', oK, oL, by assumption, hp.1, hp.2, hp.3, hp.4, hs2, hp.6, hp.7⟩
def sendsV (S : Scr) (t : ByteArray) : Scr := if S.answer.size + t.size ≤ 4096 then { S with answer := S.answer ++ t } else S
theorem sends_sp {h0 : Base} {h : Heap} {s : Nat} {S : Scr} {t : ByteArray} {K : Heap → Prop} (hs : Rep h0 h s S) (h1 : S.answer.size ≤ 4096) (h2 : t.size ≤ 4096) (hk : ∀ h1, Rep h0 h1 s (sendsV S t) → K h1) : vt_Screen_sends (some ⟨s, 0, none⟩) t K h := by
  have hs0 := hs
  obtain ⟨A, oM, oO, oP, oT, oG, oK, oL, ho, hp⟩ := hs
  unfold vt_Screen_sends
  unfold sendsV at hk
  refine nz_i ?_
  simp only [add0, Nat.zero_add]
  repeat (first | ((with_reducible apply newB_o); (with_reducible assumption); intro _ _ _) | ((with_reducible apply st0); (with_reducible assumption); rfl; intro _ _) | ((with_reducible apply ldI0); (with_reducible assumption); rfl) | ((with_reducible apply ldB0); (with_reducible assumption); rfl) | ((with_reducible apply ldS0); (with_reducible assumption); rfl) | (with_reducible apply nz_i))
  rw [wrap64 (by omega) (by omega)]
  by_cases hc : S.answer.size + t.size ≤ 4096
  · rw [if_pos hc] at hk
    rw [if_pos (by omega)]
    repeat (first | ((with_reducible apply newB_o); (with_reducible assumption); intro _ _ _) | ((with_reducible apply st0); (with_reducible assumption); rfl; intro _ _) | ((with_reducible apply ldI0); (with_reducible assumption); rfl) | ((with_reducible apply ldB0); (with_reducible assumption); rfl) | ((with_reducible apply ldS0); (with_reducible assumption); rfl) | (with_reducible apply nz_i))
    refine ⟨by omega, ?_⟩
    repeat (first | ((with_reducible apply newB_o); (with_reducible assumption); intro _ _ _) | ((with_reducible apply st0); (with_reducible assumption); rfl; intro _ _) | ((with_reducible apply ldI0); (with_reducible assumption); rfl) | ((with_reducible apply ldB0); (with_reducible assumption); rfl) | ((with_reducible apply ldS0); (with_reducible assumption); rfl) | (with_reducible apply nz_i))
    exact hk _ ⟨A, oM, oO, oP, oT, oG, oK, oL, by assumption, hp.1, hp.2, hp.3, hp.4, hp.5, hp.6, hp.7⟩
  · rw [if_neg hc] at hk
    rw [if_neg (by omega)]
    exact hk _ hs0
end Go.Proofs.YthjdnhhifjpidaaDoor.M
