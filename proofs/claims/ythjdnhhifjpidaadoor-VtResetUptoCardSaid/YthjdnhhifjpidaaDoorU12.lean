import Derived.Test.YthjdnhhifjpidaaDoorU11
set_option linter.unusedVariables false
set_option linter.unusedSimpArgs false
set_option maxRecDepth 100000
namespace Go.Proofs.YthjdnhhifjpidaaDoor.M
open Go Go.Hp

theorem flat_get {α : Type} (f : α → List Value) (d : α) {sz : Nat} (hf : ∀ r, (f r).length = sz) (tab : List α) (i j : Nat) (hi : i < tab.length) (hj : j < sz) : (tab.flatMap f)[i * sz + j]? = (f (tab.getD i d))[j]? := by
  rw [← flat_at f d hf tab i hi, List.getElem?_take, if_pos hj, List.getElem?_drop]

/-! ### The width of a letter -/
abbrev pf (k : Int × Int) : List Value := [.int .i32 k.1, .int .i32 k.2]
theorem pf_len (k : Int × Int) : (pf k).length = 2 := rfl
def SlR (h : Heap) (a : Option Addr) (n : Nat) (ks : List (Int × Int)) : Prop :=
  n = ks.length ∧ ∀ i, i < n → ∃ p, a = some p ∧ cellH h (p.add (i * 2)) = some (.int .i32 (ks.getD i (0, 0)).1) ∧ cellH h ((p.add (i * 2)).add 1) = some (.int .i32 (ks.getD i (0, 0)).2)
theorem SlR.ext {h h' : Heap} {a : Option Addr} {n : Nat} {ks} (hs : SlR h a n ks) (he : Ext h h') : SlR h' a n ks :=
  ⟨hs.1, fun i hi => (hs.2 i hi).imp fun p hp => ⟨hp.1, he.cell hp.2.1, he.cell hp.2.2⟩⟩
theorem SlR.of {h : Heap} {b : Nat} {t : TypeId} {ks : List (Int × Int)} (hb : Blk h b (ks.flatMap pf).toArray t) : SlR h (some ⟨b, 0, none⟩) ks.length ks := by
  refine ⟨rfl, fun i hi => ⟨_, rfl, ?_, ?_⟩⟩
  · have := flat_get pf (0, 0) pf_len ks i 0 hi (by omega)
    rw [add0, Nat.zero_add]
    exact hb.cell _ (by rw [← Array.getElem?_toList]; exact this)
  · have := flat_get pf (0, 0) pf_len ks i 1 hi (by omega)
    rw [add0, add0, Nat.zero_add]
    exact hb.cell _ (by rw [← Array.getElem?_toList]; exact this)
def inS (c : Int) (ks : List (Int × Int)) : Bool := ks.any fun k => decide (k.1 ≤ c) && decide (c ≤ k.2)
theorem within_loop {K0 : Heap → Prop} {Kr : Bool → Heap → Prop} {h0 : Heap} {c : Int} {a : Option Addr} {n cc : Nat} {ks : List (Int × Int)} (hn : n < 1000000) :
    ∀ (f : Nat) (i : Nat) (h : Heap), Ext h0 h → SlR h a n ks → n < f + i → i ≤ n → (inS c (ks.drop i) = true → ∀ h1, Ext h0 h1 → Kr true h1) → (inS c (ks.drop i) = false → ∀ h1, Ext h0 h1 → K0 h1) →
      vt_within_l0 K0 Kr f c a n cc n i h := by
  intro f
  induction f with
  | zero => intro i h he hs hf hi; omega
  | succ f ih =>
    intro i h he hs hf hi hr hk
    unfold vt_within_l0
    by_cases hlt : (i : Int) < (n : Int)
    · rw [if_pos hlt]
      obtain ⟨p, rfl, d1, d2⟩ := hs.2 i (by omega)
      have hl := hs.1
      have hd : ks.drop i = ks.getD i (0, 0) :: ks.drop (i + 1) := by
        rw [List.drop_eq_getElem_cons (by omega), List.getD_eq_getElem?_getD, List.getElem?_eq_getElem (by omega)]
        rfl
      rw [hd] at hr hk
      unfold inS at hr hk
      rw [List.any_cons] at hr hk
      generalize ks.getD i (0, 0) = k at *
      rw [← show (i : Int).toNat * 2 = i * 2 by omega] at d1 d2
      refine nz_i ⟨by omega, hlt, ⟨_, d1, ⟨_, d2, ?_⟩⟩⟩
      simp only []
      by_cases hc : ((decide (k.1 ≤ c)) && (decide (c ≤ k.2))) = true
      · rw [if_pos hc]
        exact fun h1 he1 => hr (by rw [hc, Bool.true_or]) h1 (he.trans he1)
      · rw [if_neg hc]
        refine fun h1 he1 => ?_
        rw [wrap64 (by omega) (by omega), show (i : Int) + 1 = ((i + 1 : Nat) : Int) by omega]
        have hc' : ((decide (k.1 ≤ c)) && (decide (c ≤ k.2))) = false := by simpa using hc
        rw [hc', Bool.false_or] at hr hk
        exact ih (i + 1) h1 (he.trans he1) (hs.ext he1) (by omega) (by omega) hr hk
    · rw [if_neg hlt]
      rw [List.drop_of_length_le (by have := hs.1; omega)] at hk
      exact hk rfl h he
theorem within_sp {K : Bool → Heap → Prop} {h : Heap} {c : Int} {a : Option Addr} {n cc : Nat} {ks : List (Int × Int)} (hn : n < 1000000) (hs : SlR h a n ks) (hk : ∀ h1, Ext h h1 → K (inS c ks) h1) : vt_within c a n cc K h := by
  unfold vt_within
  refine ⟨n + 1, within_loop hn (n + 1) 0 h (Ext.refl h) hs (by omega) (by omega) (fun hh h1 he => ?_) (fun hh h1 he => ?_)⟩
  · rw [List.drop_zero] at hh; rw [← hh]; exact hk h1 he
  · rw [List.drop_zero] at hh; rw [← hh]; exact hk h1 he
def noneL : List (Int × Int) := [(768, 879), (8203, 8207), (8232, 8238), (8400, 8447), (65024, 65039), (65279, 65279)]
def twoL : List (Int × Int) := [(4352, 4447), (11904, 12350), (12353, 13311), (13312, 19903), (19968, 40959), (40960, 42191), (44032, 55203), (63744, 64255), (65072, 65135), (65280, 65376), (65504, 65510), (127744, 128591), (129280, 129535), (131072, 262141)]
def badW (c : Int) : Bool := (((decide (c < 32)) || ((decide (127 ≤ c)) && (decide (c ≤ 159)))) || ((decide (55296 ≤ c)) && (decide (c ≤ 57343)))) || (decide (1114111 < c))
def widthV (c : Int) : Int := if badW c = true then -1 else if inS c noneL = true then 0 else if inS c twoL = true then 2 else 1
theorem width_j0 {K : Int → Heap → Prop} {h h6 : Heap} {c : Int} {a a' : Option Addr} {q : Bool} (he : Ext h h6) (h1 : SlR h6 a 6 noneL) (h2 : SlR h6 a' 14 twoL) (hq : q = badW c) (hK : ∀ h1, Ext h h1 → K (widthV c) h1) :
    vt_Width_j0 (fun h => K 1 h) (fun z h => K z h) c a 6 6 a' 14 14 q h6 := by
  unfold vt_Width_j0
  unfold widthV at hK
  subst hq
  by_cases hb : badW c = true
  · rw [if_pos hb] at hK ⊢
    exact hK h6 he
  rw [if_neg hb] at hK ⊢
  refine within_sp (by omega) h1 fun h7 he7 => ?_
  by_cases hn : inS c noneL = true
  · rw [if_pos hn] at hK ⊢
    exact hK h7 (he.trans he7)
  rw [if_neg hn] at hK ⊢
  refine within_sp (by omega) (h2.ext he7) fun h8 he8 => ?_
  by_cases ht : inS c twoL = true
  · rw [if_pos ht] at hK ⊢
    exact hK h8 ((he.trans he7).trans he8)
  · rw [if_neg ht] at hK ⊢
    exact hK h8 ((he.trans he7).trans he8)
theorem width_sp {K : Int → Heap → Prop} {h : Heap} {c : Int} (hK : ∀ h1, Ext h h1 → K (widthV c) h1) : vt_Width c K h := by
  unfold vt_Width
  refine newB_o (Own.init h) fun b1 h3 ho3 => newB_o ho3 fun b2 h6 ho6 => ?_
  have s1 : SlR h6 (some ⟨b1, 0, none⟩) 6 noneL := SlR.of (ks := noneL) ho6.get1
  have s2 : SlR h6 (some ⟨b2, 0, none⟩) 14 twoL := SlR.of (ks := twoL) ho6.get0
  by_cases c1 : c < 32
  · rw [if_pos c1]
    exact width_j0 ho6.ext s1 s2 (by unfold badW; simp [c1]) hK
  rw [if_neg c1]
  by_cases c2 : ((decide (127 ≤ c)) && (decide (c ≤ 159))) = true
  · rw [if_pos c2]
    exact width_j0 ho6.ext s1 s2 (by unfold badW; rw [c2]; simp) hK
  rw [if_neg c2]
  by_cases c3 : ((decide (55296 ≤ c)) && (decide (c ≤ 57343))) = true
  · rw [if_pos c3]
    exact width_j0 ho6.ext s1 s2 (by unfold badW; rw [c3]; simp) hK
  rw [if_neg c3]
  refine width_j0 ho6.ext s1 s2 ?_ hK
  unfold badW
  have e1 : decide (c < 32) = false := decide_eq_false c1
  have e2 : ((decide (127 ≤ c)) && (decide (c ≤ 159))) = false := by simpa using c2
  have e3 : ((decide (55296 ≤ c)) && (decide (c ≤ 57343))) = false := by simpa using c3
  rw [e1, e2, e3]
  rfl

end Go.Proofs.YthjdnhhifjpidaaDoor.M
