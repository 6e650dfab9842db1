import Derived.Test.YthjdnhhifjpidaaDoorU9
set_option linter.unusedVariables false
set_option linter.unusedSimpArgs false
set_option maxRecDepth 100000
namespace Go.Proofs.YthjdnhhifjpidaaDoor.M
open Go Go.Hp

theorem shA_alt {S S' : Scr} {s : Nat} (h : S'.alt = S.alt) : shA S' s = shA S s := by unfold shA; rw [h]
theorem upOne_w (S : Scr) (t b : Int) : (upOne S t b).w = S.w ∧ (upOne S t b).alt = S.alt ∧ (upOne S t b).h = S.h := setSh_w S _
theorem up_l0 {h0 : Base} {s : Nat} {t b m : Int} {keeps : Bool} {a : Option Addr} {n c : Nat} {K0 : Heap → Prop} (t0 : 0 ≤ t) (tb : t ≤ b) (hm : m ≤ 100000) :
    ∀ (q : Nat) (S : Scr) (h : Heap) (i : Int), Rep h0 h s S → Dim S → cellH h (shA S s) = some (.slice a n c) → b < S.h → 0 ≤ i → (m - i).toNat = q →
      (∀ h1, Rep h0 h1 s (upL t b keeps q S) → K0 h1) → vt_Screen_up_l0 K0 (q + 1) (some ⟨s, 0, none⟩) t b keeps a n c m i h := by
  intro q
  induction q with
  | zero =>
    intro S h i hs d hc bh hi hq hk
    unfold vt_Screen_up_l0
    rw [if_neg (by omega)]
    exact hk h hs
  | succ q ih =>
    intro S h i hs d hc bh hi hq hk
    have next : ∀ h' S', Rep h0 h' s S' → S' = keepOne S t keeps → cellH h' (shA S s) = some (.slice a n c) → vt_Screen_up_j1
     (fun z103 z104 z105 z106 z107 z107n z107c z108 z109 h110 =>
         vt_Screen_up_l0 K0 (q + 1) (some z103) z104 z105 z106 z107 z107n z107c z108 (IntKind.wrap .i64 (z109 + 1)) h110) (some ⟨s, 0, none⟩) t b keeps a n c m i h' := by
      intro h' S' hs' he hc'
      subst he
      have hw := keepOne_w S t keeps
      have d' := d.keepOne t keeps
      have ha := shA_alt (s := s) hw.2.1
      refine up_round hs' d' (by rw [ha]; exact hc') t0 tb (by rw [hw.2.2.1]; exact bh) fun h2 hs2 hc2 => ?_
      rw [wrap64 (by omega) (by omega)]
      have hu := upOne_w (keepOne S t keeps) t b
      have d2 : Dim (upOne (keepOne S t keeps) t b) := d'.upOne t0 tb (by rw [hw.2.2.1]; exact bh)
      refine ih _ h2 (i + 1) hs2 d2 ?_ (by rw [hu.2.2, hw.2.2.1]; exact bh) (by omega) (by omega) hk
      rw [shA_alt (S := keepOne S t keeps) hu.2.1]
      exact hc2
    unfold vt_Screen_up_l0
    rw [if_pos (by omega)]
    unfold keepOne at next
    by_cases hkt : (keeps && decide (t = 0)) = true
    · rw [if_pos hkt]
      simp only [if_pos hkt] at next
      have hs0 := hs
      obtain ⟨A, oM, oO, oP, oT, oG, oK, oL, ho, hp⟩ := hs
      refine nz_i ?_
      simp only [add0, Nat.zero_add]
      repeat (first | ((with_reducible apply newB_o); (with_reducible assumption); intro _ _ _) | ((with_reducible apply st0); (with_reducible assumption); rfl; intro _ _) | ((with_reducible apply ldI0); (with_reducible assumption); rfl) | ((with_reducible apply ldB0); (with_reducible assumption); rfl) | ((with_reducible apply ldS0); (with_reducible assumption); rfl) | (with_reducible apply nz_i))
      by_cases ha : S.alt = true
      · rw [ha]
        simp only [if_pos ha] at next
        exact next h S hs0 rfl hc
      · simp only [if_neg ha] at next
        rw [if_pos (by simpa using ha)]
        have hsh := d.sh
        have hh0 := d.h0
        have hw0 := d.w0
        have hw1 := d.w1
        have hm1 := d.m1
        have hpp := d.past
        obtain ⟨A', rs, rn, rc, p, a', n', c', o, l, ho', hc', hp', hn', hd', hs', -⟩ := hs0.row 0 (by omega)
        rw [hc] at hc'
        obtain ⟨rfl, rfl, rfl⟩ : a = rs ∧ n = rn ∧ c = rc := by simpa using hc'
        subst hp'
        refine nz_i ⟨by omega, by omega, ⟨_, _, _, hd', ?_⟩⟩
        have hoA : Own h0 h ([(s, scrC S A', 69)] ++ (o ++ l)) := ho'
        have hl := hs'.1
        have hmem : S.sh.getD 0 [] ∈ S.sh := by
          rw [List.getD_eq_getElem?_getD, List.getElem?_eq_getElem (by omega)]
          exact List.getElem_mem _
        have hlen := hsh.2 _ hmem
        refine keep_sp (g := S.sh.getD 0 []) hs0 (by omega) (SlO.srcAt hs' hoA) (by omega) (by omega) d.m0 fun h1 hs1 hc1 => ?_
        refine next h1 _ hs1 rfl ?_
        have e : shA S s = ⟨s, 3, none⟩ := by unfold shA; rw [if_neg ha]
        rw [e] at hc ⊢
        rw [hc1]
        exact hc
    · rw [if_neg hkt]
      simp only [if_neg hkt] at next
      exact next h S hs rfl hc
def upV (S : Scr) (t b n : Int) (keeps : Bool) : Scr := upL t b keeps (imin n (b - t + 1)).toNat S
theorem imin_le1 (a b : Int) : imin a b ≤ a := by unfold imin; split <;> omega
theorem imin_le2 (a b : Int) : imin a b ≤ b := by unfold imin; split <;> omega
theorem Rep.shcell {h0 : Base} {h : Heap} {s : Nat} {S : Scr} (hs : Rep h0 h s S) : ∃ a n c, cellH h (shA S s) = some (.slice a n c) := by
  obtain ⟨A, a', n', c', ks, oh, bs, l, ho, hc', h1, h2, h3⟩ := hs.focus
  exact ⟨_, _, _, hc'⟩
theorem up_sp {h0 : Base} {h : Heap} {s : Nat} {S : Scr} {t b n : Int} {keeps : Bool} {K : Heap → Prop} (hs : Rep h0 h s S) (d : Dim S) (t0 : 0 ≤ t) (tb : t ≤ b) (bh : b < S.h) (hk : ∀ h1, Rep h0 h1 s (upV S t b n keeps) → K h1) : vt_Screen_up (some ⟨s, 0, none⟩) t b n keeps K h := by
  have hh := d.h1
  obtain ⟨a, n', c, hc⟩ := hs.shcell
  unfold vt_Screen_up
  have hm := imin_le2 n (b - t + 1)
  have rest : ∀ q : Addr, shA S s = q → nz (some q) fun p8 => ldL h p8 fun x9 x9n x9c => ∃ k125, vt_Screen_up_l0 (fun h123 => K h123) k125 (some ⟨s, 0, none⟩) t b keeps x9 x9n x9c (imin n (IntKind.wrap .i64 ((IntKind.wrap .i64 (b - t)) + 1))) 0 h := by
    intro q hq
    rw [hq] at hc
    refine nz_i ⟨_, _, _, hc, (imin n (b - t + 1)).toNat + 1, ?_⟩
    rw [← hq] at hc
    rw [wrap64 (x := b - t) (by omega) (by omega), wrap64 (by omega) (by omega)]
    exact up_l0 t0 tb (by omega) _ S h 0 hs d hc bh (by omega) (by omega) hk
  refine shown_sp hs (fun ha => ?_) (fun ha => ?_)
  · exact rest _ (by unfold shA; rw [if_pos ha])
  · exact rest _ (by unfold shA; rw [if_neg (by rw [ha]; decide)])

/-! ### Rows go down -/
def downOne (S : Scr) (t b : Int) : Scr := S.setSh (shiftDown S.sh t.toNat b.toNat (emptyRow S))
def downL (t b : Int) : Nat → Scr → Scr
  | 0, S => S
  | n + 1, S => downL t b n (downOne S t b)
theorem downOne_w (S : Scr) (t b : Int) : (downOne S t b).w = S.w ∧ (downOne S t b).alt = S.alt ∧ (downOne S t b).h = S.h := setSh_w S _
theorem mem_shiftDown {α : Type} {xs : List α} {t b : Nat} {new x : α} (h : x ∈ shiftDown xs t b new) : x ∈ xs ∨ x = new := by
  unfold shiftDown at h
  simp only [List.mem_append, List.mem_cons] at h
  rcases h with h | h | h | h
  · exact .inl (List.mem_of_mem_take h)
  · exact .inr h
  · exact .inl (List.mem_of_mem_drop (List.mem_of_mem_take h))
  · exact .inl (List.mem_of_mem_drop h)
theorem shiftDown_len {α : Type} {xs : List α} {t b : Nat} {new : α} (h1 : t ≤ b) (h2 : b < xs.length) : (shiftDown xs t b new).length = xs.length := by
  unfold shiftDown
  simp only [List.length_append, List.length_cons, List.length_take, List.length_drop]
  omega
theorem Dim.downOne {S : Scr} (d : Dim S) {t b : Int} (t0 : 0 ≤ t) (tb : t ≤ b) (bh : b < S.h) : Dim (downOne S t b) := by
  have hs := d.sh
  have w0 := d.w0
  refine d.setSh ?_ fun g hg => ?_
  · rw [shiftDown_len (by omega) (by omega)]; exact hs.1
  · rcases mem_shiftDown hg with h | h
    · exact hs.2 g h
    · rw [h]; unfold emptyRow; rw [List.length_replicate]; omega
theorem down_l0 {h0 : Base} {s : Nat} {t b m : Int} {a : Option Addr} {n c : Nat} {K0 : Heap → Prop} (t0 : 0 ≤ t) (tb : t ≤ b) (hm : m ≤ 100000) :
    ∀ (q : Nat) (S : Scr) (h : Heap) (i : Int), Rep h0 h s S → Dim S → cellH h (shA S s) = some (.slice a n c) → b < S.h → 0 ≤ i → (m - i).toNat = q →
      (∀ h1, Rep h0 h1 s (downL t b q S) → K0 h1) → vt_Screen_down_l0 K0 (q + 1) (some ⟨s, 0, none⟩) t b a n c m i h := by
  intro q
  induction q with
  | zero =>
    intro S h i hs d hc bh hi hq hk
    unfold vt_Screen_down_l0
    rw [if_neg (by omega)]
    exact hk h hs
  | succ q ih =>
    intro S h i hs d hc bh hi hq hk
    unfold vt_Screen_down_l0
    rw [if_pos (by omega)]
    obtain ⟨A, a', n', c', ks, oh, bs, l, ho, hc', h1, h2, h3⟩ := hs.focus
    obtain ⟨rfl, rfl, rfl⟩ : a = a' ∧ n = n' ∧ c = c' := by
      rw [hc] at hc'
      simpa using hc'
    have hks := h1.1
    have hkb := h2.1
    have hbb := h2.2.1
    have hsh := d.sh
    have hh := d.h1
    have hw0 := d.w0
    have hw1 := d.w1
    have hoA : Own h0 h ([(s, scrC S A, 69)] ++ (oh ++ (bs.flatten ++ l))) := ho
    obtain ⟨p, hp, _⟩ := SlO.get rf_len h1 hoA b.toNat (none, 0, 0) (by omega)
    have hcn : n ≤ c := by
      obtain ⟨_, ⟨_, e2, _, _⟩ | ⟨_, _, _, _, _, _, _, hle⟩⟩ := h1
      · rw [e2] at hp; cases hp
      · exact hle
    rw [wrap64 (x := b + 1) (by omega) (by omega), wrap64 (x := t + 1) (by omega) (by omega)]
    refine ⟨by omega, by omega, by omega, by omega, by omega, by omega, by omega, by omega, ?_⟩
    rw [show (t + 1).toNat = t.toNat + 1 by omega, show (b + 1).toNat = b.toNat + 1 by omega]
    refine SlO.copy rf_len rf_one h1 hoA (t.toNat + 1) (b.toNat + 1 - (t.toNat + 1)) t.toNat (b.toNat - t.toNat) (by omega) (by omega) fun h1' o1 ho1 hs1 => ?_
    have hmin : Nat.min (b.toNat - t.toNat) (b.toNat + 1 - (t.toNat + 1)) = b.toNat - t.toNat := by
      rw [show b.toNat + 1 - (t.toNat + 1) = b.toNat - t.toNat by omega]
      exact Nat.min_self _
    rw [hmin] at hs1
    have ho1 : Own h0 h1' ((s, scrC S A, 69) :: (o1 ++ (bs.flatten ++ l))) := ho1
    refine nz_i ?_
    refine ldI0 ho1 rfl ?_
    refine erased_o ho1 rfl fun h2' he2 => ?_
    have ho2 := ho1.gap he2
    refine ⟨ho2.get0.cell 0 rfl, fresh_sp ho2 (by omega) (by omega) fun ra ro h3' ho3 hrow => ?_⟩
    rw [hp]
    refine nz_i ⟨by omega, by omega, ?_⟩
    have ho3A : Own h0 h3' ((ro ++ [(s, scrC S A, 69)]) ++ (o1 ++ (bs.flatten ++ l))) := by simpa using ho3
    refine SlO.set rf_len hs1 ho3A t.toNat (ra, S.w.toNat, S.w.toNat) (by omega) hp fun h4 o4 ho4 hs4 => ?_
    have ho4 : Own h0 h4 (ro ++ ((s, scrC S A, 69) :: (o4 ++ (bs.flatten ++ l)))) := by simpa using ho4
    rw [shiftDown_copy ks t.toNat b.toNat _ (by omega) (by omega)] at hs4
    rw [← hp, wrap64 (by omega) (by omega)]
    have ho5 := down_own t.toNat b.toNat (by omega) (by omega) ho4
    have hr5 := h3 h4 _ o4 _ _ ho5 hs4 (h2.down t.toNat b.toNat hrow)
    have hu := downOne_w S t b
    have d2 : Dim (downOne S t b) := d.downOne t0 tb bh
    refine ih (downOne S t b) h4 (i + 1) hr5 d2 ?_ (by rw [hu.2.2]; exact bh) (by omega) (by omega) hk
    rw [shA_alt (S := S) hu.2.1]
    unfold shA at hc ⊢
    split
    · rename_i ha; rw [if_pos ha] at hc; exact ho5.get0.cell 5 (cell_inv ho.get0 hc)
    · rename_i ha; rw [if_neg ha] at hc; exact ho5.get0.cell 3 (cell_inv ho.get0 hc)
def downV (S : Scr) (t b n : Int) : Scr := downL t b (imin n (b - t + 1)).toNat S
theorem down_sp {h0 : Base} {h : Heap} {s : Nat} {S : Scr} {t b n : Int} {K : Heap → Prop} (hs : Rep h0 h s S) (d : Dim S) (t0 : 0 ≤ t) (tb : t ≤ b) (bh : b < S.h) (hk : ∀ h1, Rep h0 h1 s (downV S t b n) → K h1) : vt_Screen_down (some ⟨s, 0, none⟩) t b n K h := by
  have hh := d.h1
  obtain ⟨a, n', c, hc⟩ := hs.shcell
  unfold vt_Screen_down
  have hm := imin_le2 n (b - t + 1)
  have rest : ∀ q : Addr, shA S s = q → nz (some q) fun p8 => ldL h p8 fun x9 x9n x9c => ∃ k125, vt_Screen_down_l0 (fun h123 => K h123) k125 (some ⟨s, 0, none⟩) t b x9 x9n x9c (imin n (IntKind.wrap .i64 ((IntKind.wrap .i64 (b - t)) + 1))) 0 h := by
    intro q hq
    rw [hq] at hc
    refine nz_i ⟨_, _, _, hc, (imin n (b - t + 1)).toNat + 1, ?_⟩
    rw [← hq] at hc
    rw [wrap64 (x := b - t) (by omega) (by omega), wrap64 (by omega) (by omega)]
    exact down_l0 t0 tb (by omega) _ S h 0 hs d hc bh (by omega) (by omega) hk
  refine shown_sp hs (fun ha => ?_) (fun ha => ?_)
  · exact rest _ (by unfold shA; rw [if_pos ha])
  · exact rest _ (by unfold shA; rw [if_neg (by rw [ha]; decide)])
end Go.Proofs.YthjdnhhifjpidaaDoor.M
