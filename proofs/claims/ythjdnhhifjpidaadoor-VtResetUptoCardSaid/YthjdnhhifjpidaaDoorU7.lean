import Derived.Test.YthjdnhhifjpidaaDoorU6
set_option linter.unusedVariables false
set_option linter.unusedSimpArgs false
set_option maxRecDepth 100000
namespace Go.Proofs.YthjdnhhifjpidaaDoor.M
open Go Go.Hp

theorem erased_o {h0 : Base} {h : Heap} {s : Nat} {cs : Array Value} {l : Blks} {bk : Int} {K : ByteArray → Int → Int → Int → Int → Heap → Prop} (ho : Own h0 h ((s, cs, 69) :: l)) (hc : cs[12]? = some (.int .i64 bk)) (hk : ∀ h1, Ext h h1 → K ⟨#[32]⟩ 1 0 bk 0 h1) : vt_Screen_erased (some ⟨s, 0, none⟩) K h := by
  unfold vt_Screen_erased
  refine newB_o (Own.init h) fun b h1 t1 => nz_i ?_
  have ho := ho.gap t1.ext
  simp only [add0, Nat.zero_add]
  refine ldI0 ho hc ?_
  refine gap_o t1 fun h2 t2 => ?_
  refine st0 t2 rfl fun h3 t3 => ?_
  refine ldS0 t3 rfl ?_
  refine ldI0 t3 rfl ?_
  refine ldI0 t3 rfl ?_
  refine ldI0 t3 rfl ?_
  refine ldI0 t3 rfl ?_
  exact hk h3 t3.ext
theorem SlO.srcDrop {α : Type} {f : α → List Value} {sz : Nat} {t : TypeId} {a : Option Addr} {n c : Nat} {ks : List α} {o pre l : Blks} {h0 : Base} {h : Heap} (hf : ∀ k, (f k).length = sz) (hs : SlO f sz t a n c ks o) (ho : Own h0 h (pre ++ (o ++ l))) (s : Nat) (h2 : s ≤ n) : srcAt h (cutA a c s sz) ((ks.drop s).flatMap f) := by
  have hn := hs.1
  by_cases hsn : s = n
  · rw [List.drop_of_length_le (by omega)]
    unfold srcAt
    split
    · rfl
    · trivial
  obtain ⟨_, ⟨_, h3, _, h4⟩ | ⟨b, cs, rest, rfl, rfl, hcs, hr, hle⟩⟩ := hs
  · rw [h4] at hn; simp at hn; omega
  unfold cutA
  rw [if_neg (by omega)]
  show cellsAt h ((⟨b, 0, none⟩ : Addr).add (s * sz)) 0 _
  rw [add0, Nat.zero_add]
  refine cellsAt_blk (Own.mid (x := (b, cs, t)) (by simpa using ho)).1 _ (s * sz) 0 fun j v hj => ?_
  rw [← Array.getElem?_toList, hcs, Nat.add_zero]
  rw [← flat_drop f hf, List.getElem?_drop] at hj
  rw [List.getElem?_append_left (List.getElem?_eq_some_iff.1 hj).1]
  exact hj
theorem RowsB.drop {ks R bs} (hr : RowsB ks R bs) (d : Nat) : RowsB (ks.drop d) (R.drop d) (bs.drop d) := by
  obtain ⟨h1, h2, h3⟩ := hr
  refine ⟨by simp [h1], by simp [h2], fun i hi => ?_⟩
  rw [List.length_drop] at hi
  have := h3 (d + i) (by omega)
  rw [List.getD_eq_getElem?_getD (l := ks.drop d), List.getElem?_drop, List.getD_eq_getElem?_getD (l := R.drop d), List.getElem?_drop, List.getD_eq_getElem?_getD (l := bs.drop d), List.getElem?_drop, ← List.getD_eq_getElem?_getD, ← List.getD_eq_getElem?_getD, ← List.getD_eq_getElem?_getD]
  exact this
/-- A row is laid into the history. -/
def keepV (S : Scr) (g : List Gl) : Scr := { S with past := if S.most < ((S.past.length + 1 : Nat) : Int) then (S.past ++ [g]).drop (((S.past.length + 1 : Nat) : Int) - S.most).toNat else S.past ++ [g] }
theorem keep_sp {h0 : Base} {h : Heap} {s : Nat} {S : Scr} {a : Option Addr} {n c : Nat} {g : List Gl} {K : Heap → Prop} (hs : Rep h0 h s S) (hg : g.length = n) (hsrc : srcAt h a (g.flatMap gf)) (hn : n ≤ 100000) (hp0 : S.past.length ≤ 100000) (hm0 : 0 ≤ S.most)
    (hk : ∀ h1, Rep h0 h1 s (keepV S g) → cellH h1 ⟨s, 3, none⟩ = cellH h ⟨s, 3, none⟩ → K h1) : vt_Screen_keep (some ⟨s, 0, none⟩) a n c K h := by
  obtain ⟨A, oM, oO, oP, oT, oG, oK, oL, ho, hp⟩ := hs
  obtain ⟨ks, oh, bs, rfl, q1, q2⟩ := hp.past
  have hq1 := q1.1
  have hq2 := q2.1
  unfold vt_Screen_keep
  unfold keepV at hk
  refine nz_i ?_
  simp only [add0, Nat.zero_add]
  refine ldL0 ho rfl ?_
  refine ⟨g.flatMap gf, by rw [flat_len gf gf_len, hg]; rfl, oneV_flat gf gf_one g, hsrc, ?_⟩
  rw [← hg]
  refine SlO.app (f := gf) (sz := 5) (js := g) (pre := []) gf_len rfl SlO.nil (by simpa using ho) (by omega) (by omega) fun a1 c1 o1 h1 ho1 hs1 => ?_
  have ho1 : Own h0 h1 ((s, scrC S A, 69) :: (oM ++ (oO ++ ((oh ++ bs.flatten) ++ (oT ++ (oG ++ (oK ++ (oL ++ o1)))))))) := ho1.perm (by (classical exact List.perm_iff_count.2 (fun x => by simp only [List.count_append, List.count_cons, List.count_nil]; omega)))
  refine ⟨ho1.get0.cell 8 rfl, gap_o ho1 fun h2 ho2 => ⟨ho2.get0.cell 8 rfl, ?_⟩⟩
  refine SlO.app (f := rf) (sz := 1) (js := [(a1, g.length, c1)]) (pre := (s, scrC S A, 69) :: (oM ++ oO)) (l := bs.flatten ++ (oT ++ (oG ++ (oK ++ (oL ++ o1))))) rf_len rfl q1 (by simpa using ho2) (by simp only [List.length_singleton]; omega) (by simp only [List.length_singleton]; omega) fun a2 c2 o2 h3 ho3 hs3 => ?_
  have ho3 : Own h0 h3 ((s, scrC S A, 69) :: (oM ++ (oO ++ ((o2 ++ (bs ++ [o1]).flatten) ++ (oT ++ (oG ++ (oK ++ oL))))))) := by
    rw [List.flatten_append, List.flatten_singleton]
    exact ho3.perm (by (classical exact List.perm_iff_count.2 (fun x => by simp only [List.count_append, List.count_cons, List.count_nil]; omega)))
  have hr3 : RowsB (ks ++ [(a1, g.length, c1)]) (S.past ++ [g]) (bs ++ [o1]) := q2.snoc _ _ _ (by simpa using hs1)
  refine st0 ho3 rfl fun h4 ho4 => ?_
  refine ldL0 ho4 rfl ?_
  refine ldI0 ho4 rfl ?_
  have en : A.pn = S.past.length := by omega
  by_cases hc : S.most < ((A.pn + 1 : Nat) : Int)
  · rw [if_pos (by omega)] at hk
    rw [if_pos hc]
    refine ldL0 ho4 rfl ?_
    refine ldL0 ho4 rfl ?_
    refine ldI0 ho4 rfl ?_
    rw [wrap64 (by omega) (by omega)]
    refine ⟨by omega, by omega, ?_⟩
    have hd : ((((A.pn + 1 : Nat) : Int)) - S.most).toNat = (((S.past.length + 1 : Nat) : Int) - S.most).toNat := by omega
    rw [hd]
    generalize hdd : (((S.past.length + 1 : Nat) : Int) - S.most).toNat = d at *
    have hoA : Own h0 h4 (((s, setL (scrC S A) 8 [Value.slice a2 (A.pn + 1) c2], 69) :: (oM ++ oO)) ++ (o2 ++ ((bs ++ [o1]).flatten ++ (oT ++ (oG ++ (oK ++ oL)))))) := by simpa using ho4
    have hsd := SlO.srcDrop rf_len hs3 hoA d (by simp only [List.length_singleton]; omega)
    have hks := hs3.1
    have ho4' : Own h0 h4 (([] : Blks) ++ (([] : Blks) ++ ((s, setL (scrC S A) 8 [Value.slice a2 (A.pn + 1) c2], 69) :: (oM ++ (oO ++ ((o2 ++ (bs ++ [o1]).flatten) ++ (oT ++ (oG ++ (oK ++ oL))))))))) := ho4
    have el : ((ks ++ [(a1, g.length, c1)]).drop d).length = A.pn + 1 - d := by rw [List.length_drop, ← hks]; rfl
    rw [← el]
    refine ⟨((ks ++ [(a1, g.length, c1)]).drop d).flatMap rf, by rw [flat_len rf rf_len]; rfl, oneV_flat rf rf_one _, hsd, ?_⟩
    refine SlO.app (f := rf) (sz := 1) (js := (ks ++ [(a1, g.length, c1)]).drop d) (pre := []) rf_len rfl SlO.nil ho4' (by rw [el]; omega) (by rw [el]; omega) fun a3 c3 o3 h5 ho5 hs5 => ?_
    have ho5 : Own h0 h5 ((s, setL (scrC S A) 8 [Value.slice a2 (A.pn + 1) c2], 69) :: (o2 ++ (((bs ++ [o1]).take d).flatten ++ (oM ++ (oO ++ ((o3 ++ ((bs ++ [o1]).drop d).flatten) ++ (oT ++ (oG ++ (oK ++ oL))))))))) := by
      have e : (bs ++ [o1]).flatten = ((bs ++ [o1]).take d).flatten ++ ((bs ++ [o1]).drop d).flatten := by rw [← List.flatten_append, List.take_append_drop]
      rw [e] at ho5
      exact ho5.perm (by (classical exact List.perm_iff_count.2 (fun x => by simp only [List.count_append, List.count_cons, List.count_nil]; omega)))
    have ho6 := ho5.sub (l' := (s, setL (scrC S A) 8 [Value.slice a2 (A.pn + 1) c2], 69) :: (oM ++ (oO ++ ((o3 ++ ((bs ++ [o1]).drop d).flatten) ++ (oT ++ (oG ++ (oK ++ oL))))))) (List.Sublist.cons_cons _ ((List.sublist_append_right _ _).trans (List.sublist_append_right _ _)))
    refine st0 ho6 rfl fun h6 ho7 => ?_
    refine hk h6 ⟨{ A with p := a3, pn := ((ks ++ [(a1, g.length, c1)]).drop d).length, pc := c3 }, oM, oO, _, oT, oG, oK, oL, ho7, hp.1, hp.2, ⟨_, o3, _, rfl, ?_, hr3.drop d⟩, hp.4, hp.5, hp.6, hp.7⟩ ((ho7.get0.cell 3 rfl).trans (ho.get0.cell 3 rfl).symm)
    rw [List.nil_append, Nat.zero_add] at hs5
    exact hs5
  · rw [if_neg (by omega)] at hk
    rw [if_neg hc]
    exact hk h4 ⟨{ A with p := a2, pn := A.pn + 1, pc := c2 }, oM, oO, _, oT, oG, oK, oL, ho4, hp.1, hp.2, ⟨_, o2, _, rfl, hs3, hr3⟩, hp.4, hp.5, hp.6, hp.7⟩ ((ho4.get0.cell 3 rfl).trans (ho.get0.cell 3 rfl).symm)
end Go.Proofs.YthjdnhhifjpidaaDoor.M
