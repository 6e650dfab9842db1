import Derived.Test.YthjdnhhifjpidaaDoorU15
set_option linter.unusedVariables false
set_option linter.unusedSimpArgs false
set_option maxRecDepth 100000
namespace Go.Proofs.YthjdnhhifjpidaaDoor.M
open Go Go.Hp

/-! ### A screen, and a block besides -/
def RepX (h0 : Base) (h : Heap) (s : Nat) (S : Scr) (X : Blks) : Prop :=
  ∃ A oM oO oP oT oG oK oL, Own h0 h ((s, scrC S A, 69) :: (oM ++ (oO ++ (oP ++ (oT ++ (oG ++ (oK ++ (oL ++ X)))))))) ∧ Parts S A oM oO oP oT oG oK oL
theorem RepX.rep {h0 : Base} {h : Heap} {s : Nat} {S : Scr} {X : Blks} (hs : RepX h0 h s S X) : Rep h0 h s S := by
  obtain ⟨A, oM, oO, oP, oT, oG, oK, oL, ho, hp⟩ := hs
  have ho1 : Own h0 h (X ++ ((s, scrC S A, 69) :: (oM ++ (oO ++ (oP ++ (oT ++ (oG ++ (oK ++ oL)))))))) := ho.perm (by (classical exact List.perm_iff_count.2 (fun x => by simp only [List.count_append, List.count_cons, List.count_nil]; omega)))
  exact ⟨A, oM, oO, oP, oT, oG, oK, oL, ho1.sub (List.sublist_append_right _ _), hp⟩
theorem RepX.blk {h0 : Base} {h : Heap} {s : Nat} {S : Scr} {b : Nat} {cs : Array Value} {t : TypeId} (hs : RepX h0 h s S [(b, cs, t)]) : Blk h b cs t := by
  obtain ⟨A, oM, oO, oP, oT, oG, oK, oL, ho, hp⟩ := hs
  exact (ho.blk (b, cs, t) (by simp)).1
theorem RepX.focus {h0 : Base} {h : Heap} {s : Nat} {S : Scr} {X : Blks} (hs : RepX h0 h s S X) : ∃ A a n c ks oh bs l, Own h0 h ((s, scrC S A, 69) :: (oh ++ (bs.flatten ++ l))) ∧ cellH h (shA S s) = some (.slice a n c) ∧ SlO rf 1 72 a n c ks oh ∧ RowsB ks S.sh bs ∧
    ∀ h' ks' oh' bs' R', Own h0 h' ((s, scrC S A, 69) :: (oh' ++ (bs'.flatten ++ l))) → SlO rf 1 72 a n c ks' oh' → RowsB ks' R' bs' → RepX h0 h' s (S.setSh R') X := by
  obtain ⟨A, oM, oO, oP, oT, oG, oK, oL, ho, hp⟩ := hs
  by_cases ha : S.alt = true
  · obtain ⟨ks, oh, bs, rfl, h1, h2⟩ := hp.other
    refine ⟨A, A.o, A.on, A.oc, ks, oh, bs, oM ++ (oP ++ (oT ++ (oG ++ (oK ++ (oL ++ X))))), ho.perm (by (classical exact List.perm_iff_count.2 (fun x => by simp only [List.count_append, List.count_cons, List.count_nil]; omega))), ?_, h1, by unfold Scr.sh; rw [if_pos ha]; exact h2, fun h' ks' oh' bs' R' ho' h1' h2' => ?_⟩
    · unfold shA
      rw [if_pos ha]
      exact ho.get0.cell 5 rfl
    · unfold Scr.setSh
      rw [if_pos ha]
      exact ⟨A, oM, oh' ++ bs'.flatten, oP, oT, oG, oK, oL, (show Own h0 h' ((s, scrC S A, 69) :: (oM ++ ((oh' ++ bs'.flatten) ++ (oP ++ (oT ++ (oG ++ (oK ++ (oL ++ X)))))))) from ho'.perm (by (classical exact List.perm_iff_count.2 (fun x => by simp only [List.count_append, List.count_cons, List.count_nil]; omega)))), hp.1, ⟨ks', oh', bs', rfl, h1', h2'⟩, hp.3, hp.4, hp.5, hp.6, hp.7⟩
  · obtain ⟨ks, oh, bs, rfl, h1, h2⟩ := hp.main
    refine ⟨A, A.m, A.mn, A.mc, ks, oh, bs, oO ++ (oP ++ (oT ++ (oG ++ (oK ++ (oL ++ X))))), ho.perm (by (classical exact List.perm_iff_count.2 (fun x => by simp only [List.count_append, List.count_cons, List.count_nil]; omega))), ?_, h1, by unfold Scr.sh; rw [if_neg ha]; exact h2, fun h' ks' oh' bs' R' ho' h1' h2' => ?_⟩
    · unfold shA
      rw [if_neg ha]
      exact ho.get0.cell 3 rfl
    · unfold Scr.setSh
      rw [if_neg ha]
      exact ⟨A, oh' ++ bs'.flatten, oO, oP, oT, oG, oK, oL, (show Own h0 h' ((s, scrC S A, 69) :: ((oh' ++ bs'.flatten) ++ (oO ++ (oP ++ (oT ++ (oG ++ (oK ++ (oL ++ X)))))))) from ho'.perm (by (classical exact List.perm_iff_count.2 (fun x => by simp only [List.count_append, List.count_cons, List.count_nil]; omega)))), ⟨ks', oh', bs', rfl, h1', h2'⟩, hp.2, hp.3, hp.4, hp.5, hp.6, hp.7⟩
theorem RepX.rowc {h0 : Base} {h : Heap} {s : Nat} {S : Scr} {X : Blks} {a : Option Addr} {n c : Nat} (hs : RepX h0 h s S X) (y : Nat) (hy : y < S.sh.length) (hc : cellH h (shA S s) = some (.slice a n c)) :
    ∃ p a' n' c' o pre l, a = some p ∧ n = S.sh.length ∧ cellH h (p.add (y * 1)) = some (.slice a' n' c') ∧ SlO gf 5 43 a' n' c' (S.sh.getD y []) o ∧ Own h0 h (pre ++ (o ++ l)) ∧
      ∀ h' o' g', Own h0 h' (pre ++ (o' ++ l)) → SlO gf 5 43 a' n' c' g' o' → RepX h0 h' s (S.setSh (S.sh.set y g')) X ∧ cellH h' (shA S s) = some (.slice a n c) := by
  obtain ⟨A, rs, rn, rc, ks, oh, bs, l, ho, hc', h1, h2, h3⟩ := hs.focus
  rw [hc] at hc'
  obtain ⟨rfl, rfl, rfl⟩ : a = rs ∧ n = rn ∧ c = rc := by simpa using hc'
  obtain ⟨k1, k2, k3⟩ := h2
  have hn := h1.1
  have hoH : Own h0 h ([(s, scrC S A, 69)] ++ (oh ++ (bs.flatten ++ l))) := ho
  obtain ⟨p, hp, d⟩ := SlO.get rf_len h1 hoH y (none, 0, 0) (by omega)
  have d0 : cellH h (p.add (y * 1)) = some (.slice (ks.getD y (none, 0, 0)).1 (ks.getD y (none, 0, 0)).2.1 (ks.getD y (none, 0, 0)).2.2) := d 0 _ rfl
  refine ⟨p, _, _, _, bs.getD y [], [(s, scrC S A, 69)], oh ++ ((bs.take y).flatten ++ ((bs.drop (y + 1)).flatten ++ l)), hp, by omega, d0, k3 y hy, ?_, fun h' o' g' ho' hs' => ⟨?_, ?_⟩⟩
  · have hb := ho
    rw [fl_split bs y (by omega)] at hb
    exact hb.perm (by (classical exact List.perm_iff_count.2 (fun x => by simp only [List.count_append, List.count_cons, List.count_nil]; omega)))
  · refine h3 h' ks oh (bs.set y o') (S.sh.set y g') ?_ h1 (RowsB.set ⟨k1, k2, k3⟩ y g' o' hs')
    rw [fl_set bs y o' (by omega)]
    exact Own.perm (l := (s, scrC S A, 69) :: (o' ++ (oh ++ ((bs.take y).flatten ++ ((bs.drop (y + 1)).flatten ++ l))))) ho' (by (classical exact List.perm_iff_count.2 (fun x => by simp only [List.count_append, List.count_cons, List.count_nil]; omega)))
  · have hb : Blk h' s (scrC S A) 69 := Own.get0 (l := o' ++ (oh ++ ((bs.take y).flatten ++ ((bs.drop (y + 1)).flatten ++ l)))) ho'
    unfold shA at hc ⊢
    split
    · rename_i ha; rw [if_pos ha] at hc; exact hb.cell 5 (cell_inv ho.get0 hc)
    · rename_i ha; rw [if_neg ha] at hc; exact hb.cell 3 (cell_inv ho.get0 hc)
/-- A row, by its number, is another. -/
def Scr.setAt (S : Scr) (y : Nat) (g : List Gl) : Scr := S.setSh (S.sh.set y g)
theorem Ok.setAt {S : Scr} (o : Ok S) {y : Nat} {g : List Gl} (hg : (g.length : Int) = S.w) : Ok (S.setAt y g) := by
  have hs := o.d.sh
  refine ⟨o.d.setSh ?_ fun x hx => ?_, o.c.setSh _⟩
  · rw [List.length_set]; exact hs.1
  · rcases List.mem_or_eq_of_mem_set hx with h | h
    · exact hs.2 x h
    · rw [h]; exact hg
theorem Ok.getAt {S : Scr} (o : Ok S) {y : Nat} (hy : (y : Int) < S.h) : ((S.sh.getD y []).length : Int) = S.w := by
  have hs := o.d.sh
  refine hs.2 _ ?_
  rw [List.getD_eq_getElem?_getD, List.getElem?_eq_getElem (by omega)]
  exact List.getElem_mem _
abbrev gC (g : Gl) : Array Value := #[.string g.1, .int .i64 g.2.1, .int .i64 g.2.2.1, .int .i64 g.2.2.2.1, .int .i64 g.2.2.2.2]
def eraseAt (S : Scr) (y : Nat) (i to : Int) (g : Gl) : Scr := S.setAt y (eraseV (S.sh.getD y []) i to g)
theorem Ok.eraseAt {S : Scr} (o : Ok S) {y : Nat} (hy : (y : Int) < S.h) (i to : Int) (g : Gl) : Ok (eraseAt S y i to g) := by
  refine o.setAt ?_
  rw [eraseV_len]
  exact o.getAt hy
theorem eraseAt_f (S : Scr) (y : Nat) (i to : Int) (g : Gl) : (eraseAt S y i to g).pl = S.pl ∧ (eraseAt S y i to g).w = S.w ∧ (eraseAt S y i to g).h = S.h ∧ (eraseAt S y i to g).alt = S.alt := by
  have h1 := setSh_pl S (S.sh.set y (eraseV (S.sh.getD y []) i to g))
  have h2 := setSh_w S (S.sh.set y (eraseV (S.sh.getD y []) i to g))
  exact ⟨h1.1, h1.2, h2.2.2, h2.2.1⟩
/-- The erasing of a row by its number. -/
theorem RepX.eraser {h0 : Base} {h : Heap} {s : Nat} {S : Scr} {X : Blks} {a : Option Addr} {n c : Nat} (hs : RepX h0 h s S X) (ok : Ok S) (hc : cellH h (shA S s) = some (.slice a n c)) (y : Int) (y0 : 0 ≤ y) (y1 : y < S.h) (g : Gl) {Q : Addr → Option Addr → Nat → Nat → Prop}
    (hQ : ∀ p a' n' c', (∀ (i to : Int) (K : Heap → Prop), 0 ≤ i → to ≤ S.w → (∀ h1, RepX h0 h1 s (eraseAt S y.toNat i to g) X → cellH h1 (shA S s) = some (.slice (some p) n c) → K h1) → vt_row_erase a' n' c' i to g.1 g.2.1 g.2.2.1 g.2.2.2.1 g.2.2.2.2 K h) → a = some p → Q p a' n' c') :
    nz a fun p => 0 ≤ y ∧ y < (n : Int) ∧ ldL h (p.add (y.toNat * 1)) fun a' n' c' => Q p a' n' c' := by
  have hsh := ok.d.sh
  have hw1 := ok.d.w1
  have hg := ok.getAt (y := y.toNat) (by omega)
  obtain ⟨p, a', n', c', o, pre, l, hp, hn, hd, hsl, ho, hback⟩ := hs.rowc y.toNat (by omega) hc
  have hl := hsl.1
  subst hp
  refine nz_i ⟨y0, by omega, ⟨_, _, _, hd, hQ _ _ _ _ (fun i to K hi hto hk => ?_) rfl⟩⟩
  exact erase_sp hsl ho hi (by omega) (by omega) fun h1 o1 ho1 hs1 => hk h1 (hback h1 o1 _ ho1 hs1).1 (hback h1 o1 _ ho1 hs1).2
def clearsL (n : Int) (g : Gl) : Nat → Int → Scr → Scr
  | 0, _, S => S
  | q + 1, i, S => if i < S.pl.y ∧ 0 < n then clearsL n g q (i + 1) (eraseAt S i.toNat 0 S.w g) else if S.pl.y < i ∧ n ≠ 1 then clearsL n g q (i + 1) (eraseAt S i.toNat 0 S.w g) else clearsL n g q (i + 1) S
theorem Ok.clearsL (n : Int) (g : Gl) : ∀ (q : Nat) (i : Int) (S : Scr), Ok S → 0 ≤ i → i + q ≤ S.h → Ok (clearsL n g q i S)
  | 0, _, S, o, _, _ => o
  | q + 1, i, S, o, i0, i1 => by
    have hf := eraseAt_f S i.toNat 0 S.w g
    unfold M.clearsL
    split
    · exact Ok.clearsL n g q (i + 1) _ (o.eraseAt (by omega) _ _ _) (by omega) (by rw [hf.2.2.1]; omega)
    · split
      · exact Ok.clearsL n g q (i + 1) _ (o.eraseAt (by omega) _ _ _) (by omega) (by rw [hf.2.2.1]; omega)
      · exact Ok.clearsL n g q (i + 1) _ o (by omega) (by omega)
theorem clears_l3 {h0 : Base} {s b : Nat} {g : Gl} {a : Option Addr} {nr c : Nat} {n : Int} {K0 : Heap → Prop} :
    ∀ (q : Nat) (i : Int) (S : Scr) (h : Heap), RepX h0 h s S [(b, gC g, 43)] → Ok S → cellH h (shA S s) = some (.slice a nr c) → 0 ≤ i → i + q = S.h → (nr : Int) = S.h →
      (∀ h1, Rep h0 h1 s (clearsL n g q i S) → K0 h1) → vt_Screen_clears_l3 K0 (q + 1) ⟨s, 0, none⟩ n b a nr c (nr : Int) i h := by
  intro q
  induction q with
  | zero =>
    intro i S h hs ok hc i0 hq hn hk
    unfold vt_Screen_clears_l3
    rw [if_neg (by omega)]
    exact hk h hs.rep
  | succ q ih =>
    intro i S h hs ok hc i0 hq hn hk
    have hh1 := ok.d.h1
    unfold clearsL at hk
    unfold vt_Screen_clears_l3
    rw [if_pos (by omega)]
    have hs0 := hs
    have hb := hs.blk
    have hf := eraseAt_f S i.toNat 0 S.w g
    have oke : Ok (eraseAt S i.toNat 0 S.w g) := ok.eraseAt (by omega) _ _ _
    refine hs.eraser ok hc i i0 (by omega) g fun p a' n' c' her hp => ?_
    subst hp
    have hrep := hs0.rep
    obtain ⟨A, oM, oO, oP, oT, oG, oK, oL, ho, hpp⟩ := hrep
    simp only [add0, Nat.zero_add]
    rw [wrap64 (x := i + 1) (by omega) (by omega)]
    refine ldI0 ho rfl ?_
    show if ((decide (i < S.pl.y)) && (decide (0 < n))) = true then _ else _
    have erase : ∀ K : Heap → Prop, (∀ h1, RepX h0 h1 s (eraseAt S i.toNat 0 S.w g) [(b, gC g, 43)] → cellH h1 (shA S s) = some (.slice (some p) nr c) → K h1) → ldI h .i64 ⟨s, 0, none⟩ fun x175 =>
    ldS h ⟨b, 0, none⟩ fun x179 =>
    ldI h .i64 ⟨b, 1, none⟩ fun x181 =>
    ldI h .i64 ⟨b, 2, none⟩ fun x183 =>
    ldI h .i64 ⟨b, 3, none⟩ fun x185 =>
    ldI h .i64 ⟨b, 4, none⟩ fun x187 =>
    vt_row_erase a' n' c' 0 x175 x179 x181 x183 x185 x187 K h := by
      intro K hK
      refine ldI0 ho rfl ?_
      refine ldS_b hb rfl ?_
      refine ldI_b hb rfl ?_
      refine ldI_b hb rfl ?_
      refine ldI_b hb rfl ?_
      refine ldI_b hb rfl ?_
      exact her 0 S.w K (Int.le_refl _) (Int.le_refl _) hK
    by_cases h1 : i < S.pl.y ∧ 0 < n
    · rw [if_pos h1] at hk
      rw [if_pos (by simpa using h1)]
      refine erase _ fun h2 hs2 hc2 => ?_
      exact ih (i + 1) _ h2 hs2 oke (by rw [shA_alt hf.2.2.2]; exact hc2) (by omega) (by rw [hf.2.2.1]; omega) (by rw [hf.2.2.1]; omega) hk
    · rw [if_neg h1] at hk
      rw [if_neg (by simpa using h1)]
      refine ldI0 ho rfl ?_
      show if ((decide (S.pl.y < i)) && (!decide (n = 1))) = true then _ else _
      by_cases h2 : S.pl.y < i ∧ n ≠ 1
      · rw [if_pos h2] at hk
        rw [if_pos (by simpa using h2)]
        refine erase _ fun h2 hs2 hc2 => ?_
        exact ih (i + 1) _ h2 hs2 oke (by rw [shA_alt hf.2.2.2]; exact hc2) (by omega) (by rw [hf.2.2.1]; omega) (by rw [hf.2.2.1]; omega) hk
      · rw [if_neg h2] at hk
        rw [if_neg (by simpa using h2)]
        exact ih (i + 1) _ h hs0 ok hc (by omega) (by omega) hn hk
def clears2 (S : Scr) (b n : Int) (g : Gl) : Scr := if b = 75 then S else clearsL n g S.h.toNat 0 S
def clears1 (S : Scr) (b n : Int) (g : Gl) : Scr := if n = 1 then clears2 (eraseAt S S.pl.y.toNat 0 (S.pl.x + 1) g) b n g else clears2 S b n g
def clears0 (S : Scr) (b n : Int) (g : Gl) : Scr := if n = 0 ∨ n = 2 then clears1 (eraseAt S S.pl.y.toNat (if n = 2 then 0 else S.pl.x) S.w g) b n g else clears1 S b n g
def noPast (S : Scr) : Scr := { S with past := [] }
def clearsV (S : Scr) (b n : Int) : Scr := if n = 3 ∧ b = 74 then unwait (noPast S) else if 2 < n then S else clears0 (unwait S) b n (erasedG S)
theorem Ok.clears2 {S : Scr} (o : Ok S) (b n : Int) (g : Gl) : Ok (clears2 S b n g) := by
  have := o.d.h0
  unfold M.clears2
  split
  · exact o
  · exact Ok.clearsL n g _ 0 S o (by omega) (by omega)
theorem Ok.clears1 {S : Scr} (o : Ok S) (b n : Int) (g : Gl) : Ok (clears1 S b n g) := by
  have := o.c.p.y0
  have := o.c.p.y1
  unfold M.clears1
  split
  · exact (o.eraseAt (by omega) _ _ _).clears2 b n g
  · exact o.clears2 b n g
theorem Ok.clears0 {S : Scr} (o : Ok S) (b n : Int) (g : Gl) : Ok (clears0 S b n g) := by
  have := o.c.p.y0
  have := o.c.p.y1
  unfold M.clears0
  split
  · exact (o.eraseAt (by omega) _ _ _).clears1 b n g
  · exact o.clears1 b n g
theorem Ok.noPast {S : Scr} (o : Ok S) : Ok (noPast S) :=
  ⟨⟨o.d.w0, o.d.w1, o.d.h0, o.d.h1, o.d.m0, o.d.m1, o.d.m0, o.d.main, o.d.other⟩, ⟨o.c.p, o.c.t0, o.c.tb, o.c.bh, o.c.tabs, o.c.gath, o.c.ans, o.c.hv0, o.c.hv1, o.c.km, o.c.ko⟩⟩
theorem Ok.clears {S : Scr} (o : Ok S) (b n : Int) : Ok (clearsV S b n) := by
  unfold clearsV
  split
  · exact o.noPast.unwait
  · split
    · exact o
    · exact o.unwait.clears0 b n _
theorem clears_j2 {h0 : Base} {h : Heap} {s bb : Nat} {S : Scr} {g : Gl} {a : Option Addr} {nr c : Nat} {b n : Int} {K : Heap → Prop} (hs : RepX h0 h s S [(bb, gC g, 43)]) (ok : Ok S) (hc : cellH h (shA S s) = some (.slice a nr c)) (hn : (nr : Int) = S.h) (hk : ∀ h1, Rep h0 h1 s (clears2 S b n g) → K h1) :
    vt_Screen_clears_j2 K K ⟨s, 0, none⟩ b n a nr c bb h := by
  have hh0 := ok.d.h0
  unfold vt_Screen_clears_j2
  unfold clears2 at hk
  by_cases h1 : b = 75
  · rw [if_pos h1] at hk ⊢
    exact hk h hs.rep
  · rw [if_neg h1] at hk ⊢
    exact ⟨S.h.toNat + 1, clears_l3 S.h.toNat 0 S h hs ok hc (by omega) (by omega) hn hk⟩
theorem clears_j1 {h0 : Base} {h : Heap} {s bb : Nat} {S : Scr} {g : Gl} {a : Option Addr} {nr c : Nat} {b n : Int} {K : Heap → Prop} (hs : RepX h0 h s S [(bb, gC g, 43)]) (ok : Ok S) (hc : cellH h (shA S s) = some (.slice a nr c)) (hn : (nr : Int) = S.h) (hk : ∀ h1, Rep h0 h1 s (clears1 S b n g) → K h1) :
    vt_Screen_clears_j1 K K ⟨s, 0, none⟩ b n a nr c bb h := by
  have y0 := ok.c.p.y0
  have y1 := ok.c.p.y1
  have x0 := ok.c.p.x0
  have x1 := ok.c.p.x1
  have hw1 := ok.d.w1
  unfold vt_Screen_clears_j1
  unfold clears1 at hk
  by_cases h1 : n = 1
  · rw [if_pos h1] at hk ⊢
    have hf := eraseAt_f S S.pl.y.toNat 0 (S.pl.x + 1) g
    have hb := hs.blk
    have hrep := hs.rep
    obtain ⟨A, oM, oO, oP, oT, oG, oK, oL, ho, hpp⟩ := hrep
    simp only [add0, Nat.zero_add]
    refine ldI0 ho rfl ?_
    refine hs.eraser ok hc S.pl.y y0 y1 g fun p a' n' c' her hp => ?_
    refine ldI0 ho rfl ?_
    refine ldS_b hb rfl ?_
    refine ldI_b hb rfl ?_
    refine ldI_b hb rfl ?_
    refine ldI_b hb rfl ?_
    refine ldI_b hb rfl ?_
    show vt_row_erase a' n' c' 0 (IntKind.wrap .i64 (S.pl.x + 1)) _ _ _ _ _ _ h
    rw [wrap64 (x := S.pl.x + 1) (by omega) (by omega)]
    refine her 0 (S.pl.x + 1) _ (Int.le_refl _) (by omega) fun h2 hs2 hc2 => ?_
    exact clears_j2 hs2 (ok.eraseAt (by omega) _ _ _) (by rw [shA_alt hf.2.2.2]; exact hc2) (by rw [hf.2.2.1]; exact hn) hk
  · rw [if_neg h1] at hk ⊢
    exact clears_j2 hs ok hc hn hk
theorem clears_j0 {Kn : Addr → Int → Int → Option Addr → Nat → Nat → Nat → Heap → Prop} {h0 : Base} {h : Heap} {s bb : Nat} {S : Scr} {g : Gl} {a : Option Addr} {nr c : Nat} {b n i : Int} (hs : RepX h0 h s S [(bb, gC g, 43)]) (ok : Ok S) (hc : cellH h (shA S s) = some (.slice a nr c)) (i0 : 0 ≤ i)
    (hk : ∀ p h1, RepX h0 h1 s (eraseAt S S.pl.y.toNat i S.w g) [(bb, gC g, 43)] → cellH h1 (shA S s) = some (.slice (some p) nr c) → Kn ⟨s, 0, none⟩ b n (some p) nr c bb h1) :
    vt_Screen_clears_j0 Kn ⟨s, 0, none⟩ b n a nr c bb i h := by
  have y0 := ok.c.p.y0
  have y1 := ok.c.p.y1
  unfold vt_Screen_clears_j0
  have hb := hs.blk
  have hrep := hs.rep
  obtain ⟨A, oM, oO, oP, oT, oG, oK, oL, ho, hpp⟩ := hrep
  simp only [add0, Nat.zero_add]
  refine ldI0 ho rfl ?_
  refine hs.eraser ok hc S.pl.y y0 y1 g fun p a' n' c' her hp => ?_
  refine ldI0 ho rfl ?_
  refine ldS_b hb rfl ?_
  refine ldI_b hb rfl ?_
  refine ldI_b hb rfl ?_
  refine ldI_b hb rfl ?_
  refine ldI_b hb rfl ?_
  exact her i S.w _ i0 (Int.le_refl _) fun h2 hs2 hc2 => hk p h2 hs2 hc2
theorem clears_sp {h0 : Base} {h : Heap} {s : Nat} {S : Scr} {b n : Int} {K : Heap → Prop} (hs : Rep h0 h s S) (ok : Ok S) (hk : ∀ h1, Rep h0 h1 s (clearsV S b n) → K h1) : vt_Screen_clears (some ⟨s, 0, none⟩) b n K h := by
  have hsh := ok.d.sh
  have x0 := ok.c.p.x0
  obtain ⟨a, nr, c, hc⟩ := hs.shcell
  have hnr : (nr : Int) = S.h := by
    obtain ⟨A, a', n', c', ks, oh, bs, l, ho, hc', h1, h2, h3⟩ := hs.focus
    rw [hc] at hc'
    obtain ⟨rfl, rfl, rfl⟩ : a = a' ∧ nr = n' ∧ c = c' := by simpa using hc'
    have := h1.1
    have := h2.1
    omega
  unfold vt_Screen_clears
  unfold clearsV at hk
  have rest : ∀ q : Addr, shA S s = q → nz (some q) fun p6 =>
  ldL h p6 fun x7 x7n x7c =>
  vt_Screen_erased (some ⟨s, 0, none⟩) (fun x11 x12 x13 x14 x15 h10 =>
   newB h10 #[.string (⟨#[]⟩ : ByteArray), .int .i64 0, .int .i64 0, .int .i64 0, .int .i64 0] 43 fun b16 h17 =>
   stN ⟨b16, 0, none⟩ [.string x11, .int .i64 x12, .int .i64 x13, .int .i64 x14, .int .i64 x15] 0 h17 fun h19 =>
   if ((decide (n = 3)) && (decide (b = 74))) = true then
    nz (some ⟨s, 0, none⟩) fun p25 =>
    stN (p25.add 8) [.slice none 0 0] 0 h19 fun h26 =>
    stN (p25.add 18) [.bool false] 0 h26 fun h27 =>
    K h27
   else
   if 2 < n then
    K h19
   else
   nz (some ⟨s, 0, none⟩) fun p29 =>
   stN (p29.add 18) [.bool false] 0 h19 fun h30 =>
   if ((decide (n = 0)) || (decide (n = 2))) = true then
    ldI h30 .i64 (p29.add 9) fun x36 =>
    if n = 2 then
     vt_Screen_clears_j0
      (fun z97 z98 z99 z100 z100n z100c z101 h102 =>
        vt_Screen_clears_j1
         (fun  h246 =>
             K h246)
         (fun  h248 =>
               K h248) z97 z98 z99 z100 z100n z100c z101 h102) p29 b n x7 x7n x7c b16 0 h30
    else
    vt_Screen_clears_j0
     (fun z253 z254 z255 z256 z256n z256c z257 h258 =>
       vt_Screen_clears_j1
        (fun  h259 =>
            K h259)
        (fun  h261 =>
              K h261) z253 z254 z255 z256 z256n z256c z257 h258) p29 b n x7 x7n x7c b16 x36 h30
   else
   vt_Screen_clears_j1
    (fun  h266 =>
        K h266)
    (fun  h268 =>
          K h268) p29 b n x7 x7n x7c b16 h30) h := by
    intro q hq
    rw [← hq]
    refine nz_i ⟨_, _, _, hc, ?_⟩
    have hs0 := hs
    obtain ⟨A, oM, oO, oP, oT, oG, oK, oL, ho, hp⟩ := hs0
    refine erased_o ho rfl fun h1 he1 => ?_
    have ho1 := ho.gap he1
    refine newB_o ho1 fun b16 h2 ho2 => ?_
    refine st0 ho2 rfl fun h3 ho3 => ?_
    have ho3 : Own h0 h3 ((s, scrC S A, 69) :: (oM ++ (oO ++ (oP ++ (oT ++ (oG ++ (oK ++ (oL ++ [(b16, gC (erasedG S), 43)])))))))) := Own.perm (l := (b16, gC (erasedG S), 43) :: (s, scrC S A, 69) :: (oM ++ (oO ++ (oP ++ (oT ++ (oG ++ (oK ++ oL))))))) ho3 (by (classical exact List.perm_iff_count.2 (fun x => by simp only [List.count_append, List.count_cons, List.count_nil]; omega)))
    have hx3 : RepX h0 h3 s S [(b16, gC (erasedG S), 43)] := ⟨A, oM, oO, oP, oT, oG, oK, oL, ho3, hp⟩
    by_cases h1 : n = 3 ∧ b = 74
    · rw [if_pos h1] at hk
      rw [if_pos (by simpa using h1)]
      refine nz_i ?_
      simp only [add0, Nat.zero_add]
      obtain ⟨A', oM', oO', oP', oT', oG', oK', oL', ho', hp'⟩ := hx3.rep
      refine st0 ho' rfl fun h4 ho4 => ?_
      have ho4 : Own h0 h4 (oP' ++ ((s, scrC (noPast S) { A' with p := none, pn := 0, pc := 0 }, 69) :: (oM' ++ (oO' ++ (oT' ++ (oG' ++ (oK' ++ oL'))))))) := Own.perm (l := (s, scrC (noPast S) { A' with p := none, pn := 0, pc := 0 }, 69) :: (oM' ++ (oO' ++ (oP' ++ (oT' ++ (oG' ++ (oK' ++ oL'))))))) (own_cs ho4 (by kernel_rfl)) (by (classical exact List.perm_iff_count.2 (fun x => by simp only [List.count_append, List.count_cons, List.count_nil]; omega)))
      have hr : Rep h0 h4 s (noPast S) := ⟨{ A' with p := none, pn := 0, pc := 0 }, oM', oO', [], oT', oG', oK', oL', ho4.sub (List.sublist_append_right _ _), hp'.1, hp'.2, ⟨[], [], [], rfl, SlO.nil, RowsB.nil⟩, hp'.4, hp'.5, hp'.6, hp'.7⟩
      exact unwait_st hr hk
    rw [if_neg h1] at hk
    rw [if_neg (by simpa using h1)]
    by_cases h2 : 2 < n
    · rw [if_pos h2] at hk ⊢
      exact hk _ hx3.rep
    rw [if_neg h2] at hk ⊢
    refine nz_i ?_
    simp only [add0, Nat.zero_add]
    refine st0 ho3 rfl fun h4 ho4 => ?_
    have ho4 := own_cs (c' := scrC (unwait S) A) ho4 (by kernel_rfl)
    have hx4 : RepX h0 h4 s (unwait S) [(b16, gC (erasedG S), 43)] := ⟨A, oM, oO, oP, oT, oG, oK, oL, ho4, hp.1, hp.2, hp.3, hp.4, hp.5, hp.6, hp.7⟩
    have hc4 : cellH h4 (shA (unwait S) s) = some (.slice a nr c) := by
      rw [shA_alt (S' := unwait S) (S := S) (s := s) rfl]
      unfold shA at hc ⊢
      split
      · rename_i ha; rw [if_pos ha] at hc; exact ho4.get0.cell 5 ((show (scrC (unwait S) A)[5]? = (scrC S A)[5]? from rfl).trans (cell_inv ho.get0 hc))
      · rename_i ha; rw [if_neg ha] at hc; exact ho4.get0.cell 3 ((show (scrC (unwait S) A)[3]? = (scrC S A)[3]? from rfl).trans (cell_inv ho.get0 hc))
    unfold clears0 at hk
    have ok4 := ok.unwait
    have y0 := ok4.c.p.y0
    have y1 := ok4.c.p.y1
    by_cases h3 : n = 0 ∨ n = 2
    · rw [if_pos h3] at hk
      rw [if_pos (by simpa using h3)]
      refine ldI0 ho4 rfl ?_
      by_cases h4 : n = 2
      · rw [if_pos h4] at hk ⊢
        refine clears_j0 hx4 ok4 hc4 (Int.le_refl _) fun p h5 hx5 hc5 => ?_
        have hf := eraseAt_f (unwait S) (unwait S).pl.y.toNat 0 (unwait S).w (erasedG S)
        exact clears_j1 hx5 (ok4.eraseAt (by omega) _ _ _) (by rw [shA_alt hf.2.2.2]; exact hc5) (by rw [hf.2.2.1]; exact hnr) hk
      · rw [if_neg h4] at hk ⊢
        refine clears_j0 hx4 ok4 hc4 x0 fun p h5 hx5 hc5 => ?_
        have hf := eraseAt_f (unwait S) (unwait S).pl.y.toNat (unwait S).pl.x (unwait S).w (erasedG S)
        exact clears_j1 hx5 (ok4.eraseAt (by omega) _ _ _) (by rw [shA_alt hf.2.2.2]; exact hc5) (by rw [hf.2.2.1]; exact hnr) hk
    · rw [if_neg h3] at hk
      rw [if_neg (by simpa using h3)]
      exact clears_j1 hx4 ok4 hc4 hnr hk
  refine shown_sp hs (fun ha => ?_) (fun ha => ?_)
  · exact rest _ (by unfold shA; rw [if_pos ha])
  · exact rest _ (by unfold shA; rw [if_neg (by rw [ha]; decide)])
end Go.Proofs.YthjdnhhifjpidaaDoor.M
