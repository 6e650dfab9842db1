import Derived.Test.YthjdnhhifjpidaaDoorU3
set_option linter.unusedVariables false
set_option linter.unusedSimpArgs false
set_option maxRecDepth 100000
namespace Go.Proofs.YthjdnhhifjpidaaDoor.M
open Go Go.Hp

/-! ### One row of those that are shown -/
theorem Rep.row {h0 : Base} {h : Heap} {s : Nat} {S : Scr} (hs : Rep h0 h s S) (y : Nat) (hy : y < S.sh.length) : ∃ A rs rn rc p a n c o l, Own h0 h ((s, scrC S A, 69) :: (o ++ l)) ∧ cellH h (shA S s) = some (.slice rs rn rc) ∧ rs = some p ∧ rn = S.sh.length ∧ cellH h (p.add (y * 1)) = some (.slice a n c) ∧
    SlO gf 5 43 a n c (S.sh.getD y []) o ∧ ∀ h' o' g', Own h0 h' ((s, scrC S A, 69) :: (o' ++ l)) → SlO gf 5 43 a n c g' o' → Rep h0 h' s (S.setSh (S.sh.set y g')) := by
  obtain ⟨A, rs, rn, rc, ks, oh, bs, l, ho, hc, h1, h2, h3⟩ := hs.focus
  obtain ⟨k1, k2, k3⟩ := h2
  have hn := h1.1
  have hoH : Own h0 h ([(s, scrC S A, 69)] ++ (oh ++ (bs.flatten ++ l))) := ho
  obtain ⟨p, hp, d⟩ := SlO.get rf_len h1 hoH y (none, 0, 0) (by omega)
  have d0 : cellH h (p.add (y * 1)) = some (.slice (ks.getD y (none, 0, 0)).1 (ks.getD y (none, 0, 0)).2.1 (ks.getD y (none, 0, 0)).2.2) := d 0 _ rfl
  refine ⟨A, rs, rn, rc, p, _, _, _, bs.getD y [], oh ++ ((bs.take y).flatten ++ ((bs.drop (y + 1)).flatten ++ l)), ?_, hc, hp, by omega, d0, k3 y hy, fun h' o' g' ho' hs' => ?_⟩
  · rw [fl_split bs y (by omega)] at ho
    exact ho.perm (by (classical exact List.perm_iff_count.2 (fun x => by simp only [List.count_append, List.count_cons, List.count_nil]; omega)))
  · refine h3 h' ks oh (bs.set y o') (S.sh.set y g') ?_ h1 (RowsB.set ⟨k1, k2, k3⟩ y g' o' hs')
    rw [fl_set bs y o' (by omega)]
    exact ho'.perm (by (classical exact List.perm_iff_count.2 (fun x => by simp only [List.count_append, List.count_cons, List.count_nil]; omega)))
theorem row_sp {h0 : Base} {h : Heap} {s : Nat} {S : Scr} {K : Option Addr → Nat → Nat → Heap → Prop} (hs : Rep h0 h s S) (y0 : 0 ≤ S.pl.y) (y1 : S.pl.y < S.sh.length)
    (hk : ∀ A a n c o l, Own h0 h ((s, scrC S A, 69) :: (o ++ l)) → SlO gf 5 43 a n c (S.sh.getD S.pl.y.toNat []) o → (∀ h' o' g', Own h0 h' ((s, scrC S A, 69) :: (o' ++ l)) → SlO gf 5 43 a n c g' o' → Rep h0 h' s (S.setSh (S.sh.set S.pl.y.toNat g'))) → K a n c h) :
    vt_Screen_row (some ⟨s, 0, none⟩) K h := by
  obtain ⟨A, rs, rn, rc, p, a, n, c, o, l, ho, hc, hp, hn, hd, h1, h2⟩ := hs.row S.pl.y.toNat (by omega)
  have hkk := hk A a n c o l ho h1 h2
  subst hp
  unfold vt_Screen_row
  refine nz_i ?_
  simp only [add0, Nat.zero_add]
  refine ldI0 ho rfl ?_
  have rest : ∀ q : Addr, shA S s = q → (cellH h ⟨s, 10, none⟩ = some (.int .i64 S.pl.y)) ∧ nz (some q) fun p10 => ldL h p10 fun x11 x11n x11c => nz x11 fun p17 => 0 ≤ S.pl.y ∧ S.pl.y < (x11n : Int) ∧ ldL h (p17.add ((S.pl.y).toNat * 1)) fun x18 x18n x18c => K x18 x18n x18c h := by
    intro q hq
    rw [hq] at hc
    exact ⟨ho.get0.cell 10 rfl, nz_i ⟨_, _, _, hc, nz_i ⟨y0, by omega, ⟨_, _, _, hd, hkk⟩⟩⟩⟩
  refine shown_sp hs (fun ha => ?_) (fun ha => ?_)
  · exact rest _ (by unfold shA; rw [if_pos ha])
  · exact rest _ (by unfold shA; rw [if_neg (by rw [ha]; decide)])
/-- A letter of two places that a row is cut through is mended. -/
def blankOf (g : Gl) : Gl := (⟨#[32]⟩, 1, g.2.2.1, g.2.2.2.1, g.2.2.2.2)
def gl0 : Gl := (⟨#[]⟩, 0, 0, 0, 0)
def cutV (r : List Gl) (at_ : Int) : List Gl :=
  if 0 < at_ ∧ at_ < r.length ∧ (r.getD at_.toNat gl0).2.1 = 0 then (r.set (at_ - 1).toNat (blankOf (r.getD (at_ - 1).toNat gl0))).set at_.toNat (blankOf (r.getD at_.toNat gl0)) else r
theorem cutV_len (r : List Gl) (at_ : Int) : (cutV r at_).length = r.length := by
  unfold cutV
  split
  · simp
  · rfl
theorem cut_sp {h0 : Base} {h : Heap} {a : Option Addr} {n c : Nat} {r : List Gl} {o pre l : Blks} {i : Int} {K : Heap → Prop} (hs : SlO gf 5 43 a n c r o) (ho : Own h0 h (pre ++ (o ++ l))) (hn : n < 9000000000000000000)
    (hk : ∀ h' o', Own h0 h' (pre ++ (o' ++ l)) → SlO gf 5 43 a n c (cutV r i) o' → K h') : vt_row_cut a n c i K h := by
  have hl := hs.1
  unfold vt_row_cut
  unfold cutV at hk
  by_cases hc : ((decide (0 < i)) && (decide (i < (n : Int)))) = true
  · rw [if_pos hc]
    simp only [Bool.and_eq_true, decide_eq_true_eq] at hc
    obtain ⟨p, hp, d⟩ := hs.get gf_len ho i.toNat gl0 (by omega)
    obtain ⟨p', hp', d'⟩ := hs.get gf_len ho (i - 1).toNat gl0 (by omega)
    obtain rfl : p = p' := Option.some.inj (hp.symm.trans hp')
    have hsA := hs
    rw [hp] at hsA ⊢
    refine nz_i ⟨by omega, hc.2, ⟨_, d 1 _ rfl, ?_⟩⟩
    simp only []
    by_cases hz : (r.getD i.toNat gl0).2.1 = 0
    · rw [if_pos ⟨hc.1, by omega, hz⟩] at hk
      rw [if_pos hz, wrap64 (by omega) (by omega)]
      refine ⟨by omega, by omega, ⟨_, d' 2 _ rfl, ⟨_, d' 3 _ rfl, ⟨_, d' 4 _ rfl, ?_⟩⟩⟩⟩
      refine ⟨by omega, by omega, gap_o ho fun h1 ho1 => ?_⟩
      refine SlO.set gf_len hs ho1 (i - 1).toNat (blankOf (r.getD (i - 1).toNat gl0)) (by omega) hp fun h2 o2 ho2 hs2 => ?_
      obtain ⟨p2, hp2, d2⟩ := hs2.get gf_len ho2 i.toNat gl0 (by omega)
      obtain rfl : p = p2 := Option.some.inj (hp.symm.trans hp2)
      have eg : (r.set (i - 1).toNat (blankOf (r.getD (i - 1).toNat gl0))).getD i.toNat gl0 = r.getD i.toNat gl0 := by
        rw [List.getD_eq_getElem?_getD, List.getElem?_set_ne (by omega), ← List.getD_eq_getElem?_getD]
      rw [eg] at d2
      refine ⟨by omega, hc.2, ⟨_, d2 2 _ rfl, ⟨_, d2 3 _ rfl, ⟨_, d2 4 _ rfl, ?_⟩⟩⟩⟩
      refine ⟨by omega, hc.2, gap_o ho2 fun h3 ho3 => ?_⟩
      refine SlO.set gf_len hs2 ho3 i.toNat (blankOf (r.getD i.toNat gl0)) (by omega) hp fun h4 o4 ho4 hs4 => ?_
      exact hk h4 o4 ho4 hs4
    · rw [if_neg (fun hh => hz hh.2.2)] at hk
      rw [if_neg hz]
      exact hk h o ho hs
  · rw [if_neg hc]
    have hc' : ¬ (0 < i ∧ i < (n : Int)) := by simpa using hc
    rw [if_neg (fun hh => hc' ⟨hh.1, by omega⟩)] at hk
    exact hk h o ho hs
/-- Places up to ahead of one are filled. -/
def fillV (r : List Gl) (g : Gl) : Nat → Int → Int → List Gl
  | 0, _, _ => r
  | f + 1, i, to => if i < to then fillV (r.set i.toNat g) g f (i + 1) to else r
theorem fillV_len (g : Gl) : ∀ (f : Nat) (r : List Gl) (i to : Int), (fillV r g f i to).length = r.length
  | 0, _, _, _ => rfl
  | f + 1, r, i, to => by
    unfold fillV
    split
    · rw [fillV_len g f]; simp
    · rfl
def eraseV (r : List Gl) (i to : Int) (g : Gl) : List Gl := fillV (cutV (cutV r i) to) g (to - i).toNat i to
theorem erase_l0 {h0 : Base} {a : Option Addr} {n c b : Nat} {pre l : Blks} {to : Int} {g : Gl} {K0 : Heap → Prop} (hto : to ≤ n) (hn : n < 9000000000000000000) :
    ∀ (f : Nat) (i : Int) (h : Heap) (r : List Gl) (o : Blks), SlO gf 5 43 a n c r o → Own h0 h (((b, #[.string g.1, .int .i64 g.2.1, .int .i64 g.2.2.1, .int .i64 g.2.2.2.1, .int .i64 g.2.2.2.2], 43) :: pre) ++ (o ++ l)) → 0 ≤ i → (to - i).toNat = f →
      (∀ h' o', Own h0 h' (pre ++ (o' ++ l)) → SlO gf 5 43 a n c (fillV r g f i to) o' → K0 h') → vt_row_erase_l0 K0 (f + 1) a n c to b i h := by
  intro f
  induction f with
  | zero =>
    intro i h r o hs ho hi hf hk
    unfold vt_row_erase_l0
    rw [if_neg (by omega)]
    have ho' : Own h0 h ((b, _, 43) :: (pre ++ (o ++ l))) := ho
    exact hk h o ho'.tail hs
  | succ f ih =>
    intro i h r o hs ho hi hf hk
    have ho' : Own h0 h ((b, #[.string g.1, .int .i64 g.2.1, .int .i64 g.2.2.1, .int .i64 g.2.2.2.1, .int .i64 g.2.2.2.2], 43) :: (pre ++ (o ++ l))) := ho
    unfold vt_row_erase_l0
    unfold fillV at hk
    rw [if_pos (by omega)] at hk ⊢
    refine ldS0 ho' rfl ?_
    refine ldI0 ho' rfl ?_
    refine ldI0 ho' rfl ?_
    refine ldI0 ho' rfl ?_
    refine ldI0 ho' rfl ?_
    obtain ⟨p, hp, _⟩ := hs.get gf_len ho i.toNat gl0 (by omega)
    rw [hp]
    refine nz_i ⟨hi, by omega, ?_⟩
    refine SlO.set gf_len hs ho i.toNat g (by omega) hp fun h2 o2 ho2 hs2 => ?_
    rw [wrap64 (by omega) (by omega), ← hp]
    exact ih (i + 1) h2 _ o2 hs2 ho2 (by omega) (by omega) hk
theorem erase_sp {h0 : Base} {h : Heap} {a : Option Addr} {n c : Nat} {r : List Gl} {o pre l : Blks} {i to : Int} {g : Gl} {K : Heap → Prop} (hs : SlO gf 5 43 a n c r o) (ho : Own h0 h (pre ++ (o ++ l))) (hi : 0 ≤ i) (hto : to ≤ n) (hn : n < 9000000000000000000)
    (hk : ∀ h' o', Own h0 h' (pre ++ (o' ++ l)) → SlO gf 5 43 a n c (eraseV r i to g) o' → K h') : vt_row_erase a n c i to g.1 g.2.1 g.2.2.1 g.2.2.2.1 g.2.2.2.2 K h := by
  unfold vt_row_erase
  refine newB_o ho fun b h1 ho1 => ?_
  have ho1 : Own h0 h1 (((b, #[.string g.1, .int .i64 g.2.1, .int .i64 g.2.2.1, .int .i64 g.2.2.2.1, .int .i64 g.2.2.2.2], 43) :: pre) ++ (o ++ l)) := ho1
  refine cut_sp hs ho1 hn fun h2 o2 ho2 hs2 => ?_
  refine cut_sp hs2 ho2 hn fun h3 o3 ho3 hs3 => ⟨(to - i).toNat + 1, ?_⟩
  exact erase_l0 hto hn (to - i).toNat i h3 _ o3 hs3 ho3 hi rfl hk
end Go.Proofs.YthjdnhhifjpidaaDoor.M
