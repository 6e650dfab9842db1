import Derived.Test.YthjdnhhifjpidaaDoorU10
set_option linter.unusedVariables false
set_option linter.unusedSimpArgs false
set_option maxRecDepth 100000
namespace Go.Proofs.YthjdnhhifjpidaaDoor.M
open Go Go.Hp

/-! ### What is kept to besides the sizes -/
structure Pin (w h : Int) (p : Pl) : Prop where
  x0 : 0 ≤ p.x
  x1 : p.x < w
  y0 : 0 ≤ p.y
  y1 : p.y < h
structure Core (S : Scr) : Prop where
  p : Pin S.w S.h S.pl
  t0 : 0 ≤ S.top
  tb : S.top ≤ S.bottom
  bh : S.bottom < S.h
  tabs : (S.tabs.length : Int) = S.w
  gath : S.gathered.length ≤ 256
  ans : S.answer.size ≤ 4096
  hv0 : 0 ≤ S.have_
  hv1 : 0 < S.have_ → S.have_ < S.want ∧ S.want ≤ 4
  km : ∀ q, S.mkept = some q → Pin S.w S.h q
  ko : ∀ q, S.okept = some q → Pin S.w S.h q
theorem Core.setSh {S : Scr} (c : Core S) (R) : Core (S.setSh R) := by
  unfold Scr.setSh
  split <;> exact ⟨c.p, c.t0, c.tb, c.bh, c.tabs, c.gath, c.ans, c.hv0, c.hv1, c.km, c.ko⟩
theorem Core.keepOne {S : Scr} (c : Core S) (t k) : Core (keepOne S t k) := by
  unfold M.keepOne
  split
  · split
    · exact c
    · exact ⟨c.p, c.t0, c.tb, c.bh, c.tabs, c.gath, c.ans, c.hv0, c.hv1, c.km, c.ko⟩
  · exact c
structure Ok (S : Scr) : Prop where
  d : Dim S
  c : Core S
theorem Ok.upL (t b : Int) (k : Bool) (t0 : 0 ≤ t) (tb : t ≤ b) : ∀ (n : Nat) (S : Scr), Ok S → b < S.h → Ok (upL t b k n S)
  | 0, S, o, _ => o
  | n + 1, S, o, bh => by
    have hw := keepOne_w S t k
    exact Ok.upL t b k t0 tb n _ ⟨(o.d.keepOne t k).upOne t0 tb (by rw [hw.2.2.1]; exact bh), (o.c.keepOne t k).setSh _⟩ (by rw [(upOne_w _ t b).2.2, hw.2.2.1]; exact bh)
theorem Ok.up {S : Scr} (o : Ok S) {t b n : Int} {k : Bool} (t0 : 0 ≤ t) (tb : t ≤ b) (bh : b < S.h) : Ok (upV S t b n k) := Ok.upL t b k t0 tb _ S o bh
theorem Ok.downL (t b : Int) (t0 : 0 ≤ t) (tb : t ≤ b) : ∀ (n : Nat) (S : Scr), Ok S → b < S.h → Ok (downL t b n S)
  | 0, S, o, _ => o
  | n + 1, S, o, bh => Ok.downL t b t0 tb n _ ⟨o.d.downOne t0 tb bh, o.c.setSh _⟩ (by rw [(downOne_w _ t b).2.2]; exact bh)
theorem Ok.down {S : Scr} (o : Ok S) {t b n : Int} (t0 : 0 ≤ t) (tb : t ≤ b) (bh : b < S.h) : Ok (downV S t b n) := Ok.downL t b t0 tb _ S o bh
/-- The cursor and what goes with it is another. -/
def Scr.setPl (S : Scr) (p : Pl) : Scr := { S with pl := p }
theorem Ok.setPl {S : Scr} (o : Ok S) {p : Pl} (hp : Pin S.w S.h p) : Ok (S.setPl p) :=
  ⟨⟨o.d.w0, o.d.w1, o.d.h0, o.d.h1, o.d.m0, o.d.m1, o.d.past, o.d.main, o.d.other⟩, ⟨hp, o.c.t0, o.c.tb, o.c.bh, o.c.tabs, o.c.gath, o.c.ans, o.c.hv0, o.c.hv1, o.c.km, o.c.ko⟩⟩
theorem pin_min {w x : Int} (w0 : 1 ≤ w) (w1 : w ≤ 1000) : 0 ≤ imax 0 (imin x (IntKind.wrap .i64 (w - 1))) ∧ imax 0 (imin x (IntKind.wrap .i64 (w - 1))) < w := by
  rw [wrap64 (by omega) (by omega)]
  unfold imax imin
  constructor <;> (split <;> split <;> omega)
theorem Ok.to {S : Scr} (o : Ok S) (x y : Int) : Ok (toV S x y) :=
  o.setPl (p := { S.pl with x := imax 0 (imin x (IntKind.wrap .i64 (S.w - 1))), y := imax 0 (imin y (IntKind.wrap .i64 (S.h - 1))), waiting := false }) ⟨(pin_min o.d.w0 o.d.w1).1, (pin_min o.d.w0 o.d.w1).2, (pin_min o.d.h0 o.d.h1).1, (pin_min o.d.h0 o.d.h1).2⟩
theorem Ok.home {S : Scr} (o : Ok S) (y x : Int) : Ok (homeV S y x) := o.to _ _
theorem Ok.rowsUp {S : Scr} (o : Ok S) (n : Int) : Ok (rowsUpV S n) := o.to _ _
theorem Ok.rowsDown {S : Scr} (o : Ok S) (n : Int) : Ok (rowsDownV S n) := o.to _ _

/-! ### One row on -/
def setX (S : Scr) (x : Int) : Scr := S.setPl { S.pl with x := x }
def setY (S : Scr) (y : Int) : Scr := S.setPl { S.pl with y := y }
theorem Ok.setX {S : Scr} (o : Ok S) {x : Int} (x0 : 0 ≤ x) (x1 : x < S.w) : Ok (setX S x) := Ok.setPl (p := { S.pl with x := x }) o ⟨x0, x1, o.c.p.y0, o.c.p.y1⟩
theorem Ok.setY {S : Scr} (o : Ok S) {x : Int} (x0 : 0 ≤ x) (x1 : x < S.h) : Ok (setY S x) := Ok.setPl (p := { S.pl with y := x }) o ⟨o.c.p.x0, o.c.p.x1, x0, x1⟩
def unwait (S : Scr) : Scr := S.setPl { S.pl with waiting := false }
theorem Ok.unwait {S : Scr} (o : Ok S) : Ok (unwait S) := Ok.setPl (p := { S.pl with waiting := false }) o ⟨o.c.p.x0, o.c.p.x1, o.c.p.y0, o.c.p.y1⟩
theorem unwait_st {h0 : Base} {h : Heap} {s : Nat} {S : Scr} {K : Heap → Prop} (hs : Rep h0 h s S) (hk : ∀ h1, Rep h0 h1 s (unwait S) → K h1) : stN ⟨s, 18, none⟩ [.bool false] 0 h K := by
  obtain ⟨A, oM, oO, oP, oT, oG, oK, oL, ho, hp⟩ := hs
  repeat (first | ((with_reducible apply newB_o); (with_reducible assumption); intro _ _ _) | ((with_reducible apply st0); (with_reducible assumption); rfl; intro _ _) | ((with_reducible apply ldI0); (with_reducible assumption); rfl) | ((with_reducible apply ldB0); (with_reducible assumption); rfl) | ((with_reducible apply ldS0); (with_reducible assumption); rfl) | (with_reducible apply nz_i))
  exact hk _ ⟨A, oM, oO, oP, oT, oG, oK, oL, by assumption, hp.1, hp.2, hp.3, hp.4, hp.5, hp.6, hp.7⟩
def feedV (S : Scr) : Scr :=
  if S.pl.y = S.bottom then unwait (upV S S.top S.bottom 1 true)
  else if S.pl.y < S.h - 1 then unwait (setY S (S.pl.y + 1)) else unwait S
theorem Ok.feed {S : Scr} (o : Ok S) : Ok (feedV S) := by
  unfold feedV
  split
  · exact (o.up o.c.t0 o.c.tb o.c.bh).unwait
  · split
    · have h1 := o.c.p.y0
      exact (o.setY (by omega) (by omega)).unwait
    · exact o.unwait
theorem feed_sp {h0 : Base} {h : Heap} {s : Nat} {S : Scr} {K : Heap → Prop} (hs : Rep h0 h s S) (o : Ok S) (hk : ∀ h1, Rep h0 h1 s (feedV S) → K h1) : vt_Screen_feed (some ⟨s, 0, none⟩) K h := by
  have hs0 := hs
  have hh0 := o.d.h0
  have hh1 := o.d.h1
  have hy := o.c.p.y0
  have hy1 := o.c.p.y1
  obtain ⟨A, oM, oO, oP, oT, oG, oK, oL, ho, hp⟩ := hs
  unfold vt_Screen_feed
  unfold feedV at hk
  refine nz_i ?_
  simp only [add0, Nat.zero_add]
  repeat (first | ((with_reducible apply newB_o); (with_reducible assumption); intro _ _ _) | ((with_reducible apply st0); (with_reducible assumption); rfl; intro _ _) | ((with_reducible apply ldI0); (with_reducible assumption); rfl) | ((with_reducible apply ldB0); (with_reducible assumption); rfl) | ((with_reducible apply ldS0); (with_reducible assumption); rfl) | (with_reducible apply nz_i))
  by_cases hc : S.pl.y = S.bottom
  · rw [if_pos hc] at hk ⊢
    repeat (first | ((with_reducible apply newB_o); (with_reducible assumption); intro _ _ _) | ((with_reducible apply st0); (with_reducible assumption); rfl; intro _ _) | ((with_reducible apply ldI0); (with_reducible assumption); rfl) | ((with_reducible apply ldB0); (with_reducible assumption); rfl) | ((with_reducible apply ldS0); (with_reducible assumption); rfl) | (with_reducible apply nz_i))
    exact up_sp hs0 o.d o.c.t0 o.c.tb o.c.bh fun h1 hs1 => unwait_st hs1 hk
  · rw [if_neg hc] at hk ⊢
    repeat (first | ((with_reducible apply newB_o); (with_reducible assumption); intro _ _ _) | ((with_reducible apply st0); (with_reducible assumption); rfl; intro _ _) | ((with_reducible apply ldI0); (with_reducible assumption); rfl) | ((with_reducible apply ldB0); (with_reducible assumption); rfl) | ((with_reducible apply ldS0); (with_reducible assumption); rfl) | (with_reducible apply nz_i))
    rw [wrap64 (x := S.h - 1) (by omega) (by omega)]
    by_cases hc2 : S.pl.y < S.h - 1
    · rw [if_pos hc2] at hk ⊢
      refine ldI0 ho rfl ?_
      rw [wrap64 (x := S.pl.y + 1) (by omega) (by omega)]
      repeat (first | ((with_reducible apply newB_o); (with_reducible assumption); intro _ _ _) | ((with_reducible apply st0); (with_reducible assumption); rfl; intro _ _) | ((with_reducible apply ldI0); (with_reducible assumption); rfl) | ((with_reducible apply ldB0); (with_reducible assumption); rfl) | ((with_reducible apply ldS0); (with_reducible assumption); rfl) | (with_reducible apply nz_i))
      exact hk _ ⟨A, oM, oO, oP, oT, oG, oK, oL, by assumption, hp.1, hp.2, hp.3, hp.4, hp.5, hp.6, hp.7⟩
    · rw [if_neg hc2] at hk ⊢
      exact unwait_st hs0 hk

/-! ### Tab stops -/
def tabIn (tabs : List Bool) (w : Int) : Nat → Int → Int
  | 0, x => x
  | f + 1, x => if x < w - 1 then if tabs.getD x.toNat false = true then x else tabIn tabs w f (x + 1) else x
theorem tabIn_b (tabs : List Bool) (w : Int) : ∀ (f : Nat) (x : Int), 0 ≤ x → x ≤ w - 1 → 0 ≤ tabIn tabs w f x ∧ tabIn tabs w f x ≤ w - 1
  | 0, x, h0, h1 => ⟨h0, h1⟩
  | f + 1, x, h0, h1 => by
    unfold tabIn
    split
    · split
      · exact ⟨h0, h1⟩
      · exact tabIn_b tabs w f (x + 1) (by omega) (by omega)
    · exact ⟨h0, h1⟩
def tabL (tabs : List Bool) (w : Int) : Nat → Int → Int
  | 0, x => x
  | n + 1, x => if x < w - 1 then tabL tabs w n (tabIn tabs w (w - 1 - (x + 1)).toNat (x + 1)) else x
def tabV (S : Scr) (n : Int) : Scr := toV S (tabL S.tabs S.w n.toNat S.pl.x) S.pl.y
theorem Ok.tab {S : Scr} (o : Ok S) (n : Int) : Ok (tabV S n) := o.to _ _
theorem stop_at {h0 : Base} {h : Heap} {s : Nat} {S : Scr} (hs : Rep h0 h s S) (o : Ok S) {x : Int} {K : Option Addr → Nat → Nat → Prop} (x0 : 0 ≤ x) (x1 : x < S.w)
    (hk : ∀ (p : Addr) (n c : Nat), (n : Int) = S.w → cellH h (p.add (x.toNat * 1)) = some (.bool (S.tabs.getD x.toNat false)) → K (some p) n c) : ldL h ⟨s, 21, none⟩ K := by
  obtain ⟨A, oM, oO, oP, oT, oG, oK, oL, ho, hp⟩ := hs
  refine ldL0 ho rfl ?_
  have hl := hp.4.1
  have ht := o.c.tabs
  have hoA : Own h0 h (((s, scrC S A, 69) :: (oM ++ (oO ++ oP))) ++ (oT ++ (oG ++ (oK ++ oL)))) := by simpa using ho
  obtain ⟨p, hpp, d⟩ := SlO.get tf_len hp.4 hoA x.toNat false (by omega)
  rw [hpp]
  exact hk p _ _ (by omega) (d 0 _ rfl)
theorem tab_l1 {h0 : Base} {h : Heap} {s : Nat} {S : Scr} {n : Int} {K2 : Addr → Int → Int → Heap → Prop} (hs : Rep h0 h s S) (o : Ok S) : ∀ (q : Nat) (x : Int), (S.w - 1 - x).toNat = q → 0 ≤ x →
    K2 ⟨s, 0, none⟩ n (tabIn S.tabs S.w q x) h → vt_Screen_tab_l1 K2 (q + 1) ⟨s, 0, none⟩ n x h := by
  have hw0 := o.d.w0
  have hw1 := o.d.w1
  intro q
  induction q with
  | zero =>
    intro x hq x0 hk
    unfold vt_Screen_tab_l1
    have hs0 := hs
    obtain ⟨A, oM, oO, oP, oT, oG, oK, oL, ho, hp⟩ := hs
    refine ldI0 ho rfl ?_
    rw [wrap64 (by omega) (by omega), if_neg (by omega)]
    exact hk
  | succ q ih =>
    intro x hq x0 hk
    unfold tabIn at hk
    rw [if_pos (by omega)] at hk
    unfold vt_Screen_tab_l1
    have hs0 := hs
    obtain ⟨A, oM, oO, oP, oT, oG, oK, oL, ho, hp⟩ := hs
    refine ldI0 ho rfl ?_
    rw [wrap64 (by omega) (by omega), if_pos (by omega)]
    simp only [add0, Nat.zero_add]
    refine stop_at hs0 o x0 (by omega) fun p nn c hn hd => nz_i ⟨x0, by omega, ⟨_, hd, ?_⟩⟩
    rw [wrap64 (by omega) (by omega)]
    cases hb : S.tabs.getD x.toNat false with
    | true => rw [hb] at hk; exact hk
    | false =>
      rw [hb] at hk
      exact ih (x + 1) (by omega) (by omega) hk
theorem tab_l0 {h0 : Base} {h : Heap} {s : Nat} {S : Scr} {K0 : Addr → Int → Heap → Prop} (hs : Rep h0 h s S) (o : Ok S) : ∀ (q : Nat) (n x : Int), n.toNat = q → n ≤ 1000000 → 0 ≤ x → x ≤ S.w - 1 →
    K0 ⟨s, 0, none⟩ (tabL S.tabs S.w q x) h → vt_Screen_tab_l0 K0 (q + 1) ⟨s, 0, none⟩ n x h := by
  have hw0 := o.d.w0
  have hw1 := o.d.w1
  intro q
  induction q with
  | zero =>
    intro n x hq hn x0 x1 hk
    unfold vt_Screen_tab_l0
    rw [if_neg (by omega)]
    exact hk
  | succ q ih =>
    intro n x hq hn x0 x1 hk
    unfold tabL at hk
    unfold vt_Screen_tab_l0
    rw [if_pos (by omega)]
    have hs0 := hs
    obtain ⟨A, oM, oO, oP, oT, oG, oK, oL, ho, hp⟩ := hs
    refine ldI0 ho rfl ?_
    rw [wrap64 (by omega) (by omega)]
    by_cases hc : x < S.w - 1
    · rw [if_pos hc] at hk ⊢
      refine ⟨(S.w - 1 - (x + 1)).toNat + 1, ?_⟩
      rw [wrap64 (x := x + 1) (by omega) (by omega)]
      refine tab_l1 hs0 o _ (x + 1) rfl (by omega) ?_
      have hb := tabIn_b S.tabs S.w (S.w - 1 - (x + 1)).toNat (x + 1) (by omega) (by omega)
      rw [wrap64 (by omega) (by omega)]
      exact ih (n - 1) _ (by omega) (by omega) hb.1 hb.2 hk
    · rw [if_neg hc] at hk ⊢
      exact hk
theorem tab_sp {h0 : Base} {h : Heap} {s : Nat} {S : Scr} {n : Int} {K : Heap → Prop} (hs : Rep h0 h s S) (o : Ok S) (hn : n ≤ 1000000) (hk : ∀ h1, Rep h0 h1 s (tabV S n) → K h1) : vt_Screen_tab (some ⟨s, 0, none⟩) n K h := by
  have hs0 := hs
  have hx := o.c.p
  obtain ⟨A, oM, oO, oP, oT, oG, oK, oL, ho, hp⟩ := hs
  unfold vt_Screen_tab
  refine nz_i ?_
  simp only [add0, Nat.zero_add]
  repeat (first | ((with_reducible apply newB_o); (with_reducible assumption); intro _ _ _) | ((with_reducible apply st0); (with_reducible assumption); rfl; intro _ _) | ((with_reducible apply ldI0); (with_reducible assumption); rfl) | ((with_reducible apply ldB0); (with_reducible assumption); rfl) | ((with_reducible apply ldS0); (with_reducible assumption); rfl) | (with_reducible apply nz_i))
  have := hx.x1
  refine ⟨n.toNat + 1, tab_l0 hs0 o _ n S.pl.x rfl hn hx.x0 (by omega) ?_⟩
  simp only [add0, Nat.zero_add]
  refine ldI0 ho rfl ?_
  exact to_sp hs0 hk
def backIn (tabs : List Bool) : Nat → Int → Int
  | 0, x => x
  | f + 1, x => if tabs.getD x.toNat false = true then x else backIn tabs f (x - 1)
theorem backIn_b (tabs : List Bool) (w : Int) : ∀ (f : Nat) (x : Int), x.toNat = f → 0 ≤ x → x < w → 0 ≤ backIn tabs f x ∧ backIn tabs f x < w
  | 0, x, _, h0, h1 => ⟨h0, h1⟩
  | f + 1, x, hf, h0, h1 => by
    unfold backIn
    split
    · exact ⟨h0, h1⟩
    · exact backIn_b tabs w f (x - 1) (by omega) (by omega) (by omega)
def backL (tabs : List Bool) : Nat → Int → Int
  | 0, x => x
  | n + 1, x => if 0 < x then backL tabs n (backIn tabs (x - 1).toNat (x - 1)) else x
def backV (S : Scr) (n : Int) : Scr := toV S (backL S.tabs n.toNat S.pl.x) S.pl.y
theorem Ok.back {S : Scr} (o : Ok S) (n : Int) : Ok (backV S n) := o.to _ _
theorem back_l1 {h0 : Base} {h : Heap} {s : Nat} {S : Scr} {n : Int} {K2 : Addr → Int → Int → Heap → Prop} (hs : Rep h0 h s S) (o : Ok S) : ∀ (q : Nat) (x : Int), x.toNat = q → 0 ≤ x → x < S.w →
    K2 ⟨s, 0, none⟩ n (backIn S.tabs q x) h → vt_Screen_back_l1 K2 (q + 1) ⟨s, 0, none⟩ n x h := by
  have hw0 := o.d.w0
  have hw1 := o.d.w1
  intro q
  induction q with
  | zero =>
    intro x hq x0 x1 hk
    unfold vt_Screen_back_l1
    rw [if_neg (by omega)]
    exact hk
  | succ q ih =>
    intro x hq x0 x1 hk
    unfold backIn at hk
    unfold vt_Screen_back_l1
    rw [if_pos (by omega)]
    simp only [add0, Nat.zero_add]
    refine stop_at hs o x0 x1 fun p nn c hn hd => nz_i ⟨x0, by omega, ⟨_, hd, ?_⟩⟩
    rw [wrap64 (by omega) (by omega)]
    cases hb : S.tabs.getD x.toNat false with
    | true => rw [hb] at hk; exact hk
    | false =>
      rw [hb] at hk
      exact ih (x - 1) (by omega) (by omega) (by omega) hk
theorem back_l0 {h0 : Base} {h : Heap} {s : Nat} {S : Scr} {K0 : Addr → Int → Heap → Prop} (hs : Rep h0 h s S) (o : Ok S) : ∀ (q : Nat) (n x : Int), n.toNat = q → n ≤ 1000000 → 0 ≤ x → x < S.w →
    K0 ⟨s, 0, none⟩ (backL S.tabs q x) h → vt_Screen_back_l0 K0 (q + 1) ⟨s, 0, none⟩ n x h := by
  have hw0 := o.d.w0
  have hw1 := o.d.w1
  intro q
  induction q with
  | zero =>
    intro n x hq hn x0 x1 hk
    unfold vt_Screen_back_l0
    rw [if_neg (by simp; omega)]
    exact hk
  | succ q ih =>
    intro n x hq hn x0 x1 hk
    unfold backL at hk
    unfold vt_Screen_back_l0
    by_cases hc : 0 < x
    · rw [if_pos hc] at hk
      rw [if_pos (by simp; omega)]
      refine ⟨(x - 1).toNat + 1, ?_⟩
      rw [wrap64 (x := x - 1) (by omega) (by omega)]
      refine back_l1 hs o _ (x - 1) rfl (by omega) (by omega) ?_
      have hb := backIn_b S.tabs S.w (x - 1).toNat (x - 1) rfl (by omega) (by omega)
      rw [wrap64 (by omega) (by omega)]
      exact ih (n - 1) _ (by omega) (by omega) hb.1 hb.2 hk
    · rw [if_neg hc] at hk
      rw [if_neg (by simp; omega)]
      exact hk
theorem back_sp {h0 : Base} {h : Heap} {s : Nat} {S : Scr} {n : Int} {K : Heap → Prop} (hs : Rep h0 h s S) (o : Ok S) (hn : n ≤ 1000000) (hk : ∀ h1, Rep h0 h1 s (backV S n) → K h1) : vt_Screen_back (some ⟨s, 0, none⟩) n K h := by
  have hs0 := hs
  have hx := o.c.p
  obtain ⟨A, oM, oO, oP, oT, oG, oK, oL, ho, hp⟩ := hs
  unfold vt_Screen_back
  refine nz_i ?_
  simp only [add0, Nat.zero_add]
  repeat (first | ((with_reducible apply newB_o); (with_reducible assumption); intro _ _ _) | ((with_reducible apply st0); (with_reducible assumption); rfl; intro _ _) | ((with_reducible apply ldI0); (with_reducible assumption); rfl) | ((with_reducible apply ldB0); (with_reducible assumption); rfl) | ((with_reducible apply ldS0); (with_reducible assumption); rfl) | (with_reducible apply nz_i))
  refine ⟨n.toNat + 1, back_l0 hs0 o _ n S.pl.x rfl hn hx.x0 hx.x1 ?_⟩
  simp only [add0, Nat.zero_add]
  refine ldI0 ho rfl ?_
  exact to_sp hs0 hk
end Go.Proofs.YthjdnhhifjpidaaDoor.M
