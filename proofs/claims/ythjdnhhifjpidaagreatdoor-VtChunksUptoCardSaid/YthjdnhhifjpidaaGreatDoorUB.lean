import Derived.Test.YthjdnhhifjpidaaGreatDoorUA
import Derived.KernelRfl
set_option linter.unusedVariables false
set_option linter.unusedSimpArgs false
set_option maxRecDepth 100000
namespace Go.Proofs.YthjdnhhifjpidaaGreatDoor.M
open Go Go.Hp

/-! ### What is kept to besides the sizes -/
structure Pin (w h : Int) (p : Pl) : Prop where
  x0 : 0 ≤ p.x
  x1 : p.x < w
  y0 : 0 ≤ p.y
  y1 : p.y < h
structure Core (S : Scr) : Prop where
  p : Pin S.w S.h S.pl
  t0 : 0 ≤ S.top
  tb : S.top ≤ S.bottom
  bh : S.bottom < S.h
  tabs : (S.tabs.length : Int) = S.w
  gath : S.gathered.length ≤ 256
  ans : S.answer.size ≤ 4096
  hv0 : 0 ≤ S.have_
  hv1 : 0 < S.have_ → S.have_ < S.want ∧ S.want ≤ 4
  km : ∀ q, S.mkept = some q → Pin S.w S.h q
  ko : ∀ q, S.okept = some q → Pin S.w S.h q
theorem Core.setSh {S : Scr} (c : Core S) (R) : Core (S.setSh R) := by
  unfold Scr.setSh
  split <;> exact ⟨c.p, c.t0, c.tb, c.bh, c.tabs, c.gath, c.ans, c.hv0, c.hv1, c.km, c.ko⟩
theorem Core.keepOne {S : Scr} (c : Core S) (t k) : Core (keepOne S t k) := by
  unfold M.keepOne
  split
  · split
    · exact c
    · exact ⟨c.p, c.t0, c.tb, c.bh, c.tabs, c.gath, c.ans, c.hv0, c.hv1, c.km, c.ko⟩
  · exact c
structure Ok (S : Scr) : Prop where
  d : Dim S
  c : Core S
theorem Ok.upL (t b : Int) (k : Bool) (t0 : 0 ≤ t) (tb : t ≤ b) : ∀ (n : Nat) (S : Scr), Ok S → b < S.h → Ok (upL t b k n S)
  | 0, S, o, _ => o
  | n + 1, S, o, bh => by
    have hw := keepOne_w S t k
    exact Ok.upL t b k t0 tb n _ ⟨(o.d.keepOne t k).upOne t0 tb (by rw [hw.2.2.1]; exact bh), (o.c.keepOne t k).setSh _⟩ (by rw [(upOne_w _ t b).2.2, hw.2.2.1]; exact bh)
theorem Ok.up {S : Scr} (o : Ok S) {t b n : Int} {k : Bool} (t0 : 0 ≤ t) (tb : t ≤ b) (bh : b < S.h) : Ok (upV S t b n k) := Ok.upL t b k t0 tb _ S o bh
theorem Ok.downL (t b : Int) (t0 : 0 ≤ t) (tb : t ≤ b) : ∀ (n : Nat) (S : Scr), Ok S → b < S.h → Ok (downL t b n S)
  | 0, S, o, _ => o
  | n + 1, S, o, bh => Ok.downL t b t0 tb n _ ⟨o.d.downOne t0 tb bh, o.c.setSh _⟩ (by rw [(downOne_w _ t b).2.2]; exact bh)
theorem Ok.down {S : Scr} (o : Ok S) {t b n : Int} (t0 : 0 ≤ t) (tb : t ≤ b) (bh : b < S.h) : Ok (downV S t b n) := Ok.downL t b t0 tb _ S o bh
/-- The cursor and what goes with it is another. -/
def Scr.setPl (S : Scr) (p : Pl) : Scr := { S with pl := p }
theorem Ok.setPl {S : Scr} (o : Ok S) {p : Pl} (hp : Pin S.w S.h p) : Ok (S.setPl p) :=
  ⟨⟨o.d.w0, o.d.w1, o.d.h0, o.d.h1, o.d.m0, o.d.m1, o.d.past, o.d.main, o.d.other⟩, ⟨hp, o.c.t0, o.c.tb, o.c.bh, o.c.tabs, o.c.gath, o.c.ans, o.c.hv0, o.c.hv1, o.c.km, o.c.ko⟩⟩
theorem pin_min {w x : Int} (w0 : 1 ≤ w) (w1 : w ≤ 1000) : 0 ≤ imax 0 (imin x (IntKind.wrap .i64 (w - 1))) ∧ imax 0 (imin x (IntKind.wrap .i64 (w - 1))) < w := by
  rw [wrap64 (by omega) (by omega)]
  unfold imax imin
  constructor <;> (split <;> split <;> omega)
theorem Ok.to {S : Scr} (o : Ok S) (x y : Int) : Ok (toV S x y) :=
  o.setPl (p := { S.pl with x := imax 0 (imin x (IntKind.wrap .i64 (S.w - 1))), y := imax 0 (imin y (IntKind.wrap .i64 (S.h - 1))), waiting := false }) ⟨(pin_min o.d.w0 o.d.w1).1, (pin_min o.d.w0 o.d.w1).2, (pin_min o.d.h0 o.d.h1).1, (pin_min o.d.h0 o.d.h1).2⟩
theorem Ok.home {S : Scr} (o : Ok S) (y x : Int) : Ok (homeV S y x) := o.to _ _
theorem Ok.rowsUp {S : Scr} (o : Ok S) (n : Int) : Ok (rowsUpV S n) := o.to _ _
theorem Ok.rowsDown {S : Scr} (o : Ok S) (n : Int) : Ok (rowsDownV S n) := o.to _ _

/-! ### One row on -/
def setX (S : Scr) (x : Int) : Scr := S.setPl { S.pl with x := x }
def setY (S : Scr) (y : Int) : Scr := S.setPl { S.pl with y := y }
theorem Ok.setX {S : Scr} (o : Ok S) {x : Int} (x0 : 0 ≤ x) (x1 : x < S.w) : Ok (setX S x) := Ok.setPl (p := { S.pl with x := x }) o ⟨x0, x1, o.c.p.y0, o.c.p.y1⟩
theorem Ok.setY {S : Scr} (o : Ok S) {x : Int} (x0 : 0 ≤ x) (x1 : x < S.h) : Ok (setY S x) := Ok.setPl (p := { S.pl with y := x }) o ⟨o.c.p.x0, o.c.p.x1, x0, x1⟩
def unwait (S : Scr) : Scr := S.setPl { S.pl with waiting := false }
theorem Ok.unwait {S : Scr} (o : Ok S) : Ok (unwait S) := Ok.setPl (p := { S.pl with waiting := false }) o ⟨o.c.p.x0, o.c.p.x1, o.c.p.y0, o.c.p.y1⟩
theorem unwait_st {h0 : Base} {h : Heap} {s : Nat} {S : Scr} {K : Heap → Prop} (hs : Rep h0 h s S) (hk : ∀ h1, Rep h0 h1 s (unwait S) → K h1) : stN ⟨s, 18, none⟩ [.bool false] 0 h K := by
  obtain ⟨A, oM, oO, oP, oT, oG, oK, oL, ho, hp⟩ := hs
  repeat (first | ((with_reducible apply newB_o); (with_reducible assumption); intro _ _ _) | ((with_reducible apply st0); (with_reducible assumption); rfl; intro _ _) | ((with_reducible apply ldI0); (with_reducible assumption); rfl) | ((with_reducible apply ldB0); (with_reducible assumption); rfl) | ((with_reducible apply ldS0); (with_reducible assumption); rfl) | (with_reducible apply nz_i))
  exact hk _ ⟨A, oM, oO, oP, oT, oG, oK, oL, by assumption, hp.1, hp.2, hp.3, hp.4, hp.5, hp.6, hp.7⟩
def feedV (S : Scr) : Scr :=
  if S.pl.y = S.bottom then unwait (upV S S.top S.bottom 1 true)
  else if S.pl.y < S.h - 1 then unwait (setY S (S.pl.y + 1)) else unwait S
theorem Ok.feed {S : Scr} (o : Ok S) : Ok (feedV S) := by
  unfold feedV
  split
  · exact (o.up o.c.t0 o.c.tb o.c.bh).unwait
  · split
    · have h1 := o.c.p.y0
      exact (o.setY (by omega) (by omega)).unwait
    · exact o.unwait
theorem feed_sp {h0 : Base} {h : Heap} {s : Nat} {S : Scr} {K : Heap → Prop} (hs : Rep h0 h s S) (o : Ok S) (hk : ∀ h1, Rep h0 h1 s (feedV S) → K h1) : vt_Screen_feed (some ⟨s, 0, none⟩) K h := by
  have hs0 := hs
  have hh0 := o.d.h0
  have hh1 := o.d.h1
  have hy := o.c.p.y0
  have hy1 := o.c.p.y1
  obtain ⟨A, oM, oO, oP, oT, oG, oK, oL, ho, hp⟩ := hs
  unfold vt_Screen_feed
  unfold feedV at hk
  refine nz_i ?_
  simp only [add0, Nat.zero_add]
  repeat (first | ((with_reducible apply newB_o); (with_reducible assumption); intro _ _ _) | ((with_reducible apply st0); (with_reducible assumption); rfl; intro _ _) | ((with_reducible apply ldI0); (with_reducible assumption); rfl) | ((with_reducible apply ldB0); (with_reducible assumption); rfl) | ((with_reducible apply ldS0); (with_reducible assumption); rfl) | (with_reducible apply nz_i))
  by_cases hc : S.pl.y = S.bottom
  · rw [if_pos hc] at hk ⊢
    repeat (first | ((with_reducible apply newB_o); (with_reducible assumption); intro _ _ _) | ((with_reducible apply st0); (with_reducible assumption); rfl; intro _ _) | ((with_reducible apply ldI0); (with_reducible assumption); rfl) | ((with_reducible apply ldB0); (with_reducible assumption); rfl) | ((with_reducible apply ldS0); (with_reducible assumption); rfl) | (with_reducible apply nz_i))
    exact up_sp hs0 o.d o.c.t0 o.c.tb o.c.bh fun h1 hs1 => unwait_st hs1 hk
  · rw [if_neg hc] at hk ⊢
    repeat (first | ((with_reducible apply newB_o); (with_reducible assumption); intro _ _ _) | ((with_reducible apply st0); (with_reducible assumption); rfl; intro _ _) | ((with_reducible apply ldI0); (with_reducible assumption); rfl) | ((with_reducible apply ldB0); (with_reducible assumption); rfl) | ((with_reducible apply ldS0); (with_reducible assumption); rfl) | (with_reducible apply nz_i))
    rw [wrap64 (x := S.h - 1) (by omega) (by omega)]
    by_cases hc2 : S.pl.y < S.h - 1
    · rw [if_pos hc2] at hk ⊢
      refine ldI0 ho rfl ?_
      rw [wrap64 (x := S.pl.y + 1) (by omega) (by omega)]
      repeat (first | ((with_reducible apply newB_o); (with_reducible assumption); intro _ _ _) | ((with_reducible apply st0); (with_reducible assumption); rfl; intro _ _) | ((with_reducible apply ldI0); (with_reducible assumption); rfl) | ((with_reducible apply ldB0); (with_reducible assumption); rfl) | ((with_reducible apply ldS0); (with_reducible assumption); rfl) | (with_reducible apply nz_i))
      exact hk _ ⟨A, oM, oO, oP, oT, oG, oK, oL, by assumption, hp.1, hp.2, hp.3, hp.4, hp.5, hp.6, hp.7⟩
    · rw [if_neg hc2] at hk ⊢
      exact unwait_st hs0 hk

/-! ### Tab stops -/
def tabIn (tabs : List Bool) (w : Int) : Nat → Int → Int
  | 0, x => x
  | f + 1, x => if x < w - 1 then if tabs.getD x.toNat false = true then x else tabIn tabs w f (x + 1) else x
theorem tabIn_b (tabs : List Bool) (w : Int) : ∀ (f : Nat) (x : Int), 0 ≤ x → x ≤ w - 1 → 0 ≤ tabIn tabs w f x ∧ tabIn tabs w f x ≤ w - 1
  | 0, x, h0, h1 => ⟨h0, h1⟩
  | f + 1, x, h0, h1 => by
    unfold tabIn
    split
    · split
      · exact ⟨h0, h1⟩
      · exact tabIn_b tabs w f (x + 1) (by omega) (by omega)
    · exact ⟨h0, h1⟩
def tabL (tabs : List Bool) (w : Int) : Nat → Int → Int
  | 0, x => x
  | n + 1, x => if x < w - 1 then tabL tabs w n (tabIn tabs w (w - 1 - (x + 1)).toNat (x + 1)) else x
def tabV (S : Scr) (n : Int) : Scr := toV S (tabL S.tabs S.w n.toNat S.pl.x) S.pl.y
theorem Ok.tab {S : Scr} (o : Ok S) (n : Int) : Ok (tabV S n) := o.to _ _
theorem stop_at {h0 : Base} {h : Heap} {s : Nat} {S : Scr} (hs : Rep h0 h s S) (o : Ok S) {x : Int} {K : Option Addr → Nat → Nat → Prop} (x0 : 0 ≤ x) (x1 : x < S.w)
    (hk : ∀ (p : Addr) (n c : Nat), (n : Int) = S.w → cellH h (p.add (x.toNat * 1)) = some (.bool (S.tabs.getD x.toNat false)) → K (some p) n c) : ldL h ⟨s, 21, none⟩ K := by
  obtain ⟨A, oM, oO, oP, oT, oG, oK, oL, ho, hp⟩ := hs
  refine ldL0 ho rfl ?_
  have hl := hp.4.1
  have ht := o.c.tabs
  have hoA : Own h0 h (((s, scrC S A, 80) :: (oM ++ (oO ++ oP))) ++ (oT ++ (oG ++ (oK ++ oL)))) := by simpa using ho
  obtain ⟨p, hpp, d⟩ := SlO.get tf_len hp.4 hoA x.toNat false (by omega)
  rw [hpp]
  exact hk p _ _ (by omega) (d 0 _ rfl)
theorem tab_l1 {h0 : Base} {h : Heap} {s : Nat} {S : Scr} {n : Int} {K2 : Addr → Int → Int → Heap → Prop} (hs : Rep h0 h s S) (o : Ok S) : ∀ (q : Nat) (x : Int), (S.w - 1 - x).toNat = q → 0 ≤ x →
    K2 ⟨s, 0, none⟩ n (tabIn S.tabs S.w q x) h → vt_Screen_tab_l1 K2 (q + 1) ⟨s, 0, none⟩ n x h := by
  have hw0 := o.d.w0
  have hw1 := o.d.w1
  intro q
  induction q with
  | zero =>
    intro x hq x0 hk
    unfold vt_Screen_tab_l1
    have hs0 := hs
    obtain ⟨A, oM, oO, oP, oT, oG, oK, oL, ho, hp⟩ := hs
    refine ldI0 ho rfl ?_
    rw [wrap64 (by omega) (by omega), if_neg (by omega)]
    exact hk
  | succ q ih =>
    intro x hq x0 hk
    unfold tabIn at hk
    rw [if_pos (by omega)] at hk
    unfold vt_Screen_tab_l1
    have hs0 := hs
    obtain ⟨A, oM, oO, oP, oT, oG, oK, oL, ho, hp⟩ := hs
    refine ldI0 ho rfl ?_
    rw [wrap64 (by omega) (by omega), if_pos (by omega)]
    simp only [add0, Nat.zero_add]
    refine stop_at hs0 o x0 (by omega) fun p nn c hn hd => nz_i ⟨x0, by omega, ⟨_, hd, ?_⟩⟩
    rw [wrap64 (by omega) (by omega)]
    cases hb : S.tabs.getD x.toNat false with
    | true => rw [hb] at hk; exact hk
    | false =>
      rw [hb] at hk
      exact ih (x + 1) (by omega) (by omega) hk
theorem tab_l0 {h0 : Base} {h : Heap} {s : Nat} {S : Scr} {K0 : Addr → Int → Heap → Prop} (hs : Rep h0 h s S) (o : Ok S) : ∀ (q : Nat) (n x : Int), n.toNat = q → n ≤ 1000000 → 0 ≤ x → x ≤ S.w - 1 →
    K0 ⟨s, 0, none⟩ (tabL S.tabs S.w q x) h → vt_Screen_tab_l0 K0 (q + 1) ⟨s, 0, none⟩ n x h := by
  have hw0 := o.d.w0
  have hw1 := o.d.w1
  intro q
  induction q with
  | zero =>
    intro n x hq hn x0 x1 hk
    unfold vt_Screen_tab_l0
    rw [if_neg (by omega)]
    exact hk
  | succ q ih =>
    intro n x hq hn x0 x1 hk
    unfold tabL at hk
    unfold vt_Screen_tab_l0
    rw [if_pos (by omega)]
    have hs0 := hs
    obtain ⟨A, oM, oO, oP, oT, oG, oK, oL, ho, hp⟩ := hs
    refine ldI0 ho rfl ?_
    rw [wrap64 (by omega) (by omega)]
    by_cases hc : x < S.w - 1
    · rw [if_pos hc] at hk ⊢
      refine ⟨(S.w - 1 - (x + 1)).toNat + 1, ?_⟩
      rw [wrap64 (x := x + 1) (by omega) (by omega)]
      refine tab_l1 hs0 o _ (x + 1) rfl (by omega) ?_
      have hb := tabIn_b S.tabs S.w (S.w - 1 - (x + 1)).toNat (x + 1) (by omega) (by omega)
      rw [wrap64 (by omega) (by omega)]
      exact ih (n - 1) _ (by omega) (by omega) hb.1 hb.2 hk
    · rw [if_neg hc] at hk ⊢
      exact hk
theorem tab_sp {h0 : Base} {h : Heap} {s : Nat} {S : Scr} {n : Int} {K : Heap → Prop} (hs : Rep h0 h s S) (o : Ok S) (hn : n ≤ 1000000) (hk : ∀ h1, Rep h0 h1 s (tabV S n) → K h1) : vt_Screen_tab (some ⟨s, 0, none⟩) n K h := by
  have hs0 := hs
  have hx := o.c.p
  obtain ⟨A, oM, oO, oP, oT, oG, oK, oL, ho, hp⟩ := hs
  unfold vt_Screen_tab
  refine nz_i ?_
  simp only [add0, Nat.zero_add]
  repeat (first | ((with_reducible apply newB_o); (with_reducible assumption); intro _ _ _) | ((with_reducible apply st0); (with_reducible assumption); rfl; intro _ _) | ((with_reducible apply ldI0); (with_reducible assumption); rfl) | ((with_reducible apply ldB0); (with_reducible assumption); rfl) | ((with_reducible apply ldS0); (with_reducible assumption); rfl) | (with_reducible apply nz_i))
  have := hx.x1
  refine ⟨n.toNat + 1, tab_l0 hs0 o _ n S.pl.x rfl hn hx.x0 (by omega) ?_⟩
  simp only [add0, Nat.zero_add]
  refine ldI0 ho rfl ?_
  exact to_sp hs0 hk
def backIn (tabs : List Bool) : Nat → Int → Int
  | 0, x => x
  | f + 1, x => if tabs.getD x.toNat false = true then x else backIn tabs f (x - 1)
theorem backIn_b (tabs : List Bool) (w : Int) : ∀ (f : Nat) (x : Int), x.toNat = f → 0 ≤ x → x < w → 0 ≤ backIn tabs f x ∧ backIn tabs f x < w
  | 0, x, _, h0, h1 => ⟨h0, h1⟩
  | f + 1, x, hf, h0, h1 => by
    unfold backIn
    split
    · exact ⟨h0, h1⟩
    · exact backIn_b tabs w f (x - 1) (by omega) (by omega) (by omega)
def backL (tabs : List Bool) : Nat → Int → Int
  | 0, x => x
  | n + 1, x => if 0 < x then backL tabs n (backIn tabs (x - 1).toNat (x - 1)) else x
def backV (S : Scr) (n : Int) : Scr := toV S (backL S.tabs n.toNat S.pl.x) S.pl.y
theorem Ok.back {S : Scr} (o : Ok S) (n : Int) : Ok (backV S n) := o.to _ _
theorem back_l1 {h0 : Base} {h : Heap} {s : Nat} {S : Scr} {n : Int} {K2 : Addr → Int → Int → Heap → Prop} (hs : Rep h0 h s S) (o : Ok S) : ∀ (q : Nat) (x : Int), x.toNat = q → 0 ≤ x → x < S.w →
    K2 ⟨s, 0, none⟩ n (backIn S.tabs q x) h → vt_Screen_back_l1 K2 (q + 1) ⟨s, 0, none⟩ n x h := by
  have hw0 := o.d.w0
  have hw1 := o.d.w1
  intro q
  induction q with
  | zero =>
    intro x hq x0 x1 hk
    unfold vt_Screen_back_l1
    rw [if_neg (by omega)]
    exact hk
  | succ q ih =>
    intro x hq x0 x1 hk
    unfold backIn at hk
    unfold vt_Screen_back_l1
    rw [if_pos (by omega)]
    simp only [add0, Nat.zero_add]
    refine stop_at hs o x0 x1 fun p nn c hn hd => nz_i ⟨x0, by omega, ⟨_, hd, ?_⟩⟩
    rw [wrap64 (by omega) (by omega)]
    cases hb : S.tabs.getD x.toNat false with
    | true => rw [hb] at hk; exact hk
    | false =>
      rw [hb] at hk
      exact ih (x - 1) (by omega) (by omega) (by omega) hk
theorem back_l0 {h0 : Base} {h : Heap} {s : Nat} {S : Scr} {K0 : Addr → Int → Heap → Prop} (hs : Rep h0 h s S) (o : Ok S) : ∀ (q : Nat) (n x : Int), n.toNat = q → n ≤ 1000000 → 0 ≤ x → x < S.w →
    K0 ⟨s, 0, none⟩ (backL S.tabs q x) h → vt_Screen_back_l0 K0 (q + 1) ⟨s, 0, none⟩ n x h := by
  have hw0 := o.d.w0
  have hw1 := o.d.w1
  intro q
  induction q with
  | zero =>
    intro n x hq hn x0 x1 hk
    unfold vt_Screen_back_l0
    rw [if_neg (by simp; omega)]
    exact hk
  | succ q ih =>
    intro n x hq hn x0 x1 hk
    unfold backL at hk
    unfold vt_Screen_back_l0
    by_cases hc : 0 < x
    · rw [if_pos hc] at hk
      rw [if_pos (by simp; omega)]
      refine ⟨(x - 1).toNat + 1, ?_⟩
      rw [wrap64 (x := x - 1) (by omega) (by omega)]
      refine back_l1 hs o _ (x - 1) rfl (by omega) (by omega) ?_
      have hb := backIn_b S.tabs S.w (x - 1).toNat (x - 1) rfl (by omega) (by omega)
      rw [wrap64 (by omega) (by omega)]
      exact ih (n - 1) _ (by omega) (by omega) hb.1 hb.2 hk
    · rw [if_neg hc] at hk
      rw [if_neg (by simp; omega)]
      exact hk
theorem back_sp {h0 : Base} {h : Heap} {s : Nat} {S : Scr} {n : Int} {K : Heap → Prop} (hs : Rep h0 h s S) (o : Ok S) (hn : n ≤ 1000000) (hk : ∀ h1, Rep h0 h1 s (backV S n) → K h1) : vt_Screen_back (some ⟨s, 0, none⟩) n K h := by
  have hs0 := hs
  have hx := o.c.p
  obtain ⟨A, oM, oO, oP, oT, oG, oK, oL, ho, hp⟩ := hs
  unfold vt_Screen_back
  refine nz_i ?_
  simp only [add0, Nat.zero_add]
  repeat (first | ((with_reducible apply newB_o); (with_reducible assumption); intro _ _ _) | ((with_reducible apply st0); (with_reducible assumption); rfl; intro _ _) | ((with_reducible apply ldI0); (with_reducible assumption); rfl) | ((with_reducible apply ldB0); (with_reducible assumption); rfl) | ((with_reducible apply ldS0); (with_reducible assumption); rfl) | (with_reducible apply nz_i))
  refine ⟨n.toNat + 1, back_l0 hs0 o _ n S.pl.x rfl hn hx.x0 hx.x1 ?_⟩
  simp only [add0, Nat.zero_add]
  refine ldI0 ho rfl ?_
  exact to_sp hs0 hk
end Go.Proofs.YthjdnhhifjpidaaGreatDoor.M
set_option maxRecDepth 100000
namespace Go.Proofs.YthjdnhhifjpidaaGreatDoor.M
open Go Go.Hp

theorem flat_get {α : Type} (f : α → List Value) (d : α) {sz : Nat} (hf : ∀ r, (f r).length = sz) (tab : List α) (i j : Nat) (hi : i < tab.length) (hj : j < sz) : (tab.flatMap f)[i * sz + j]? = (f (tab.getD i d))[j]? := by
  rw [← flat_at f d hf tab i hi, List.getElem?_take, if_pos hj, List.getElem?_drop]

/-! ### The width of a letter -/
abbrev pf (k : Int × Int) : List Value := [.int .i32 k.1, .int .i32 k.2]
theorem pf_len (k : Int × Int) : (pf k).length = 2 := rfl
def SlR (h : Heap) (a : Option Addr) (n : Nat) (ks : List (Int × Int)) : Prop :=
  n = ks.length ∧ ∀ i, i < n → ∃ p, a = some p ∧ cellH h (p.add (i * 2)) = some (.int .i32 (ks.getD i (0, 0)).1) ∧ cellH h ((p.add (i * 2)).add 1) = some (.int .i32 (ks.getD i (0, 0)).2)
theorem SlR.ext {h h' : Heap} {a : Option Addr} {n : Nat} {ks} (hs : SlR h a n ks) (he : Ext h h') : SlR h' a n ks :=
  ⟨hs.1, fun i hi => (hs.2 i hi).imp fun p hp => ⟨hp.1, he.cell hp.2.1, he.cell hp.2.2⟩⟩
theorem SlR.of {h : Heap} {b : Nat} {t : TypeId} {ks : List (Int × Int)} (hb : Blk h b (ks.flatMap pf).toArray t) : SlR h (some ⟨b, 0, none⟩) ks.length ks := by
  refine ⟨rfl, fun i hi => ⟨_, rfl, ?_, ?_⟩⟩
  · have := flat_get pf (0, 0) pf_len ks i 0 hi (by omega)
    rw [add0, Nat.zero_add]
    exact hb.cell _ (by rw [← Array.getElem?_toList]; exact this)
  · have := flat_get pf (0, 0) pf_len ks i 1 hi (by omega)
    rw [add0, add0, Nat.zero_add]
    exact hb.cell _ (by rw [← Array.getElem?_toList]; exact this)
def inS (c : Int) (ks : List (Int × Int)) : Bool := ks.any fun k => decide (k.1 ≤ c) && decide (c ≤ k.2)
theorem within_loop {K0 : Heap → Prop} {Kr : Bool → Heap → Prop} {h0 : Heap} {c : Int} {a : Option Addr} {n cc : Nat} {ks : List (Int × Int)} (hn : n < 1000000) :
    ∀ (f : Nat) (i : Nat) (h : Heap), Ext h0 h → SlR h a n ks → n < f + i → i ≤ n → (inS c (ks.drop i) = true → ∀ h1, Ext h0 h1 → Kr true h1) → (inS c (ks.drop i) = false → ∀ h1, Ext h0 h1 → K0 h1) →
      vt_within_l0 K0 Kr f c a n cc n i h := by
  intro f
  induction f with
  | zero => intro i h he hs hf hi; omega
  | succ f ih =>
    intro i h he hs hf hi hr hk
    unfold vt_within_l0
    by_cases hlt : (i : Int) < (n : Int)
    · rw [if_pos hlt]
      obtain ⟨p, rfl, d1, d2⟩ := hs.2 i (by omega)
      have hl := hs.1
      have hd : ks.drop i = ks.getD i (0, 0) :: ks.drop (i + 1) := by
        rw [List.drop_eq_getElem_cons (by omega), List.getD_eq_getElem?_getD, List.getElem?_eq_getElem (by omega)]
        rfl
      rw [hd] at hr hk
      unfold inS at hr hk
      rw [List.any_cons] at hr hk
      generalize ks.getD i (0, 0) = k at *
      rw [← show (i : Int).toNat * 2 = i * 2 by omega] at d1 d2
      refine nz_i ⟨by omega, hlt, ⟨_, d1, ⟨_, d2, ?_⟩⟩⟩
      simp only []
      by_cases hc : ((decide (k.1 ≤ c)) && (decide (c ≤ k.2))) = true
      · rw [if_pos hc]
        exact fun h1 he1 => hr (by rw [hc, Bool.true_or]) h1 (he.trans he1)
      · rw [if_neg hc]
        refine fun h1 he1 => ?_
        rw [wrap64 (by omega) (by omega), show (i : Int) + 1 = ((i + 1 : Nat) : Int) by omega]
        have hc' : ((decide (k.1 ≤ c)) && (decide (c ≤ k.2))) = false := by simpa using hc
        rw [hc', Bool.false_or] at hr hk
        exact ih (i + 1) h1 (he.trans he1) (hs.ext he1) (by omega) (by omega) hr hk
    · rw [if_neg hlt]
      rw [List.drop_of_length_le (by have := hs.1; omega)] at hk
      exact hk rfl h he
theorem within_sp {K : Bool → Heap → Prop} {h : Heap} {c : Int} {a : Option Addr} {n cc : Nat} {ks : List (Int × Int)} (hn : n < 1000000) (hs : SlR h a n ks) (hk : ∀ h1, Ext h h1 → K (inS c ks) h1) : vt_within c a n cc K h := by
  unfold vt_within
  refine ⟨n + 1, within_loop hn (n + 1) 0 h (Ext.refl h) hs (by omega) (by omega) (fun hh h1 he => ?_) (fun hh h1 he => ?_)⟩
  · rw [List.drop_zero] at hh; rw [← hh]; exact hk h1 he
  · rw [List.drop_zero] at hh; rw [← hh]; exact hk h1 he
def noneL : List (Int × Int) := [(768, 879), (8203, 8207), (8232, 8238), (8400, 8447), (65024, 65039), (65279, 65279)]
def twoL : List (Int × Int) := [(4352, 4447), (11904, 12350), (12353, 13311), (13312, 19903), (19968, 40959), (40960, 42191), (44032, 55203), (63744, 64255), (65072, 65135), (65280, 65376), (65504, 65510), (127744, 128591), (129280, 129535), (131072, 262141)]
def badW (c : Int) : Bool := (((decide (c < 32)) || ((decide (127 ≤ c)) && (decide (c ≤ 159)))) || ((decide (55296 ≤ c)) && (decide (c ≤ 57343)))) || (decide (1114111 < c))
def widthV (c : Int) : Int := if badW c = true then -1 else if inS c noneL = true then 0 else if inS c twoL = true then 2 else 1
theorem width_j0 {K : Int → Heap → Prop} {h h6 : Heap} {c : Int} {a a' : Option Addr} {q : Bool} (he : Ext h h6) (h1 : SlR h6 a 6 noneL) (h2 : SlR h6 a' 14 twoL) (hq : q = badW c) (hK : ∀ h1, Ext h h1 → K (widthV c) h1) :
    vt_Width_j0 (fun h => K 1 h) (fun z h => K z h) c a 6 6 a' 14 14 q h6 := by
  unfold vt_Width_j0
  unfold widthV at hK
  subst hq
  by_cases hb : badW c = true
  · rw [if_pos hb] at hK ⊢
    exact hK h6 he
  rw [if_neg hb] at hK ⊢
  refine within_sp (by omega) h1 fun h7 he7 => ?_
  by_cases hn : inS c noneL = true
  · rw [if_pos hn] at hK ⊢
    exact hK h7 (he.trans he7)
  rw [if_neg hn] at hK ⊢
  refine within_sp (by omega) (h2.ext he7) fun h8 he8 => ?_
  by_cases ht : inS c twoL = true
  · rw [if_pos ht] at hK ⊢
    exact hK h8 ((he.trans he7).trans he8)
  · rw [if_neg ht] at hK ⊢
    exact hK h8 ((he.trans he7).trans he8)
theorem width_sp {K : Int → Heap → Prop} {h : Heap} {c : Int} (hK : ∀ h1, Ext h h1 → K (widthV c) h1) : vt_Width c K h := by
  unfold vt_Width
  refine newB_o (Own.init h) fun b1 h3 ho3 => newB_o ho3 fun b2 h6 ho6 => ?_
  have s1 : SlR h6 (some ⟨b1, 0, none⟩) 6 noneL := SlR.of (ks := noneL) ho6.get1
  have s2 : SlR h6 (some ⟨b2, 0, none⟩) 14 twoL := SlR.of (ks := twoL) ho6.get0
  by_cases c1 : c < 32
  · rw [if_pos c1]
    exact width_j0 ho6.ext s1 s2 (by unfold badW; simp [c1]) hK
  rw [if_neg c1]
  by_cases c2 : ((decide (127 ≤ c)) && (decide (c ≤ 159))) = true
  · rw [if_pos c2]
    exact width_j0 ho6.ext s1 s2 (by unfold badW; rw [c2]; simp) hK
  rw [if_neg c2]
  by_cases c3 : ((decide (55296 ≤ c)) && (decide (c ≤ 57343))) = true
  · rw [if_pos c3]
    exact width_j0 ho6.ext s1 s2 (by unfold badW; rw [c3]; simp) hK
  rw [if_neg c3]
  refine width_j0 ho6.ext s1 s2 ?_ hK
  unfold badW
  have e1 : decide (c < 32) = false := decide_eq_false c1
  have e2 : ((decide (127 ≤ c)) && (decide (c ≤ 159))) = false := by simpa using c2
  have e3 : ((decide (55296 ≤ c)) && (decide (c ≤ 57343))) = false := by simpa using c3
  rw [e1, e2, e3]
  rfl

end Go.Proofs.YthjdnhhifjpidaaGreatDoor.M
set_option maxRecDepth 100000
namespace Go.Proofs.YthjdnhhifjpidaaGreatDoor.M
open Go Go.Hp

theorem own_cs {h0 : Base} {h : Heap} {b : Nat} {c c' : Array Value} {t : TypeId} {l : Blks} (ho : Own h0 h ((b, c, t) :: l)) (e : c = c') : Own h0 h ((b, c', t) :: l) := e ▸ ho

/-! ### The cursor is kept and brought back -/
def Scr.setKept (S : Scr) (p : Option Pl) : Scr := if S.alt = true then { S with okept := p } else { S with mkept := p }
def Scr.kept (S : Scr) : Option Pl := if S.alt = true then S.okept else S.mkept
def pl0 : Pl := ⟨0, 0, 0, 0, 0, false, false, false, false, false⟩
def keepCursorV (S : Scr) : Scr := S.setKept (some S.pl)
def backCursorV (S : Scr) : Scr := S.setPl (S.kept.getD pl0)
theorem Ok.setKept {S : Scr} (o : Ok S) {p : Option Pl} (hp : ∀ q, p = some q → Pin S.w S.h q) : Ok (S.setKept p) := by
  unfold Scr.setKept
  split
  · exact ⟨⟨o.d.w0, o.d.w1, o.d.h0, o.d.h1, o.d.m0, o.d.m1, o.d.past, o.d.main, o.d.other⟩, ⟨o.c.p, o.c.t0, o.c.tb, o.c.bh, o.c.tabs, o.c.gath, o.c.ans, o.c.hv0, o.c.hv1, o.c.km, hp⟩⟩
  · exact ⟨⟨o.d.w0, o.d.w1, o.d.h0, o.d.h1, o.d.m0, o.d.m1, o.d.past, o.d.main, o.d.other⟩, ⟨o.c.p, o.c.t0, o.c.tb, o.c.bh, o.c.tabs, o.c.gath, o.c.ans, o.c.hv0, o.c.hv1, hp, o.c.ko⟩⟩
theorem Ok.keepCursor {S : Scr} (o : Ok S) : Ok (keepCursorV S) := o.setKept fun q hq => by cases hq; exact o.c.p
theorem Ok.backCursor {S : Scr} (o : Ok S) : Ok (backCursorV S) := by
  refine o.setPl ?_
  have h0 : Pin S.w S.h pl0 := ⟨Int.le_refl _, by have := o.d.w0; show (0 : Int) < S.w; omega, Int.le_refl _, by have := o.d.h0; show (0 : Int) < S.h; omega⟩
  unfold Scr.kept
  split
  · cases he : S.okept with
    | none => exact h0
    | some q => exact o.c.ko q he
  · cases he : S.mkept with
    | none => exact h0
    | some q => exact o.c.km q he
theorem shown_o {h0 : Base} {h : Heap} {s : Nat} {cs : Array Value} {l : Blks} {al : Bool} {K : Option Addr → Heap → Prop} (ho : Own h0 h ((s, cs, 80) :: l)) (hc : cs[7]? = some (.bool al)) (h1 : al = true → K (some ⟨s, 5, none⟩) h) (h2 : al = false → K (some ⟨s, 3, none⟩) h) : vt_Screen_shown (some ⟨s, 0, none⟩) K h := by
  unfold vt_Screen_shown
  refine nz_i ?_
  simp only [add0, Nat.zero_add]
  refine ldB0 ho hc ?_
  by_cases hc : al = true
  · rw [if_pos hc]; exact h1 hc
  · rw [if_neg hc]; exact h2 (by simpa using hc)
theorem keepCursor_sp {h0 : Base} {h : Heap} {s : Nat} {S : Scr} {K : Heap → Prop} (hs : Rep h0 h s S) (hk : ∀ h1, Rep h0 h1 s (keepCursorV S) → K h1) : vt_Screen_keepCursor (some ⟨s, 0, none⟩) K h := by
  obtain ⟨A, oM, oO, oP, oT, oG, oK, oL, ho, hp⟩ := hs
  unfold vt_Screen_keepCursor
  refine nz_i ?_
  simp only [add0, Nat.zero_add]
  repeat (first | ((with_reducible apply newB_o); (with_reducible assumption); intro _ _ _) | ((with_reducible apply st0); (with_reducible assumption); rfl; intro _ _) | ((with_reducible apply ldI0); (with_reducible assumption); rfl) | ((with_reducible apply ldB0); (with_reducible assumption); rfl) | ((with_reducible apply ldS0); (with_reducible assumption); rfl) | (with_reducible apply nz_i))
  rename_i b h1 ho1 h2 ho2
  have ho2 : Own h0 h2 ((b, plC S.pl, 74) :: (s, scrC S A, 80) :: (oM ++ (oO ++ (oP ++ (oT ++ (oG ++ (oK ++ oL))))))) := own_cs ho2 (by kernel_rfl)
  have ho3 := ho2.perm (List.Perm.swap _ _ _)
  refine shown_o ho3 rfl (fun ha => nz_i ?_) (fun ha => nz_i ?_)
  · simp only [add0, Nat.zero_add]
    refine st0 ho3 rfl fun h4 ho4 => ?_
    have ho5 : Own h0 h4 (oL ++ ((s, scrC { S with okept := some S.pl } { A with oq := some ⟨b, 0, none⟩ }, 80) :: (oM ++ (oO ++ (oP ++ (oT ++ (oG ++ (oK ++ [(b, plC S.pl, 74)])))))))) := Own.perm (l := (s, scrC { S with okept := some S.pl } { A with oq := some ⟨b, 0, none⟩ }, 80) :: (b, plC S.pl, 74) :: (oM ++ (oO ++ (oP ++ (oT ++ (oG ++ (oK ++ oL))))))) (own_cs ho4 (by kernel_rfl)) (by exact pc)
    refine hk h4 ?_
    unfold keepCursorV Scr.setKept
    rw [if_pos ha]
    exact ⟨{ A with oq := some ⟨b, 0, none⟩ }, oM, oO, oP, oT, oG, oK, _, ho5.sub (List.sublist_append_right _ _), hp.1, hp.2, hp.3, hp.4, hp.5, hp.6, ⟨b, rfl, rfl⟩⟩
  · simp only [add0, Nat.zero_add]
    refine st0 ho3 rfl fun h4 ho4 => ?_
    have ho5 : Own h0 h4 (oK ++ ((s, scrC { S with mkept := some S.pl } { A with mq := some ⟨b, 0, none⟩ }, 80) :: (oM ++ (oO ++ (oP ++ (oT ++ (oG ++ ([(b, plC S.pl, 74)] ++ oL)))))))) := Own.perm (l := (s, scrC { S with mkept := some S.pl } { A with mq := some ⟨b, 0, none⟩ }, 80) :: (b, plC S.pl, 74) :: (oM ++ (oO ++ (oP ++ (oT ++ (oG ++ (oK ++ oL))))))) (own_cs ho4 (by kernel_rfl)) (by exact pc)
    refine hk h4 ?_
    unfold keepCursorV Scr.setKept
    rw [if_neg (by rw [ha]; decide)]
    exact ⟨{ A with mq := some ⟨b, 0, none⟩ }, oM, oO, oP, oT, oG, _, oL, ho5.sub (List.sublist_append_right _ _), hp.1, hp.2, hp.3, hp.4, hp.5, ⟨b, rfl, rfl⟩, hp.7⟩
/-- What is done with a kept cursor, wherever it stands. -/
theorem backCursor_k {h0 : Base} {h : Heap} {s : Nat} {cs : Array Value} {l o : Blks} {S : Scr} {A : Refs} {q : Option Addr} {kp : Option Pl} {K : Heap → Prop} (ho : Own h0 h ((s, scrC S A, 80) :: (o ++ l))) (hq : KeptR q kp o)
    (hk : ∀ h1, Own h0 h1 ((s, scrC (S.setPl (kp.getD pl0)) A, 80) :: (o ++ l)) → K h1) :
    (if (!q.isNone) = true then
   nz q fun p9 =>
   ldI h .i64 p9 fun x10 =>
   ldI h .i64 (p9.add 1) fun x12 =>
   ldI h .i64 (p9.add 2) fun x14 =>
   ldI h .i64 (p9.add 3) fun x16 =>
   ldI h .i64 (p9.add 4) fun x18 =>
   ldB h (p9.add 5) fun x20 =>
   ldB h (p9.add 6) fun x22 =>
   ldB h (p9.add 7) fun x24 =>
   ldB h (p9.add 8) fun x26 =>
   ldB h (p9.add 9) fun x28 =>
   nz (some ⟨s, 0, none⟩) fun p30 =>
   stN (p30.add 9) [.int .i64 x10, .int .i64 x12, .int .i64 x14, .int .i64 x16, .int .i64 x18, .bool x20, .bool x22, .bool x24, .bool x26, .bool x28] 0 h fun h31 =>
   K h31
  else
  nz (some ⟨s, 0, none⟩) fun p32 =>
  stN (p32.add 9) [.int .i64 0, .int .i64 0, .int .i64 0, .int .i64 0, .int .i64 0, .bool false, .bool false, .bool false, .bool false, .bool false] 0 h fun h33 =>
   K h33) := by
  cases kp with
  | none =>
    obtain ⟨rfl, rfl⟩ := hq
    rw [if_neg (by decide)]
    refine nz_i ?_
    simp only [add0, Nat.zero_add]
    exact st0 ho rfl fun h1 ho1 => hk h1 (own_cs ho1 (by kernel_rfl))
  | some p =>
    obtain ⟨b, rfl, rfl⟩ := hq
    have ho1 : Own h0 h ((b, plC p, 74) :: (s, scrC S A, 80) :: l) := ho.perm (List.Perm.swap _ _ _)
    rw [if_pos (show (!(some (⟨b, 0, none⟩ : Addr)).isNone) = true from rfl)]
    refine nz_i ?_
    simp only [add0, Nat.zero_add]
    iterate 5 (refine ldI0 ho1 rfl ?_)
    iterate 5 (refine ldB0 ho1 rfl ?_)
    refine nz_i ?_
    simp only [add0, Nat.zero_add]
    exact st0 ho rfl fun h1 ho2 => hk h1 (own_cs ho2 (by kernel_rfl))
theorem backCursor_sp {h0 : Base} {h : Heap} {s : Nat} {S : Scr} {K : Heap → Prop} (hs : Rep h0 h s S) (hk : ∀ h1, Rep h0 h1 s (backCursorV S) → K h1) : vt_Screen_backCursor (some ⟨s, 0, none⟩) K h := by
  obtain ⟨A, oM, oO, oP, oT, oG, oK, oL, ho, hp⟩ := hs
  unfold vt_Screen_backCursor
  unfold backCursorV Scr.kept at hk
  refine shown_o ho rfl (fun ha => nz_i ?_) (fun ha => nz_i ?_)
  · rw [if_pos ha] at hk
    simp only [add0, Nat.zero_add]
    refine ldP0 ho rfl ?_
    have ho1 : Own h0 h ((s, scrC S A, 80) :: (oL ++ (oM ++ (oO ++ (oP ++ (oT ++ (oG ++ oK))))))) := ho.perm (by exact pc)
    have := backCursor_k (K := K) (cs := scrC S A) ho1 hp.okept fun h1 ho2 => hk h1 ⟨A, oM, oO, oP, oT, oG, oK, oL, ho2.perm (by exact pc), hp.1, hp.2, hp.3, hp.4, hp.5, hp.6, hp.7⟩
    exact this
  · rw [if_neg (by rw [ha]; decide)] at hk
    simp only [add0, Nat.zero_add]
    refine ldP0 ho rfl ?_
    have ho1 : Own h0 h ((s, scrC S A, 80) :: (oK ++ (oM ++ (oO ++ (oP ++ (oT ++ (oG ++ oL))))))) := ho.perm (by exact pc)
    have := backCursor_k (K := K) (cs := scrC S A) ho1 hp.mkept fun h1 ho2 => hk h1 ⟨A, oM, oO, oP, oT, oG, oK, oL, ho2.perm (by exact pc), hp.1, hp.2, hp.3, hp.4, hp.5, hp.6, hp.7⟩
    exact this

/-! ### Modes are brought back -/
def soft0 (S : Scr) : Scr := { S with insert := false, newline := false, app := false, wrap := true, hidden := false, top := 0, bottom := S.h - 1, pl := { S.pl with origin := false, fore := 0, back := 0, marks := 0, l0 := false, l1 := false, second := false } }
def softV (S : Scr) : Scr := unwait ((soft0 S).setKept none)
theorem Ok.soft0 {S : Scr} (o : Ok S) : Ok (soft0 S) := by
  have := o.d.h0
  refine ⟨⟨o.d.w0, o.d.w1, o.d.h0, o.d.h1, o.d.m0, o.d.m1, o.d.past, o.d.main, o.d.other⟩, ⟨⟨o.c.p.x0, o.c.p.x1, o.c.p.y0, o.c.p.y1⟩, Int.le_refl _, ?_, ?_, o.c.tabs, o.c.gath, o.c.ans, o.c.hv0, o.c.hv1, o.c.km, o.c.ko⟩⟩
  · show (0 : Int) ≤ S.h - 1
    omega
  · show S.h - 1 < S.h
    omega
theorem Ok.soft {S : Scr} (o : Ok S) : Ok (softV S) := (o.soft0.setKept fun q hq => by cases hq).unwait
theorem soft_sp {h0 : Base} {h : Heap} {s : Nat} {S : Scr} {K : Heap → Prop} (hs : Rep h0 h s S) (o : Ok S) (hk : ∀ h1, Rep h0 h1 s (softV S) → K h1) : vt_Screen_soft (some ⟨s, 0, none⟩) K h := by
  have hh0 := o.d.h0
  have hh1 := o.d.h1
  obtain ⟨A, oM, oO, oP, oT, oG, oK, oL, ho, hp⟩ := hs
  unfold vt_Screen_soft
  refine nz_i ?_
  simp only [add0, Nat.zero_add]
  refine st0 ho rfl fun h1 ho => ?_
  refine st0 (own_cs (c' := scrC { S with insert := false } A) ho (by kernel_rfl)) rfl fun h1 ho => ?_
  refine st0 (own_cs (c' := scrC { S with insert := false, pl := { S.pl with origin := false } } A) ho (by kernel_rfl)) rfl fun h1 ho => ?_
  refine st0 (own_cs (c' := scrC { S with insert := false, newline := false, pl := { S.pl with origin := false } } A) ho (by kernel_rfl)) rfl fun h1 ho => ?_
  refine st0 (own_cs (c' := scrC { S with insert := false, newline := false, app := false, pl := { S.pl with origin := false } } A) ho (by kernel_rfl)) rfl fun h1 ho => ?_
  refine st0 (own_cs (c' := scrC { S with insert := false, newline := false, app := false, wrap := true, pl := { S.pl with origin := false } } A) ho (by kernel_rfl)) rfl fun h1 ho => ?_
  have ho := own_cs (c' := scrC { S with insert := false, newline := false, app := false, wrap := true, hidden := false, pl := { S.pl with origin := false } } A) ho (by kernel_rfl)
  refine ldI0 ho rfl ?_
  show stN _ [Value.int IntKind.i64 0] 0 h1 fun h12 => stN _ [Value.int IntKind.i64 (IntKind.wrap .i64 (S.h - 1))] 0 h12 _
  rw [wrap64 (by omega) (by omega)]
  refine st0 ho rfl fun h1 ho => ?_
  refine st0 (own_cs (c' := scrC { S with insert := false, newline := false, app := false, wrap := true, hidden := false, top := 0, pl := { S.pl with origin := false } } A) ho (by kernel_rfl)) rfl fun h1 ho => ?_
  refine st0 (own_cs (c' := scrC { S with insert := false, newline := false, app := false, wrap := true, hidden := false, top := 0, bottom := S.h - 1, pl := { S.pl with origin := false } } A) ho (by kernel_rfl)) rfl fun h1 ho => ?_
  refine st0 (own_cs (c' := scrC { S with insert := false, newline := false, app := false, wrap := true, hidden := false, top := 0, bottom := S.h - 1, pl := { S.pl with origin := false, fore := 0, back := 0, marks := 0 } } A) ho (by kernel_rfl)) rfl fun h1 ho => ?_
  refine st0 (own_cs (c' := scrC { S with insert := false, newline := false, app := false, wrap := true, hidden := false, top := 0, bottom := S.h - 1, pl := { S.pl with origin := false, fore := 0, back := 0, marks := 0, l0 := false, l1 := false } } A) ho (by kernel_rfl)) rfl fun h1 ho => ?_
  have ho1 : Own h0 h1 ((s, scrC (soft0 S) A, 80) :: (oM ++ (oO ++ (oP ++ (oT ++ (oG ++ (oK ++ oL))))))) := own_cs ho (by kernel_rfl)
  clear ho
  refine shown_o ho1 rfl (fun ha => nz_i ?_) (fun ha => nz_i ?_)
  · simp only [add0, Nat.zero_add]
    refine st0 ho1 rfl fun h4 ho4 => ?_
    have ho5 : Own h0 h4 (oL ++ ((s, scrC ({ soft0 S with okept := none }) { A with oq := none }, 80) :: (oM ++ (oO ++ (oP ++ (oT ++ (oG ++ oK))))))) := Own.perm (l := (s, scrC ({ soft0 S with okept := none }) { A with oq := none }, 80) :: (oM ++ (oO ++ (oP ++ (oT ++ (oG ++ (oK ++ oL))))))) (own_cs ho4 (by kernel_rfl)) (by exact pc)
    have hr : Rep h0 h4 s ((soft0 S).setKept none) := by
      unfold Scr.setKept
      rw [if_pos ha]
      refine ⟨{ A with oq := none }, oM, oO, oP, oT, oG, oK, [], ?_, hp.1, hp.2, hp.3, hp.4, hp.5, hp.6, ⟨rfl, rfl⟩⟩
      rw [List.append_nil]
      exact ho5.sub (List.sublist_append_right _ _)
    exact unwait_st hr hk
  · simp only [add0, Nat.zero_add]
    refine st0 ho1 rfl fun h4 ho4 => ?_
    have ho5 : Own h0 h4 (oK ++ ((s, scrC ({ soft0 S with mkept := none }) { A with mq := none }, 80) :: (oM ++ (oO ++ (oP ++ (oT ++ (oG ++ oL))))))) := Own.perm (l := (s, scrC ({ soft0 S with mkept := none }) { A with mq := none }, 80) :: (oM ++ (oO ++ (oP ++ (oT ++ (oG ++ (oK ++ oL))))))) (own_cs ho4 (by kernel_rfl)) (by exact pc)
    have hr : Rep h0 h4 s ((soft0 S).setKept none) := by
      unfold Scr.setKept
      rw [if_neg (by rw [ha]; decide)]
      exact ⟨{ A with mq := none }, oM, oO, oP, oT, oG, [], oL, ho5.sub (List.sublist_append_right _ _), hp.1, hp.2, hp.3, hp.4, hp.5, ⟨rfl, rfl⟩, hp.7⟩
    exact unwait_st hr hk

/-! ### The other screen -/
def swapV (S : Scr) (on : Bool) : Scr :=
  if on = S.alt then S else if on = true then unwait { S with alt := true, other := sheetV S.w S.h 0 S.pl.back 0, okept := none } else unwait { S with alt := false, other := [], okept := none }
theorem Ok.swap {S : Scr} (o : Ok S) (on : Bool) : Ok (swapV S on) := by
  have hh := o.d.h0
  have hw := o.d.w0
  unfold swapV
  split
  · exact o
  · split
    · refine Ok.unwait ⟨⟨o.d.w0, o.d.w1, o.d.h0, o.d.h1, o.d.m0, o.d.m1, o.d.past, o.d.main, fun _ => ⟨?_, fun g hg => ?_⟩⟩, ⟨o.c.p, o.c.t0, o.c.tb, o.c.bh, o.c.tabs, o.c.gath, o.c.ans, o.c.hv0, o.c.hv1, o.c.km, fun q hq => by cases hq⟩⟩
      · show ((List.replicate S.h.toNat _).length : Int) = S.h
        rw [List.length_replicate]; omega
      · have : g = List.replicate S.w.toNat (blankG 0 S.pl.back 0) := (List.mem_replicate.1 (show g ∈ List.replicate S.h.toNat _ from hg)).2
        show (g.length : Int) = S.w
        rw [this, List.length_replicate]; omega
    · exact Ok.unwait ⟨⟨o.d.w0, o.d.w1, o.d.h0, o.d.h1, o.d.m0, o.d.m1, o.d.past, o.d.main, fun hh => by cases hh⟩, ⟨o.c.p, o.c.t0, o.c.tb, o.c.bh, o.c.tabs, o.c.gath, o.c.ans, o.c.hv0, o.c.hv1, o.c.km, fun q hq => by cases hq⟩⟩
end Go.Proofs.YthjdnhhifjpidaaGreatDoor.M
set_option maxRecDepth 100000
namespace Go.Proofs.YthjdnhhifjpidaaGreatDoor.M
open Go Go.Hp

/-! ### Places are put in, taken out -/
def openR (r : List Gl) (x w n : Int) (g : Gl) : List Gl :=
  fillV (copyV (cutV (cutV r x) (w - n)) (x + n).toNat x.toNat (w - x - n).toNat) g n.toNat x (x + n)
def shutR (r : List Gl) (x w n : Int) (g : Gl) : List Gl :=
  fillV (copyV (cutV (cutV r x) (x + n)) x.toNat (x + n).toNat (w - x - n).toNat) g n.toNat (w - n) w
theorem openR_len (r : List Gl) (x w n : Int) (g : Gl) (hl : (r.length : Int) = w) (x0 : 0 ≤ x) (n0 : 0 ≤ n) (h : x + n ≤ w) : (openR r x w n g).length = r.length := by
  unfold openR
  rw [fillV_len, copyV_len _ _ _ _ (by rw [cutV_len, cutV_len]; omega) (by rw [cutV_len, cutV_len]; omega), cutV_len, cutV_len]
theorem shutR_len (r : List Gl) (x w n : Int) (g : Gl) (hl : (r.length : Int) = w) (x0 : 0 ≤ x) (n0 : 0 ≤ n) (h : x + n ≤ w) : (shutR r x w n g).length = r.length := by
  unfold shutR
  rw [fillV_len, copyV_len _ _ _ _ (by rw [cutV_len, cutV_len]; omega) (by rw [cutV_len, cutV_len]; omega), cutV_len, cutV_len]
def Scr.rowAt (S : Scr) : List Gl := S.sh.getD S.pl.y.toNat []
/-- The cursor's row is another. -/
def Scr.setRow (S : Scr) (g : List Gl) : Scr := S.setSh (S.sh.set S.pl.y.toNat g)
theorem Ok.setRow {S : Scr} (o : Ok S) {g : List Gl} (hg : (g.length : Int) = S.w) : Ok (S.setRow g) := by
  have hs := o.d.sh
  refine ⟨o.d.setSh ?_ fun x hx => ?_, o.c.setSh _⟩
  · rw [List.length_set]; exact hs.1
  · rcases List.mem_or_eq_of_mem_set hx with h | h
    · exact hs.2 x h
    · rw [h]; exact hg
theorem Ok.rowAt {S : Scr} (o : Ok S) : (S.rowAt.length : Int) = S.w := by
  have hs := o.d.sh
  have := o.c.p.y0
  have := o.c.p.y1
  refine hs.2 _ ?_
  unfold Scr.rowAt
  rw [List.getD_eq_getElem?_getD, List.getElem?_eq_getElem (by omega)]
  exact List.getElem_mem _
theorem Ok.row_sp {h0 : Base} {h : Heap} {s : Nat} {S : Scr} {K : Option Addr → Nat → Nat → Heap → Prop} (ok : Ok S) (hs : Rep h0 h s S)
    (hk : ∀ (A : Refs) (a : Option Addr) (n c : Nat) (o l : Blks), (n : Int) = S.w → n ≤ c → Own h0 h ([(s, scrC S A, 80)] ++ (o ++ l)) → SlO gf 5 52 a n c S.rowAt o → (∀ h' o' g', Own h0 h' ([(s, scrC S A, 80)] ++ (o' ++ l)) → SlO gf 5 52 a n c g' o' → Rep h0 h' s (S.setRow g')) → K a n c h) :
    vt_Screen_row (some ⟨s, 0, none⟩) K h := by
  have hsh := ok.d.sh
  have hy := ok.c.p
  have := hy.y0
  have := hy.y1
  have hw0 := ok.d.w0
  have hr := ok.rowAt
  refine M.row_sp hs hy.y0 (by omega) fun A a n c o l ho h1 h2 => ?_
  have hn := h1.1
  have hcn : n ≤ c := by
    obtain ⟨_, ⟨_, _, _, e4⟩ | ⟨_, _, _, _, _, _, _, hle⟩⟩ := h1
    · unfold Scr.rowAt at hr
      rw [e4] at hr
      simp at hr
      omega
    · exact hle
  have e : (S.sh.getD S.pl.y.toNat []) = S.rowAt := rfl
  rw [e] at h1 hn
  exact hk A a n c o l (by omega) hcn ho h1 h2
theorem open_l0 {h0 : Base} {s : Nat} {S : Scr} {A : Refs} {a : Option Addr} {n c : Nat} {l : Blks} {nn : Int} {K0 : Heap → Prop} (ok : Ok S) (hn0 : 0 ≤ nn) (hnn : S.pl.x + nn ≤ n) (hn : (n : Int) = S.w) :
    ∀ (f : Nat) (i : Int) (h : Heap) (r : List Gl) (o : Blks), SlO gf 5 52 a n c r o → Own h0 h ([(s, scrC S A, 80)] ++ (o ++ l)) → 0 ≤ i → (S.pl.x + nn - i).toNat = f →
      (∀ h' o', Own h0 h' ([(s, scrC S A, 80)] ++ (o' ++ l)) → SlO gf 5 52 a n c (fillV r (erasedG S) f i (S.pl.x + nn)) o' → K0 h') → vt_Screen_open_l0 K0 (f + 1) ⟨s, 0, none⟩ nn a n c i h := by
  have hw0 := ok.d.w0
  have hw1 := ok.d.w1
  have hx0 := ok.c.p.x0
  have hx1 := ok.c.p.x1
  intro f
  induction f with
  | zero =>
    intro i h r o hs ho hi hf hk
    have ho' : Own h0 h ((s, scrC S A, 80) :: (o ++ l)) := ho
    unfold vt_Screen_open_l0
    simp only [add0, Nat.zero_add]
    refine ldI0 ho' rfl ?_
    show if i < IntKind.wrap .i64 (S.pl.x + nn) then _ else _
    rw [if_neg (by rw [IntKind.wrap_i64]; omega)]
    exact hk h o ho hs
  | succ f ih =>
    intro i h r o hs ho hi hf hk
    have ho' : Own h0 h ((s, scrC S A, 80) :: (o ++ l)) := ho
    unfold fillV at hk
    rw [if_pos (by omega)] at hk
    unfold vt_Screen_open_l0
    simp only [add0, Nat.zero_add]
    refine ldI0 ho' rfl ?_
    show if i < IntKind.wrap .i64 (S.pl.x + nn) then _ else _
    rw [if_pos (by rw [IntKind.wrap_i64]; omega)]
    refine erased_o ho' rfl fun h1 he1 => ?_
    have ho1 := ho.gap he1
    obtain ⟨p, hp, _⟩ := hs.get gf_len ho1 i.toNat gl0 (by omega)
    rw [hp]
    refine nz_i ⟨hi, by omega, ?_⟩
    refine SlO.set gf_len hs ho1 i.toNat (erasedG S) (by omega) hp fun h2 o2 ho2 hs2 => ?_
    rw [wrap64 (by omega) (by omega), ← hp]
    exact ih (i + 1) h2 _ o2 hs2 ho2 (by omega) (by omega) hk
def openV (S : Scr) (n : Int) : Scr := S.setRow (openR S.rowAt S.pl.x S.w (imin n (S.w - S.pl.x)) (erasedG S))
theorem imin_ge {a b c : Int} (h1 : c ≤ a) (h2 : c ≤ b) : c ≤ imin a b := by unfold imin; split <;> assumption
theorem Ok.open {S : Scr} (o : Ok S) {n : Int} (hn : 0 ≤ n) : Ok (openV S n) := by
  have hr := o.rowAt
  have h1 := o.c.p.x1
  have h2 := imin_le2 n (S.w - S.pl.x)
  have h3 : 0 ≤ imin n (S.w - S.pl.x) := imin_ge hn (by omega)
  refine o.setRow ?_
  rw [openR_len _ _ _ _ _ hr o.c.p.x0 h3 (by omega)]
  exact hr
theorem open_sp {h0 : Base} {h : Heap} {s : Nat} {S : Scr} {n : Int} {K : Heap → Prop} (hs : Rep h0 h s S) (ok : Ok S) (hn : 0 ≤ n) (hk : ∀ h1, Rep h0 h1 s (openV S n) → K h1) : vt_Screen_open (some ⟨s, 0, none⟩) n K h := by
  have hw0 := ok.d.w0
  have hw1 := ok.d.w1
  have hx0 := ok.c.p.x0
  have hx1 := ok.c.p.x1
  have hr := ok.rowAt
  have g2 := imin_le2 n (S.w - S.pl.x)
  have g3 : 0 ≤ imin n (S.w - S.pl.x) := imin_ge hn (by omega)
  unfold vt_Screen_open
  refine ok.row_sp hs fun A a nn c o l hl hcn ho hsl hback => ?_
  have ho0 : Own h0 h ((s, scrC S A, 80) :: (o ++ l)) := ho
  refine nz_i ?_
  simp only [add0, Nat.zero_add]
  refine ldI0 ho0 rfl ?_
  refine ldI0 ho0 rfl ?_
  refine ldI0 ho0 rfl ?_
  rw [wrap64 (x := S.w - S.pl.x) (by omega) (by omega)]
  unfold openV at hk
  generalize imin n (S.w - S.pl.x) = m at *
  refine cut_sp hsl ho (by omega) fun h1 o1 ho1 hs1 => ?_
  have ho1' : Own h0 h1 ((s, scrC S A, 80) :: (o1 ++ l)) := ho1
  refine ldI0 ho1' rfl ?_
  show vt_row_cut a nn c (IntKind.wrap .i64 (S.w - m)) _ h1
  rw [wrap64 (x := S.w - m) (by omega) (by omega)]
  refine cut_sp hs1 ho1 (by omega) fun h2 o2 ho2 hs2 => ?_
  have ho2' : Own h0 h2 ((s, scrC S A, 80) :: (o2 ++ l)) := ho2
  refine ldI0 ho2' rfl ?_
  show 0 ≤ (IntKind.wrap .i64 (S.pl.x + m)) ∧ (IntKind.wrap .i64 (S.pl.x + m)) ≤ (nn : Int) ∧ _
  rw [wrap64 (x := S.pl.x + m) (by omega) (by omega)]
  refine ⟨by omega, by omega, ?_⟩
  refine ldI0 ho2' rfl ?_
  refine ldI0 ho2' rfl ?_
  show 0 ≤ (IntKind.wrap .i64 (S.w - m)) ∧ _
  rw [wrap64 (x := S.w - m) (by omega) (by omega)]
  refine ⟨by omega, by omega, hx0, by omega, ?_⟩
  refine SlO.copy gf_len gf_one hs2 ho2 (S.pl.x + m).toNat (nn - (S.pl.x + m).toNat) S.pl.x.toNat ((S.w - m).toNat - S.pl.x.toNat) (by omega) (by omega) fun h3 o3 ho3 hs3 => ?_
  have hmin : Nat.min ((S.w - m).toNat - S.pl.x.toNat) (nn - (S.pl.x + m).toNat) = (S.w - S.pl.x - m).toNat := by
    rw [show (S.w - m).toNat - S.pl.x.toNat = (S.w - S.pl.x - m).toNat by omega, show nn - (S.pl.x + m).toNat = (S.w - S.pl.x - m).toNat by omega]
    exact Nat.min_self _
  rw [hmin] at hs3
  have ho3' : Own h0 h3 ((s, scrC S A, 80) :: (o3 ++ l)) := ho3
  refine ldI0 ho3' rfl ?_
  refine ⟨m.toNat + 1, open_l0 ok g3 (by omega) hl m.toNat S.pl.x h3 _ o3 hs3 ho3 hx0 (by omega) fun h4 o4 ho4 hs4 => hk h4 (hback h4 o4 _ ho4 hs4)⟩
theorem shut_l0 {h0 : Base} {s : Nat} {S : Scr} {A : Refs} {a : Option Addr} {n c : Nat} {l : Blks} {K0 : Heap → Prop} (ok : Ok S) (hn : (n : Int) = S.w) :
    ∀ (f : Nat) (i : Int) (h : Heap) (r : List Gl) (o : Blks), SlO gf 5 52 a n c r o → Own h0 h ([(s, scrC S A, 80)] ++ (o ++ l)) → 0 ≤ i → (S.w - i).toNat = f →
      (∀ h' o', Own h0 h' ([(s, scrC S A, 80)] ++ (o' ++ l)) → SlO gf 5 52 a n c (fillV r (erasedG S) f i S.w) o' → K0 h') → vt_Screen_shut_l0 K0 (f + 1) ⟨s, 0, none⟩ a n c i h := by
  have hw0 := ok.d.w0
  have hw1 := ok.d.w1
  intro f
  induction f with
  | zero =>
    intro i h r o hs ho hi hf hk
    have ho' : Own h0 h ((s, scrC S A, 80) :: (o ++ l)) := ho
    unfold vt_Screen_shut_l0
    refine ldI0 ho' rfl ?_
    show if i < S.w then _ else _
    rw [if_neg (by omega)]
    exact hk h o ho hs
  | succ f ih =>
    intro i h r o hs ho hi hf hk
    have ho' : Own h0 h ((s, scrC S A, 80) :: (o ++ l)) := ho
    unfold fillV at hk
    rw [if_pos (by omega)] at hk
    unfold vt_Screen_shut_l0
    refine ldI0 ho' rfl ?_
    show if i < S.w then _ else _
    rw [if_pos (by omega)]
    refine erased_o ho' rfl fun h1 he1 => ?_
    have ho1 := ho.gap he1
    obtain ⟨p, hp, _⟩ := hs.get gf_len ho1 i.toNat gl0 (by omega)
    rw [hp]
    refine nz_i ⟨hi, by omega, ?_⟩
    refine SlO.set gf_len hs ho1 i.toNat (erasedG S) (by omega) hp fun h2 o2 ho2 hs2 => ?_
    rw [wrap64 (by omega) (by omega), ← hp]
    exact ih (i + 1) h2 _ o2 hs2 ho2 (by omega) (by omega) hk
def shutV (S : Scr) (n : Int) : Scr := S.setRow (shutR S.rowAt S.pl.x S.w (imin n (S.w - S.pl.x)) (erasedG S))
theorem Ok.shut {S : Scr} (o : Ok S) {n : Int} (hn : 0 ≤ n) : Ok (shutV S n) := by
  have hr := o.rowAt
  have h1 := o.c.p.x1
  have h2 := imin_le2 n (S.w - S.pl.x)
  have h3 : 0 ≤ imin n (S.w - S.pl.x) := imin_ge hn (by omega)
  refine o.setRow ?_
  rw [shutR_len _ _ _ _ _ hr o.c.p.x0 h3 (by omega)]
  exact hr
theorem shut_sp {h0 : Base} {h : Heap} {s : Nat} {S : Scr} {n : Int} {K : Heap → Prop} (hs : Rep h0 h s S) (ok : Ok S) (hn : 0 ≤ n) (hk : ∀ h1, Rep h0 h1 s (shutV S n) → K h1) : vt_Screen_shut (some ⟨s, 0, none⟩) n K h := by
  have hw0 := ok.d.w0
  have hw1 := ok.d.w1
  have hx0 := ok.c.p.x0
  have hx1 := ok.c.p.x1
  have hr := ok.rowAt
  have g2 := imin_le2 n (S.w - S.pl.x)
  have g3 : 0 ≤ imin n (S.w - S.pl.x) := imin_ge hn (by omega)
  unfold vt_Screen_shut
  refine ok.row_sp hs fun A a nn c o l hl hcn ho hsl hback => ?_
  have ho0 : Own h0 h ((s, scrC S A, 80) :: (o ++ l)) := ho
  refine nz_i ?_
  simp only [add0, Nat.zero_add]
  refine ldI0 ho0 rfl ?_
  refine ldI0 ho0 rfl ?_
  refine ldI0 ho0 rfl ?_
  rw [wrap64 (x := S.w - S.pl.x) (by omega) (by omega)]
  unfold shutV at hk
  generalize imin n (S.w - S.pl.x) = m at *
  refine cut_sp hsl ho (by omega) fun h1 o1 ho1 hs1 => ?_
  have ho1' : Own h0 h1 ((s, scrC S A, 80) :: (o1 ++ l)) := ho1
  refine ldI0 ho1' rfl ?_
  show vt_row_cut a nn c (IntKind.wrap .i64 (S.pl.x + m)) _ h1
  rw [wrap64 (x := S.pl.x + m) (by omega) (by omega)]
  refine cut_sp hs1 ho1 (by omega) fun h2 o2 ho2 hs2 => ?_
  have ho2' : Own h0 h2 ((s, scrC S A, 80) :: (o2 ++ l)) := ho2
  refine ldI0 ho2' rfl ?_
  refine ⟨hx0, by omega, ?_⟩
  refine ldI0 ho2' rfl ?_
  show 0 ≤ (IntKind.wrap .i64 (S.pl.x + m)) ∧ (IntKind.wrap .i64 (S.pl.x + m)) ≤ (nn : Int) ∧ _
  rw [wrap64 (x := S.pl.x + m) (by omega) (by omega)]
  refine ⟨by omega, by omega, ?_⟩
  refine SlO.copy gf_len gf_one hs2 ho2 S.pl.x.toNat (nn - S.pl.x.toNat) (S.pl.x + m).toNat (nn - (S.pl.x + m).toNat) (by omega) (by omega) fun h3 o3 ho3 hs3 => ?_
  have hmin : Nat.min (nn - (S.pl.x + m).toNat) (nn - S.pl.x.toNat) = (S.w - S.pl.x - m).toNat := by
    rw [show nn - (S.pl.x + m).toNat = (S.w - S.pl.x - m).toNat by omega]
    exact Nat.min_eq_left (by omega)
  rw [hmin] at hs3
  have ho3' : Own h0 h3 ((s, scrC S A, 80) :: (o3 ++ l)) := ho3
  refine ldI0 ho3' rfl ?_
  show ∃ k57, vt_Screen_shut_l0 _ k57 _ a nn c (IntKind.wrap .i64 (S.w - m)) h3
  rw [wrap64 (x := S.w - m) (by omega) (by omega)]
  refine ⟨m.toNat + 1, shut_l0 ok hl m.toNat (S.w - m) h3 _ o3 hs3 ho3 (by omega) (by omega) fun h4 o4 ho4 hs4 => hk h4 (hback h4 o4 _ ho4 hs4)⟩
/-! ### Rows are put in, taken out -/
def lines1V (S : Scr) (b n : Int) : Scr :=
  if S.pl.y < S.top then S else if S.bottom < S.pl.y then S else
  if b = 76 then toV (downV S S.pl.y S.bottom n) 0 (downV S S.pl.y S.bottom n).pl.y else toV (upV S S.pl.y S.bottom n false) 0 (upV S S.pl.y S.bottom n false).pl.y
theorem Ok.lines1 {S : Scr} (o : Ok S) (b n : Int) : Ok (lines1V S b n) := by
  have h1 := o.c.p.y0
  have h2 := o.c.bh
  unfold lines1V
  split
  · exact o
  · split
    · exact o
    · split
      · exact (o.down h1 (by omega) h2).to _ _
      · exact (o.up h1 (by omega) h2).to _ _
theorem lines1_sp {h0 : Base} {h : Heap} {s : Nat} {S : Scr} {b n : Int} {K : Heap → Prop} (hs : Rep h0 h s S) (o : Ok S) (hk : ∀ h1, Rep h0 h1 s (lines1V S b n) → K h1) : vt_Screen_lines1 (some ⟨s, 0, none⟩) b n K h := by
  have g1 := o.c.p.y0
  have g2 := o.c.bh
  have hs0 := hs
  obtain ⟨A, oM, oO, oP, oT, oG, oK, oL, ho, hp⟩ := hs
  unfold vt_Screen_lines1
  unfold lines1V at hk
  refine nz_i ?_
  simp only [add0, Nat.zero_add]
  repeat (first | ((with_reducible apply newB_o); (with_reducible assumption); intro _ _ _) | ((with_reducible apply st0); (with_reducible assumption); rfl; intro _ _) | ((with_reducible apply ldI0); (with_reducible assumption); rfl) | ((with_reducible apply ldB0); (with_reducible assumption); rfl) | ((with_reducible apply ldS0); (with_reducible assumption); rfl) | (with_reducible apply nz_i))
  by_cases h1 : S.pl.y < S.top
  · rw [if_pos h1] at hk ⊢
    exact hk h hs0
  rw [if_neg h1] at hk ⊢
  repeat (first | ((with_reducible apply newB_o); (with_reducible assumption); intro _ _ _) | ((with_reducible apply st0); (with_reducible assumption); rfl; intro _ _) | ((with_reducible apply ldI0); (with_reducible assumption); rfl) | ((with_reducible apply ldB0); (with_reducible assumption); rfl) | ((with_reducible apply ldS0); (with_reducible assumption); rfl) | (with_reducible apply nz_i))
  by_cases h2 : S.bottom < S.pl.y
  · rw [if_pos h2] at hk ⊢
    exact hk h hs0
  rw [if_neg h2] at hk ⊢
  by_cases h3 : b = 76
  · rw [if_pos h3] at hk ⊢
    repeat (first | ((with_reducible apply newB_o); (with_reducible assumption); intro _ _ _) | ((with_reducible apply st0); (with_reducible assumption); rfl; intro _ _) | ((with_reducible apply ldI0); (with_reducible assumption); rfl) | ((with_reducible apply ldB0); (with_reducible assumption); rfl) | ((with_reducible apply ldS0); (with_reducible assumption); rfl) | (with_reducible apply nz_i))
    refine down_sp hs0 o.d g1 (by omega) g2 fun h4 hs4 => ?_
    have hs4' := hs4
    obtain ⟨A', oM', oO', oP', oT', oG', oK', oL', ho', hp'⟩ := hs4
    refine ldI0 ho' rfl ?_
    exact to_sp hs4' hk
  · rw [if_neg h3] at hk ⊢
    repeat (first | ((with_reducible apply newB_o); (with_reducible assumption); intro _ _ _) | ((with_reducible apply st0); (with_reducible assumption); rfl; intro _ _) | ((with_reducible apply ldI0); (with_reducible assumption); rfl) | ((with_reducible apply ldB0); (with_reducible assumption); rfl) | ((with_reducible apply ldS0); (with_reducible assumption); rfl) | (with_reducible apply nz_i))
    refine up_sp hs0 o.d g1 (by omega) g2 fun h4 hs4 => ?_
    have hs4' := hs4
    obtain ⟨A', oM', oO', oP', oT', oG', oK', oL', ho', hp'⟩ := hs4
    refine ldI0 ho' rfl ?_
    exact to_sp hs4' hk
def placesV (S : Scr) (b n : Int) : Scr :=
  if b = 64 then unwait (openV S n) else if b = 80 then unwait (shutV S n) else if b = 88 then unwait (S.setRow (eraseV S.rowAt S.pl.x (imin S.w (S.pl.x + n)) (erasedG S))) else unwait S
theorem eraseV_len (r : List Gl) (i to : Int) (g : Gl) : (eraseV r i to g).length = r.length := by
  unfold eraseV
  rw [fillV_len, cutV_len, cutV_len]
theorem Ok.places {S : Scr} (o : Ok S) (b : Int) {n : Int} (hn : 0 ≤ n) : Ok (placesV S b n) := by
  unfold placesV
  split
  · exact (o.open hn).unwait
  · split
    · exact (o.shut hn).unwait
    · split
      · refine (o.setRow ?_).unwait
        rw [eraseV_len]
        exact o.rowAt
      · exact o.unwait
theorem places_sp {h0 : Base} {h : Heap} {s : Nat} {S : Scr} {b n : Int} {K : Heap → Prop} (hs : Rep h0 h s S) (o : Ok S) (hn : 0 ≤ n) (hn1 : n ≤ 100000) (hk : ∀ h1, Rep h0 h1 s (placesV S b n) → K h1) : vt_Screen_places (some ⟨s, 0, none⟩) b n K h := by
  have hw0 := o.d.w0
  have hw1 := o.d.w1
  have hx0 := o.c.p.x0
  have hx1 := o.c.p.x1
  unfold vt_Screen_places
  unfold placesV at hk
  by_cases h1 : b = 64
  · rw [if_pos h1] at hk ⊢
    refine open_sp hs o hn fun h2 hs2 => nz_i ?_
    simp only [add0, Nat.zero_add]
    exact unwait_st hs2 hk
  rw [if_neg h1] at hk ⊢
  by_cases h2 : b = 80
  · rw [if_pos h2] at hk ⊢
    refine shut_sp hs o hn fun h2 hs2 => nz_i ?_
    simp only [add0, Nat.zero_add]
    exact unwait_st hs2 hk
  rw [if_neg h2] at hk ⊢
  by_cases h3 : b = 88
  · rw [if_pos h3] at hk ⊢
    have hs0 := hs
    obtain ⟨A, oM, oO, oP, oT, oG, oK, oL, ho, hp⟩ := hs
    refine nz_i ?_
    simp only [add0, Nat.zero_add]
    repeat (first | ((with_reducible apply newB_o); (with_reducible assumption); intro _ _ _) | ((with_reducible apply st0); (with_reducible assumption); rfl; intro _ _) | ((with_reducible apply ldI0); (with_reducible assumption); rfl) | ((with_reducible apply ldB0); (with_reducible assumption); rfl) | ((with_reducible apply ldS0); (with_reducible assumption); rfl) | (with_reducible apply nz_i))
    refine o.row_sp hs0 fun A a nn c o l hl hcn ho hsl hback => ?_
    have ho0 : Own h0 h ((s, scrC S A, 80) :: (o ++ l)) := ho
    refine ⟨⟨ho0.get0.cell 9 rfl, ho0.get0.cell 0 rfl, ho0.get0.cell 9 rfl⟩, ?_⟩
    refine erased_o ho0 rfl fun h1 he1 => ?_
    have ho1 := ho0.gap he1
    refine ⟨⟨ho1.get0.cell 9 rfl, ho1.get0.cell 0 rfl, ho1.get0.cell 9 rfl⟩, ?_⟩
    rw [wrap64 (x := S.pl.x + n) (by omega) (by omega)]
    have hm := imin_le1 S.w (S.pl.x + n)
    refine erase_sp (g := erasedG S) (pre := [(s, scrC S A, 80)]) hsl ho1 hx0 (by omega) (by omega) fun h3 o3 ho3 hs3 => ?_
    exact unwait_st (hback h3 o3 _ ho3 hs3) hk
  · rw [if_neg h3] at hk ⊢
    refine nz_i ?_
    simp only [add0, Nat.zero_add]
    exact unwait_st hs hk
end Go.Proofs.YthjdnhhifjpidaaGreatDoor.M
set_option maxRecDepth 100000
namespace Go.Proofs.YthjdnhhifjpidaaGreatDoor.M
open Go Go.Hp

/-! ### A letter is written -/
theorem setSh_pl (S : Scr) (R) : (S.setSh R).pl = S.pl ∧ (S.setSh R).w = S.w := by
  unfold Scr.setSh
  split <;> exact ⟨rfl, rfl⟩
theorem keepOne_pl (S : Scr) (t : Int) (k : Bool) : (keepOne S t k).pl = S.pl ∧ (keepOne S t k).w = S.w := by
  unfold keepOne
  split
  · split <;> exact ⟨rfl, rfl⟩
  · exact ⟨rfl, rfl⟩
theorem upL_pl (t b : Int) (k : Bool) : ∀ (n : Nat) (S : Scr), (upL t b k n S).pl = S.pl ∧ (upL t b k n S).w = S.w
  | 0, S => ⟨rfl, rfl⟩
  | n + 1, S => by
    have h1 := upL_pl t b k n (upOne (keepOne S t k) t b)
    have h2 := setSh_pl (keepOne S t k) (shiftUp (keepOne S t k).sh t.toNat b.toNat (emptyRow (keepOne S t k)))
    have h3 := keepOne_pl S t k
    exact ⟨h1.1.trans (h2.1.trans h3.1), h1.2.trans (h2.2.trans h3.2)⟩
theorem feedV_x (S : Scr) : (feedV S).pl.x = S.pl.x ∧ (feedV S).w = S.w := by
  unfold feedV
  split
  · have := upL_pl S.top S.bottom true (imin 1 (S.bottom - S.top + 1)).toNat S
    exact ⟨show (upL _ _ _ _ S).pl.x = S.pl.x by rw [this.1], this.2⟩
  · split <;> exact ⟨rfl, rfl⟩
theorem setX_st {h0 : Base} {h : Heap} {s : Nat} {S : Scr} {x : Int} {K : Heap → Prop} (hs : Rep h0 h s S) (hk : ∀ h1, Rep h0 h1 s (setX S x) → K h1) : stN ⟨s, 9, none⟩ [.int .i64 x] 0 h K := by
  obtain ⟨A, oM, oO, oP, oT, oG, oK, oL, ho, hp⟩ := hs
  repeat (first | ((with_reducible apply newB_o); (with_reducible assumption); intro _ _ _) | ((with_reducible apply st0); (with_reducible assumption); rfl; intro _ _) | ((with_reducible apply ldI0); (with_reducible assumption); rfl) | ((with_reducible apply ldB0); (with_reducible assumption); rfl) | ((with_reducible apply ldS0); (with_reducible assumption); rfl) | (with_reducible apply nz_i))
  exact hk _ ⟨A, oM, oO, oP, oT, oG, oK, oL, by assumption, hp.1, hp.2, hp.3, hp.4, hp.5, hp.6, hp.7⟩
def setLast (S : Scr) (c : Int) : Scr := { S with last := c }
theorem Ok.setLast {S : Scr} (o : Ok S) (c : Int) : Ok (setLast S c) :=
  ⟨⟨o.d.w0, o.d.w1, o.d.h0, o.d.h1, o.d.m0, o.d.m1, o.d.past, o.d.main, o.d.other⟩, ⟨o.c.p, o.c.t0, o.c.tb, o.c.bh, o.c.tabs, o.c.gath, o.c.ans, o.c.hv0, o.c.hv1, o.c.km, o.c.ko⟩⟩
def putR (r : List Gl) (x n : Int) (t : ByteArray) (f b m : Int) : List Gl :=
  if n = 2 then ((cutV (cutV r x) (x + n)).set x.toNat (t, n, f, b, m)).set (x + 1).toNat (⟨#[]⟩, 0, f, b, m) else (cutV (cutV r x) (x + n)).set x.toNat (t, n, f, b, m)
theorem putR_len (r : List Gl) (x n : Int) (t : ByteArray) (f b m : Int) : (putR r x n t f b m).length = r.length := by
  unfold putR
  split <;> simp [cutV_len]
def ahead (S : Scr) (n : Int) : Scr := if S.w ≤ S.pl.x + n then S.setPl { S.pl with x := S.w - 1, waiting := S.wrap } else S.setPl { S.pl with x := S.pl.x + n, waiting := false }
theorem Ok.ahead {S : Scr} (o : Ok S) {n : Int} (hn : 0 ≤ n) : Ok (ahead S n) := by
  have hw := o.d.w0
  have hx := o.c.p.x0
  unfold M.ahead
  split
  · exact Ok.setPl (p := { S.pl with x := S.w - 1, waiting := S.wrap }) o ⟨by show 0 ≤ S.w - 1; omega, by show S.w - 1 < S.w; omega, o.c.p.y0, o.c.p.y1⟩
  · exact Ok.setPl (p := { S.pl with x := S.pl.x + n, waiting := false }) o ⟨by show 0 ≤ S.pl.x + n; omega, by show S.pl.x + n < S.w; omega, o.c.p.y0, o.c.p.y1⟩
theorem write_j5 {h0 : Base} {h : Heap} {s : Nat} {S : Scr} {n : Int} {K : Heap → Prop} (hs : Rep h0 h s S) (o : Ok S) (n0 : 0 ≤ n) (n2 : n ≤ 2) (hk : ∀ h1, Rep h0 h1 s (ahead S n) → K h1) : vt_Screen_write_j5 K ⟨s, 0, none⟩ n h := by
  have hw0 := o.d.w0
  have hw1 := o.d.w1
  have hx0 := o.c.p.x0
  have hx1 := o.c.p.x1
  obtain ⟨A, oM, oO, oP, oT, oG, oK, oL, ho, hp⟩ := hs
  unfold vt_Screen_write_j5
  unfold ahead at hk
  simp only [add0, Nat.zero_add]
  refine st0 ho rfl fun h1 ho1 => ?_
  refine ldI0 ho1 rfl ?_
  show stN _ [Value.int IntKind.i64 (IntKind.wrap .i64 (S.pl.x + n))] 0 h1 _
  rw [wrap64 (x := S.pl.x + n) (by omega) (by omega)]
  refine st0 ho1 rfl fun h2 ho2 => ?_
  have ho2 := own_cs (c' := scrC (S.setPl { S.pl with x := S.pl.x + n, waiting := false }) A) ho2 (by kernel_rfl)
  refine ldI0 ho2 rfl ?_
  refine ldI0 ho2 rfl ?_
  show if S.w ≤ S.pl.x + n then _ else _
  by_cases hc : S.w ≤ S.pl.x + n
  · rw [if_pos hc] at hk ⊢
    refine ldI0 ho2 rfl ?_
    show stN _ [Value.int IntKind.i64 (IntKind.wrap .i64 (S.w - 1))] 0 h2 _
    rw [wrap64 (x := S.w - 1) (by omega) (by omega)]
    refine st0 ho2 rfl fun h3 ho3 => ?_
    have ho3 := own_cs (c' := scrC (S.setPl { S.pl with x := S.w - 1, waiting := false }) A) ho3 (by kernel_rfl)
    refine ldB0 ho3 rfl ?_
    refine st0 ho3 rfl fun h4 ho4 => ?_
    have ho4 := own_cs (c' := scrC (S.setPl { S.pl with x := S.w - 1, waiting := S.wrap }) A) ho4 (by kernel_rfl)
    exact hk h4 ⟨A, oM, oO, oP, oT, oG, oK, oL, by assumption, hp.1, hp.2, hp.3, hp.4, hp.5, hp.6, hp.7⟩
  · rw [if_neg hc] at hk ⊢
    exact hk h2 ⟨A, oM, oO, oP, oT, oG, oK, oL, by assumption, hp.1, hp.2, hp.3, hp.4, hp.5, hp.6, hp.7⟩
def putV (S : Scr) (c n : Int) : Scr := ahead (S.setRow (putR S.rowAt S.pl.x n (Utf8.encode c) S.pl.fore S.pl.back S.pl.marks)) n
theorem Ok.setPutR {S : Scr} (o : Ok S) (c n : Int) : Ok (S.setRow (putR S.rowAt S.pl.x n (Utf8.encode c) S.pl.fore S.pl.back S.pl.marks)) := o.setRow (by rw [putR_len]; exact o.rowAt)
theorem Ok.put {S : Scr} (o : Ok S) (c : Int) {n : Int} (hn : 0 ≤ n) : Ok (putV S c n) := (o.setPutR c n).ahead hn
theorem write_j4 {h0 : Base} {h : Heap} {s : Nat} {S : Scr} {c n : Int} {K : Heap → Prop} (hs : Rep h0 h s S) (ok : Ok S) (hn : n = 1 ∨ n = 2) (hx : n = 2 → S.pl.x + 1 < S.w) (hk : ∀ h1, Rep h0 h1 s (putV S c n) → K h1) : vt_Screen_write_j4 K ⟨s, 0, none⟩ c n h := by
  have hw0 := ok.d.w0
  have hw1 := ok.d.w1
  have hx0 := ok.c.p.x0
  have hx1 := ok.c.p.x1
  have okp := ok.setPutR c n
  unfold vt_Screen_write_j4
  unfold putV at hk
  unfold putR at hk okp
  refine ok.row_sp hs fun A a nn cc o l hl hcn ho hsl hback => ?_
  have ho0 : Own h0 h ((s, scrC S A, 80) :: (o ++ l)) := ho
  simp only [add0, Nat.zero_add]
  refine ldI0 ho0 rfl ?_
  refine cut_sp hsl ho (by omega) fun h1 o1 ho1 hs1 => ?_
  have ho1' : Own h0 h1 ((s, scrC S A, 80) :: (o1 ++ l)) := ho1
  refine ldI0 ho1' rfl ?_
  show vt_row_cut a nn cc (IntKind.wrap .i64 (S.pl.x + n)) _ h1
  rw [wrap64 (x := S.pl.x + n) (by omega) (by omega)]
  refine cut_sp hs1 ho1 (by omega) fun h2 o2 ho2 hs2 => ?_
  have ho2' : Own h0 h2 ((s, scrC S A, 80) :: (o2 ++ l)) := ho2
  refine ldI0 ho2' rfl ?_
  refine ldI0 ho2' rfl ?_
  refine ldI0 ho2' rfl ?_
  refine ldI0 ho2' rfl ?_
  obtain ⟨p, hp, _⟩ := hs2.get gf_len ho2 S.pl.x.toNat gl0 (by omega)
  rw [hp]
  refine nz_i ⟨hx0, by show S.pl.x < _; omega, ?_⟩
  refine SlO.set gf_len hs2 ho2 S.pl.x.toNat (Utf8.encode c, n, S.pl.fore, S.pl.back, S.pl.marks) (by omega) hp fun h3 o3 ho3 hs3 => ?_
  have ho3' : Own h0 h3 ((s, scrC S A, 80) :: (o3 ++ l)) := ho3
  by_cases h2n : n = 2
  · rw [if_pos h2n] at hk okp ⊢
    have := hx h2n
    refine ldI0 ho3' rfl ?_
    refine ldI0 ho3' rfl ?_
    refine ldI0 ho3' rfl ?_
    refine ldI0 ho3' rfl ?_
    show 0 ≤ (IntKind.wrap .i64 (S.pl.x + 1)) ∧ _
    rw [wrap64 (x := S.pl.x + 1) (by omega) (by omega)]
    refine ⟨by omega, by omega, ?_⟩
    refine SlO.set gf_len hs3 ho3 (S.pl.x + 1).toNat (⟨#[]⟩, 0, S.pl.fore, S.pl.back, S.pl.marks) (by omega) hp fun h4 o4 ho4 hs4 => ?_
    exact write_j5 (hback h4 o4 _ ho4 hs4) okp (by omega) (by omega) hk
  · rw [if_neg h2n] at hk okp ⊢
    exact write_j5 (hback h3 o3 _ ho3 hs3) okp (by omega) (by omega) hk
def write3 (S : Scr) (c n sent : Int) : Scr := if S.insert = true then putV (openV (setLast S sent) n) c n else putV (setLast S sent) c n
theorem Ok.write3 {S : Scr} (o : Ok S) (c : Int) {n : Int} (sent : Int) (hn : 0 ≤ n) : Ok (write3 S c n sent) := by
  unfold M.write3
  split
  · exact ((o.setLast sent).open hn).put c hn
  · exact (o.setLast sent).put c hn
theorem write_j3 {h0 : Base} {h : Heap} {s : Nat} {S : Scr} {c n sent : Int} {K : Heap → Prop} (hs : Rep h0 h s S) (ok : Ok S) (hn : n = 1 ∨ n = 2) (hx : n = 2 → S.pl.x + 1 < S.w) (hk : ∀ h1, Rep h0 h1 s (write3 S c n sent) → K h1) : vt_Screen_write_j3 K ⟨s, 0, none⟩ c n sent h := by
  obtain ⟨A, oM, oO, oP, oT, oG, oK, oL, ho, hp⟩ := hs
  unfold vt_Screen_write_j3
  unfold write3 at hk
  simp only [add0, Nat.zero_add]
  refine st0 ho rfl fun h1 ho1 => ?_
  have ho1 := own_cs (c' := scrC (setLast S sent) A) ho1 (by kernel_rfl)
  have hs1 : Rep h0 h1 s (setLast S sent) := ⟨A, oM, oO, oP, oT, oG, oK, oL, by assumption, hp.1, hp.2, hp.3, hp.4, hp.5, hp.6, hp.7⟩
  refine ldB0 ho1 rfl ?_
  show if S.insert = true then _ else _
  by_cases hc : S.insert = true
  · rw [if_pos hc] at hk ⊢
    refine open_sp hs1 (ok.setLast sent) (by omega) fun h2 hs2 => ?_
    have hq := setSh_pl (setLast S sent) ((setLast S sent).sh.set (setLast S sent).pl.y.toNat (openR (setLast S sent).rowAt (setLast S sent).pl.x (setLast S sent).w (imin n ((setLast S sent).w - (setLast S sent).pl.x)) (erasedG (setLast S sent))))
    refine write_j4 hs2 ((ok.setLast sent).open (by omega)) hn (fun h => ?_) hk
    have h3 := hx h
    show ((setLast S sent).setSh _).pl.x + 1 < ((setLast S sent).setSh _).w
    rw [hq.1, hq.2]
    exact h3
  · rw [if_neg hc] at hk ⊢
    exact write_j4 hs1 (ok.setLast sent) hn hx hk
def write2 (S : Scr) (c n sent : Int) : Scr :=
  if n = 2 then if S.pl.x = S.w - 1 then if S.wrap = false then S else if S.w = 1 then S else write3 (feedV (setX S 0)) c n sent else write3 S c n sent else write3 S c n sent
theorem Ok.zeroX {S : Scr} (o : Ok S) : Ok (M.setX S 0) := o.setX (Int.le_refl _) (by have := o.d.w0; omega)
theorem Ok.write2 {S : Scr} (o : Ok S) (c : Int) {n : Int} (sent : Int) (hn : 0 ≤ n) : Ok (write2 S c n sent) := by
  unfold M.write2
  split
  · split
    · split
      · exact o
      · split
        · exact o
        · exact o.zeroX.feed.write3 c sent hn
    · exact o.write3 c sent hn
  · exact o.write3 c sent hn
theorem write_j2 {h0 : Base} {h : Heap} {s : Nat} {S : Scr} {c n sent : Int} {K : Heap → Prop} (hs : Rep h0 h s S) (ok : Ok S) (hn : n = 1 ∨ n = 2) (hk : ∀ h1, Rep h0 h1 s (write2 S c n sent) → K h1) : vt_Screen_write_j2 K K ⟨s, 0, none⟩ c n sent h := by
  have hw0 := ok.d.w0
  have hw1 := ok.d.w1
  have hx0 := ok.c.p.x0
  have hx1 := ok.c.p.x1
  have hs0 := hs
  obtain ⟨A, oM, oO, oP, oT, oG, oK, oL, ho, hp⟩ := hs
  unfold vt_Screen_write_j2
  unfold write2 at hk
  simp only [add0, Nat.zero_add]
  by_cases h2 : n = 2
  · rw [if_pos h2] at hk ⊢
    refine ldI0 ho rfl ?_
    refine ldI0 ho rfl ?_
    show if S.pl.x = IntKind.wrap .i64 (S.w - 1) then _ else _
    rw [wrap64 (by omega) (by omega)]
    by_cases h3 : S.pl.x = S.w - 1
    · rw [if_pos h3] at hk ⊢
      refine ldB0 ho rfl ?_
      show if (!S.wrap) = true then _ else _
      by_cases h4 : S.wrap = false
      · rw [if_pos h4] at hk
        rw [if_pos (by rw [h4]; rfl)]
        exact hk h hs0
      rw [if_neg h4] at hk
      rw [if_neg (by simpa using h4)]
      refine ldI0 ho rfl ?_
      show if S.w = 1 then _ else _
      by_cases h5 : S.w = 1
      · rw [if_pos h5] at hk ⊢
        exact hk h hs0
      rw [if_neg h5] at hk ⊢
      refine setX_st hs0 fun h6 hs6 => feed_sp hs6 ok.zeroX fun h7 hs7 => ?_
      have hq := feedV_x (setX S 0)
      refine write_j3 hs7 ok.zeroX.feed hn (fun _ => ?_) hk
      rw [hq.1, hq.2]
      show (0 : Int) + 1 < S.w
      omega
    · rw [if_neg h3] at hk ⊢
      exact write_j3 hs0 ok hn (fun _ => by omega) hk
  · rw [if_neg h2] at hk ⊢
    exact write_j3 hs0 ok hn (fun h => absurd h h2) hk
def write1 (S : Scr) (c n sent : Int) : Scr := if S.pl.waiting = true then if S.wrap = true then write2 (feedV (setX S 0)) c n sent else write2 S c n sent else write2 S c n sent
theorem Ok.write1 {S : Scr} (o : Ok S) (c : Int) {n : Int} (sent : Int) (hn : 0 ≤ n) : Ok (write1 S c n sent) := by
  unfold M.write1
  split
  · split
    · exact o.zeroX.feed.write2 c sent hn
    · exact o.write2 c sent hn
  · exact o.write2 c sent hn
theorem write_j1 {h0 : Base} {h : Heap} {s : Nat} {S : Scr} {c n sent : Int} {K : Heap → Prop} (hs : Rep h0 h s S) (ok : Ok S) (hn : n = 1 ∨ n = 2) (hk : ∀ h1, Rep h0 h1 s (write1 S c n sent) → K h1) : vt_Screen_write_j1 K K ⟨s, 0, none⟩ c n sent h := by
  have hs0 := hs
  obtain ⟨A, oM, oO, oP, oT, oG, oK, oL, ho, hp⟩ := hs
  unfold vt_Screen_write_j1
  unfold write1 at hk
  simp only [add0, Nat.zero_add]
  refine ldB0 ho rfl ?_
  show if S.pl.waiting = true then _ else _
  by_cases h2 : S.pl.waiting = true
  · rw [if_pos h2] at hk ⊢
    refine ldB0 ho rfl ?_
    show if S.wrap = true then _ else _
    by_cases h3 : S.wrap = true
    · rw [if_pos h3] at hk ⊢
      exact setX_st hs0 fun h6 hs6 => feed_sp hs6 ok.zeroX fun h7 hs7 => write_j2 hs7 ok.zeroX.feed hn hk
    · rw [if_neg h3] at hk ⊢
      exact write_j2 hs0 ok hn hk
  · rw [if_neg h2] at hk ⊢
    exact write_j2 hs0 ok hn hk
def writeV (S : Scr) (c : Int) : Scr :=
  if widthV c < 1 then S else
  if (if S.pl.second = true then S.pl.l1 else S.pl.l0) = true then write1 S (vt_drawn c) (widthV c) c else write1 S c (widthV c) c
theorem Ok.write {S : Scr} (o : Ok S) (c : Int) : Ok (writeV S c) := by
  unfold writeV
  by_cases h : widthV c < 1
  · rw [if_pos h]; exact o
  rw [if_neg h]
  generalize (if S.pl.second = true then S.pl.l1 else S.pl.l0) = b
  by_cases hb : b = true
  · rw [if_pos hb]; exact o.write1 _ _ (by omega)
  · rw [if_neg hb]; exact o.write1 _ _ (by omega)
theorem widthV_12 {c : Int} (h : ¬ widthV c < 1) : widthV c = 1 ∨ widthV c = 2 := by
  unfold widthV at h ⊢
  split
  · rename_i h1; rw [if_pos h1] at h; exact absurd (by decide) h
  · rename_i h1
    rw [if_neg h1] at h
    split
    · rename_i h2; rw [if_pos h2] at h; exact absurd (by decide) h
    · split
      · exact .inr rfl
      · exact .inl rfl
theorem write_sp {h0 : Base} {h : Heap} {s : Nat} {S : Scr} {c : Int} {K : Heap → Prop} (hs : Rep h0 h s S) (ok : Ok S) (hk : ∀ h1, Rep h0 h1 s (writeV S c) → K h1) : vt_Screen_write (some ⟨s, 0, none⟩) c K h := by
  unfold vt_Screen_write
  unfold writeV at hk
  refine width_sp fun hh he1 => ?_
  have hs := hs.gap he1
  by_cases h1 : widthV c < 1
  · rw [if_pos h1] at hk ⊢
    exact hk _ hs
  rw [if_neg h1] at hk ⊢
  have hn := widthV_12 h1
  have hs0 := hs
  obtain ⟨A, oM, oO, oP, oT, oG, oK, oL, ho, hp⟩ := hs
  refine nz_i ?_
  simp only [add0, Nat.zero_add]
  refine ldB0 ho rfl ?_
  show if S.pl.second = true then _ else _
  have fin : ∀ b : Bool, (if S.pl.second = true then S.pl.l1 else S.pl.l0) = b → ∀ j : Int, 0 ≤ j ∧ j < 2 → (scrC S A)[15 + j.toNat]? = some (.bool b) → vt_Screen_write_j0 (fun h201 => K h201) (fun h203 => K h203) ⟨s, 0, none⟩ c (widthV c) c j hh := by
    intro b hb j hj hcell
    unfold vt_Screen_write_j0
    simp only [add0, Nat.zero_add]
    refine ⟨hj.1, hj.2, ldB0 ho (by rw [Nat.mul_one]; exact hcell) ?_⟩
    rw [hb] at hk
    by_cases hb2 : b = true
    · rw [if_pos hb2] at hk ⊢
      exact fun h2 he2 => write_j1 (hs0.gap he2) ok hn hk
    · rw [if_neg hb2] at hk ⊢
      exact write_j1 hs0 ok hn hk
  by_cases h2 : S.pl.second = true
  · rw [if_pos h2]
    exact fin S.pl.l1 (by rw [if_pos h2]) 1 (by omega) rfl
  · rw [if_neg h2]
    exact fin S.pl.l0 (by rw [if_neg h2]) 0 (by omega) rfl
end Go.Proofs.YthjdnhhifjpidaaGreatDoor.M
set_option maxRecDepth 100000
namespace Go.Proofs.YthjdnhhifjpidaaGreatDoor.M
open Go Go.Hp

/-! ### A screen, and a block besides -/
def RepX (h0 : Base) (h : Heap) (s : Nat) (S : Scr) (X : Blks) : Prop :=
  ∃ A oM oO oP oT oG oK oL, Own h0 h ((s, scrC S A, 80) :: (oM ++ (oO ++ (oP ++ (oT ++ (oG ++ (oK ++ (oL ++ X)))))))) ∧ Parts S A oM oO oP oT oG oK oL
theorem RepX.rep {h0 : Base} {h : Heap} {s : Nat} {S : Scr} {X : Blks} (hs : RepX h0 h s S X) : Rep h0 h s S := by
  obtain ⟨A, oM, oO, oP, oT, oG, oK, oL, ho, hp⟩ := hs
  have ho1 : Own h0 h (X ++ ((s, scrC S A, 80) :: (oM ++ (oO ++ (oP ++ (oT ++ (oG ++ (oK ++ oL)))))))) := ho.perm (by exact pc)
  exact ⟨A, oM, oO, oP, oT, oG, oK, oL, ho1.sub (List.sublist_append_right _ _), hp⟩
theorem RepX.blk {h0 : Base} {h : Heap} {s : Nat} {S : Scr} {b : Nat} {cs : Array Value} {t : TypeId} (hs : RepX h0 h s S [(b, cs, t)]) : Blk h b cs t := by
  obtain ⟨A, oM, oO, oP, oT, oG, oK, oL, ho, hp⟩ := hs
  exact (ho.blk (b, cs, t) (by simp)).1
theorem RepX.focus {h0 : Base} {h : Heap} {s : Nat} {S : Scr} {X : Blks} (hs : RepX h0 h s S X) : ∃ A a n c ks oh bs l, Own h0 h ((s, scrC S A, 80) :: (oh ++ (bs.flatten ++ l))) ∧ cellH h (shA S s) = some (.slice a n c) ∧ SlO rf 1 81 a n c ks oh ∧ RowsB ks S.sh bs ∧
    ∀ h' ks' oh' bs' R', Own h0 h' ((s, scrC S A, 80) :: (oh' ++ (bs'.flatten ++ l))) → SlO rf 1 81 a n c ks' oh' → RowsB ks' R' bs' → RepX h0 h' s (S.setSh R') X := by
  obtain ⟨A, oM, oO, oP, oT, oG, oK, oL, ho, hp⟩ := hs
  by_cases ha : S.alt = true
  · obtain ⟨ks, oh, bs, rfl, h1, h2⟩ := hp.other
    refine ⟨A, A.o, A.on, A.oc, ks, oh, bs, oM ++ (oP ++ (oT ++ (oG ++ (oK ++ (oL ++ X))))), ho.perm (by exact pc), ?_, h1, by unfold Scr.sh; rw [if_pos ha]; exact h2, fun h' ks' oh' bs' R' ho' h1' h2' => ?_⟩
    · unfold shA
      rw [if_pos ha]
      exact ho.get0.cell 5 rfl
    · unfold Scr.setSh
      rw [if_pos ha]
      exact ⟨A, oM, oh' ++ bs'.flatten, oP, oT, oG, oK, oL, (show Own h0 h' ((s, scrC S A, 80) :: (oM ++ ((oh' ++ bs'.flatten) ++ (oP ++ (oT ++ (oG ++ (oK ++ (oL ++ X)))))))) from ho'.perm (by exact pc)), hp.1, ⟨ks', oh', bs', rfl, h1', h2'⟩, hp.3, hp.4, hp.5, hp.6, hp.7⟩
  · obtain ⟨ks, oh, bs, rfl, h1, h2⟩ := hp.main
    refine ⟨A, A.m, A.mn, A.mc, ks, oh, bs, oO ++ (oP ++ (oT ++ (oG ++ (oK ++ (oL ++ X))))), ho.perm (by exact pc), ?_, h1, by unfold Scr.sh; rw [if_neg ha]; exact h2, fun h' ks' oh' bs' R' ho' h1' h2' => ?_⟩
    · unfold shA
      rw [if_neg ha]
      exact ho.get0.cell 3 rfl
    · unfold Scr.setSh
      rw [if_neg ha]
      exact ⟨A, oh' ++ bs'.flatten, oO, oP, oT, oG, oK, oL, (show Own h0 h' ((s, scrC S A, 80) :: ((oh' ++ bs'.flatten) ++ (oO ++ (oP ++ (oT ++ (oG ++ (oK ++ (oL ++ X)))))))) from ho'.perm (by exact pc)), ⟨ks', oh', bs', rfl, h1', h2'⟩, hp.2, hp.3, hp.4, hp.5, hp.6, hp.7⟩
theorem RepX.rowc {h0 : Base} {h : Heap} {s : Nat} {S : Scr} {X : Blks} {a : Option Addr} {n c : Nat} (hs : RepX h0 h s S X) (y : Nat) (hy : y < S.sh.length) (hc : cellH h (shA S s) = some (.slice a n c)) :
    ∃ p a' n' c' o pre l, a = some p ∧ n = S.sh.length ∧ cellH h (p.add (y * 1)) = some (.slice a' n' c') ∧ SlO gf 5 52 a' n' c' (S.sh.getD y []) o ∧ Own h0 h (pre ++ (o ++ l)) ∧
      ∀ h' o' g', Own h0 h' (pre ++ (o' ++ l)) → SlO gf 5 52 a' n' c' g' o' → RepX h0 h' s (S.setSh (S.sh.set y g')) X ∧ cellH h' (shA S s) = some (.slice a n c) := by
  obtain ⟨A, rs, rn, rc, ks, oh, bs, l, ho, hc', h1, h2, h3⟩ := hs.focus
  rw [hc] at hc'
  obtain ⟨rfl, rfl, rfl⟩ : a = rs ∧ n = rn ∧ c = rc := by simpa using hc'
  obtain ⟨k1, k2, k3⟩ := h2
  have hn := h1.1
  have hoH : Own h0 h ([(s, scrC S A, 80)] ++ (oh ++ (bs.flatten ++ l))) := ho
  obtain ⟨p, hp, d⟩ := SlO.get rf_len h1 hoH y (none, 0, 0) (by omega)
  have d0 : cellH h (p.add (y * 1)) = some (.slice (ks.getD y (none, 0, 0)).1 (ks.getD y (none, 0, 0)).2.1 (ks.getD y (none, 0, 0)).2.2) := d 0 _ rfl
  refine ⟨p, _, _, _, bs.getD y [], [(s, scrC S A, 80)], oh ++ ((bs.take y).flatten ++ ((bs.drop (y + 1)).flatten ++ l)), hp, by omega, d0, k3 y hy, ?_, fun h' o' g' ho' hs' => ⟨?_, ?_⟩⟩
  · have hb := ho
    rw [fl_split bs y (by omega)] at hb
    exact hb.perm (by exact pc)
  · refine h3 h' ks oh (bs.set y o') (S.sh.set y g') ?_ h1 (RowsB.set ⟨k1, k2, k3⟩ y g' o' hs')
    rw [fl_set bs y o' (by omega)]
    exact Own.perm (l := (s, scrC S A, 80) :: (o' ++ (oh ++ ((bs.take y).flatten ++ ((bs.drop (y + 1)).flatten ++ l))))) ho' (by exact pc)
  · have hb : Blk h' s (scrC S A) 80 := Own.get0 (l := o' ++ (oh ++ ((bs.take y).flatten ++ ((bs.drop (y + 1)).flatten ++ l)))) ho'
    unfold shA at hc ⊢
    split
    · rename_i ha; rw [if_pos ha] at hc; exact hb.cell 5 (cell_inv ho.get0 hc)
    · rename_i ha; rw [if_neg ha] at hc; exact hb.cell 3 (cell_inv ho.get0 hc)
/-- A row, by its number, is another. -/
def Scr.setAt (S : Scr) (y : Nat) (g : List Gl) : Scr := S.setSh (S.sh.set y g)
theorem Ok.setAt {S : Scr} (o : Ok S) {y : Nat} {g : List Gl} (hg : (g.length : Int) = S.w) : Ok (S.setAt y g) := by
  have hs := o.d.sh
  refine ⟨o.d.setSh ?_ fun x hx => ?_, o.c.setSh _⟩
  · rw [List.length_set]; exact hs.1
  · rcases List.mem_or_eq_of_mem_set hx with h | h
    · exact hs.2 x h
    · rw [h]; exact hg
theorem Ok.getAt {S : Scr} (o : Ok S) {y : Nat} (hy : (y : Int) < S.h) : ((S.sh.getD y []).length : Int) = S.w := by
  have hs := o.d.sh
  refine hs.2 _ ?_
  rw [List.getD_eq_getElem?_getD, List.getElem?_eq_getElem (by omega)]
  exact List.getElem_mem _
abbrev gC (g : Gl) : Array Value := #[.string g.1, .int .i64 g.2.1, .int .i64 g.2.2.1, .int .i64 g.2.2.2.1, .int .i64 g.2.2.2.2]
def eraseAt (S : Scr) (y : Nat) (i to : Int) (g : Gl) : Scr := S.setAt y (eraseV (S.sh.getD y []) i to g)
theorem Ok.eraseAt {S : Scr} (o : Ok S) {y : Nat} (hy : (y : Int) < S.h) (i to : Int) (g : Gl) : Ok (eraseAt S y i to g) := by
  refine o.setAt ?_
  rw [eraseV_len]
  exact o.getAt hy
theorem eraseAt_f (S : Scr) (y : Nat) (i to : Int) (g : Gl) : (eraseAt S y i to g).pl = S.pl ∧ (eraseAt S y i to g).w = S.w ∧ (eraseAt S y i to g).h = S.h ∧ (eraseAt S y i to g).alt = S.alt := by
  have h1 := setSh_pl S (S.sh.set y (eraseV (S.sh.getD y []) i to g))
  have h2 := setSh_w S (S.sh.set y (eraseV (S.sh.getD y []) i to g))
  exact ⟨h1.1, h1.2, h2.2.2, h2.2.1⟩
/-- The erasing of a row by its number. -/
theorem RepX.eraser {h0 : Base} {h : Heap} {s : Nat} {S : Scr} {X : Blks} {a : Option Addr} {n c : Nat} (hs : RepX h0 h s S X) (ok : Ok S) (hc : cellH h (shA S s) = some (.slice a n c)) (y : Int) (y0 : 0 ≤ y) (y1 : y < S.h) (g : Gl) {Q : Addr → Option Addr → Nat → Nat → Prop}
    (hQ : ∀ p a' n' c', (∀ (i to : Int) (K : Heap → Prop), 0 ≤ i → to ≤ S.w → (∀ h1, RepX h0 h1 s (eraseAt S y.toNat i to g) X → cellH h1 (shA S s) = some (.slice (some p) n c) → K h1) → vt_row_erase a' n' c' i to g.1 g.2.1 g.2.2.1 g.2.2.2.1 g.2.2.2.2 K h) → a = some p → Q p a' n' c') :
    nz a fun p => 0 ≤ y ∧ y < (n : Int) ∧ ldL h (p.add (y.toNat * 1)) fun a' n' c' => Q p a' n' c' := by
  have hsh := ok.d.sh
  have hw1 := ok.d.w1
  have hg := ok.getAt (y := y.toNat) (by omega)
  obtain ⟨p, a', n', c', o, pre, l, hp, hn, hd, hsl, ho, hback⟩ := hs.rowc y.toNat (by omega) hc
  have hl := hsl.1
  subst hp
  refine nz_i ⟨y0, by omega, ⟨_, _, _, hd, hQ _ _ _ _ (fun i to K hi hto hk => ?_) rfl⟩⟩
  exact erase_sp hsl ho hi (by omega) (by omega) fun h1 o1 ho1 hs1 => hk h1 (hback h1 o1 _ ho1 hs1).1 (hback h1 o1 _ ho1 hs1).2
def clearsL (n : Int) (g : Gl) : Nat → Int → Scr → Scr
  | 0, _, S => S
  | q + 1, i, S => if i < S.pl.y ∧ 0 < n then clearsL n g q (i + 1) (eraseAt S i.toNat 0 S.w g) else if S.pl.y < i ∧ n ≠ 1 then clearsL n g q (i + 1) (eraseAt S i.toNat 0 S.w g) else clearsL n g q (i + 1) S
theorem Ok.clearsL (n : Int) (g : Gl) : ∀ (q : Nat) (i : Int) (S : Scr), Ok S → 0 ≤ i → i + q ≤ S.h → Ok (clearsL n g q i S)
  | 0, _, S, o, _, _ => o
  | q + 1, i, S, o, i0, i1 => by
    have hf := eraseAt_f S i.toNat 0 S.w g
    unfold M.clearsL
    split
    · exact Ok.clearsL n g q (i + 1) _ (o.eraseAt (by omega) _ _ _) (by omega) (by rw [hf.2.2.1]; omega)
    · split
      · exact Ok.clearsL n g q (i + 1) _ (o.eraseAt (by omega) _ _ _) (by omega) (by rw [hf.2.2.1]; omega)
      · exact Ok.clearsL n g q (i + 1) _ o (by omega) (by omega)
theorem clears_l3 {h0 : Base} {s b : Nat} {g : Gl} {a : Option Addr} {nr c : Nat} {n : Int} {K0 : Heap → Prop} :
    ∀ (q : Nat) (i : Int) (S : Scr) (h : Heap), RepX h0 h s S [(b, gC g, 52)] → Ok S → cellH h (shA S s) = some (.slice a nr c) → 0 ≤ i → i + q = S.h → (nr : Int) = S.h →
      (∀ h1, Rep h0 h1 s (clearsL n g q i S) → K0 h1) → vt_Screen_clears_l3 K0 (q + 1) ⟨s, 0, none⟩ n b a nr c (nr : Int) i h := by
  intro q
  induction q with
  | zero =>
    intro i S h hs ok hc i0 hq hn hk
    unfold vt_Screen_clears_l3
    rw [if_neg (by omega)]
    exact hk h hs.rep
  | succ q ih =>
    intro i S h hs ok hc i0 hq hn hk
    have hh1 := ok.d.h1
    unfold clearsL at hk
    unfold vt_Screen_clears_l3
    rw [if_pos (by omega)]
    have hs0 := hs
    have hb := hs.blk
    have hf := eraseAt_f S i.toNat 0 S.w g
    have oke : Ok (eraseAt S i.toNat 0 S.w g) := ok.eraseAt (by omega) _ _ _
    refine hs.eraser ok hc i i0 (by omega) g fun p a' n' c' her hp => ?_
    subst hp
    have hrep := hs0.rep
    obtain ⟨A, oM, oO, oP, oT, oG, oK, oL, ho, hpp⟩ := hrep
    simp only [add0, Nat.zero_add]
    rw [wrap64 (x := i + 1) (by omega) (by omega)]
    refine ldI0 ho rfl ?_
    show if ((decide (i < S.pl.y)) && (decide (0 < n))) = true then _ else _
    have erase : ∀ K : Heap → Prop, (∀ h1, RepX h0 h1 s (eraseAt S i.toNat 0 S.w g) [(b, gC g, 52)] → cellH h1 (shA S s) = some (.slice (some p) nr c) → K h1) → ldI h .i64 ⟨s, 0, none⟩ fun x175 =>
    ldS h ⟨b, 0, none⟩ fun x179 =>
    ldI h .i64 ⟨b, 1, none⟩ fun x181 =>
    ldI h .i64 ⟨b, 2, none⟩ fun x183 =>
    ldI h .i64 ⟨b, 3, none⟩ fun x185 =>
    ldI h .i64 ⟨b, 4, none⟩ fun x187 =>
    vt_row_erase a' n' c' 0 x175 x179 x181 x183 x185 x187 K h := by
      intro K hK
      refine ldI0 ho rfl ?_
      refine ldS_b hb rfl ?_
      refine ldI_b hb rfl ?_
      refine ldI_b hb rfl ?_
      refine ldI_b hb rfl ?_
      refine ldI_b hb rfl ?_
      exact her 0 S.w K (Int.le_refl _) (Int.le_refl _) hK
    by_cases h1 : i < S.pl.y ∧ 0 < n
    · rw [if_pos h1] at hk
      rw [if_pos (by simpa using h1)]
      refine erase _ fun h2 hs2 hc2 => ?_
      exact ih (i + 1) _ h2 hs2 oke (by rw [shA_alt hf.2.2.2]; exact hc2) (by omega) (by rw [hf.2.2.1]; omega) (by rw [hf.2.2.1]; omega) hk
    · rw [if_neg h1] at hk
      rw [if_neg (by simpa using h1)]
      refine ldI0 ho rfl ?_
      show if ((decide (S.pl.y < i)) && (!decide (n = 1))) = true then _ else _
      by_cases h2 : S.pl.y < i ∧ n ≠ 1
      · rw [if_pos h2] at hk
        rw [if_pos (by simpa using h2)]
        refine erase _ fun h2 hs2 hc2 => ?_
        exact ih (i + 1) _ h2 hs2 oke (by rw [shA_alt hf.2.2.2]; exact hc2) (by omega) (by rw [hf.2.2.1]; omega) (by rw [hf.2.2.1]; omega) hk
      · rw [if_neg h2] at hk
        rw [if_neg (by simpa using h2)]
        exact ih (i + 1) _ h hs0 ok hc (by omega) (by omega) hn hk
def clears2 (S : Scr) (b n : Int) (g : Gl) : Scr := if b = 75 then S else clearsL n g S.h.toNat 0 S
def clears1 (S : Scr) (b n : Int) (g : Gl) : Scr := if n = 1 then clears2 (eraseAt S S.pl.y.toNat 0 (S.pl.x + 1) g) b n g else clears2 S b n g
def clears0 (S : Scr) (b n : Int) (g : Gl) : Scr := if n = 0 ∨ n = 2 then clears1 (eraseAt S S.pl.y.toNat (if n = 2 then 0 else S.pl.x) S.w g) b n g else clears1 S b n g
def noPast (S : Scr) : Scr := { S with past := [] }
def clearsV (S : Scr) (b n : Int) : Scr := if n = 3 ∧ b = 74 then unwait (noPast S) else if 2 < n then S else clears0 (unwait S) b n (erasedG S)
theorem Ok.clears2 {S : Scr} (o : Ok S) (b n : Int) (g : Gl) : Ok (clears2 S b n g) := by
  have := o.d.h0
  unfold M.clears2
  split
  · exact o
  · exact Ok.clearsL n g _ 0 S o (by omega) (by omega)
theorem Ok.clears1 {S : Scr} (o : Ok S) (b n : Int) (g : Gl) : Ok (clears1 S b n g) := by
  have := o.c.p.y0
  have := o.c.p.y1
  unfold M.clears1
  split
  · exact (o.eraseAt (by omega) _ _ _).clears2 b n g
  · exact o.clears2 b n g
theorem Ok.clears0 {S : Scr} (o : Ok S) (b n : Int) (g : Gl) : Ok (clears0 S b n g) := by
  have := o.c.p.y0
  have := o.c.p.y1
  unfold M.clears0
  split
  · exact (o.eraseAt (by omega) _ _ _).clears1 b n g
  · exact o.clears1 b n g
theorem Ok.noPast {S : Scr} (o : Ok S) : Ok (noPast S) :=
  ⟨⟨o.d.w0, o.d.w1, o.d.h0, o.d.h1, o.d.m0, o.d.m1, o.d.m0, o.d.main, o.d.other⟩, ⟨o.c.p, o.c.t0, o.c.tb, o.c.bh, o.c.tabs, o.c.gath, o.c.ans, o.c.hv0, o.c.hv1, o.c.km, o.c.ko⟩⟩
theorem Ok.clears {S : Scr} (o : Ok S) (b n : Int) : Ok (clearsV S b n) := by
  unfold clearsV
  split
  · exact o.noPast.unwait
  · split
    · exact o
    · exact o.unwait.clears0 b n _
theorem clears_j2 {h0 : Base} {h : Heap} {s bb : Nat} {S : Scr} {g : Gl} {a : Option Addr} {nr c : Nat} {b n : Int} {K : Heap → Prop} (hs : RepX h0 h s S [(bb, gC g, 52)]) (ok : Ok S) (hc : cellH h (shA S s) = some (.slice a nr c)) (hn : (nr : Int) = S.h) (hk : ∀ h1, Rep h0 h1 s (clears2 S b n g) → K h1) :
    vt_Screen_clears_j2 K K ⟨s, 0, none⟩ b n a nr c bb h := by
  have hh0 := ok.d.h0
  unfold vt_Screen_clears_j2
  unfold clears2 at hk
  by_cases h1 : b = 75
  · rw [if_pos h1] at hk ⊢
    exact hk h hs.rep
  · rw [if_neg h1] at hk ⊢
    exact ⟨S.h.toNat + 1, clears_l3 S.h.toNat 0 S h hs ok hc (by omega) (by omega) hn hk⟩
theorem clears_j1 {h0 : Base} {h : Heap} {s bb : Nat} {S : Scr} {g : Gl} {a : Option Addr} {nr c : Nat} {b n : Int} {K : Heap → Prop} (hs : RepX h0 h s S [(bb, gC g, 52)]) (ok : Ok S) (hc : cellH h (shA S s) = some (.slice a nr c)) (hn : (nr : Int) = S.h) (hk : ∀ h1, Rep h0 h1 s (clears1 S b n g) → K h1) :
    vt_Screen_clears_j1 K K ⟨s, 0, none⟩ b n a nr c bb h := by
  have y0 := ok.c.p.y0
  have y1 := ok.c.p.y1
  have x0 := ok.c.p.x0
  have x1 := ok.c.p.x1
  have hw1 := ok.d.w1
  unfold vt_Screen_clears_j1
  unfold clears1 at hk
  by_cases h1 : n = 1
  · rw [if_pos h1] at hk ⊢
    have hf := eraseAt_f S S.pl.y.toNat 0 (S.pl.x + 1) g
    have hb := hs.blk
    have hrep := hs.rep
    obtain ⟨A, oM, oO, oP, oT, oG, oK, oL, ho, hpp⟩ := hrep
    simp only [add0, Nat.zero_add]
    refine ldI0 ho rfl ?_
    refine hs.eraser ok hc S.pl.y y0 y1 g fun p a' n' c' her hp => ?_
    refine ldI0 ho rfl ?_
    refine ldS_b hb rfl ?_
    refine ldI_b hb rfl ?_
    refine ldI_b hb rfl ?_
    refine ldI_b hb rfl ?_
    refine ldI_b hb rfl ?_
    show vt_row_erase a' n' c' 0 (IntKind.wrap .i64 (S.pl.x + 1)) _ _ _ _ _ _ h
    rw [wrap64 (x := S.pl.x + 1) (by omega) (by omega)]
    refine her 0 (S.pl.x + 1) _ (Int.le_refl _) (by omega) fun h2 hs2 hc2 => ?_
    exact clears_j2 hs2 (ok.eraseAt (by omega) _ _ _) (by rw [shA_alt hf.2.2.2]; exact hc2) (by rw [hf.2.2.1]; exact hn) hk
  · rw [if_neg h1] at hk ⊢
    exact clears_j2 hs ok hc hn hk
theorem clears_j0 {Kn : Addr → Int → Int → Option Addr → Nat → Nat → Nat → Heap → Prop} {h0 : Base} {h : Heap} {s bb : Nat} {S : Scr} {g : Gl} {a : Option Addr} {nr c : Nat} {b n i : Int} (hs : RepX h0 h s S [(bb, gC g, 52)]) (ok : Ok S) (hc : cellH h (shA S s) = some (.slice a nr c)) (i0 : 0 ≤ i)
    (hk : ∀ p h1, RepX h0 h1 s (eraseAt S S.pl.y.toNat i S.w g) [(bb, gC g, 52)] → cellH h1 (shA S s) = some (.slice (some p) nr c) → Kn ⟨s, 0, none⟩ b n (some p) nr c bb h1) :
    vt_Screen_clears_j0 Kn ⟨s, 0, none⟩ b n a nr c bb i h := by
  have y0 := ok.c.p.y0
  have y1 := ok.c.p.y1
  unfold vt_Screen_clears_j0
  have hb := hs.blk
  have hrep := hs.rep
  obtain ⟨A, oM, oO, oP, oT, oG, oK, oL, ho, hpp⟩ := hrep
  simp only [add0, Nat.zero_add]
  refine ldI0 ho rfl ?_
  refine hs.eraser ok hc S.pl.y y0 y1 g fun p a' n' c' her hp => ?_
  refine ldI0 ho rfl ?_
  refine ldS_b hb rfl ?_
  refine ldI_b hb rfl ?_
  refine ldI_b hb rfl ?_
  refine ldI_b hb rfl ?_
  refine ldI_b hb rfl ?_
  exact her i S.w _ i0 (Int.le_refl _) fun h2 hs2 hc2 => hk p h2 hs2 hc2
theorem clears_sp {h0 : Base} {h : Heap} {s : Nat} {S : Scr} {b n : Int} {K : Heap → Prop} (hs : Rep h0 h s S) (ok : Ok S) (hk : ∀ h1, Rep h0 h1 s (clearsV S b n) → K h1) : vt_Screen_clears (some ⟨s, 0, none⟩) b n K h := by
  have hsh := ok.d.sh
  have x0 := ok.c.p.x0
  obtain ⟨a, nr, c, hc⟩ := hs.shcell
  have hnr : (nr : Int) = S.h := by
    obtain ⟨A, a', n', c', ks, oh, bs, l, ho, hc', h1, h2, h3⟩ := hs.focus
    rw [hc] at hc'
    obtain ⟨rfl, rfl, rfl⟩ : a = a' ∧ nr = n' ∧ c = c' := by simpa using hc'
    have := h1.1
    have := h2.1
    omega
  unfold vt_Screen_clears
  unfold clearsV at hk
  have rest : ∀ q : Addr, shA S s = q → nz (some q) fun p6 =>
  ldL h p6 fun x7 x7n x7c =>
  vt_Screen_erased (some ⟨s, 0, none⟩) (fun x11 x12 x13 x14 x15 h10 =>
   newB h10 #[.string (⟨#[]⟩ : ByteArray), .int .i64 0, .int .i64 0, .int .i64 0, .int .i64 0] 52 fun b16 h17 =>
   stN ⟨b16, 0, none⟩ [.string x11, .int .i64 x12, .int .i64 x13, .int .i64 x14, .int .i64 x15] 0 h17 fun h19 =>
   if ((decide (n = 3)) && (decide (b = 74))) = true then
    nz (some ⟨s, 0, none⟩) fun p25 =>
    stN (p25.add 8) [.slice none 0 0] 0 h19 fun h26 =>
    stN (p25.add 18) [.bool false] 0 h26 fun h27 =>
    K h27
   else
   if 2 < n then
    K h19
   else
   nz (some ⟨s, 0, none⟩) fun p29 =>
   stN (p29.add 18) [.bool false] 0 h19 fun h30 =>
   if ((decide (n = 0)) || (decide (n = 2))) = true then
    ldI h30 .i64 (p29.add 9) fun x36 =>
    if n = 2 then
     vt_Screen_clears_j0
      (fun z97 z98 z99 z100 z100n z100c z101 h102 =>
        vt_Screen_clears_j1
         (fun  h246 =>
             K h246)
         (fun  h248 =>
               K h248) z97 z98 z99 z100 z100n z100c z101 h102) p29 b n x7 x7n x7c b16 0 h30
    else
    vt_Screen_clears_j0
     (fun z253 z254 z255 z256 z256n z256c z257 h258 =>
       vt_Screen_clears_j1
        (fun  h259 =>
            K h259)
        (fun  h261 =>
              K h261) z253 z254 z255 z256 z256n z256c z257 h258) p29 b n x7 x7n x7c b16 x36 h30
   else
   vt_Screen_clears_j1
    (fun  h266 =>
        K h266)
    (fun  h268 =>
          K h268) p29 b n x7 x7n x7c b16 h30) h := by
    intro q hq
    rw [← hq]
    refine nz_i ⟨_, _, _, hc, ?_⟩
    have hs0 := hs
    obtain ⟨A, oM, oO, oP, oT, oG, oK, oL, ho, hp⟩ := hs0
    refine erased_o ho rfl fun h1 he1 => ?_
    have ho1 := ho.gap he1
    refine newB_o ho1 fun b16 h2 ho2 => ?_
    refine st0 ho2 rfl fun h3 ho3 => ?_
    have ho3 : Own h0 h3 ((s, scrC S A, 80) :: (oM ++ (oO ++ (oP ++ (oT ++ (oG ++ (oK ++ (oL ++ [(b16, gC (erasedG S), 52)])))))))) := Own.perm (l := (b16, gC (erasedG S), 52) :: (s, scrC S A, 80) :: (oM ++ (oO ++ (oP ++ (oT ++ (oG ++ (oK ++ oL))))))) ho3 (by exact pc)
    have hx3 : RepX h0 h3 s S [(b16, gC (erasedG S), 52)] := ⟨A, oM, oO, oP, oT, oG, oK, oL, ho3, hp⟩
    by_cases h1 : n = 3 ∧ b = 74
    · rw [if_pos h1] at hk
      rw [if_pos (by simpa using h1)]
      refine nz_i ?_
      simp only [add0, Nat.zero_add]
      obtain ⟨A', oM', oO', oP', oT', oG', oK', oL', ho', hp'⟩ := hx3.rep
      refine st0 ho' rfl fun h4 ho4 => ?_
      have ho4 : Own h0 h4 (oP' ++ ((s, scrC (noPast S) { A' with p := none, pn := 0, pc := 0 }, 80) :: (oM' ++ (oO' ++ (oT' ++ (oG' ++ (oK' ++ oL'))))))) := Own.perm (l := (s, scrC (noPast S) { A' with p := none, pn := 0, pc := 0 }, 80) :: (oM' ++ (oO' ++ (oP' ++ (oT' ++ (oG' ++ (oK' ++ oL'))))))) (own_cs ho4 (by kernel_rfl)) (by exact pc)
      have hr : Rep h0 h4 s (noPast S) := ⟨{ A' with p := none, pn := 0, pc := 0 }, oM', oO', [], oT', oG', oK', oL', ho4.sub (List.sublist_append_right _ _), hp'.1, hp'.2, ⟨[], [], [], rfl, SlO.nil, RowsB.nil⟩, hp'.4, hp'.5, hp'.6, hp'.7⟩
      exact unwait_st hr hk
    rw [if_neg h1] at hk
    rw [if_neg (by simpa using h1)]
    by_cases h2 : 2 < n
    · rw [if_pos h2] at hk ⊢
      exact hk _ hx3.rep
    rw [if_neg h2] at hk ⊢
    refine nz_i ?_
    simp only [add0, Nat.zero_add]
    refine st0 ho3 rfl fun h4 ho4 => ?_
    have ho4 := own_cs (c' := scrC (unwait S) A) ho4 (by kernel_rfl)
    have hx4 : RepX h0 h4 s (unwait S) [(b16, gC (erasedG S), 52)] := ⟨A, oM, oO, oP, oT, oG, oK, oL, ho4, hp.1, hp.2, hp.3, hp.4, hp.5, hp.6, hp.7⟩
    have hc4 : cellH h4 (shA (unwait S) s) = some (.slice a nr c) := by
      rw [shA_alt (S' := unwait S) (S := S) (s := s) rfl]
      unfold shA at hc ⊢
      split
      · rename_i ha; rw [if_pos ha] at hc; exact ho4.get0.cell 5 ((show (scrC (unwait S) A)[5]? = (scrC S A)[5]? from rfl).trans (cell_inv ho.get0 hc))
      · rename_i ha; rw [if_neg ha] at hc; exact ho4.get0.cell 3 ((show (scrC (unwait S) A)[3]? = (scrC S A)[3]? from rfl).trans (cell_inv ho.get0 hc))
    unfold clears0 at hk
    have ok4 := ok.unwait
    have y0 := ok4.c.p.y0
    have y1 := ok4.c.p.y1
    by_cases h3 : n = 0 ∨ n = 2
    · rw [if_pos h3] at hk
      rw [if_pos (by simpa using h3)]
      refine ldI0 ho4 rfl ?_
      by_cases h4 : n = 2
      · rw [if_pos h4] at hk ⊢
        refine clears_j0 hx4 ok4 hc4 (Int.le_refl _) fun p h5 hx5 hc5 => ?_
        have hf := eraseAt_f (unwait S) (unwait S).pl.y.toNat 0 (unwait S).w (erasedG S)
        exact clears_j1 hx5 (ok4.eraseAt (by omega) _ _ _) (by rw [shA_alt hf.2.2.2]; exact hc5) (by rw [hf.2.2.1]; exact hnr) hk
      · rw [if_neg h4] at hk ⊢
        refine clears_j0 hx4 ok4 hc4 x0 fun p h5 hx5 hc5 => ?_
        have hf := eraseAt_f (unwait S) (unwait S).pl.y.toNat (unwait S).pl.x (unwait S).w (erasedG S)
        exact clears_j1 hx5 (ok4.eraseAt (by omega) _ _ _) (by rw [shA_alt hf.2.2.2]; exact hc5) (by rw [hf.2.2.1]; exact hnr) hk
    · rw [if_neg h3] at hk
      rw [if_neg (by simpa using h3)]
      exact clears_j1 hx4 ok4 hc4 hnr hk
  refine shown_sp hs (fun ha => ?_) (fun ha => ?_)
  · exact rest _ (by unfold shA; rw [if_pos ha])
  · exact rest _ (by unfold shA; rw [if_neg (by rw [ha]; decide)])
end Go.Proofs.YthjdnhhifjpidaaGreatDoor.M
