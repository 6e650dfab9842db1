import Derived.Test.YthjdnhhifjpidaaDoorV2
set_option linter.unusedVariables false
set_option linter.unusedSimpArgs false
set_option maxRecDepth 100000
namespace Go.Proofs.YthjdnhhifjpidaaDoor.M
open Go Go.Hp

theorem feed_sp {h0 h : Heap} {s : Nat} {S : Sc} {K : Heap → Prop} (hs : St h0 h s S) (hy : S.y = 0) (hk : ∀ h1, St h0 h1 s { S with y := 1 } → K h1) : vt_Screen_feed (some ⟨s, 0, none⟩) K h := by
  obtain ⟨x, y, fore, st, gs, last, a0, a1, a2, b0, b1, b2⟩ := S
  simp only at hy
  subst hy
  obtain ⟨rs, rc, ta, ga, gc, r0, r1, oR, oG, ho, q1, q2⟩ := hs
  simp only at ho q1 q2
  unfold vt_Screen_feed
  refine nz_i ?_
  simp only [add0, Nat.zero_add]
  repeat (first | ((with_reducible apply newB_o); (with_reducible assumption); intro _ _ _) | ((with_reducible apply gap_o); (with_reducible assumption); intro _ _) | ((with_reducible apply st0); (with_reducible assumption); rfl; intro _ _) | ((with_reducible apply st1); (with_reducible assumption); rfl; intro _ _) | ((with_reducible apply st2); (with_reducible assumption); rfl; intro _ _) | ((with_reducible apply ldI0); (with_reducible assumption); rfl) | ((with_reducible apply ldI1); (with_reducible assumption); rfl) | ((with_reducible apply ldI2); (with_reducible assumption); rfl) | ((with_reducible apply ldB0); (with_reducible assumption); rfl) | ((with_reducible apply ldB1); (with_reducible assumption); rfl) | ((with_reducible apply ldS0); (with_reducible assumption); rfl) | ((with_reducible apply ldS1); (with_reducible assumption); rfl) | (with_reducible refine and_i (Own.tab (by with_reducible assumption) (by with_reducible assumption)) ?_) | (with_reducible apply nz_i))
  rw [if_neg (by decide)]
  repeat (first | ((with_reducible apply newB_o); (with_reducible assumption); intro _ _ _) | ((with_reducible apply gap_o); (with_reducible assumption); intro _ _) | ((with_reducible apply st0); (with_reducible assumption); rfl; intro _ _) | ((with_reducible apply st1); (with_reducible assumption); rfl; intro _ _) | ((with_reducible apply st2); (with_reducible assumption); rfl; intro _ _) | ((with_reducible apply ldI0); (with_reducible assumption); rfl) | ((with_reducible apply ldI1); (with_reducible assumption); rfl) | ((with_reducible apply ldI2); (with_reducible assumption); rfl) | ((with_reducible apply ldB0); (with_reducible assumption); rfl) | ((with_reducible apply ldB1); (with_reducible assumption); rfl) | ((with_reducible apply ldS0); (with_reducible assumption); rfl) | ((with_reducible apply ldS1); (with_reducible assumption); rfl) | (with_reducible refine and_i (Own.tab (by with_reducible assumption) (by with_reducible assumption)) ?_) | (with_reducible apply nz_i))
  rw [if_pos (by decide)]
  repeat (first | ((with_reducible apply newB_o); (with_reducible assumption); intro _ _ _) | ((with_reducible apply gap_o); (with_reducible assumption); intro _ _) | ((with_reducible apply st0); (with_reducible assumption); rfl; intro _ _) | ((with_reducible apply st1); (with_reducible assumption); rfl; intro _ _) | ((with_reducible apply st2); (with_reducible assumption); rfl; intro _ _) | ((with_reducible apply ldI0); (with_reducible assumption); rfl) | ((with_reducible apply ldI1); (with_reducible assumption); rfl) | ((with_reducible apply ldI2); (with_reducible assumption); rfl) | ((with_reducible apply ldB0); (with_reducible assumption); rfl) | ((with_reducible apply ldB1); (with_reducible assumption); rfl) | ((with_reducible apply ldS0); (with_reducible assumption); rfl) | ((with_reducible apply ldS1); (with_reducible assumption); rfl) | (with_reducible refine and_i (Own.tab (by with_reducible assumption) (by with_reducible assumption)) ?_) | (with_reducible apply nz_i))
  exact hk _ ⟨rs, rc, ta, ga, gc, r0, r1, oR, oG, by assumption, q1, q2⟩
theorem begin_sp {h0 h : Heap} {s : Nat} {S : Sc} {z : Int} {K : Heap → Prop} (hs : St h0 h s S) (hg : S.gs = []) (hk : ∀ h1, St h0 h1 s { S with st := z } → K h1) : vt_Screen_begin (some ⟨s, 0, none⟩) z K h := by
  obtain ⟨x, y, fore, st, gs, last, a0, a1, a2, b0, b1, b2⟩ := S
  simp only at hg
  subst hg
  obtain ⟨rs, rc, ta, ga, gc, r0, r1, oR, oG, ho, q1, q2⟩ := hs
  simp only at ho q1 q2
  unfold vt_Screen_begin
  refine nz_i ?_
  simp only [add0, Nat.zero_add]
  repeat (first | ((with_reducible apply newB_o); (with_reducible assumption); intro _ _ _) | ((with_reducible apply gap_o); (with_reducible assumption); intro _ _) | ((with_reducible apply st0); (with_reducible assumption); rfl; intro _ _) | ((with_reducible apply st1); (with_reducible assumption); rfl; intro _ _) | ((with_reducible apply st2); (with_reducible assumption); rfl; intro _ _) | ((with_reducible apply ldI0); (with_reducible assumption); rfl) | ((with_reducible apply ldI1); (with_reducible assumption); rfl) | ((with_reducible apply ldI2); (with_reducible assumption); rfl) | ((with_reducible apply ldB0); (with_reducible assumption); rfl) | ((with_reducible apply ldB1); (with_reducible assumption); rfl) | ((with_reducible apply ldS0); (with_reducible assumption); rfl) | ((with_reducible apply ldS1); (with_reducible assumption); rfl) | (with_reducible refine and_i (Own.tab (by with_reducible assumption) (by with_reducible assumption)) ?_) | (with_reducible apply nz_i))
  refine ldL0 (by assumption) rfl ⟨by omega, ?_⟩
  have e : cutA ga gc 0 1 = ga := by
    unfold cutA
    split
    · rfl
    · cases ga with
      | none => rfl
      | some a =>
        show some (a.add (0 * 1)) = some a
        congr 1
  rw [e]
  repeat (first | ((with_reducible apply newB_o); (with_reducible assumption); intro _ _ _) | ((with_reducible apply gap_o); (with_reducible assumption); intro _ _) | ((with_reducible apply st0); (with_reducible assumption); rfl; intro _ _) | ((with_reducible apply st1); (with_reducible assumption); rfl; intro _ _) | ((with_reducible apply st2); (with_reducible assumption); rfl; intro _ _) | ((with_reducible apply ldI0); (with_reducible assumption); rfl) | ((with_reducible apply ldI1); (with_reducible assumption); rfl) | ((with_reducible apply ldI2); (with_reducible assumption); rfl) | ((with_reducible apply ldB0); (with_reducible assumption); rfl) | ((with_reducible apply ldB1); (with_reducible assumption); rfl) | ((with_reducible apply ldS0); (with_reducible assumption); rfl) | ((with_reducible apply ldS1); (with_reducible assumption); rfl) | (with_reducible refine and_i (Own.tab (by with_reducible assumption) (by with_reducible assumption)) ?_) | (with_reducible apply nz_i))
  exact hk _ ⟨rs, rc, ta, ga, gc, r0, r1, oR, oG, by assumption, q1, q2⟩
theorem cut_sp {h : Heap} {r : Nat} {a b c : Gl} {i : Int} {K : Heap → Prop} (hb : Blk h r (rowC a b c) 43) (h0 : b.2.1 ≠ 0) (h1 : c.2.1 ≠ 0) (hk : K h) : vt_row_cut (some ⟨r, 0, none⟩) 3 3 i K h := by
  unfold vt_row_cut
  split
  · rename_i hc
    simp only [Bool.and_eq_true, decide_eq_true_eq] at hc
    refine nz_i ⟨by omega, hc.2, ?_⟩
    have hi : i = 1 ∨ i = 2 := by omega
    rcases hi with rfl | rfl
    · refine ⟨b.2.1, ?_, ?_⟩
      · simp only [add0, Nat.zero_add]; exact hb.cell _ rfl
      · simp only []; rw [if_neg h0]; exact hk
    · refine ⟨c.2.1, ?_, ?_⟩
      · simp only [add0, Nat.zero_add]; exact hb.cell _ rfl
      · simp only []; rw [if_neg h1]; exact hk
  · exact hk
theorem row_sp {h : Heap} {s : Nat} {cs : Array Value} {y : Int} {rs : Option Addr} {rc : Nat} {p : Addr} {ra : Option Addr} {rn rcc : Nat} {K : Option Addr → Nat → Nat → Heap → Prop} (hb : Blk h s cs 69) (h10 : cs[10]? = some (.int .i64 y)) (h7 : cs[7]? = some (.bool false)) (h3 : cs[3]? = some (.slice rs 2 rc))
    (y0 : 0 ≤ y) (y1 : y < 2) (hp : rs = some p) (hc : cellH h (p.add (y.toNat * 1)) = some (.slice ra rn rcc)) (hk : K ra rn rcc h) : vt_Screen_row (some ⟨s, 0, none⟩) K h := by
  unfold vt_Screen_row vt_Screen_shown
  subst hp
  refine nz_i ?_
  simp only [add0, Nat.zero_add]
  refine ⟨y, hb.cell _ h10, nz_i ?_⟩
  simp only [add0, Nat.zero_add]
  refine ⟨false, hb.cell _ h7, ?_⟩
  simp only []
  rw [if_neg (by decide)]
  exact ⟨hb.cell _ h10, nz_i ⟨_, _, _, hb.cell _ h3, nz_i ⟨y0, y1, ⟨_, _, _, hc, hk⟩⟩⟩⟩
theorem rf_len (r : Option Addr × Nat × Nat) : (rf r).length = 1 := rfl
theorem addz (p : Addr) : p.add 0 = p := rfl
def setG (y x : Int) (g : Gl) (S : Sc) : Sc :=
  if y = 0 then (if x = 0 then { S with a0 := g } else { S with a1 := g }) else (if x = 0 then { S with b0 := g } else { S with b1 := g })
def wide1 (S : Sc) : Prop := S.a1.2.1 ≠ 0 ∧ S.a2.2.1 ≠ 0 ∧ S.b1.2.1 ≠ 0 ∧ S.b2.2.1 ≠ 0
theorem write_sp {h0 h : Heap} {s : Nat} {S : Sc} {c : Int} {K : Heap → Prop} (hs : St h0 h s S) (hx : S.x = 0 ∨ S.x = 1) (hy : S.y = 0 ∨ S.y = 1) (hw : wide1 S) (hc : widthV c = 1)
    (hk : ∀ h1, St h0 h1 s { setG S.y S.x (Utf8.encode c, 1, S.fore, 0, 0) S with x := S.x + 1, last := c } → K h1) : vt_Screen_write (some ⟨s, 0, none⟩) c K h := by
  unfold vt_Screen_write
  refine width_sp fun h3 he => ?_
  rw [hc, if_neg (by decide)]
  have hs := hs.gap he
  obtain ⟨x, y, fore, st, gs, last, a0, a1, a2, b0, b1, b2⟩ := S
  obtain ⟨rs, rc, ta, ga, gc, r0, r1, oR, oG, ho, q1, q2⟩ := hs
  obtain ⟨w1, w2, w3, w4⟩ := hw
  simp only at ho q1 q2 hx hy w1 w2 w3 w4 hk
  refine nz_i ?_
  simp only [add0, Nat.zero_add]
  repeat (first | ((with_reducible apply newB_o); (with_reducible assumption); intro _ _ _) | ((with_reducible apply gap_o); (with_reducible assumption); intro _ _) | ((with_reducible apply st0); (with_reducible assumption); rfl; intro _ _) | ((with_reducible apply st1); (with_reducible assumption); rfl; intro _ _) | ((with_reducible apply st2); (with_reducible assumption); rfl; intro _ _) | ((with_reducible apply ldI0); (with_reducible assumption); rfl) | ((with_reducible apply ldI1); (with_reducible assumption); rfl) | ((with_reducible apply ldI2); (with_reducible assumption); rfl) | ((with_reducible apply ldB0); (with_reducible assumption); rfl) | ((with_reducible apply ldB1); (with_reducible assumption); rfl) | ((with_reducible apply ldS0); (with_reducible assumption); rfl) | ((with_reducible apply ldS1); (with_reducible assumption); rfl) | (with_reducible refine and_i (Own.tab (by with_reducible assumption) (by with_reducible assumption)) ?_) | (with_reducible apply nz_i))
  rw [if_neg (by decide)]
  unfold vt_Screen_write_j0
  refine ⟨by decide, by decide, ?_⟩
  simp only [add0, Nat.zero_add]
  repeat (first | ((with_reducible apply newB_o); (with_reducible assumption); intro _ _ _) | ((with_reducible apply gap_o); (with_reducible assumption); intro _ _) | ((with_reducible apply st0); (with_reducible assumption); rfl; intro _ _) | ((with_reducible apply st1); (with_reducible assumption); rfl; intro _ _) | ((with_reducible apply st2); (with_reducible assumption); rfl; intro _ _) | ((with_reducible apply ldI0); (with_reducible assumption); rfl) | ((with_reducible apply ldI1); (with_reducible assumption); rfl) | ((with_reducible apply ldI2); (with_reducible assumption); rfl) | ((with_reducible apply ldB0); (with_reducible assumption); rfl) | ((with_reducible apply ldB1); (with_reducible assumption); rfl) | ((with_reducible apply ldS0); (with_reducible assumption); rfl) | ((with_reducible apply ldS1); (with_reducible assumption); rfl) | (with_reducible refine and_i (Own.tab (by with_reducible assumption) (by with_reducible assumption)) ?_) | (with_reducible apply nz_i))
  rw [if_neg (by decide)]
  unfold vt_Screen_write_j1
  simp only [add0, Nat.zero_add]
  repeat (first | ((with_reducible apply newB_o); (with_reducible assumption); intro _ _ _) | ((with_reducible apply gap_o); (with_reducible assumption); intro _ _) | ((with_reducible apply st0); (with_reducible assumption); rfl; intro _ _) | ((with_reducible apply st1); (with_reducible assumption); rfl; intro _ _) | ((with_reducible apply st2); (with_reducible assumption); rfl; intro _ _) | ((with_reducible apply ldI0); (with_reducible assumption); rfl) | ((with_reducible apply ldI1); (with_reducible assumption); rfl) | ((with_reducible apply ldI2); (with_reducible assumption); rfl) | ((with_reducible apply ldB0); (with_reducible assumption); rfl) | ((with_reducible apply ldB1); (with_reducible assumption); rfl) | ((with_reducible apply ldS0); (with_reducible assumption); rfl) | ((with_reducible apply ldS1); (with_reducible assumption); rfl) | (with_reducible refine and_i (Own.tab (by with_reducible assumption) (by with_reducible assumption)) ?_) | (with_reducible apply nz_i))
  rw [if_neg (by decide)]
  unfold vt_Screen_write_j2
  rw [if_neg (by decide)]
  unfold vt_Screen_write_j3
  simp only [add0, Nat.zero_add]
  repeat (first | ((with_reducible apply newB_o); (with_reducible assumption); intro _ _ _) | ((with_reducible apply gap_o); (with_reducible assumption); intro _ _) | ((with_reducible apply st0); (with_reducible assumption); rfl; intro _ _) | ((with_reducible apply st1); (with_reducible assumption); rfl; intro _ _) | ((with_reducible apply st2); (with_reducible assumption); rfl; intro _ _) | ((with_reducible apply ldI0); (with_reducible assumption); rfl) | ((with_reducible apply ldI1); (with_reducible assumption); rfl) | ((with_reducible apply ldI2); (with_reducible assumption); rfl) | ((with_reducible apply ldB0); (with_reducible assumption); rfl) | ((with_reducible apply ldB1); (with_reducible assumption); rfl) | ((with_reducible apply ldS0); (with_reducible assumption); rfl) | ((with_reducible apply ldS1); (with_reducible assumption); rfl) | (with_reducible refine and_i (Own.tab (by with_reducible assumption) (by with_reducible assumption)) ?_) | (with_reducible apply nz_i))
  rw [if_neg (by decide)]
  unfold vt_Screen_write_j4
  have hoS := ‹Own h0 _ ((s, setL _ 40 _, 69) :: _)›
  have q1' := SlO.get rf_len q1 (pre := _ :: _ :: [_]) hoS
  rcases hy with rfl | rfl
  · obtain ⟨p, hp, hc⟩ := q1' 0 (none, 0, 0) (by omega)
    have hc0 := hc 0 _ rfl
    rw [addz] at hc0
    refine row_sp hoS.get0 rfl rfl rfl (by omega) (by omega) hp hc0 ?_
    simp only [add0, Nat.zero_add]
    repeat (first | ((with_reducible apply newB_o); (with_reducible assumption); intro _ _ _) | ((with_reducible apply gap_o); (with_reducible assumption); intro _ _) | ((with_reducible apply st0); (with_reducible assumption); rfl; intro _ _) | ((with_reducible apply st1); (with_reducible assumption); rfl; intro _ _) | ((with_reducible apply st2); (with_reducible assumption); rfl; intro _ _) | ((with_reducible apply ldI0); (with_reducible assumption); rfl) | ((with_reducible apply ldI1); (with_reducible assumption); rfl) | ((with_reducible apply ldI2); (with_reducible assumption); rfl) | ((with_reducible apply ldB0); (with_reducible assumption); rfl) | ((with_reducible apply ldB1); (with_reducible assumption); rfl) | ((with_reducible apply ldS0); (with_reducible assumption); rfl) | ((with_reducible apply ldS1); (with_reducible assumption); rfl) | (with_reducible refine and_i (Own.tab (by with_reducible assumption) (by with_reducible assumption)) ?_) | (with_reducible apply nz_i))
    refine cut_sp hoS.get1 w1 w2 ?_
    repeat (first | ((with_reducible apply newB_o); (with_reducible assumption); intro _ _ _) | ((with_reducible apply gap_o); (with_reducible assumption); intro _ _) | ((with_reducible apply st0); (with_reducible assumption); rfl; intro _ _) | ((with_reducible apply st1); (with_reducible assumption); rfl; intro _ _) | ((with_reducible apply st2); (with_reducible assumption); rfl; intro _ _) | ((with_reducible apply ldI0); (with_reducible assumption); rfl) | ((with_reducible apply ldI1); (with_reducible assumption); rfl) | ((with_reducible apply ldI2); (with_reducible assumption); rfl) | ((with_reducible apply ldB0); (with_reducible assumption); rfl) | ((with_reducible apply ldB1); (with_reducible assumption); rfl) | ((with_reducible apply ldS0); (with_reducible assumption); rfl) | ((with_reducible apply ldS1); (with_reducible assumption); rfl) | (with_reducible refine and_i (Own.tab (by with_reducible assumption) (by with_reducible assumption)) ?_) | (with_reducible apply nz_i))
    refine cut_sp hoS.get1 w1 w2 ?_
    repeat (first | ((with_reducible apply newB_o); (with_reducible assumption); intro _ _ _) | ((with_reducible apply gap_o); (with_reducible assumption); intro _ _) | ((with_reducible apply st0); (with_reducible assumption); rfl; intro _ _) | ((with_reducible apply st1); (with_reducible assumption); rfl; intro _ _) | ((with_reducible apply st2); (with_reducible assumption); rfl; intro _ _) | ((with_reducible apply ldI0); (with_reducible assumption); rfl) | ((with_reducible apply ldI1); (with_reducible assumption); rfl) | ((with_reducible apply ldI2); (with_reducible assumption); rfl) | ((with_reducible apply ldB0); (with_reducible assumption); rfl) | ((with_reducible apply ldB1); (with_reducible assumption); rfl) | ((with_reducible apply ldS0); (with_reducible assumption); rfl) | ((with_reducible apply ldS1); (with_reducible assumption); rfl) | (with_reducible refine and_i (Own.tab (by with_reducible assumption) (by with_reducible assumption)) ?_) | (with_reducible apply nz_i))
    rcases hx with rfl | rfl
    · refine nz_i ⟨by decide, (by show _ < ((3 : Nat) : Int); decide), ?_⟩
      simp only [add0, Nat.zero_add]
      repeat (first | ((with_reducible apply newB_o); (with_reducible assumption); intro _ _ _) | ((with_reducible apply gap_o); (with_reducible assumption); intro _ _) | ((with_reducible apply st0); (with_reducible assumption); rfl; intro _ _) | ((with_reducible apply st1); (with_reducible assumption); rfl; intro _ _) | ((with_reducible apply st2); (with_reducible assumption); rfl; intro _ _) | ((with_reducible apply ldI0); (with_reducible assumption); rfl) | ((with_reducible apply ldI1); (with_reducible assumption); rfl) | ((with_reducible apply ldI2); (with_reducible assumption); rfl) | ((with_reducible apply ldB0); (with_reducible assumption); rfl) | ((with_reducible apply ldB1); (with_reducible assumption); rfl) | ((with_reducible apply ldS0); (with_reducible assumption); rfl) | ((with_reducible apply ldS1); (with_reducible assumption); rfl) | (with_reducible refine and_i (Own.tab (by with_reducible assumption) (by with_reducible assumption)) ?_) | (with_reducible apply nz_i))
      rw [if_neg (by decide)]
      unfold vt_Screen_write_j5
      simp only [add0, Nat.zero_add]
      repeat (first | ((with_reducible apply newB_o); (with_reducible assumption); intro _ _ _) | ((with_reducible apply gap_o); (with_reducible assumption); intro _ _) | ((with_reducible apply st0); (with_reducible assumption); rfl; intro _ _) | ((with_reducible apply st1); (with_reducible assumption); rfl; intro _ _) | ((with_reducible apply st2); (with_reducible assumption); rfl; intro _ _) | ((with_reducible apply ldI0); (with_reducible assumption); rfl) | ((with_reducible apply ldI1); (with_reducible assumption); rfl) | ((with_reducible apply ldI2); (with_reducible assumption); rfl) | ((with_reducible apply ldB0); (with_reducible assumption); rfl) | ((with_reducible apply ldB1); (with_reducible assumption); rfl) | ((with_reducible apply ldS0); (with_reducible assumption); rfl) | ((with_reducible apply ldS1); (with_reducible assumption); rfl) | (with_reducible refine and_i (Own.tab (by with_reducible assumption) (by with_reducible assumption)) ?_) | (with_reducible apply nz_i))
      rw [if_neg (by decide)]
      exact hk _ ⟨rs, rc, ta, ga, gc, r0, r1, oR, oG, by assumption, q1, q2⟩
    · refine nz_i ⟨by decide, (by show _ < ((3 : Nat) : Int); decide), ?_⟩
      simp only [add0, Nat.zero_add]
      repeat (first | ((with_reducible apply newB_o); (with_reducible assumption); intro _ _ _) | ((with_reducible apply gap_o); (with_reducible assumption); intro _ _) | ((with_reducible apply st0); (with_reducible assumption); rfl; intro _ _) | ((with_reducible apply st1); (with_reducible assumption); rfl; intro _ _) | ((with_reducible apply st2); (with_reducible assumption); rfl; intro _ _) | ((with_reducible apply ldI0); (with_reducible assumption); rfl) | ((with_reducible apply ldI1); (with_reducible assumption); rfl) | ((with_reducible apply ldI2); (with_reducible assumption); rfl) | ((with_reducible apply ldB0); (with_reducible assumption); rfl) | ((with_reducible apply ldB1); (with_reducible assumption); rfl) | ((with_reducible apply ldS0); (with_reducible assumption); rfl) | ((with_reducible apply ldS1); (with_reducible assumption); rfl) | (with_reducible refine and_i (Own.tab (by with_reducible assumption) (by with_reducible assumption)) ?_) | (with_reducible apply nz_i))
      rw [if_neg (by decide)]
      unfold vt_Screen_write_j5
      simp only [add0, Nat.zero_add]
      repeat (first | ((with_reducible apply newB_o); (with_reducible assumption); intro _ _ _) | ((with_reducible apply gap_o); (with_reducible assumption); intro _ _) | ((with_reducible apply st0); (with_reducible assumption); rfl; intro _ _) | ((with_reducible apply st1); (with_reducible assumption); rfl; intro _ _) | ((with_reducible apply st2); (with_reducible assumption); rfl; intro _ _) | ((with_reducible apply ldI0); (with_reducible assumption); rfl) | ((with_reducible apply ldI1); (with_reducible assumption); rfl) | ((with_reducible apply ldI2); (with_reducible assumption); rfl) | ((with_reducible apply ldB0); (with_reducible assumption); rfl) | ((with_reducible apply ldB1); (with_reducible assumption); rfl) | ((with_reducible apply ldS0); (with_reducible assumption); rfl) | ((with_reducible apply ldS1); (with_reducible assumption); rfl) | (with_reducible refine and_i (Own.tab (by with_reducible assumption) (by with_reducible assumption)) ?_) | (with_reducible apply nz_i))
      rw [if_neg (by decide)]
      exact hk _ ⟨rs, rc, ta, ga, gc, r0, r1, oR, oG, by assumption, q1, q2⟩
  · obtain ⟨p, hp, hc⟩ := q1' 1 (none, 0, 0) (by omega)
    have hc0 := hc 0 _ rfl
    rw [addz] at hc0
    refine row_sp hoS.get0 rfl rfl rfl (by omega) (by omega) hp hc0 ?_
    simp only [add0, Nat.zero_add]
    repeat (first | ((with_reducible apply newB_o); (with_reducible assumption); intro _ _ _) | ((with_reducible apply gap_o); (with_reducible assumption); intro _ _) | ((with_reducible apply st0); (with_reducible assumption); rfl; intro _ _) | ((with_reducible apply st1); (with_reducible assumption); rfl; intro _ _) | ((with_reducible apply st2); (with_reducible assumption); rfl; intro _ _) | ((with_reducible apply ldI0); (with_reducible assumption); rfl) | ((with_reducible apply ldI1); (with_reducible assumption); rfl) | ((with_reducible apply ldI2); (with_reducible assumption); rfl) | ((with_reducible apply ldB0); (with_reducible assumption); rfl) | ((with_reducible apply ldB1); (with_reducible assumption); rfl) | ((with_reducible apply ldS0); (with_reducible assumption); rfl) | ((with_reducible apply ldS1); (with_reducible assumption); rfl) | (with_reducible refine and_i (Own.tab (by with_reducible assumption) (by with_reducible assumption)) ?_) | (with_reducible apply nz_i))
    refine cut_sp hoS.get2 w3 w4 ?_
    repeat (first | ((with_reducible apply newB_o); (with_reducible assumption); intro _ _ _) | ((with_reducible apply gap_o); (with_reducible assumption); intro _ _) | ((with_reducible apply st0); (with_reducible assumption); rfl; intro _ _) | ((with_reducible apply st1); (with_reducible assumption); rfl; intro _ _) | ((with_reducible apply st2); (with_reducible assumption); rfl; intro _ _) | ((with_reducible apply ldI0); (with_reducible assumption); rfl) | ((with_reducible apply ldI1); (with_reducible assumption); rfl) | ((with_reducible apply ldI2); (with_reducible assumption); rfl) | ((with_reducible apply ldB0); (with_reducible assumption); rfl) | ((with_reducible apply ldB1); (with_reducible assumption); rfl) | ((with_reducible apply ldS0); (with_reducible assumption); rfl) | ((with_reducible apply ldS1); (with_reducible assumption); rfl) | (with_reducible refine and_i (Own.tab (by with_reducible assumption) (by with_reducible assumption)) ?_) | (with_reducible apply nz_i))
    refine cut_sp hoS.get2 w3 w4 ?_
    repeat (first | ((with_reducible apply newB_o); (with_reducible assumption); intro _ _ _) | ((with_reducible apply gap_o); (with_reducible assumption); intro _ _) | ((with_reducible apply st0); (with_reducible assumption); rfl; intro _ _) | ((with_reducible apply st1); (with_reducible assumption); rfl; intro _ _) | ((with_reducible apply st2); (with_reducible assumption); rfl; intro _ _) | ((with_reducible apply ldI0); (with_reducible assumption); rfl) | ((with_reducible apply ldI1); (with_reducible assumption); rfl) | ((with_reducible apply ldI2); (with_reducible assumption); rfl) | ((with_reducible apply ldB0); (with_reducible assumption); rfl) | ((with_reducible apply ldB1); (with_reducible assumption); rfl) | ((with_reducible apply ldS0); (with_reducible assumption); rfl) | ((with_reducible apply ldS1); (with_reducible assumption); rfl) | (with_reducible refine and_i (Own.tab (by with_reducible assumption) (by with_reducible assumption)) ?_) | (with_reducible apply nz_i))
    rcases hx with rfl | rfl
    · refine nz_i ⟨by decide, (by show _ < ((3 : Nat) : Int); decide), ?_⟩
      simp only [add0, Nat.zero_add]
      repeat (first | ((with_reducible apply newB_o); (with_reducible assumption); intro _ _ _) | ((with_reducible apply gap_o); (with_reducible assumption); intro _ _) | ((with_reducible apply st0); (with_reducible assumption); rfl; intro _ _) | ((with_reducible apply st1); (with_reducible assumption); rfl; intro _ _) | ((with_reducible apply st2); (with_reducible assumption); rfl; intro _ _) | ((with_reducible apply ldI0); (with_reducible assumption); rfl) | ((with_reducible apply ldI1); (with_reducible assumption); rfl) | ((with_reducible apply ldI2); (with_reducible assumption); rfl) | ((with_reducible apply ldB0); (with_reducible assumption); rfl) | ((with_reducible apply ldB1); (with_reducible assumption); rfl) | ((with_reducible apply ldS0); (with_reducible assumption); rfl) | ((with_reducible apply ldS1); (with_reducible assumption); rfl) | (with_reducible refine and_i (Own.tab (by with_reducible assumption) (by with_reducible assumption)) ?_) | (with_reducible apply nz_i))
      rw [if_neg (by decide)]
      unfold vt_Screen_write_j5
      simp only [add0, Nat.zero_add]
      repeat (first | ((with_reducible apply newB_o); (with_reducible assumption); intro _ _ _) | ((with_reducible apply gap_o); (with_reducible assumption); intro _ _) | ((with_reducible apply st0); (with_reducible assumption); rfl; intro _ _) | ((with_reducible apply st1); (with_reducible assumption); rfl; intro _ _) | ((with_reducible apply st2); (with_reducible assumption); rfl; intro _ _) | ((with_reducible apply ldI0); (with_reducible assumption); rfl) | ((with_reducible apply ldI1); (with_reducible assumption); rfl) | ((with_reducible apply ldI2); (with_reducible assumption); rfl) | ((with_reducible apply ldB0); (with_reducible assumption); rfl) | ((with_reducible apply ldB1); (with_reducible assumption); rfl) | ((with_reducible apply ldS0); (with_reducible assumption); rfl) | ((with_reducible apply ldS1); (with_reducible assumption); rfl) | (with_reducible refine and_i (Own.tab (by with_reducible assumption) (by with_reducible assumption)) ?_) | (with_reducible apply nz_i))
      rw [if_neg (by decide)]
      exact hk _ ⟨rs, rc, ta, ga, gc, r0, r1, oR, oG, by assumption, q1, q2⟩
    · refine nz_i ⟨by decide, (by show _ < ((3 : Nat) : Int); decide), ?_⟩
      simp only [add0, Nat.zero_add]
      repeat (first | ((with_reducible apply newB_o); (with_reducible assumption); intro _ _ _) | ((with_reducible apply gap_o); (with_reducible assumption); intro _ _) | ((with_reducible apply st0); (with_reducible assumption); rfl; intro _ _) | ((with_reducible apply st1); (with_reducible assumption); rfl; intro _ _) | ((with_reducible apply st2); (with_reducible assumption); rfl; intro _ _) | ((with_reducible apply ldI0); (with_reducible assumption); rfl) | ((with_reducible apply ldI1); (with_reducible assumption); rfl) | ((with_reducible apply ldI2); (with_reducible assumption); rfl) | ((with_reducible apply ldB0); (with_reducible assumption); rfl) | ((with_reducible apply ldB1); (with_reducible assumption); rfl) | ((with_reducible apply ldS0); (with_reducible assumption); rfl) | ((with_reducible apply ldS1); (with_reducible assumption); rfl) | (with_reducible refine and_i (Own.tab (by with_reducible assumption) (by with_reducible assumption)) ?_) | (with_reducible apply nz_i))
      rw [if_neg (by decide)]
      unfold vt_Screen_write_j5
      simp only [add0, Nat.zero_add]
      repeat (first | ((with_reducible apply newB_o); (with_reducible assumption); intro _ _ _) | ((with_reducible apply gap_o); (with_reducible assumption); intro _ _) | ((with_reducible apply st0); (with_reducible assumption); rfl; intro _ _) | ((with_reducible apply st1); (with_reducible assumption); rfl; intro _ _) | ((with_reducible apply st2); (with_reducible assumption); rfl; intro _ _) | ((with_reducible apply ldI0); (with_reducible assumption); rfl) | ((with_reducible apply ldI1); (with_reducible assumption); rfl) | ((with_reducible apply ldI2); (with_reducible assumption); rfl) | ((with_reducible apply ldB0); (with_reducible assumption); rfl) | ((with_reducible apply ldB1); (with_reducible assumption); rfl) | ((with_reducible apply ldS0); (with_reducible assumption); rfl) | ((with_reducible apply ldS1); (with_reducible assumption); rfl) | (with_reducible refine and_i (Own.tab (by with_reducible assumption) (by with_reducible assumption)) ?_) | (with_reducible apply nz_i))
      rw [if_neg (by decide)]
      exact hk _ ⟨rs, rc, ta, ga, gc, r0, r1, oR, oG, by assumption, q1, q2⟩
end Go.Proofs.YthjdnhhifjpidaaDoor.M
