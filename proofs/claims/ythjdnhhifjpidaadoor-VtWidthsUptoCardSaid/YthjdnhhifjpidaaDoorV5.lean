import Derived.Test.YthjdnhhifjpidaaDoorV4
set_option linter.unusedVariables false
set_option linter.unusedSimpArgs false
set_option maxRecDepth 100000
namespace Go.Proofs.YthjdnhhifjpidaaDoor.M
open Go Go.Hp

theorem ground_w {h0 h : Heap} {s : Nat} {S : Sc} {c : Int} {K : Heap → Prop} (hs : St h0 h s S) (hx : S.x = 0 ∨ S.x = 1) (hy : S.y = 0 ∨ S.y = 1) (hw : wide1 S) (hc : widthV c = 1) (c0 : 32 ≤ c) (c1 : c < 127)
    (hk : ∀ h1, St h0 h1 s { setG S.y S.x (Utf8.encode c, 1, S.fore, 0, 0) S with x := S.x + 1, last := c } → K h1) : vt_Screen_ground (some ⟨s, 0, none⟩) c K h := by
  have hs0 := hs
  obtain ⟨rs, rc, ta, ga, gc, r0, r1, oR, oG, ho, q1, q2⟩ := hs
  unfold vt_Screen_ground
  refine nz_i ?_
  simp only [add0, Nat.zero_add]
  repeat (first | ((with_reducible apply newB_o); (with_reducible assumption); intro _ _ _) | ((with_reducible apply gap_o); (with_reducible assumption); intro _ _) | ((with_reducible apply st0); (with_reducible assumption); rfl; intro _ _) | ((with_reducible apply st1); (with_reducible assumption); rfl; intro _ _) | ((with_reducible apply st2); (with_reducible assumption); rfl; intro _ _) | ((with_reducible apply ldI0); (with_reducible assumption); rfl) | ((with_reducible apply ldI1); (with_reducible assumption); rfl) | ((with_reducible apply ldI2); (with_reducible assumption); rfl) | ((with_reducible apply ldB0); (with_reducible assumption); rfl) | ((with_reducible apply ldB1); (with_reducible assumption); rfl) | ((with_reducible apply ldS0); (with_reducible assumption); rfl) | ((with_reducible apply ldS1); (with_reducible assumption); rfl) | (with_reducible refine and_i (Own.tab (by with_reducible assumption) (by with_reducible assumption)) ?_) | (with_reducible apply nz_i))
  rw [if_neg (by decide)]
  unfold vt_Screen_ground_j0
  rw [if_neg (by omega), if_pos c1]
  have e : IntKind.wrap .i32 c = c := by rw [IntKind.wrap_i32]; omega
  rw [e]
  exact write_sp hs0 hx hy hw hc hk
theorem ground_cr {h0 h : Heap} {s : Nat} {S : Sc} {K : Heap → Prop} (hs : St h0 h s S) (hk : ∀ h1, St h0 h1 s { S with x := 0, y := imax 0 (imin S.y 1) } → K h1) : vt_Screen_ground (some ⟨s, 0, none⟩) 13 K h := by
  have hs0 := hs
  obtain ⟨rs, rc, ta, ga, gc, r0, r1, oR, oG, ho, q1, q2⟩ := hs
  unfold vt_Screen_ground
  refine nz_i ?_
  simp only [add0, Nat.zero_add]
  repeat (first | ((with_reducible apply newB_o); (with_reducible assumption); intro _ _ _) | ((with_reducible apply gap_o); (with_reducible assumption); intro _ _) | ((with_reducible apply st0); (with_reducible assumption); rfl; intro _ _) | ((with_reducible apply st1); (with_reducible assumption); rfl; intro _ _) | ((with_reducible apply st2); (with_reducible assumption); rfl; intro _ _) | ((with_reducible apply ldI0); (with_reducible assumption); rfl) | ((with_reducible apply ldI1); (with_reducible assumption); rfl) | ((with_reducible apply ldI2); (with_reducible assumption); rfl) | ((with_reducible apply ldB0); (with_reducible assumption); rfl) | ((with_reducible apply ldB1); (with_reducible assumption); rfl) | ((with_reducible apply ldS0); (with_reducible assumption); rfl) | ((with_reducible apply ldS1); (with_reducible assumption); rfl) | (with_reducible refine and_i (Own.tab (by with_reducible assumption) (by with_reducible assumption)) ?_) | (with_reducible apply nz_i))
  rw [if_neg (by decide)]
  unfold vt_Screen_ground_j0
  rw [if_pos (by decide)]
  unfold vt_Screen_does
  rw [if_neg (by decide), if_neg (by decide), if_neg (by decide), if_neg (by decide), if_neg (by decide)]
  unfold vt_Screen_does_j0
  rw [if_neg (by decide), if_pos (by decide)]
  refine nz_i ?_
  simp only [add0, Nat.zero_add]
  repeat (first | ((with_reducible apply newB_o); (with_reducible assumption); intro _ _ _) | ((with_reducible apply gap_o); (with_reducible assumption); intro _ _) | ((with_reducible apply st0); (with_reducible assumption); rfl; intro _ _) | ((with_reducible apply st1); (with_reducible assumption); rfl; intro _ _) | ((with_reducible apply st2); (with_reducible assumption); rfl; intro _ _) | ((with_reducible apply ldI0); (with_reducible assumption); rfl) | ((with_reducible apply ldI1); (with_reducible assumption); rfl) | ((with_reducible apply ldI2); (with_reducible assumption); rfl) | ((with_reducible apply ldB0); (with_reducible assumption); rfl) | ((with_reducible apply ldB1); (with_reducible assumption); rfl) | ((with_reducible apply ldS0); (with_reducible assumption); rfl) | ((with_reducible apply ldS1); (with_reducible assumption); rfl) | (with_reducible refine and_i (Own.tab (by with_reducible assumption) (by with_reducible assumption)) ?_) | (with_reducible apply nz_i))
  exact to_sp hs0 fun h1 hs1 => hk h1 hs1
theorem ground_lf {h0 h : Heap} {s : Nat} {S : Sc} {K : Heap → Prop} (hs : St h0 h s S) (hy : S.y = 0) (hk : ∀ h1, St h0 h1 s { S with y := 1 } → K h1) : vt_Screen_ground (some ⟨s, 0, none⟩) 10 K h := by
  have hs0 := hs
  obtain ⟨rs, rc, ta, ga, gc, r0, r1, oR, oG, ho, q1, q2⟩ := hs
  unfold vt_Screen_ground
  refine nz_i ?_
  simp only [add0, Nat.zero_add]
  repeat (first | ((with_reducible apply newB_o); (with_reducible assumption); intro _ _ _) | ((with_reducible apply gap_o); (with_reducible assumption); intro _ _) | ((with_reducible apply st0); (with_reducible assumption); rfl; intro _ _) | ((with_reducible apply st1); (with_reducible assumption); rfl; intro _ _) | ((with_reducible apply st2); (with_reducible assumption); rfl; intro _ _) | ((with_reducible apply ldI0); (with_reducible assumption); rfl) | ((with_reducible apply ldI1); (with_reducible assumption); rfl) | ((with_reducible apply ldI2); (with_reducible assumption); rfl) | ((with_reducible apply ldB0); (with_reducible assumption); rfl) | ((with_reducible apply ldB1); (with_reducible assumption); rfl) | ((with_reducible apply ldS0); (with_reducible assumption); rfl) | ((with_reducible apply ldS1); (with_reducible assumption); rfl) | (with_reducible refine and_i (Own.tab (by with_reducible assumption) (by with_reducible assumption)) ?_) | (with_reducible apply nz_i))
  rw [if_neg (by decide)]
  unfold vt_Screen_ground_j0
  rw [if_pos (by decide)]
  unfold vt_Screen_does
  rw [if_neg (by decide), if_neg (by decide), if_neg (by decide), if_pos (by decide)]
  unfold vt_Screen_does_j0
  rw [if_pos (by decide)]
  refine nz_i ?_
  simp only [add0, Nat.zero_add]
  repeat (first | ((with_reducible apply newB_o); (with_reducible assumption); intro _ _ _) | ((with_reducible apply gap_o); (with_reducible assumption); intro _ _) | ((with_reducible apply st0); (with_reducible assumption); rfl; intro _ _) | ((with_reducible apply st1); (with_reducible assumption); rfl; intro _ _) | ((with_reducible apply st2); (with_reducible assumption); rfl; intro _ _) | ((with_reducible apply ldI0); (with_reducible assumption); rfl) | ((with_reducible apply ldI1); (with_reducible assumption); rfl) | ((with_reducible apply ldI2); (with_reducible assumption); rfl) | ((with_reducible apply ldB0); (with_reducible assumption); rfl) | ((with_reducible apply ldB1); (with_reducible assumption); rfl) | ((with_reducible apply ldS0); (with_reducible assumption); rfl) | ((with_reducible apply ldS1); (with_reducible assumption); rfl) | (with_reducible refine and_i (Own.tab (by with_reducible assumption) (by with_reducible assumption)) ?_) | (with_reducible apply nz_i))
  rw [if_neg (by decide)]
  exact feed_sp hs0 hy fun h1 hs1 => hk h1 hs1
/-- A byte that begins nothing, where the state is the ground. -/
theorem byte_g {h0 h : Heap} {s : Nat} {S : Sc} {b : Int} {K : Heap → Prop} (hs : St h0 h s S) (hst : S.st = 0) (h24 : b ≠ 24) (h26 : b ≠ 26) (h27 : b ≠ 27) (hk : vt_Screen_ground (some ⟨s, 0, none⟩) b K h) : vt_Screen_byte (some ⟨s, 0, none⟩) b K h := by
  obtain ⟨x, y, fore, st, gs, last, a0, a1, a2, b0, b1, b2⟩ := S
  simp only at hst
  subst hst
  obtain ⟨rs, rc, ta, ga, gc, r0, r1, oR, oG, ho, q1, q2⟩ := hs
  simp only at ho
  unfold vt_Screen_byte
  rw [if_neg h24]
  unfold vt_Screen_byte_j0
  rw [if_neg (by simpa using h26), if_neg h27]
  unfold vt_Screen_byte_j1
  refine nz_i ?_
  simp only [add0, Nat.zero_add]
  repeat (first | ((with_reducible apply newB_o); (with_reducible assumption); intro _ _ _) | ((with_reducible apply gap_o); (with_reducible assumption); intro _ _) | ((with_reducible apply st0); (with_reducible assumption); rfl; intro _ _) | ((with_reducible apply st1); (with_reducible assumption); rfl; intro _ _) | ((with_reducible apply st2); (with_reducible assumption); rfl; intro _ _) | ((with_reducible apply ldI0); (with_reducible assumption); rfl) | ((with_reducible apply ldI1); (with_reducible assumption); rfl) | ((with_reducible apply ldI2); (with_reducible assumption); rfl) | ((with_reducible apply ldB0); (with_reducible assumption); rfl) | ((with_reducible apply ldB1); (with_reducible assumption); rfl) | ((with_reducible apply ldS0); (with_reducible assumption); rfl) | ((with_reducible apply ldS1); (with_reducible assumption); rfl) | (with_reducible refine and_i (Own.tab (by with_reducible assumption) (by with_reducible assumption)) ?_) | (with_reducible apply nz_i))
  rw [if_pos (by decide)]
  exact hk
theorem byte_esc {h0 h : Heap} {s : Nat} {S : Sc} {K : Heap → Prop} (hs : St h0 h s S) (hst : S.st = 0) (hg : S.gs = []) (hk : ∀ h1, St h0 h1 s { S with st := 1 } → K h1) : vt_Screen_byte (some ⟨s, 0, none⟩) 27 K h := by
  unfold vt_Screen_byte
  rw [if_neg (by decide)]
  unfold vt_Screen_byte_j0
  rw [if_neg (by decide), if_pos (by decide)]
  refine broken_sp hs ?_
  have hs0 := hs
  obtain ⟨x, y, fore, st, gs, last, a0, a1, a2, b0, b1, b2⟩ := S
  simp only at hst
  subst hst
  obtain ⟨rs, rc, ta, ga, gc, r0, r1, oR, oG, ho, q1, q2⟩ := hs
  simp only at ho
  refine nz_i ?_
  simp only [add0, Nat.zero_add]
  repeat (first | ((with_reducible apply newB_o); (with_reducible assumption); intro _ _ _) | ((with_reducible apply gap_o); (with_reducible assumption); intro _ _) | ((with_reducible apply st0); (with_reducible assumption); rfl; intro _ _) | ((with_reducible apply st1); (with_reducible assumption); rfl; intro _ _) | ((with_reducible apply st2); (with_reducible assumption); rfl; intro _ _) | ((with_reducible apply ldI0); (with_reducible assumption); rfl) | ((with_reducible apply ldI1); (with_reducible assumption); rfl) | ((with_reducible apply ldI2); (with_reducible assumption); rfl) | ((with_reducible apply ldB0); (with_reducible assumption); rfl) | ((with_reducible apply ldB1); (with_reducible assumption); rfl) | ((with_reducible apply ldS0); (with_reducible assumption); rfl) | ((with_reducible apply ldS1); (with_reducible assumption); rfl) | (with_reducible refine and_i (Own.tab (by with_reducible assumption) (by with_reducible assumption)) ?_) | (with_reducible apply nz_i))
  rw [if_neg (by decide)]
  exact begin_sp hs0 hg fun h1 hs1 => hk h1 hs1
theorem byte_ctl {h0 h : Heap} {s : Nat} {S : Sc} {K : Heap → Prop} (hs : St h0 h s S) (hst : S.st = 1) (hg : S.gs = []) (hk : ∀ h1, St h0 h1 s { S with st := 2 } → K h1) : vt_Screen_byte (some ⟨s, 0, none⟩) 91 K h := by
  unfold vt_Screen_byte
  rw [if_neg (by decide)]
  unfold vt_Screen_byte_j0
  rw [if_neg (by decide), if_neg (by decide)]
  have hs0 := hs
  obtain ⟨x, y, fore, st, gs, last, a0, a1, a2, b0, b1, b2⟩ := S
  simp only at hst hg
  subst hst hg
  obtain ⟨rs, rc, ta, ga, gc, r0, r1, oR, oG, ho, q1, q2⟩ := hs
  simp only at ho
  unfold vt_Screen_byte_j1
  refine nz_i ?_
  simp only [add0, Nat.zero_add]
  repeat (first | ((with_reducible apply newB_o); (with_reducible assumption); intro _ _ _) | ((with_reducible apply gap_o); (with_reducible assumption); intro _ _) | ((with_reducible apply st0); (with_reducible assumption); rfl; intro _ _) | ((with_reducible apply st1); (with_reducible assumption); rfl; intro _ _) | ((with_reducible apply st2); (with_reducible assumption); rfl; intro _ _) | ((with_reducible apply ldI0); (with_reducible assumption); rfl) | ((with_reducible apply ldI1); (with_reducible assumption); rfl) | ((with_reducible apply ldI2); (with_reducible assumption); rfl) | ((with_reducible apply ldB0); (with_reducible assumption); rfl) | ((with_reducible apply ldB1); (with_reducible assumption); rfl) | ((with_reducible apply ldS0); (with_reducible assumption); rfl) | ((with_reducible apply ldS1); (with_reducible assumption); rfl) | (with_reducible refine and_i (Own.tab (by with_reducible assumption) (by with_reducible assumption)) ?_) | (with_reducible apply nz_i))
  rw [if_neg (by decide), if_pos (by decide)]
  unfold vt_Screen_escape
  refine nz_i ?_
  simp only [add0, Nat.zero_add]
  refine ldL0 (by assumption) rfl ?_
  rw [if_pos (by decide)]
  exact begin_sp hs0 rfl fun h1 hs1 => hk h1 hs1
theorem byte_dig {h0 h : Heap} {s : Nat} {S : Sc} {b : Int} {K : Heap → Prop} (hs : St h0 h s S) (hst : S.st = 2) (hl : S.gs.length < 200) (b0 : 48 ≤ b) (b1 : b ≤ 57) (hk : ∀ h1, St h0 h1 s { S with gs := S.gs ++ [b] } → K h1) : vt_Screen_byte (some ⟨s, 0, none⟩) b K h := by
  unfold vt_Screen_byte
  rw [if_neg (by omega)]
  unfold vt_Screen_byte_j0
  rw [if_neg (by simp; omega), if_neg (by omega)]
  have hs0 := hs
  obtain ⟨x, y, fore, st, gs, last, a0, a1, a2, b0', b1', b2⟩ := S
  simp only at hst
  subst hst
  obtain ⟨rs, rc, ta, ga, gc, r0, r1, oR, oG, ho, q1, q2⟩ := hs
  simp only at ho
  unfold vt_Screen_byte_j1
  refine nz_i ?_
  simp only [add0, Nat.zero_add]
  repeat (first | ((with_reducible apply newB_o); (with_reducible assumption); intro _ _ _) | ((with_reducible apply gap_o); (with_reducible assumption); intro _ _) | ((with_reducible apply st0); (with_reducible assumption); rfl; intro _ _) | ((with_reducible apply st1); (with_reducible assumption); rfl; intro _ _) | ((with_reducible apply st2); (with_reducible assumption); rfl; intro _ _) | ((with_reducible apply ldI0); (with_reducible assumption); rfl) | ((with_reducible apply ldI1); (with_reducible assumption); rfl) | ((with_reducible apply ldI2); (with_reducible assumption); rfl) | ((with_reducible apply ldB0); (with_reducible assumption); rfl) | ((with_reducible apply ldB1); (with_reducible assumption); rfl) | ((with_reducible apply ldS0); (with_reducible assumption); rfl) | ((with_reducible apply ldS1); (with_reducible assumption); rfl) | (with_reducible refine and_i (Own.tab (by with_reducible assumption) (by with_reducible assumption)) ?_) | (with_reducible apply nz_i))
  rw [if_neg (by decide), if_neg (by decide), if_pos (by decide)]
  unfold vt_Screen_sequence
  rw [if_neg (by omega), if_pos (by omega)]
  exact gather_sp hs0 hl fun h1 hs1 => hk h1 hs1
theorem byte_m {h0 h : Heap} {s : Nat} {S : Sc} {K : Heap → Prop} (hs : St h0 h s S) (hst : S.st = 2) (hg : S.gs = [51, 49]) (hk : ∀ h1, St h0 h1 s { S with st := 0, fore := 2 } → K h1) : vt_Screen_byte (some ⟨s, 0, none⟩) 109 K h := by
  unfold vt_Screen_byte
  rw [if_neg (by decide)]
  unfold vt_Screen_byte_j0
  rw [if_neg (by decide), if_neg (by decide)]
  obtain ⟨x, y, fore, st, gs, last, a0, a1, a2, b0, b1, b2⟩ := S
  simp only at hst hg
  subst hst hg
  obtain ⟨rs, rc, ta, ga, gc, r0, r1, oR, oG, ho, q1, q2⟩ := hs
  simp only at ho q1 q2 hk
  unfold vt_Screen_byte_j1
  refine nz_i ?_
  simp only [add0, Nat.zero_add]
  repeat (first | ((with_reducible apply newB_o); (with_reducible assumption); intro _ _ _) | ((with_reducible apply gap_o); (with_reducible assumption); intro _ _) | ((with_reducible apply st0); (with_reducible assumption); rfl; intro _ _) | ((with_reducible apply st1); (with_reducible assumption); rfl; intro _ _) | ((with_reducible apply st2); (with_reducible assumption); rfl; intro _ _) | ((with_reducible apply ldI0); (with_reducible assumption); rfl) | ((with_reducible apply ldI1); (with_reducible assumption); rfl) | ((with_reducible apply ldI2); (with_reducible assumption); rfl) | ((with_reducible apply ldB0); (with_reducible assumption); rfl) | ((with_reducible apply ldB1); (with_reducible assumption); rfl) | ((with_reducible apply ldS0); (with_reducible assumption); rfl) | ((with_reducible apply ldS1); (with_reducible assumption); rfl) | (with_reducible refine and_i (Own.tab (by with_reducible assumption) (by with_reducible assumption)) ?_) | (with_reducible apply nz_i))
  rw [if_neg (by decide), if_neg (by decide), if_pos (by decide)]
  unfold vt_Screen_sequence
  rw [if_neg (by decide), if_neg (by decide), if_pos (by decide)]
  refine nz_i ?_
  simp only [add0, Nat.zero_add]
  repeat (first | ((with_reducible apply newB_o); (with_reducible assumption); intro _ _ _) | ((with_reducible apply gap_o); (with_reducible assumption); intro _ _) | ((with_reducible apply st0); (with_reducible assumption); rfl; intro _ _) | ((with_reducible apply st1); (with_reducible assumption); rfl; intro _ _) | ((with_reducible apply st2); (with_reducible assumption); rfl; intro _ _) | ((with_reducible apply ldI0); (with_reducible assumption); rfl) | ((with_reducible apply ldI1); (with_reducible assumption); rfl) | ((with_reducible apply ldI2); (with_reducible assumption); rfl) | ((with_reducible apply ldB0); (with_reducible assumption); rfl) | ((with_reducible apply ldB1); (with_reducible assumption); rfl) | ((with_reducible apply ldS0); (with_reducible assumption); rfl) | ((with_reducible apply ldS1); (with_reducible assumption); rfl) | (with_reducible refine and_i (Own.tab (by with_reducible assumption) (by with_reducible assumption)) ?_) | (with_reducible apply nz_i))
  rw [if_pos (by decide)]
  refine controlled_sp (S := ⟨x, y, fore, 0, [51, 49], last, a0, a1, a2, b0, b1, b2⟩) ⟨rs, rc, ta, ga, gc, r0, r1, oR, oG, by assumption, q1, q2⟩ rfl fun h1 hs1 => hk h1 hs1
theorem feedN {K : Heap → Prop} {h : Heap} {p : Option Addr} {t : ByteArray} {n i b : Int} {f : Nat} (hlt : i < n) (h0 : 0 ≤ i) (hz : i < (t.size : Int)) (hb : byteAt t i = b) (hw : IntKind.wrap .i64 (i + 1) = i + 1)
    (hk : vt_Screen_byte p b (fun h1 => vt_Screen_Feed_l0 (fun h => K h) f p t n (i + 1) h1) h) : vt_Screen_Feed_l0 (fun h => K h) (f + 1) p t n i h := by
  unfold vt_Screen_Feed_l0
  rw [if_pos hlt, hb, hw]
  exact ⟨h0, hz, hk⟩
def glB : Gl := (⟨#[32]⟩, 1, 0, 0, 0)
def S0 : Sc := ⟨0, 0, 0, 0, [], 0, glB, glB, glB, glB, glB, glB⟩
def gl1 (c : Int) (f : Int) : Gl := (Utf8.encode c, 1, f, 0, 0)
def S8 : Sc := ⟨0, 1, 0, 2, [51, 49], 98, gl1 97 0, gl1 98 0, glB, glB, glB, glB⟩
def S10 : Sc := ⟨1, 1, 2, 0, [51, 49], 99, gl1 97 0, gl1 98 0, glB, gl1 99 2, glB, glB⟩
theorem w1 : wide1 S0 := by refine ⟨?_, ?_, ?_, ?_⟩ <;> decide
theorem feed1 {h0 h : Heap} {s : Nat} {K : Heap → Prop} (hs : St h0 h s S0) (hk : ∀ h1, St h0 h1 s S8 → K h1) : vt_Screen_Feed (some ⟨s, 0, none⟩) (⟨#[97, 98, 13, 10, 27, 91, 51, 49]⟩ : ByteArray) K h := by
  unfold vt_Screen_Feed
  refine ⟨9, ?_⟩
  refine feedN (b := 97) (by decide) (by decide) (by decide) rfl rfl ?_
  refine byte_g hs rfl (by decide) (by decide) (by decide) (ground_w hs (.inl rfl) (.inl rfl) ?_ (by decide) (by decide) (by decide) fun h1 hs1 => ?_)
  · refine ⟨?_, ?_, ?_, ?_⟩ <;> decide
  refine feedN (b := 98) (by decide) (by decide) (by decide) rfl rfl ?_
  refine byte_g hs1 rfl (by decide) (by decide) (by decide) (ground_w hs1 (.inr rfl) (.inl rfl) ?_ (by decide) (by decide) (by decide) fun h2 hs2 => ?_)
  · refine ⟨?_, ?_, ?_, ?_⟩ <;> decide
  refine feedN (b := 13) (by decide) (by decide) (by decide) rfl rfl ?_
  refine byte_g hs2 rfl (by decide) (by decide) (by decide) (ground_cr hs2 fun h3 hs3 => ?_)
  refine feedN (b := 10) (by decide) (by decide) (by decide) rfl rfl ?_
  refine byte_g hs3 rfl (by decide) (by decide) (by decide) (ground_lf hs3 (by decide) fun h4 hs4 => ?_)
  refine feedN (b := 27) (by decide) (by decide) (by decide) rfl rfl ?_
  refine byte_esc hs4 rfl rfl fun h5 hs5 => ?_
  refine feedN (b := 91) (by decide) (by decide) (by decide) rfl rfl ?_
  refine byte_ctl hs5 rfl rfl fun h6 hs6 => ?_
  refine feedN (b := 51) (by decide) (by decide) (by decide) rfl rfl ?_
  refine byte_dig hs6 rfl (by decide) (by decide) (by decide) fun h7 hs7 => ?_
  refine feedN (b := 49) (by decide) (by decide) (by decide) rfl rfl ?_
  refine byte_dig hs7 rfl (by decide) (by decide) (by decide) fun h8 hs8 => ?_
  unfold vt_Screen_Feed_l0
  rw [if_neg (by decide)]
  exact hk h8 hs8
theorem feed2 {h0 h : Heap} {s : Nat} {K : Heap → Prop} (hs : St h0 h s S8) (hk : ∀ h1, St h0 h1 s S10 → K h1) : vt_Screen_Feed (some ⟨s, 0, none⟩) (⟨#[109, 99]⟩ : ByteArray) K h := by
  unfold vt_Screen_Feed
  refine ⟨3, ?_⟩
  refine feedN (b := 109) (by decide) (by decide) (by decide) rfl rfl ?_
  refine byte_m hs rfl rfl fun h1 hs1 => ?_
  refine feedN (b := 99) (by decide) (by decide) (by decide) rfl rfl ?_
  refine byte_g hs1 rfl (by decide) (by decide) (by decide) (ground_w hs1 (.inl rfl) (.inr rfl) ?_ (by decide) (by decide) (by decide) fun h2 hs2 => ?_)
  · refine ⟨?_, ?_, ?_, ?_⟩ <;> decide
  unfold vt_Screen_Feed_l0
  rw [if_neg (by decide)]
  exact hk h2 hs2
end Go.Proofs.YthjdnhhifjpidaaDoor.M
