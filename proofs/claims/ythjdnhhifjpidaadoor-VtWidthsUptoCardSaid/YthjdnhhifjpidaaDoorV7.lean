import Derived.Test.YthjdnhhifjpidaaDoorV6
set_option linter.unusedVariables false
set_option linter.unusedSimpArgs false
set_option maxRecDepth 100000
namespace Go.Proofs.YthjdnhhifjpidaaDoor.M
open Go Go.Hp

theorem row_src {h : Heap} {r : Nat} {a b c : Gl} (hb : Blk h r (rowC a b c) 43) : srcAt h (some ⟨r, 0, none⟩) ([a, b, c].flatMap gf) := by
  refine cellsAt_blk hb _ 0 0 fun j v hj => ?_
  rw [← hj, ← Array.getElem?_toList]
  congr 1
  omega
theorem pic_step {h : Heap} {r n c : Nat} {ks : List Gl} {a : Option Addr} {o : List (Nat × Array Value × TypeId)} {g1 g2 g3 : Gl} {h0 : Heap} {pre l : List (Nat × Array Value × TypeId)} {K : Option Addr → Nat → Heap → Prop} (hb : Blk h r (rowC g1 g2 g3) 43)
    (hs : SlO gf 5 43 a n c ks o) (ho : Own h0 h (pre ++ (o ++ l))) (hn : n ≤ 100) (k : ∀ a' c' o' h', Own h0 h' (pre ++ (o' ++ l)) → SlO gf 5 43 a' (n + 3) c' (ks ++ [g1, g2, g3]) o' → K a' c' h') :
    appS h 43 48 [.string (⟨#[]⟩ : ByteArray), .int .i64 0, .int .i64 0, .int .i64 0, .int .i64 0] a n c (some ⟨r, 0, none⟩) 3 K := by
  refine ⟨[g1, g2, g3].flatMap gf, rfl, rfl, row_src hb, ?_⟩
  exact SlO.app (f := gf) (sz := 5) (js := [g1, g2, g3]) gf_len rfl hs ho (by simp only [List.length_cons, List.length_nil]; omega) (by simp only [List.length_cons, List.length_nil]; omega) k
theorem pic_sp {h0 h : Heap} {s : Nat} {S : Sc} {K : Int → Int → Option Addr → Nat → Nat → Int → Int → Bool → ByteArray → Heap → Prop} (hs : St h0 h s S)
    (hk : ∀ a c o h1 h2, Own h h2 (h1 ++ (o ++ [])) → SlO gf 5 43 a 6 c [S.a0, S.a1, S.a2, S.b0, S.b1, S.b2] o → K 3 2 a 6 c S.x S.y false ⟨#[]⟩ h2) : vt_Screen_Picture (some ⟨s, 0, none⟩) K h := by
  obtain ⟨rs, rc, ta, ga, gc, r0, r1, oR, oG, ho, q1, q2⟩ := hs
  unfold vt_Screen_Picture
  refine newB_o (Own.init h) fun b2 h3 t3 => nz_i ?_
  simp only [add0, Nat.zero_add]
  have ho3 := ho.gap t3.ext
  refine ldI0 ho3 rfl (ldI0 ho3 rfl (ldI0 ho3 rfl (ldI0 ho3 rfl (ldB0 ho3 rfl (ldS0 ho3 rfl ?_)))))
  refine newB_o t3 fun b30 h31 t31 => ?_
  have ho31 := ho.gap t31.ext
  refine ⟨⟨ho31.get0.cell 28 rfl, ho31.get0.cell 27 rfl, ho31.get0.cell 10 rfl, ho31.get0.cell 9 rfl, ho31.get0.cell 1 rfl, ho31.get0.cell 0 rfl⟩, ?_⟩
  refine st0 t31 rfl fun h39 t39 => ?_
  have ho39 := ho.gap t39.ext
  unfold vt_Screen_shown
  refine nz_i ?_
  simp only [add0, Nat.zero_add]
  refine ldB0 ho39 rfl ?_
  rw [if_neg (by decide)]
  refine nz_i (ldL0 ho39 rfl ⟨3, ?_⟩)
  have g39 := SlO.get rf_len q1 (pre := (s, _, 69) :: (r0, _, 43) :: [(r1, _, 43)]) (l := oG ++ []) (by simpa using ho39)
  obtain ⟨p, hp, d0⟩ := g39 0 (none, 0, 0) (by decide)
  obtain ⟨p', hp', d1⟩ := g39 1 (none, 0, 0) (by decide)
  obtain rfl : p = p' := Option.some.inj (hp.symm.trans hp')
  have d0 : cellH h39 (p.add ((0 : Int).toNat * 1)) = some (.slice (some ⟨r0, 0, none⟩) 3 3) := d0 0 _ rfl
  subst hp
  unfold vt_Screen_Picture_l0
  rw [if_pos (by decide)]
  refine nz_i ⟨by decide, by decide, ⟨_, _, _, d0, ?_⟩⟩
  refine ldL0 t39 rfl ?_
  refine pic_step (r := r0) (pre := (b30, _, 35) :: [(b2, _, 35)]) (l := []) ho39.get1 SlO.nil t39 (by omega) fun a1 c1 o1 h61 t61 z1 => ?_
  have t61 : Own h h61 ((b30, _, 35) :: (b2, _, 35) :: (o1 ++ [])) := t61
  refine st0 t61 rfl fun h64 t64 => ?_
  have ho64 := ho.gap t64.ext
  have g64 := SlO.get rf_len q1 (pre := (s, _, 69) :: (r0, _, 43) :: [(r1, _, 43)]) (l := oG ++ []) (by simpa using ho64)
  obtain ⟨p', hp', d1'⟩ := g64 1 (none, 0, 0) (by decide)
  obtain rfl : p = p' := Option.some.inj hp'
  have d1' : cellH h64 (p.add ((1 : Int).toNat * 1)) = some (.slice (some ⟨r1, 0, none⟩) 3 3) := d1' 0 _ rfl
  rw [show IntKind.wrap .i64 ((0 : Int) + 1) = 1 from by decide]
  unfold vt_Screen_Picture_l0
  rw [if_pos (by decide)]
  refine nz_i ⟨by decide, by decide, ⟨_, _, _, d1', ?_⟩⟩
  refine ldL0 t64 rfl ?_
  refine pic_step (r := r1) (pre := (b30, _, 35) :: [(b2, _, 35)]) (l := []) ho64.get2 z1 t64 (by omega) fun a2 c2 o2 h71 t71 z2 => ?_
  have t71 : Own h h71 ((b30, _, 35) :: (b2, _, 35) :: (o2 ++ [])) := t71
  refine st0 t71 rfl fun h74 t74 => ?_
  rw [show IntKind.wrap .i64 ((1 : Int) + 1) = 2 from by decide]
  unfold vt_Screen_Picture_l0
  rw [if_neg (by decide)]
  have t74 : Own h h74 ((b30, #[.int .i64 3, .int .i64 2, .slice a2 6 c2, .int .i64 S.x, .int .i64 S.y, .bool false, .string ⟨#[]⟩], 35) :: (b2, #[.int .i64 0, .int .i64 0, .slice none 0 0, .int .i64 0, .int .i64 0, .bool false, .string ⟨#[]⟩], 35) :: (o2 ++ [])) := t74
  refine ldI0 t74 rfl ?_
  refine ldI0 t74 rfl ?_
  refine ldL0 t74 rfl ?_
  refine ldI0 t74 rfl ?_
  refine ldI0 t74 rfl ?_
  refine ldB0 t74 rfl ?_
  refine ldS0 t74 rfl ?_
  refine st1 t74 rfl fun h95 t95 => ?_
  have t96 : Own h h95 ((b2, #[.int .i64 3, .int .i64 2, .slice a2 6 c2, .int .i64 S.x, .int .i64 S.y, .bool false, .string ⟨#[]⟩], 35) :: (o2 ++ [])) := t95.tail
  refine ldI0 t96 rfl ?_
  refine ldI0 t96 rfl ?_
  refine ldL0 t96 rfl ?_
  refine ldI0 t96 rfl ?_
  refine ldI0 t96 rfl ?_
  refine ldB0 t96 rfl ?_
  refine ldS0 t96 rfl ?_
  exact hk a2 c2 o2 [(b2, #[.int .i64 3, .int .i64 2, .slice a2 6 c2, .int .i64 S.x, .int .i64 S.y, .bool false, .string ⟨#[]⟩], 35)] h95 t96 z2
theorem works_sp {h : Heap} {K : Bool → Heap → Prop} (hK : ∀ h1, Ext h h1 → K true h1) : law19_works K h := by
  unfold law19_works
  refine new_sp fun s h1 hs1 => ?_
  rw [if_neg (by simp)]
  refine feed1 hs1 fun h2 hs2 => feed2 hs2 fun h3 hs3 => pic_sp hs3 fun a c o pre h4 ho4 z => ?_
  rw [if_pos (by decide)]
  have g := SlO.get gf_len z ho4
  obtain ⟨p, hp, e1⟩ := g 1 glB (by decide)
  obtain ⟨p', hp', e3⟩ := g 3 glB (by decide)
  obtain rfl : p = p' := Option.some.inj (hp.symm.trans hp')
  obtain ⟨p', hp', e5⟩ := g 5 glB (by decide)
  obtain rfl : p = p' := Option.some.inj (hp.symm.trans hp')
  subst hp
  refine nz_i ⟨by decide, by decide, fun h5 he5 => ?_⟩
  have f1 : ∀ j v, (gf (gl1 98 0))[j]? = some v → cellH h5 ((p.add (1 * 5)).add j) = some v := fun j v hv => he5.cell (e1 j v hv)
  have f3 : ∀ j v, (gf (gl1 99 2))[j]? = some v → cellH h5 ((p.add (3 * 5)).add j) = some v := fun j v hv => he5.cell (e3 j v hv)
  have f5 : ∀ j v, (gf glB)[j]? = some v → cellH h5 ((p.add (5 * 5)).add j) = some v := fun j v hv => he5.cell (e5 j v hv)
  refine ⟨_, f1 0 _ rfl, ⟨_, f1 1 _ rfl, ⟨_, f1 2 _ rfl, ⟨_, f1 3 _ rfl, ⟨_, f1 4 _ rfl, ?_⟩⟩⟩⟩⟩
  simp only []
  rw [if_pos (by decide +kernel)]
  refine ⟨by decide, by decide, ⟨_, f3 0 _ rfl, ⟨_, f3 1 _ rfl, ⟨_, f3 2 _ rfl, ⟨_, f3 3 _ rfl, ⟨_, f3 4 _ rfl, ?_⟩⟩⟩⟩⟩⟩
  simp only []
  rw [if_pos (by decide +kernel)]
  refine ⟨by decide, by decide, ⟨_, f5 0 _ rfl, ⟨_, f5 1 _ rfl, ⟨_, f5 2 _ rfl, ⟨_, f5 3 _ rfl, ⟨_, f5 4 _ rfl, ?_⟩⟩⟩⟩⟩⟩
  simp only []
  rw [show ((glB.1 == (⟨#[32]⟩ : ByteArray)) && ((glB.2.1 == 1) && ((glB.2.2.1 == 0) && ((glB.2.2.2.1 == 0) && (glB.2.2.2.2 == 0))))) = true from by decide +kernel]
  exact hK h5 ((hs3.ext.trans ho4.ext).trans he5)
theorem widths_sp {c : Int} {h : Heap} {K : Bool → Heap → Prop} (hK : ∀ h1, Ext h h1 → K true h1) : law19_VtWidths c K h := by
  unfold law19_VtWidths
  refine works_sp fun h1 he1 => ?_
  rw [if_pos rfl]
  refine width_sp fun h2 he2 => widthR_sp fun h3 he3 => ?_
  rw [decide_eq_true rfl]
  exact hK h3 ((he1.trans he2).trans he3)
end Go.Proofs.YthjdnhhifjpidaaDoor.M
