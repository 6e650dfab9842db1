import Derived.Test.YthjdnhhifjpidaaDoorV5
set_option linter.unusedVariables false
set_option linter.unusedSimpArgs false
set_option maxRecDepth 100000
namespace Go.Proofs.YthjdnhhifjpidaaDoor.M
open Go Go.Hp

theorem own_sw {h0 h : Heap} {x y : Nat × Array Value × TypeId} {l} (ho : Own h0 h (x :: y :: l)) : Own h0 h (y :: x :: l) := ho.perm (List.Perm.swap y x l)
theorem own_3 {h0 h : Heap} {a b x : Nat × Array Value × TypeId} {o l} (ho : Own h0 h (a :: b :: (o ++ (x :: l)))) : Own h0 h (x :: a :: b :: (o ++ l)) := ho.perm (by (classical exact List.perm_iff_count.2 (fun x => by simp only [List.count_append, List.count_cons, List.count_nil]; omega)))
theorem own_5 {h0 h : Heap} {a b c d x : Nat × Array Value × TypeId} {o l} (ho : Own h0 h ((x :: b :: c :: d :: [a]) ++ (o ++ l))) : Own h0 h (b :: c :: d :: a :: x :: (o ++ l)) := ho.perm (by (classical exact List.perm_iff_count.2 (fun x => by simp only [List.count_append, List.count_cons, List.count_nil]; omega)))
theorem gf_len (g : Gl) : (gf g).length = 5 := rfl
theorem fresh_sp {h0 h : Heap} {l} {K : Option Addr → Nat → Nat → Heap → Prop} (ho : Own h0 h l) (hk : ∀ r h1, Own h0 h1 ((r, rowC glB glB glB, 43) :: l) → K (some ⟨r, 0, none⟩) 3 3 h1) : vt_fresh 3 0 0 0 K h := by
  unfold vt_fresh
  refine newB_o ho fun b5 h6 ho6 => mk_o ho6 (by decide) (by decide) (by decide) fun b8 h9 ho9 => ⟨4, ?_⟩
  unfold vt_fresh_l0
  rw [if_pos (by decide)]
  repeat (first | ((with_reducible apply newB_o); (with_reducible assumption); intro _ _ _) | ((with_reducible apply gap_o); (with_reducible assumption); intro _ _) | ((with_reducible apply st0); (with_reducible assumption); rfl; intro _ _) | ((with_reducible apply st1); (with_reducible assumption); rfl; intro _ _) | ((with_reducible apply st2); (with_reducible assumption); rfl; intro _ _) | ((with_reducible apply ldI0); (with_reducible assumption); rfl) | ((with_reducible apply ldI1); (with_reducible assumption); rfl) | ((with_reducible apply ldI2); (with_reducible assumption); rfl) | ((with_reducible apply ldB0); (with_reducible assumption); rfl) | ((with_reducible apply ldB1); (with_reducible assumption); rfl) | ((with_reducible apply ldS0); (with_reducible assumption); rfl) | ((with_reducible apply ldS1); (with_reducible assumption); rfl) | (with_reducible refine and_i (Own.tab (by with_reducible assumption) (by with_reducible assumption)) ?_) | (with_reducible apply nz_i))
  refine ⟨by decide, by decide, ?_⟩
  simp only [add0, Nat.zero_add]
  repeat (first | ((with_reducible apply newB_o); (with_reducible assumption); intro _ _ _) | ((with_reducible apply gap_o); (with_reducible assumption); intro _ _) | ((with_reducible apply st0); (with_reducible assumption); rfl; intro _ _) | ((with_reducible apply st1); (with_reducible assumption); rfl; intro _ _) | ((with_reducible apply st2); (with_reducible assumption); rfl; intro _ _) | ((with_reducible apply ldI0); (with_reducible assumption); rfl) | ((with_reducible apply ldI1); (with_reducible assumption); rfl) | ((with_reducible apply ldI2); (with_reducible assumption); rfl) | ((with_reducible apply ldB0); (with_reducible assumption); rfl) | ((with_reducible apply ldB1); (with_reducible assumption); rfl) | ((with_reducible apply ldS0); (with_reducible assumption); rfl) | ((with_reducible apply ldS1); (with_reducible assumption); rfl) | (with_reducible refine and_i (Own.tab (by with_reducible assumption) (by with_reducible assumption)) ?_) | (with_reducible apply nz_i))
  rw [show IntKind.wrap .i64 ((0 : Int) + 1) = 1 from by decide]
  unfold vt_fresh_l0
  rw [if_pos (by decide)]
  repeat (first | ((with_reducible apply newB_o); (with_reducible assumption); intro _ _ _) | ((with_reducible apply gap_o); (with_reducible assumption); intro _ _) | ((with_reducible apply st0); (with_reducible assumption); rfl; intro _ _) | ((with_reducible apply st1); (with_reducible assumption); rfl; intro _ _) | ((with_reducible apply st2); (with_reducible assumption); rfl; intro _ _) | ((with_reducible apply ldI0); (with_reducible assumption); rfl) | ((with_reducible apply ldI1); (with_reducible assumption); rfl) | ((with_reducible apply ldI2); (with_reducible assumption); rfl) | ((with_reducible apply ldB0); (with_reducible assumption); rfl) | ((with_reducible apply ldB1); (with_reducible assumption); rfl) | ((with_reducible apply ldS0); (with_reducible assumption); rfl) | ((with_reducible apply ldS1); (with_reducible assumption); rfl) | (with_reducible refine and_i (Own.tab (by with_reducible assumption) (by with_reducible assumption)) ?_) | (with_reducible apply nz_i))
  refine ⟨by decide, by decide, ?_⟩
  simp only [add0, Nat.zero_add]
  repeat (first | ((with_reducible apply newB_o); (with_reducible assumption); intro _ _ _) | ((with_reducible apply gap_o); (with_reducible assumption); intro _ _) | ((with_reducible apply st0); (with_reducible assumption); rfl; intro _ _) | ((with_reducible apply st1); (with_reducible assumption); rfl; intro _ _) | ((with_reducible apply st2); (with_reducible assumption); rfl; intro _ _) | ((with_reducible apply ldI0); (with_reducible assumption); rfl) | ((with_reducible apply ldI1); (with_reducible assumption); rfl) | ((with_reducible apply ldI2); (with_reducible assumption); rfl) | ((with_reducible apply ldB0); (with_reducible assumption); rfl) | ((with_reducible apply ldB1); (with_reducible assumption); rfl) | ((with_reducible apply ldS0); (with_reducible assumption); rfl) | ((with_reducible apply ldS1); (with_reducible assumption); rfl) | (with_reducible refine and_i (Own.tab (by with_reducible assumption) (by with_reducible assumption)) ?_) | (with_reducible apply nz_i))
  rw [show IntKind.wrap .i64 ((1 : Int) + 1) = 2 from by decide]
  unfold vt_fresh_l0
  rw [if_pos (by decide)]
  repeat (first | ((with_reducible apply newB_o); (with_reducible assumption); intro _ _ _) | ((with_reducible apply gap_o); (with_reducible assumption); intro _ _) | ((with_reducible apply st0); (with_reducible assumption); rfl; intro _ _) | ((with_reducible apply st1); (with_reducible assumption); rfl; intro _ _) | ((with_reducible apply st2); (with_reducible assumption); rfl; intro _ _) | ((with_reducible apply ldI0); (with_reducible assumption); rfl) | ((with_reducible apply ldI1); (with_reducible assumption); rfl) | ((with_reducible apply ldI2); (with_reducible assumption); rfl) | ((with_reducible apply ldB0); (with_reducible assumption); rfl) | ((with_reducible apply ldB1); (with_reducible assumption); rfl) | ((with_reducible apply ldS0); (with_reducible assumption); rfl) | ((with_reducible apply ldS1); (with_reducible assumption); rfl) | (with_reducible refine and_i (Own.tab (by with_reducible assumption) (by with_reducible assumption)) ?_) | (with_reducible apply nz_i))
  refine ⟨by decide, by decide, ?_⟩
  simp only [add0, Nat.zero_add]
  repeat (first | ((with_reducible apply newB_o); (with_reducible assumption); intro _ _ _) | ((with_reducible apply gap_o); (with_reducible assumption); intro _ _) | ((with_reducible apply st0); (with_reducible assumption); rfl; intro _ _) | ((with_reducible apply st1); (with_reducible assumption); rfl; intro _ _) | ((with_reducible apply st2); (with_reducible assumption); rfl; intro _ _) | ((with_reducible apply ldI0); (with_reducible assumption); rfl) | ((with_reducible apply ldI1); (with_reducible assumption); rfl) | ((with_reducible apply ldI2); (with_reducible assumption); rfl) | ((with_reducible apply ldB0); (with_reducible assumption); rfl) | ((with_reducible apply ldB1); (with_reducible assumption); rfl) | ((with_reducible apply ldS0); (with_reducible assumption); rfl) | ((with_reducible apply ldS1); (with_reducible assumption); rfl) | (with_reducible refine and_i (Own.tab (by with_reducible assumption) (by with_reducible assumption)) ?_) | (with_reducible apply nz_i))
  rw [show IntKind.wrap .i64 ((2 : Int) + 1) = 3 from by decide]
  unfold vt_fresh_l0
  rw [if_neg (by decide)]
  have ho := ‹Own h0 _ ((b8, _, 43) :: (b5, _, 41) :: l)›
  exact hk b8 _ (ho.sub (List.Sublist.cons_cons _ (List.sublist_cons_self _ _)))
theorem sheet_sp {h0 h : Heap} {l} {K : Option Addr → Nat → Nat → Option Addr → Heap → Prop} (ho : Own h0 h l)
    (hk : ∀ rs rc r0 r1 oR h1, Own h0 h1 ((r0, rowC glB glB glB, 43) :: (r1, rowC glB glB glB, 43) :: (oR ++ l)) → SlO rf 1 72 rs 2 rc [(some ⟨r0, 0, none⟩, 3, 3), (some ⟨r1, 0, none⟩, 3, 3)] oR → K rs 2 rc none h1) : vt_sheetOf 3 2 0 0 0 K h := by
  unfold vt_sheetOf
  refine newB_o ho fun b6 h7 ho7 => newB_o ho7 fun b9 h10 ho10 => newB_o ho10 fun b12 h13 ho13 => ⟨3, ?_⟩
  unfold vt_sheetOf_l0
  rw [if_pos (by decide)]
  refine ldL0 ho13 rfl ?_
  repeat (first | ((with_reducible apply newB_o); (with_reducible assumption); intro _ _ _) | ((with_reducible apply gap_o); (with_reducible assumption); intro _ _) | ((with_reducible apply st0); (with_reducible assumption); rfl; intro _ _) | ((with_reducible apply st1); (with_reducible assumption); rfl; intro _ _) | ((with_reducible apply st2); (with_reducible assumption); rfl; intro _ _) | ((with_reducible apply ldI0); (with_reducible assumption); rfl) | ((with_reducible apply ldI1); (with_reducible assumption); rfl) | ((with_reducible apply ldI2); (with_reducible assumption); rfl) | ((with_reducible apply ldB0); (with_reducible assumption); rfl) | ((with_reducible apply ldB1); (with_reducible assumption); rfl) | ((with_reducible apply ldS0); (with_reducible assumption); rfl) | ((with_reducible apply ldS1); (with_reducible assumption); rfl) | (with_reducible refine and_i (Own.tab (by with_reducible assumption) (by with_reducible assumption)) ?_) | (with_reducible apply nz_i))
  refine fresh_sp ho13 fun r0 h14 ho14 => ?_
  refine ⟨ho14.get1.cell 0 rfl, gap_o ho14 fun h15 ho15 => ⟨ho15.get1.cell 0 rfl, ?_⟩⟩
  refine SlO.app (f := rf) (sz := 1) (js := [(some ⟨r0, 0, none⟩, 3, 3)]) (pre := (r0, rowC glB glB glB, 43) :: (b12, #[.slice none 0 0, .pointer none], 60) :: (b9, #[.slice none 0 0, .pointer none], 60) :: [(b6, #[.int .i64 0, .int .i64 0, .int .i64 0], 41)]) (l := l) rf_len rfl SlO.nil (by simpa using ho15) (by simp only [List.length_singleton]; omega) (by simp only [List.length_singleton]; omega) fun a1 c1 o1 h16 ho16 hs1 => ?_
  have ho16 : Own h0 h16 ((b12, #[.slice none 0 0, .pointer none], 60) :: (b9, #[.slice none 0 0, .pointer none], 60) :: (b6, #[.int .i64 0, .int .i64 0, .int .i64 0], 41) :: (r0, rowC glB glB glB, 43) :: (o1 ++ l)) := ho16.perm (by (classical exact List.perm_iff_count.2 (fun x => by simp only [List.count_append, List.count_cons, List.count_nil]; omega)))
  refine st0 ho16 rfl fun h17 ho17 => ?_
  rw [show IntKind.wrap .i64 ((0 : Int) + 1) = 1 from by decide]
  unfold vt_sheetOf_l0
  rw [if_pos (by decide)]
  refine ldL0 ho17 rfl ?_
  repeat (first | ((with_reducible apply newB_o); (with_reducible assumption); intro _ _ _) | ((with_reducible apply gap_o); (with_reducible assumption); intro _ _) | ((with_reducible apply st0); (with_reducible assumption); rfl; intro _ _) | ((with_reducible apply st1); (with_reducible assumption); rfl; intro _ _) | ((with_reducible apply st2); (with_reducible assumption); rfl; intro _ _) | ((with_reducible apply ldI0); (with_reducible assumption); rfl) | ((with_reducible apply ldI1); (with_reducible assumption); rfl) | ((with_reducible apply ldI2); (with_reducible assumption); rfl) | ((with_reducible apply ldB0); (with_reducible assumption); rfl) | ((with_reducible apply ldB1); (with_reducible assumption); rfl) | ((with_reducible apply ldS0); (with_reducible assumption); rfl) | ((with_reducible apply ldS1); (with_reducible assumption); rfl) | (with_reducible refine and_i (Own.tab (by with_reducible assumption) (by with_reducible assumption)) ?_) | (with_reducible apply nz_i))
  refine fresh_sp ho17 fun r1 h24 ho24 => ?_
  refine ⟨ho24.get1.cell 0 rfl, gap_o ho24 fun h25 ho25 => ⟨ho25.get1.cell 0 rfl, ?_⟩⟩
  refine SlO.app (f := rf) (sz := 1) (js := [(some ⟨r1, 0, none⟩, 3, 3)]) (pre := (r1, rowC glB glB glB, 43) :: (b12, _, 60) :: (b9, #[.slice none 0 0, .pointer none], 60) :: (b6, #[.int .i64 0, .int .i64 0, .int .i64 0], 41) :: [(r0, rowC glB glB glB, 43)]) (l := l) rf_len rfl hs1 (by simpa using ho25) (by simp only [List.length_singleton]; omega) (by simp only [List.length_singleton]; omega) fun a2 c2 o2 h26 ho26 hs2 => ?_
  have ho26 := own_5 ho26
  refine st0 ho26 rfl fun h27 ho27 => ?_
  rw [show IntKind.wrap .i64 ((1 : Int) + 1) = 2 from by decide]
  unfold vt_sheetOf_l0
  rw [if_neg (by decide)]
  refine ldL0 ho27 rfl (ldP0 ho27 rfl ?_)
  refine st1 ho27 rfl fun h28 ho28 => ?_
  have ho29 := ho28.tail
  refine ldL0 ho29 rfl (ldP0 ho29 rfl ?_)
  exact hk a2 c2 r0 r1 o2 h28 ho29.tail.tail hs2
theorem stops_sp {h0 h : Heap} {s : Nat} {cs : Array Value} {l} {K : Heap → Prop} (ho : Own h0 h ((s, cs, 69) :: l)) (hc : cs[0]? = some (.int .i64 3)) (hsz : Nat.ble (21 + 1) cs.size = true) (hc2 : ∀ v, (setL cs 21 [v])[0]? = some (.int .i64 3))
    (hk : ∀ b h1, Own h0 h1 ((s, setL cs 21 [.slice (some ⟨b, 0, none⟩) 3 3], 69) :: l) → K h1) : vt_Screen_stops (some ⟨s, 0, none⟩) K h := by
  unfold vt_Screen_stops
  refine nz_i ?_
  simp only [add0, Nat.zero_add]
  refine ldI0 ho hc ?_
  refine mk_o ho (by decide) (by decide) (by decide) fun b h1 ho1 => ?_
  have ho1 := own_sw ho1
  refine st0 ho1 hsz fun h2 ho2 => ⟨1, ?_⟩
  unfold vt_Screen_stops_l0
  refine ldI0 ho2 (hc2 _) ?_
  rw [if_neg (by decide)]
  exact hk b h2 (ho2.sub (List.Sublist.cons_cons _ (List.sublist_cons_self _ _)))
theorem reset_sp {h0 h : Heap} {s : Nat} {l} {K : Heap → Prop}
    (ho : Own h0 h ((s, (.int .i64 3 :: .int .i64 2 :: .int .i64 0 :: .slice none 0 0 :: .pointer none :: .slice none 0 0 :: .pointer none :: .bool false :: .slice none 0 0 :: .int .i64 0 :: .int .i64 0 :: .int .i64 0 :: .int .i64 0 :: .int .i64 0 :: .bool false :: .bool false :: .bool false :: .bool false :: .bool false :: .int .i64 0 :: .int .i64 0 :: .slice none 0 0 :: .bool false :: .bool false :: .bool false :: .bool false :: .bool false :: .bool false :: .string (⟨#[]⟩ : ByteArray) :: .int .i64 0 :: .string (⟨#[]⟩ : ByteArray) :: .int .i64 0 :: .slice none 0 0 :: .bool false :: .int .u8 0 :: .int .u8 0 :: .int .u8 0 :: .int .u8 0 :: .int .i64 0 :: .int .i64 0 :: .int .i32 0 :: [] : List Value).toArray, 69) :: l))
    (hk : ∀ h1, (∃ (rs : Option Addr) (rc : Nat) (ta : Option Addr) (r0 r1 : Nat) (oR : List (Nat × Array Value × TypeId)),
      Own h0 h1 ((s, scr rs rc ta 0 0 0 0 none 0 0 0, 69) :: (r0, rowC glB glB glB, 43) :: (r1, rowC glB glB glB, 43) :: (oR ++ l)) ∧ SlO rf 1 72 rs 2 rc [(some ⟨r0, 0, none⟩, 3, 3), (some ⟨r1, 0, none⟩, 3, 3)] oR) → K h1) : vt_Screen_reset (some ⟨s, 0, none⟩) K h := by
  unfold vt_Screen_reset
  refine nz_i ?_
  simp only [add0, Nat.zero_add]
  refine ldI0 ho rfl (ldI0 ho rfl (ldI0 ho rfl (ldL0 ho rfl (ldI0 ho rfl (ldS0 ho rfl (ldI0 ho rfl ?_))))))
  refine newB_o ho fun b31 h32 ho32 => ?_
  refine ldI0 ho32 rfl (ldI0 ho32 rfl (ldI0 ho32 rfl (ldL0 ho32 rfl (ldP0 ho32 rfl (ldL0 ho32 rfl (ldP0 ho32 rfl (ldB0 ho32 rfl (ldL0 ho32 rfl ?_))))))))
  refine ldI0 ho32 rfl (ldI0 ho32 rfl (ldI0 ho32 rfl (ldI0 ho32 rfl (ldI0 ho32 rfl (ldB0 ho32 rfl (ldB0 ho32 rfl (ldB0 ho32 rfl (ldB0 ho32 rfl (ldB0 ho32 rfl (ldI0 ho32 rfl (ldI0 ho32 rfl (ldL0 ho32 rfl ?_))))))))))))
  refine ldB0 ho32 rfl (ldB0 ho32 rfl (ldB0 ho32 rfl (ldB0 ho32 rfl (ldB0 ho32 rfl (ldB0 ho32 rfl (ldS0 ho32 rfl (ldI0 ho32 rfl (ldS0 ho32 rfl (ldI0 ho32 rfl (ldL0 ho32 rfl (ldB0 ho32 rfl ?_)))))))))))
  refine ldI0 ho32 rfl (ldI0 ho32 rfl (ldI0 ho32 rfl (ldI0 ho32 rfl (ldI0 ho32 rfl (ldI0 ho32 rfl (ldI0 ho32 rfl ?_))))))
  refine st1 ho32 rfl fun h116 ho116 => ?_
  have ho116 := ho116.tail
  refine ldI0 ho116 rfl (ldI0 ho116 rfl ?_)
  refine sheet_sp ho116 fun rs rc r0 r1 oR h125 ho125 hR => ?_
  have ho125 := own_3 ho125
  refine st0 ho125 rfl fun h128 ho128 => ?_
  refine stops_sp ho128 rfl rfl (fun v => rfl) fun b h129 ho129 => ?_
  exact hk h129 ⟨rs, rc, some ⟨b, 0, none⟩, r0, r1, oR, ho129, hR⟩
theorem new_sp {h : Heap} {K : Option Addr → Int → Heap → Prop} (hk : ∀ s h1, St h h1 s S0 → K (some ⟨s, 0, none⟩) 0 h1) : vt_New 3 2 0 K h := by
  unfold vt_New
  rw [if_neg (by decide)]
  refine gap_o (Own.init h) fun h1 ho1 => ?_
  unfold vt_New_j0
  rw [if_neg (by decide), if_neg (by decide), if_neg (by decide)]
  unfold vt_New_j1
  refine newB_o ho1 fun s h2 ho2 => ?_
  refine reset_sp (l := []) ho2 fun h3 ⟨rs, rc, ta, r0, r1, oR, ho3, hR⟩ => ?_
  exact hk s h3 ⟨rs, rc, ta, none, 0, r0, r1, oR, [], ho3, hR, SlO.nil⟩
end Go.Proofs.YthjdnhhifjpidaaDoor.M
