/-
  PRINTED BY A PROGRAM OF THIS CLAIM'S (gen.py): for each Go function a Lean function over memory, and the proof that the code comes to what it says.
-/
import Derived.Test.YthjdnhhifjpidaaDoorHpX
import Derived.Test.YthjdnhhifjpidaaDoorProg
set_option linter.unusedVariables false
set_option linter.unusedSimpArgs false
set_option maxRecDepth 100000
set_option maxHeartbeats 1000000
namespace Go.Proofs.YthjdnhhifjpidaaDoor.M
open Go Go.Hp
def tab1 : List (Int × Int) := [(128, 191),
  (160, 191),
  (128, 159),
  (144, 191),
  (128, 143),
  (0, 0),
  (0, 0),
  (0, 0),
  (0, 0),
  (0, 0),
  (0, 0),
  (0, 0),
  (0, 0),
  (0, 0),
  (0, 0),
  (0, 0)]
def tab1d : Int × Int := (128, 191)
def tab1f (r : Int × Int) : List Value := [.int .u8 r.1, .int .u8 r.2]
/- mullion/vt.within -/
def vt_within_l0 (K0 : Heap → Prop) (Kr : Bool → Heap → Prop) : Nat → Int → Option Addr → Nat → Nat → Int → Int → Heap → Prop
  | 0, _, _, _, _, _, _, _ => False
  | k + 1, y3, y4, y4n, y4c, y5, y6, h =>
  if y6 < y5 then
   nz y4 fun p10 =>
   0 ≤ y6 ∧
   y6 < (y4n : Int) ∧
   ldI h .i32 (p10.add ((y6).toNat * 2)) fun x11 =>
   ldI h .i32 ((p10.add ((y6).toNat * 2)).add 1) fun x13 =>
   if ((decide (x11 ≤ y3)) && (decide (y3 ≤ x13))) = true then
    gap h fun h20 =>
    Kr true h20
   else
   gap h fun h20 =>
   vt_within_l0 K0 Kr k y3 (some p10) y4n y4c y5 (IntKind.wrap .i64 (y6 + 1)) h20
  else
  K0  h
theorem vt_within_l0_ok {Q : Exit → Env → Heap → Prop} (K0 : Heap → Prop) (hK0 : ∀  (b : Env) (h : Heap), K0  h → Q (.exit 0) b h) (Kr : Bool → Heap → Prop) (hKr : ∀ (z32 : Bool) (b : Env) (h : Heap), Kr z32 h → Q .ret (upd b 4 (.bool z32)) h) : ∀ (k : Nat) (y3 : Int) (y4 : Option Addr) (y4n : Nat) (y4c : Nat) (y5 : Int) (y6 : Int) (b : Env) (h : Heap) (hM : vt_within_l0 K0 Kr k y3 y4 y4n y4c y5 y6 h), lwp Tryd.prog (partC Tryd.f18 [1, 0, 1, 0, 0]) 24 Q k (upd (upd (upd (upd b 0 (.int .i32 y3)) 7 (.slice y4 y4n y4c)) 8 (.int .i64 y5)) 9 (.int .i64 y6)) h := by
  intro k
  induction k with
  | zero => intro y3 y4 y4n y4c y5 y6 b h hM; exact (show False from hM).elim
  | succ k ih =>
    intro y3 y4 y4n y4c y5 y6 b h hM
    unfold vt_within_l0 at hM
    refine lwp_succ (cwp_part rfl ?_)
    refine cR ?_
    refine oS [(10, .bool (decide (y6 < y5)))] rfl ?_
    refine oE (cwp_seq ?_)
    refine cwp_condD (y6 < y5) (by kernel_rfl) (fun hc7 => ?_) (fun hc7 => ?_)
    · replace hM := ifT hc7 hM
      refine cwp_skip (thenE_n (cwp_seq (cwp_block (cR ?_))))
      obtain ⟨p10, rfl, hM⟩ := hM
      obtain ⟨hc8, hM⟩ := hM
      obtain ⟨hc9, hM⟩ := hM
      refine owp_rdG (.pointer (some (p10.add ((y6).toNat * 2)))) rfl (by kernel_rfl) (rd_ixS (P := Tryd.prog) (h := h) (t := 50) (el := 49) (sz := 2) (ad := p10) (len := y4n) (c := y4c) (k := .i64) (i := y6) (by kernel_rfl) (by kernel_rfl) hc8 hc9 (by kernel_rfl)) ?_
      obtain ⟨x11, hc12, hM⟩ := hM
      obtain ⟨x13, hc14, hM⟩ := hM
      refine owp_rdG (.agg #[.int .i32 x11, .int .i32 x13]) rfl (by kernel_rfl) (Eq.trans (b := (cellH h (p10.add ((y6).toNat * 2))).bind fun v15 => (cellH h ((p10.add ((y6).toNat * 2)).add 1)).bind fun v16 => some (.value (.agg #[v15, v16]))) (by kernel_rfl) ((bindE hc12 _).trans (bindE hc14 _))) ?_
      refine owp_hpG rfl (by kernel_rfl) (hpNew #[.int .i32 0, .int .i32 0] 49 (fun _ => by kernel_rfl) ?_)
      intro b17 h18 hN19
      refine owp_hpD rfl (by kernel_rfl) (hpStB b17 0 [.int .i32 x11, .int .i32 x13] (New.blk hN19) (fun _ => by kernel_rfl) rfl rfl ?_)
      intro h20 hP21
      have f22 : Blk h20 b17 #[.int .i32 x11, .int .i32 x13] 49 := hP21.blk
      refine oE (cR ?_)
      refine oS [(13, .int .i32 y3), (14, .pointer (some ⟨b17, 0, none⟩))] rfl ?_
      refine owp_rdG (.int .i32 x11) rfl (by kernel_rfl) (Eq.trans (b := (cellH h20 ⟨b17, 0, none⟩).bind fun v23 => some (.value v23)) (by kernel_rfl) (bindE (Blk.cell f22 0 (by kernel_rfl)) _)) ?_
      refine oS [(16, .bool (decide (x11 ≤ y3))), (17, .bool (decide (x11 ≤ y3)))] rfl ?_
      refine oB (decide (x11 ≤ y3)) 5 [16, 17] (fun b_ => [(18, iteV b_ (.int .i32 y3 : Value) undef), (19, iteV b_ (.pointer (some ⟨b17, 1, none⟩) : Value) undef), (20, iteV b_ (.int .i32 x13 : Value) undef), (21, iteV b_ (.bool (decide (y3 ≤ x13)) : Value) undef), (22, .bool (b_ && (decide (y3 ≤ x13))))]) rfl (fun hb25 hq26 => oS [(18, .int .i32 y3), (19, .pointer (some ⟨b17, 1, none⟩))] rfl (owp_rdG (.int .i32 x13) rfl (by kernel_rfl) (Eq.trans (b := (cellH h20 ⟨b17, 1, none⟩).bind fun v24 => some (.value v24)) (by kernel_rfl) (bindE (Blk.cell f22 1 (by kernel_rfl)) _)) (oS [(21, .bool (decide (y3 ≤ x13))), (22, .bool (decide (y3 ≤ x13)))] rfl (hq26)))) (fun hb27 hq28 => oS [(18, undef), (19, undef), (20, undef), (21, undef), (22, .bool false)] rfl (hq28)) ?_
      refine oE ?_
      refine cwp_condB ((decide (x11 ≤ y3)) && (decide (y3 ≤ x13))) (by kernel_rfl) (fun hc29 => ?_) (fun hc29 => ?_)
      · replace hM := ifT hc29 hM
        refine cR ?_
        refine oS [(4, .bool true)] rfl ?_
        refine oE (cwp_ret (blockE_r (thenE_r ?_)))
        replace hM := hM _ (Put.ext hP21 (New.ext hN19) (New.ge hN19 (Ext.refl _)))
        exact q_at (Q := Q .ret) 4 (.bool true) (by kernel_rfl) (hKr true _ _ hM)
      replace hM := ifF hc29 hM
      refine cwp_skip (blockE_n (thenE_n (cwp_region ?_)))
      refine oS [(23, .int .i64 (IntKind.wrap .i64 (y6 + 1))), (9, .int .i64 (IntKind.wrap .i64 (y6 + 1)))] rfl ?_
      refine owp_nil ?_
      replace hM := hM _ (Put.ext hP21 (New.ext hN19) (New.ge hN19 (Ext.refl _)))
      exact lwp_at 0 (.int .i32 y3) (by kernel_rfl) (lwp_at 7 (.slice (some p10) y4n y4c) (by kernel_rfl) (lwp_at 8 (.int .i64 y5) (by kernel_rfl) (lwp_at 9 (.int .i64 (IntKind.wrap .i64 (y6 + 1))) (by kernel_rfl) (ih y3 (some p10) y4n y4c y5 (IntKind.wrap .i64 (y6 + 1)) _ _ hM))))
    replace hM := ifF hc7 hM
    refine cwp_exit (thenE_x ?_)
    exact hK0  _ _ hM
def vt_within (a1 : Int) (a2 : Option Addr) (a2n : Nat) (a2c : Nat) (K : Bool → Heap → Prop) (h : Heap) : Prop :=
 ∃ k38, vt_within_l0
  (fun  h33 =>
      K false h33)
  (fun z35 h36 =>
      K z35 h36) k38 a1 a2 a2n a2c (a2n : Int) 0 h
theorem vt_within_ok (a1 : Int) (a2 : Option Addr) (a2n : Nat) (a2c : Nat) (K : Bool → Heap → Prop) (h : Heap) (hM : vt_within a1 a2 a2n a2c K h) : CallsH Tryd.prog 18 #[.int .i32 a1, .slice a2 a2n a2c] (fun v h' => ∃ (r39 : Bool), v = .bool r39 ∧ K r39 h') h := by
 unfold vt_within at hM
 refine callsH_intro (n := 24) Tryd.func18 rfl rfl (by kernel_rfl) ?_
 refine cR ?_
 refine oS [(4, .bool false)] rfl ?_
 refine oE (cwp_seq (cR ?_))
 refine oS [(7, .slice a2 a2n a2c), (8, .int .i64 (a2n : Int)), (9, .int .i64 0)] rfl ?_
 refine oE (cwp_block ?_)
 obtain ⟨k_, hM⟩ := hM
 refine cwp_loop k_ (lwp_of_part (fn := Tryd.f18) (p := [1, 0, 1, 0, 0]) (by kernel_rfl) (lwp_at 0 (.int .i32 a1) (by kernel_rfl) (lwp_at 7 (.slice a2 a2n a2c) (by kernel_rfl) (lwp_at 8 (.int .i64 (a2n : Int)) (by kernel_rfl) (lwp_at 9 (.int .i64 0) (by kernel_rfl) (vt_within_l0_ok _ ?_ _ ?_ k_ a1 a2 a2n a2c (a2n : Int) 0 _ _ hM))))))
 · intro  b34 h33 hM
   refine blockE_h (thenE_n (cR ?_))
   refine oS [(4, .bool false)] rfl ?_
   refine oE (cwp_ret ?_)
   exact ret_ (.bool false) (by kernel_rfl) ⟨_, rfl, hM⟩
 · intro z35 b37 h36 hM
   refine blockE_r (thenE_r ?_)
   exact ret_ (.bool z35) (by kernel_rfl) ⟨_, rfl, hM⟩
/- mullion/vt.Width -/
def vt_Width_j0 (Kn : Heap → Prop) (Kr : Int → Heap → Prop) (y9 : Int) (y10 : Option Addr) (y10n : Nat) (y10c : Nat) (y11 : Option Addr) (y11n : Nat) (y11c : Nat) (y12 : Bool) (h : Heap) : Prop :=
 if y12 = true then
  Kr (-1) h
 else
 vt_within y9 y10 y10n y10c (fun x16 h15 =>
  if x16 = true then
   Kr 0 h15
  else
  vt_within y9 y11 y11n y11c (fun x19 h18 =>
   if x19 = true then
    Kr 2 h18
   else
     Kn  h18) h15) h
theorem vt_Width_j0_ok {Q : Exit → Env → Heap → Prop} (Kn : Heap → Prop) (hKn : ∀  (b : Env) (h : Heap), Kn  h → Q .normal b h) (Kr : Int → Heap → Prop) (hKr : ∀ (z22 : Int) (b : Env) (h : Heap), Kr z22 h → Q .ret (upd b 2 (.int .i64 z22)) h) (y9 : Int) (y10 : Option Addr) (y10n : Nat) (y10c : Nat) (y11 : Option Addr) (y11n : Nat) (y11c : Nat) (y12 : Bool) (b : Env) (h : Heap) (hM : vt_Width_j0 Kn Kr y9 y10 y10n y10c y11 y11n y11c y12 h) : cwp Tryd.prog (partC Tryd.f6 [1, 1, 1, 0, 0, 1]) 52 Q (upd (upd (upd (upd b 0 (.int .i32 y9)) 3 (.slice y10 y10n y10c)) 4 (.slice y11 y11n y11c)) 27 (.bool y12)) h := by
  unfold vt_Width_j0 at hM
  refine cwp_part rfl ?_
  refine cwp_condB y12 (by kernel_rfl) (fun hc13 => ?_) (fun hc13 => ?_)
  · replace hM := ifT hc13 hM
    refine cR ?_
    refine oS [(2, .int .i64 (-1))] rfl ?_
    refine oE (cwp_ret ?_)
    exact q_at (Q := Q .ret) 2 (.int .i64 (-1)) (by kernel_rfl) (hKr (-1) _ _ hM)
  replace hM := ifF hc13 hM
  refine cR ?_
  refine oS [(45, .int .i32 y9), (46, .slice y10 y10n y10c)] rfl ?_
  refine owp_hpG rfl (by kernel_rfl) (hpCallE 18 #[.int .i32 y9, .slice y10 y10n y10c] (by kernel_rfl) (vt_within_ok y9 y10 y10n y10c _ h hM) ?_)
  clear hM
  rintro _ h15 ⟨x16, rfl, hM⟩
  refine oS [(44, .bool x16)] rfl ?_
  refine oE ?_
  refine cwp_condB x16 (by kernel_rfl) (fun hc17 => ?_) (fun hc17 => ?_)
  · replace hM := ifT hc17 hM
    refine cR ?_
    refine oS [(2, .int .i64 0)] rfl ?_
    refine oE (cwp_ret ?_)
    exact q_at (Q := Q .ret) 2 (.int .i64 0) (by kernel_rfl) (hKr 0 _ _ hM)
  replace hM := ifF hc17 hM
  refine cR ?_
  refine oS [(49, .int .i32 y9), (50, .slice y11 y11n y11c)] rfl ?_
  refine owp_hpG rfl (by kernel_rfl) (hpCallE 18 #[.int .i32 y9, .slice y11 y11n y11c] (by kernel_rfl) (vt_within_ok y9 y11 y11n y11c _ h15 hM) ?_)
  clear hM
  rintro _ h18 ⟨x19, rfl, hM⟩
  refine oS [(48, .bool x19)] rfl ?_
  refine oE ?_
  refine cwp_condB x19 (by kernel_rfl) (fun hc20 => ?_) (fun hc20 => ?_)
  · replace hM := ifT hc20 hM
    refine cR ?_
    refine oS [(2, .int .i64 2)] rfl ?_
    refine oE (cwp_ret ?_)
    exact q_at (Q := Q .ret) 2 (.int .i64 2) (by kernel_rfl) (hKr 2 _ _ hM)
  replace hM := ifF hc20 hM
  refine cwp_skip ?_
  exact hKn  _ _ hM
def vt_Width (a1 : Int) (K : Int → Heap → Prop) (h : Heap) : Prop :=
 newB h #[.int .i32 768, .int .i32 879, .int .i32 8203, .int .i32 8207, .int .i32 8232, .int .i32 8238, .int .i32 8400, .int .i32 8447, .int .i32 65024, .int .i32 65039, .int .i32 65279, .int .i32 65279] 49 fun b2 h3 =>
 newB h3 #[.int .i32 4352, .int .i32 4447, .int .i32 11904, .int .i32 12350, .int .i32 12353, .int .i32 13311, .int .i32 13312, .int .i32 19903, .int .i32 19968, .int .i32 40959, .int .i32 40960, .int .i32 42191, .int .i32 44032, .int .i32 55203, .int .i32 63744, .int .i32 64255, .int .i32 65072, .int .i32 65135, .int .i32 65280, .int .i32 65376, .int .i32 65504, .int .i32 65510, .int .i32 127744, .int .i32 128591, .int .i32 129280, .int .i32 129535, .int .i32 131072, .int .i32 262141] 49 fun b5 h6 =>
 if a1 < 32 then
  vt_Width_j0
   (fun  h23 =>
       K 1 h23)
   (fun z25 h26 =>
       K z25 h26) a1 (some ⟨b2, 0, none⟩) 6 6 (some ⟨b5, 0, none⟩) 14 14 (decide (a1 < 32)) h6
 else
 if ((decide (127 ≤ a1)) && (decide (a1 ≤ 159))) = true then
  vt_Width_j0
   (fun  h34 =>
       K 1 h34)
   (fun z36 h37 =>
       K z36 h37) a1 (some ⟨b2, 0, none⟩) 6 6 (some ⟨b5, 0, none⟩) 14 14 ((decide (127 ≤ a1)) && (decide (a1 ≤ 159))) h6
 else
 if ((decide (55296 ≤ a1)) && (decide (a1 ≤ 57343))) = true then
  vt_Width_j0
   (fun  h45 =>
       K 1 h45)
   (fun z47 h48 =>
       K z47 h48) a1 (some ⟨b2, 0, none⟩) 6 6 (some ⟨b5, 0, none⟩) 14 14 ((decide (55296 ≤ a1)) && (decide (a1 ≤ 57343))) h6
 else
 vt_Width_j0
  (fun  h51 =>
      K 1 h51)
  (fun z53 h54 =>
      K z53 h54) a1 (some ⟨b2, 0, none⟩) 6 6 (some ⟨b5, 0, none⟩) 14 14 (decide (1114111 < a1)) h6
theorem vt_Width_ok (a1 : Int) (K : Int → Heap → Prop) (h : Heap) (hM : vt_Width a1 K h) : CallsH Tryd.prog 6 #[.int .i32 a1] (fun v h' => ∃ (r57 : Int), v = .int .i64 r57 ∧ K r57 h') h := by
 unfold vt_Width at hM
 refine callsH_intro (n := 52) Tryd.func6 rfl rfl (by kernel_rfl) ?_
 refine cR ?_
 refine oS [(2, .int .i64 0)] rfl ?_
 refine oE (cR ?_)
 refine oS [(5, .agg #[.int .i32 768, .int .i32 879]), (6, .agg #[.int .i32 8203, .int .i32 8207]), (7, .agg #[.int .i32 8232, .int .i32 8238]), (8, .agg #[.int .i32 8400, .int .i32 8447]), (9, .agg #[.int .i32 65024, .int .i32 65039]), (10, .agg #[.int .i32 65279, .int .i32 65279])] rfl ?_
 refine owp_hpG rfl (by kernel_rfl) (hpNewS #[.int .i32 768, .int .i32 879, .int .i32 8203, .int .i32 8207, .int .i32 8232, .int .i32 8238, .int .i32 8400, .int .i32 8447, .int .i32 65024, .int .i32 65039, .int .i32 65279, .int .i32 65279] 49 6 (fun _ => by kernel_rfl) ?_)
 intro b2 h3 hN4
 replace hM := newB_of hN4 hM
 refine oS [(3, .slice (some ⟨b2, 0, none⟩) 6 6)] rfl ?_
 refine oE (cR ?_)
 refine oS [(12, .agg #[.int .i32 4352, .int .i32 4447]), (13, .agg #[.int .i32 11904, .int .i32 12350]), (14, .agg #[.int .i32 12353, .int .i32 13311]), (15, .agg #[.int .i32 13312, .int .i32 19903]), (16, .agg #[.int .i32 19968, .int .i32 40959]), (17, .agg #[.int .i32 40960, .int .i32 42191]), (18, .agg #[.int .i32 44032, .int .i32 55203]), (19, .agg #[.int .i32 63744, .int .i32 64255]), (20, .agg #[.int .i32 65072, .int .i32 65135]), (21, .agg #[.int .i32 65280, .int .i32 65376]), (22, .agg #[.int .i32 65504, .int .i32 65510]), (23, .agg #[.int .i32 127744, .int .i32 128591]), (24, .agg #[.int .i32 129280, .int .i32 129535]), (25, .agg #[.int .i32 131072, .int .i32 262141])] rfl ?_
 refine owp_hpG rfl (by kernel_rfl) (hpNewS #[.int .i32 4352, .int .i32 4447, .int .i32 11904, .int .i32 12350, .int .i32 12353, .int .i32 13311, .int .i32 13312, .int .i32 19903, .int .i32 19968, .int .i32 40959, .int .i32 40960, .int .i32 42191, .int .i32 44032, .int .i32 55203, .int .i32 63744, .int .i32 64255, .int .i32 65072, .int .i32 65135, .int .i32 65280, .int .i32 65376, .int .i32 65504, .int .i32 65510, .int .i32 127744, .int .i32 128591, .int .i32 129280, .int .i32 129535, .int .i32 131072, .int .i32 262141] 49 14 (fun _ => by kernel_rfl) ?_)
 intro b5 h6 hN7
 replace hM := newB_of hN7 hM
 refine oS [(4, .slice (some ⟨b5, 0, none⟩) 14 14)] rfl ?_
 refine oE (cwp_seq (cwp_block (cwp_seq (cR ?_))))
 refine oS [(28, .int .i32 a1), (29, .bool (decide (a1 < 32))), (27, .bool (decide (a1 < 32)))] rfl ?_
 refine oE ?_
 refine cwp_condD (a1 < 32) (by kernel_rfl) (fun hc8 => ?_) (fun hc8 => ?_)
 · replace hM := ifT hc8 hM
   refine cwp_skip (thenE_n ?_)
   refine cwp_of_part (fn := Tryd.f6) (p := [1, 1, 1, 0, 0, 1]) (by kernel_rfl) (cwp_at 0 (.int .i32 a1) (by kernel_rfl) (cwp_at 3 (.slice (some ⟨b2, 0, none⟩) 6 6) (by kernel_rfl) (cwp_at 4 (.slice (some ⟨b5, 0, none⟩) 14 14) (by kernel_rfl) (cwp_at 27 (.bool (decide (a1 < 32))) (by kernel_rfl) (vt_Width_j0_ok _ ?_ _ ?_ a1 (some ⟨b2, 0, none⟩) 6 6 (some ⟨b5, 0, none⟩) 14 14 (decide (a1 < 32)) _ _ hM)))))
   · intro  b24 h23 hM
     refine blockE_n (thenE_n (cR ?_))
     refine oS [(2, .int .i64 1)] rfl ?_
     refine oE (cwp_ret ?_)
     exact ret_ (.int .i64 1) (by kernel_rfl) ⟨_, rfl, hM⟩
   · intro z25 b27 h26 hM
     refine blockE_r (thenE_r ?_)
     exact ret_ (.int .i64 z25) (by kernel_rfl) ⟨_, rfl, hM⟩
 replace hM := ifF hc8 hM
 refine cR ?_
 refine oS [(30, .int .i32 a1), (31, .bool (decide (127 ≤ a1))), (32, .bool (decide (127 ≤ a1)))] rfl ?_
 refine oB (decide (127 ≤ a1)) 3 [31, 32] (fun b_ => [(33, iteV b_ (.int .i32 a1 : Value) undef), (34, iteV b_ (.bool (decide (a1 ≤ 159)) : Value) undef), (35, .bool (b_ && (decide (a1 ≤ 159))))]) rfl (fun hb29 hq30 => oS [(33, .int .i32 a1), (34, .bool (decide (a1 ≤ 159))), (35, .bool (decide (a1 ≤ 159)))] rfl (hq30)) (fun hb31 hq32 => oS [(33, undef), (34, undef), (35, .bool false)] rfl (hq32)) ?_
 refine oS [(27, .bool ((decide (127 ≤ a1)) && (decide (a1 ≤ 159))))] rfl ?_
 refine oE ?_
 refine cwp_condB ((decide (127 ≤ a1)) && (decide (a1 ≤ 159))) (by kernel_rfl) (fun hc33 => ?_) (fun hc33 => ?_)
 · replace hM := ifT hc33 hM
   refine cwp_skip (thenE_n ?_)
   refine cwp_of_part (fn := Tryd.f6) (p := [1, 1, 1, 0, 0, 1]) (by kernel_rfl) (cwp_at 0 (.int .i32 a1) (by kernel_rfl) (cwp_at 3 (.slice (some ⟨b2, 0, none⟩) 6 6) (by kernel_rfl) (cwp_at 4 (.slice (some ⟨b5, 0, none⟩) 14 14) (by kernel_rfl) (cwp_at 27 (.bool ((decide (127 ≤ a1)) && (decide (a1 ≤ 159)))) (by kernel_rfl) (vt_Width_j0_ok _ ?_ _ ?_ a1 (some ⟨b2, 0, none⟩) 6 6 (some ⟨b5, 0, none⟩) 14 14 ((decide (127 ≤ a1)) && (decide (a1 ≤ 159))) _ _ hM)))))
   · intro  b35 h34 hM
     refine blockE_n (thenE_n (cR ?_))
     refine oS [(2, .int .i64 1)] rfl ?_
     refine oE (cwp_ret ?_)
     exact ret_ (.int .i64 1) (by kernel_rfl) ⟨_, rfl, hM⟩
   · intro z36 b38 h37 hM
     refine blockE_r (thenE_r ?_)
     exact ret_ (.int .i64 z36) (by kernel_rfl) ⟨_, rfl, hM⟩
 replace hM := ifF hc33 hM
 refine cR ?_
 refine oS [(36, .int .i32 a1), (37, .bool (decide (55296 ≤ a1))), (38, .bool (decide (55296 ≤ a1)))] rfl ?_
 refine oB (decide (55296 ≤ a1)) 3 [37, 38] (fun b_ => [(39, iteV b_ (.int .i32 a1 : Value) undef), (40, iteV b_ (.bool (decide (a1 ≤ 57343)) : Value) undef), (41, .bool (b_ && (decide (a1 ≤ 57343))))]) rfl (fun hb40 hq41 => oS [(39, .int .i32 a1), (40, .bool (decide (a1 ≤ 57343))), (41, .bool (decide (a1 ≤ 57343)))] rfl (hq41)) (fun hb42 hq43 => oS [(39, undef), (40, undef), (41, .bool false)] rfl (hq43)) ?_
 refine oS [(27, .bool ((decide (55296 ≤ a1)) && (decide (a1 ≤ 57343))))] rfl ?_
 refine oE ?_
 refine cwp_condB ((decide (55296 ≤ a1)) && (decide (a1 ≤ 57343))) (by kernel_rfl) (fun hc44 => ?_) (fun hc44 => ?_)
 · replace hM := ifT hc44 hM
   refine cwp_skip (thenE_n ?_)
   refine cwp_of_part (fn := Tryd.f6) (p := [1, 1, 1, 0, 0, 1]) (by kernel_rfl) (cwp_at 0 (.int .i32 a1) (by kernel_rfl) (cwp_at 3 (.slice (some ⟨b2, 0, none⟩) 6 6) (by kernel_rfl) (cwp_at 4 (.slice (some ⟨b5, 0, none⟩) 14 14) (by kernel_rfl) (cwp_at 27 (.bool ((decide (55296 ≤ a1)) && (decide (a1 ≤ 57343)))) (by kernel_rfl) (vt_Width_j0_ok _ ?_ _ ?_ a1 (some ⟨b2, 0, none⟩) 6 6 (some ⟨b5, 0, none⟩) 14 14 ((decide (55296 ≤ a1)) && (decide (a1 ≤ 57343))) _ _ hM)))))
   · intro  b46 h45 hM
     refine blockE_n (thenE_n (cR ?_))
     refine oS [(2, .int .i64 1)] rfl ?_
     refine oE (cwp_ret ?_)
     exact ret_ (.int .i64 1) (by kernel_rfl) ⟨_, rfl, hM⟩
   · intro z47 b49 h48 hM
     refine blockE_r (thenE_r ?_)
     exact ret_ (.int .i64 z47) (by kernel_rfl) ⟨_, rfl, hM⟩
 replace hM := ifF hc44 hM
 refine cwp_region ?_
 refine oS [(42, .int .i32 a1), (43, .bool (decide (1114111 < a1))), (27, .bool (decide (1114111 < a1)))] rfl ?_
 refine oE ?_
 refine cwp_of_part (fn := Tryd.f6) (p := [1, 1, 1, 0, 0, 1]) (by kernel_rfl) (cwp_at 0 (.int .i32 a1) (by kernel_rfl) (cwp_at 3 (.slice (some ⟨b2, 0, none⟩) 6 6) (by kernel_rfl) (cwp_at 4 (.slice (some ⟨b5, 0, none⟩) 14 14) (by kernel_rfl) (cwp_at 27 (.bool (decide (1114111 < a1))) (by kernel_rfl) (vt_Width_j0_ok _ ?_ _ ?_ a1 (some ⟨b2, 0, none⟩) 6 6 (some ⟨b5, 0, none⟩) 14 14 (decide (1114111 < a1)) _ _ hM)))))
 · intro  b52 h51 hM
   refine blockE_n (thenE_n (cR ?_))
   refine oS [(2, .int .i64 1)] rfl ?_
   refine oE (cwp_ret ?_)
   exact ret_ (.int .i64 1) (by kernel_rfl) ⟨_, rfl, hM⟩
 · intro z53 b55 h54 hM
   refine blockE_r (thenE_r ?_)
   exact ret_ (.int .i64 z53) (by kernel_rfl) ⟨_, rfl, hM⟩
/- (*mullion/vt.Screen).feed -/
def vt_Screen_feed (a1 : Option Addr) (K : Heap → Prop) (h : Heap) : Prop :=
 nz a1 fun p2 =>
 ldI h .i64 (p2.add 10) fun x3 =>
 ldI h .i64 (p2.add 20) fun x7 =>
 if x3 = x7 then
  ldI h .i64 (p2.add 19) fun x12 =>
  ldI h .i64 (p2.add 20) fun x16 =>
  False
 else
 ldI h .i64 (p2.add 10) fun x20 =>
 ldI h .i64 (p2.add 1) fun x24 =>
 if x20 < (IntKind.wrap .i64 (x24 - 1)) then
  ldI h .i64 (p2.add 10) fun x29 =>
  stN (p2.add 10) [.int .i64 (IntKind.wrap .i64 (x29 + 1))] 0 h fun h32 =>
  stN (p2.add 18) [.bool false] 0 h32 fun h33 =>
  K h33
 else
 stN (p2.add 18) [.bool false] 0 h fun h34 =>
 K h34
theorem vt_Screen_feed_ok (a1 : Option Addr) (K : Heap → Prop) (h : Heap) (hM : vt_Screen_feed a1 K h) : CallsH Tryd.prog 46 #[.pointer a1] (fun v h' => v = .tuple #[] ∧ K h') h := by
 unfold vt_Screen_feed at hM
 refine callsH_intro (n := 46) Tryd.func46 rfl rfl (by kernel_rfl) ?_
 refine cwp_seq (cwp_seq ?_)
 refine cwp_draw (by kernel_rfl) ?_
 refine k_pure (i := 0) [1, 2, 3, 4, 9] (.pointer a1) (by kernel_rfl) rfl rfl (by kernel_rfl) (fun h' => by kernel_rfl) (by kernel_rfl) ?_
 obtain ⟨p2, rfl, hM⟩ := hM
 refine k_pure (i := 1) [2, 3, 4, 9] (.pointer (some p2)) (by kernel_rfl) rfl rfl (by kernel_rfl) (fun h' => by kernel_rfl) (by kernel_rfl) ?_
 refine k_pure (i := 2) [3, 4, 9] (.pointer (some (p2.add 9))) (by kernel_rfl) rfl rfl (by kernel_rfl) (fun h' => by kernel_rfl) (by kernel_rfl) ?_
 refine k_pure (i := 3) [4, 9] (.pointer (some (p2.add 10))) (by kernel_rfl) rfl rfl (by kernel_rfl) (fun h' => by kernel_rfl) (by kernel_rfl) ?_
 obtain ⟨x3, hc4, hM⟩ := hM
 refine k_load (i := 4) (.int .i64 x3) (fun h' => cellH h' (p2.add 10) = some (.int .i64 x3) ∧ True) [9] [] (by kernel_rfl) (by kernel_rfl) rfl rfl (by kernel_rfl) (fun h' hS => Eq.trans (b := (cellH h' (p2.add 10)).bind fun v6 => some (.value v6)) (by kernel_rfl) (bindE hS.1 _)) ⟨hc4, trivial⟩ (by kernel_rfl) ?_
 refine k_pure (i := 5) [6, 7, 8, 9] (.pointer (some p2)) (by kernel_rfl) rfl rfl (by kernel_rfl) (fun h' => by kernel_rfl) (by kernel_rfl) ?_
 refine k_pure (i := 6) [7, 8, 9] (.pointer (some p2)) (by kernel_rfl) rfl rfl (by kernel_rfl) (fun h' => by kernel_rfl) (by kernel_rfl) ?_
 refine k_pure (i := 7) [8, 9] (.pointer (some (p2.add 20))) (by kernel_rfl) rfl rfl (by kernel_rfl) (fun h' => by kernel_rfl) (by kernel_rfl) ?_
 obtain ⟨x7, hc8, hM⟩ := hM
 refine k_load (i := 8) (.int .i64 x7) (fun h' => cellH h' (p2.add 20) = some (.int .i64 x7) ∧ True) [9] [] (by kernel_rfl) (by kernel_rfl) rfl rfl (by kernel_rfl) (fun h' hS => Eq.trans (b := (cellH h' (p2.add 20)).bind fun v10 => some (.value v10)) (by kernel_rfl) (bindE hS.1 _)) ⟨hc8, trivial⟩ (by kernel_rfl) ?_
 refine k_pure (i := 9) [] (.bool (decide (x3 = x7))) (by kernel_rfl) rfl rfl (by kernel_rfl) (fun h' => by kernel_rfl) (by kernel_rfl) ?_
 refine k_done (by kernel_rfl) ?_
 refine thenE_n ?_
 refine cwp_condD (x3 = x7) (by kernel_rfl) (fun hc11 => ?_) (fun hc11 => ?_)
 · replace hM := ifT hc11 hM
   refine cwp_draw (by kernel_rfl) ?_
   refine k_pure (i := 0) [9] (.pointer (some p2)) (by kernel_rfl) rfl rfl (by kernel_rfl) (fun h' => by kernel_rfl) (by kernel_rfl) ?_
   refine k_pure (i := 1) [2, 3, 4, 9] (.pointer (some p2)) (by kernel_rfl) rfl rfl (by kernel_rfl) (fun h' => by kernel_rfl) (by kernel_rfl) ?_
   refine k_pure (i := 2) [3, 4, 9] (.pointer (some p2)) (by kernel_rfl) rfl rfl (by kernel_rfl) (fun h' => by kernel_rfl) (by kernel_rfl) ?_
   refine k_pure (i := 3) [4, 9] (.pointer (some (p2.add 19))) (by kernel_rfl) rfl rfl (by kernel_rfl) (fun h' => by kernel_rfl) (by kernel_rfl) ?_
   obtain ⟨x12, hc13, hM⟩ := hM
   refine k_load (i := 4) (.int .i64 x12) (fun h' => cellH h' (p2.add 19) = some (.int .i64 x12) ∧ True) [9] [9] (by kernel_rfl) (by kernel_rfl) rfl rfl (by kernel_rfl) (fun h' hS => Eq.trans (b := (cellH h' (p2.add 19)).bind fun v15 => some (.value v15)) (by kernel_rfl) (bindE hS.1 _)) ⟨hc13, trivial⟩ (by kernel_rfl) ?_
   refine k_pure (i := 5) [6, 7, 8, 9] (.pointer (some p2)) (by kernel_rfl) rfl rfl (by kernel_rfl) (fun h' => by kernel_rfl) (by kernel_rfl) ?_
   refine k_pure (i := 6) [7, 8, 9] (.pointer (some p2)) (by kernel_rfl) rfl rfl (by kernel_rfl) (fun h' => by kernel_rfl) (by kernel_rfl) ?_
   refine k_pure (i := 7) [8, 9] (.pointer (some (p2.add 20))) (by kernel_rfl) rfl rfl (by kernel_rfl) (fun h' => by kernel_rfl) (by kernel_rfl) ?_
   obtain ⟨x16, hc17, hM⟩ := hM
   refine k_load (i := 8) (.int .i64 x16) (fun h' => cellH h' (p2.add 20) = some (.int .i64 x16) ∧ True) [9] [9] (by kernel_rfl) (by kernel_rfl) rfl rfl (by kernel_rfl) (fun h' hS => Eq.trans (b := (cellH h' (p2.add 20)).bind fun v19 => some (.value v19)) (by kernel_rfl) (bindE hS.1 _)) ⟨hc17, trivial⟩ (by kernel_rfl) ?_
   exact hM.elim
 replace hM := ifF hc11 hM
 refine cwp_seq ?_
 refine cwp_draw (by kernel_rfl) ?_
 refine k_pure (i := 0) [1, 2, 3, 4, 10] (.pointer (some p2)) (by kernel_rfl) rfl rfl (by kernel_rfl) (fun h' => by kernel_rfl) (by kernel_rfl) ?_
 refine k_pure (i := 1) [2, 3, 4, 10] (.pointer (some p2)) (by kernel_rfl) rfl rfl (by kernel_rfl) (fun h' => by kernel_rfl) (by kernel_rfl) ?_
 refine k_pure (i := 2) [3, 4, 10] (.pointer (some (p2.add 9))) (by kernel_rfl) rfl rfl (by kernel_rfl) (fun h' => by kernel_rfl) (by kernel_rfl) ?_
 refine k_pure (i := 3) [4, 10] (.pointer (some (p2.add 10))) (by kernel_rfl) rfl rfl (by kernel_rfl) (fun h' => by kernel_rfl) (by kernel_rfl) ?_
 obtain ⟨x20, hc21, hM⟩ := hM
 refine k_load (i := 4) (.int .i64 x20) (fun h' => cellH h' (p2.add 10) = some (.int .i64 x20) ∧ True) [10] [] (by kernel_rfl) (by kernel_rfl) rfl rfl (by kernel_rfl) (fun h' hS => Eq.trans (b := (cellH h' (p2.add 10)).bind fun v23 => some (.value v23)) (by kernel_rfl) (bindE hS.1 _)) ⟨hc21, trivial⟩ (by kernel_rfl) ?_
 refine k_pure (i := 5) [6, 7, 8, 9, 10] (.pointer (some p2)) (by kernel_rfl) rfl rfl (by kernel_rfl) (fun h' => by kernel_rfl) (by kernel_rfl) ?_
 refine k_pure (i := 6) [7, 8, 9, 10] (.pointer (some p2)) (by kernel_rfl) rfl rfl (by kernel_rfl) (fun h' => by kernel_rfl) (by kernel_rfl) ?_
 refine k_pure (i := 7) [8, 9, 10] (.pointer (some (p2.add 1))) (by kernel_rfl) rfl rfl (by kernel_rfl) (fun h' => by kernel_rfl) (by kernel_rfl) ?_
 obtain ⟨x24, hc25, hM⟩ := hM
 refine k_load (i := 8) (.int .i64 x24) (fun h' => cellH h' (p2.add 1) = some (.int .i64 x24) ∧ True) [9, 10] [] (by kernel_rfl) (by kernel_rfl) rfl rfl (by kernel_rfl) (fun h' hS => Eq.trans (b := (cellH h' (p2.add 1)).bind fun v27 => some (.value v27)) (by kernel_rfl) (bindE hS.1 _)) ⟨hc25, trivial⟩ (by kernel_rfl) ?_
 refine k_pure (i := 9) [10] (.int .i64 (IntKind.wrap .i64 (x24 - 1))) (by kernel_rfl) rfl rfl (by kernel_rfl) (fun h' => by kernel_rfl) (by kernel_rfl) ?_
 refine k_pure (i := 10) [] (.bool (decide (x20 < (IntKind.wrap .i64 (x24 - 1))))) (by kernel_rfl) rfl rfl (by kernel_rfl) (fun h' => by kernel_rfl) (by kernel_rfl) ?_
 refine k_done (by kernel_rfl) ?_
 refine thenE_n ?_
 refine cwp_condD (x20 < (IntKind.wrap .i64 (x24 - 1))) (by kernel_rfl) (fun hc28 => ?_) (fun hc28 => ?_)
 · replace hM := ifT hc28 hM
   refine cwp_region ?_
   refine oS [(33, .pointer (some p2)), (34, .pointer (some p2)), (35, .pointer (some (p2.add 9))), (36, .pointer (some (p2.add 10)))] rfl ?_
   obtain ⟨x29, hc30, hM⟩ := hM
   refine owp_rdG (.int .i64 x29) rfl (by kernel_rfl) (Eq.trans (b := (cellH h (p2.add 10)).bind fun v31 => some (.value v31)) (by kernel_rfl) (bindE hc30 _)) ?_
   refine oS [(38, .int .i64 (IntKind.wrap .i64 (x29 + 1))), (39, .pointer (some p2)), (40, .pointer (some (p2.add 9))), (41, .pointer (some (p2.add 10)))] rfl ?_
   refine owp_hpD rfl (by kernel_rfl) (hpSt (p2.add 10) [.int .i64 (IntKind.wrap .i64 (x29 + 1))] (fun _ => by kernel_rfl) (by kernel_rfl) hM ?_)
   clear hM
   intro h32 hM
   refine oE (cwp_region ?_)
   refine oS [(42, .pointer (some p2)), (43, .pointer (some p2)), (44, .pointer (some (p2.add 9))), (45, .pointer (some (p2.add 18)))] rfl ?_
   refine owp_hpD rfl (by kernel_rfl) (hpSt (p2.add 18) [.bool false] (fun _ => by kernel_rfl) (by kernel_rfl) hM ?_)
   clear hM
   intro h33 hM
   refine owp_nil ?_
   exact end_ (.tuple #[]) (by kernel_rfl) ⟨rfl, hM⟩
 replace hM := ifF hc28 hM
 refine cwp_skip (thenE_n (cwp_region ?_))
 refine oS [(42, .pointer (some p2)), (43, .pointer (some p2)), (44, .pointer (some (p2.add 9))), (45, .pointer (some (p2.add 18)))] rfl ?_
 refine owp_hpD rfl (by kernel_rfl) (hpSt (p2.add 18) [.bool false] (fun _ => by kernel_rfl) (by kernel_rfl) hM ?_)
 clear hM
 intro h34 hM
 refine owp_nil ?_
 exact end_ (.tuple #[]) (by kernel_rfl) ⟨rfl, hM⟩
/- (*mullion/vt.Screen).shown -/
def vt_Screen_shown (a1 : Option Addr) (K : Option Addr → Heap → Prop) (h : Heap) : Prop :=
 nz a1 fun p2 =>
 ldB h (p2.add 7) fun x3 =>
 if x3 = true then
  K (some (p2.add 5)) h
 else
 K (some (p2.add 3)) h
theorem vt_Screen_shown_ok (a1 : Option Addr) (K : Option Addr → Heap → Prop) (h : Heap) (hM : vt_Screen_shown a1 K h) : CallsH Tryd.prog 22 #[.pointer a1] (fun v h' => ∃ (r7 : Option Addr), v = .pointer r7 ∧ K r7 h') h := by
 unfold vt_Screen_shown at hM
 refine callsH_intro (n := 13) Tryd.func22 rfl rfl (by kernel_rfl) ?_
 refine cR ?_
 refine oS [(2, .pointer none)] rfl ?_
 refine oE (cwp_seq (cR ?_))
 refine oS [(3, .pointer a1)] rfl ?_
 obtain ⟨p2, rfl, hM⟩ := hM
 refine owp_rdG (.pointer (some p2)) rfl (by kernel_rfl) (by kernel_rfl) ?_
 refine oS [(5, .pointer (some (p2.add 7)))] rfl ?_
 obtain ⟨x3, hc4, hM⟩ := hM
 refine owp_rdG (.bool x3) rfl (by kernel_rfl) (Eq.trans (b := (cellH h (p2.add 7)).bind fun v5 => some (.value v5)) (by kernel_rfl) (bindE hc4 _)) ?_
 refine oE ?_
 refine cwp_condB x3 (by kernel_rfl) (fun hc6 => ?_) (fun hc6 => ?_)
 · replace hM := ifT hc6 hM
   refine cR ?_
   refine oS [(7, .pointer (some p2)), (8, .pointer (some p2)), (9, .pointer (some (p2.add 5))), (2, .pointer (some (p2.add 5)))] rfl ?_
   refine oE (cwp_ret (thenE_r ?_))
   exact ret_ (.pointer (some (p2.add 5))) (by kernel_rfl) ⟨_, rfl, hM⟩
 replace hM := ifF hc6 hM
 refine cwp_skip (thenE_n (cR ?_))
 refine oS [(10, .pointer (some p2)), (11, .pointer (some p2)), (12, .pointer (some (p2.add 3))), (2, .pointer (some (p2.add 3)))] rfl ?_
 refine oE (cwp_ret ?_)
 exact ret_ (.pointer (some (p2.add 3))) (by kernel_rfl) ⟨_, rfl, hM⟩
/- (*mullion/vt.Screen).row -/
def vt_Screen_row (a1 : Option Addr) (K : Option Addr → Nat → Nat → Heap → Prop) (h : Heap) : Prop :=
 nz a1 fun p2 =>
 ldI h .i64 (p2.add 10) fun x3 =>
 vt_Screen_shown (some p2) (fun x8 h7 =>
  (cellH h7 (p2.add 10) = some (.int .i64 x3)) ∧
  nz x8 fun p10 =>
  ldL h7 p10 fun x11 x11n x11c =>
  nz x11 fun p17 =>
  0 ≤ x3 ∧
  x3 < (x11n : Int) ∧
  ldL h7 (p17.add ((x3).toNat * 1)) fun x18 x18n x18c =>
   K x18 x18n x18c h7) h
theorem vt_Screen_row_ok (a1 : Option Addr) (K : Option Addr → Nat → Nat → Heap → Prop) (h : Heap) (hM : vt_Screen_row a1 K h) : CallsH Tryd.prog 48 #[.pointer a1] (fun v h' => ∃ (r22 : Option Addr) (r22n : Nat) (r22c : Nat), v = .slice r22 r22n r22c ∧ K r22 r22n r22c h') h := by
 unfold vt_Screen_row at hM
 refine callsH_intro (n := 15) Tryd.func48 rfl rfl (by kernel_rfl) ?_
 refine cR ?_
 refine oS [(2, .slice none 0 0)] rfl ?_
 refine oE (cwp_seq ?_)
 refine cwp_draw (by kernel_rfl) ?_
 refine k_pure (i := 0) [1, 2, 3, 4, 10, 11, 12] (.pointer a1) (by kernel_rfl) rfl rfl (by kernel_rfl) (fun h' => by kernel_rfl) (by kernel_rfl) ?_
 refine k_pure (i := 5) [6, 7, 8, 9, 10, 11, 12] (.pointer a1) (by kernel_rfl) rfl rfl (by kernel_rfl) (fun h' => by kernel_rfl) (by kernel_rfl) ?_
 obtain ⟨p2, rfl, hM⟩ := hM
 refine k_pure (i := 6) [7, 8, 9, 10, 11, 12] (.pointer (some p2)) (by kernel_rfl) rfl rfl (by kernel_rfl) (fun h' => by kernel_rfl) (by kernel_rfl) ?_
 refine k_pure (i := 7) [8, 9, 10, 11, 12] (.pointer (some (p2.add 9))) (by kernel_rfl) rfl rfl (by kernel_rfl) (fun h' => by kernel_rfl) (by kernel_rfl) ?_
 refine k_pure (i := 8) [9, 10, 11, 12] (.pointer (some (p2.add 10))) (by kernel_rfl) rfl rfl (by kernel_rfl) (fun h' => by kernel_rfl) (by kernel_rfl) ?_
 obtain ⟨x3, hc4, hM⟩ := hM
 refine k_load (i := 9) (.int .i64 x3) (fun h' => cellH h' (p2.add 10) = some (.int .i64 x3) ∧ True) [10, 11, 12] [] (by kernel_rfl) (by kernel_rfl) rfl rfl (by kernel_rfl) (fun h' hS => Eq.trans (b := (cellH h' (p2.add 10)).bind fun v6 => some (.value v6)) (by kernel_rfl) (bindE hS.1 _)) ⟨hc4, trivial⟩ (by kernel_rfl) ?_
 refine k_eff (j := 1) (by kernel_rfl) rfl rfl (by kernel_rfl) (hpCallE 22 #[.pointer (some p2)] (by kernel_rfl) (vt_Screen_shown_ok (some p2) _ h hM) ?_)
 clear hM
 rintro _ h7 ⟨x8, rfl, hM⟩
 obtain ⟨hk9, hM⟩ := hM
 refine ⟨⟨⟨hk9, trivial⟩, trivial⟩, ?_⟩
 obtain ⟨p10, rfl, hM⟩ := hM
 refine k_pure (i := 2) [3, 4, 10, 11, 12] (.pointer (some p10)) (by kernel_rfl) rfl rfl (by kernel_rfl) (fun h' => by kernel_rfl) (by kernel_rfl) ?_
 refine k_pure (i := 3) [4, 10, 11, 12] (.pointer (some p10)) (by kernel_rfl) rfl rfl (by kernel_rfl) (fun h' => by kernel_rfl) (by kernel_rfl) ?_
 obtain ⟨x11, x11n, x11c, hc12, hM⟩ := hM
 refine k_load (i := 4) (.slice x11 x11n x11c) (fun h' => cellH h' p10 = some (.slice x11 x11n x11c) ∧ True) [10, 11, 12] [] (by kernel_rfl) (by kernel_rfl) rfl rfl (by kernel_rfl) (fun h' hS => Eq.trans (b := (cellH h' p10).bind fun v14 => some (.value v14)) (by kernel_rfl) (bindE hS.1 _)) ⟨hc12, trivial⟩ (by kernel_rfl) ?_
 obtain ⟨p17, rfl, hM⟩ := hM
 obtain ⟨hc15, hM⟩ := hM
 obtain ⟨hc16, hM⟩ := hM
 refine k_pure (i := 10) [11, 12] (.pointer (some (p17.add ((x3).toNat * 1)))) (by kernel_rfl) rfl rfl (by kernel_rfl) (fun h' => rd_ixS (P := Tryd.prog) (h := h') (t := 57) (el := 72) (sz := 1) (ad := p17) (len := x11n) (c := x11c) (k := .i64) (i := x3) (by kernel_rfl) (by kernel_rfl) hc15 hc16 (by kernel_rfl)) (by kernel_rfl) ?_
 obtain ⟨x18, x18n, x18c, hc19, hM⟩ := hM
 refine k_load (i := 11) (.slice x18 x18n x18c) (fun h' => cellH h' (p17.add ((x3).toNat * 1)) = some (.slice x18 x18n x18c) ∧ True) [12] [] (by kernel_rfl) (by kernel_rfl) rfl rfl (by kernel_rfl) (fun h' hS => Eq.trans (b := (cellH h' (p17.add ((x3).toNat * 1))).bind fun v21 => some (.value v21)) (by kernel_rfl) (bindE hS.1 _)) ⟨hc19, trivial⟩ (by kernel_rfl) ?_
 refine k_pure (i := 12) [] (.slice x18 x18n x18c) (by kernel_rfl) rfl rfl (by kernel_rfl) (fun h' => by kernel_rfl) (by kernel_rfl) ?_
 refine k_done (by kernel_rfl) ?_
 refine thenE_n (cwp_ret ?_)
 exact ret_ (.slice x18 x18n x18c) (by kernel_rfl) ⟨_, _, _, rfl, hM⟩
/- mullion/vt.blank -/
def vt_blank (a1 : Int) (a2 : Int) (a3 : Int) : ByteArray × Int × Int × Int × Int :=
 ((⟨#[32]⟩ : ByteArray), 1, a1, a2, a3)
theorem vt_blank_ok (a1 : Int) (a2 : Int) (a3 : Int) (r : ByteArray × Int × Int × Int × Int) (h : Heap) (hM : vt_blank a1 a2 a3 = r) : CallsH Tryd.prog 60 #[.agg #[.int .i64 a1, .int .i64 a2, .int .i64 a3]] (fun v h' => v = .agg #[.string r.1, .int .i64 r.2.1, .int .i64 r.2.2.1, .int .i64 r.2.2.2.1, .int .i64 r.2.2.2.2] ∧ Ext h h') h := by
 unfold vt_blank at hM
 refine callsH_intro (n := 5) Tryd.func60 rfl rfl (by kernel_rfl) ?_
 refine cR ?_
 refine owp_hpG rfl (by kernel_rfl) (hpNew #[.int .i64 a1, .int .i64 a2, .int .i64 a3] 41 (fun _ => by kernel_rfl) ?_)
 intro b4 h5 hN6
 refine owp_hpG rfl (by kernel_rfl) (hpNew #[.string (⟨#[]⟩ : ByteArray), .int .i64 0, .int .i64 0, .int .i64 0, .int .i64 0] 43 (fun _ => by kernel_rfl) ?_)
 intro b7 h8 hN9
 have f10 := Blk.ext (New.blk hN6) (New.ext hN9)
 refine oE (cR ?_)
 refine owp_rdG (.agg #[.int .i64 a1, .int .i64 a2, .int .i64 a3]) rfl (by kernel_rfl) (Eq.trans (b := (cellH h8 ⟨b4, 0, none⟩).bind fun v11 => (cellH h8 ⟨b4, 1, none⟩).bind fun v12 => (cellH h8 ⟨b4, 2, none⟩).bind fun v13 => some (.value (.agg #[v11, v12, v13]))) (by kernel_rfl) ((bindE (Blk.cell f10 0 (by kernel_rfl)) _).trans ((bindE (Blk.cell f10 1 (by kernel_rfl)) _).trans (bindE (Blk.cell f10 2 (by kernel_rfl)) _)))) ?_
 refine oS [(4, .agg #[.string (⟨#[32]⟩ : ByteArray), .int .i64 1, .int .i64 a1, .int .i64 a2, .int .i64 a3])] rfl ?_
 refine owp_hpD rfl (by kernel_rfl) (hpStB b7 0 [.string (⟨#[32]⟩ : ByteArray), .int .i64 1, .int .i64 a1, .int .i64 a2, .int .i64 a3] (New.blk hN9) (fun _ => by kernel_rfl) rfl rfl ?_)
 intro h14 hP15
 have f17 := Put.old hP15 f10 (Ne.symm (New.ne hN9 (New.blk hN6)))
 have f16 : Blk h14 b7 #[.string (⟨#[32]⟩ : ByteArray), .int .i64 1, .int .i64 a1, .int .i64 a2, .int .i64 a3] 43 := hP15.blk
 refine oE (cwp_ret ?_)
 subst hM
 exact ret_ (.agg #[.string (⟨#[32]⟩ : ByteArray), .int .i64 1, .int .i64 a1, .int .i64 a2, .int .i64 a3]) (Eq.trans (b := (cellH h14 ⟨b7, 0, none⟩).bind fun v18 => (cellH h14 ⟨b7, 1, none⟩).bind fun v19 => (cellH h14 ⟨b7, 2, none⟩).bind fun v20 => (cellH h14 ⟨b7, 3, none⟩).bind fun v21 => (cellH h14 ⟨b7, 4, none⟩).bind fun v22 => some (.agg #[v18, v19, v20, v21, v22])) (by kernel_rfl) ((bindE (Blk.cell f16 0 (by kernel_rfl)) _).trans ((bindE (Blk.cell f16 1 (by kernel_rfl)) _).trans ((bindE (Blk.cell f16 2 (by kernel_rfl)) _).trans ((bindE (Blk.cell f16 3 (by kernel_rfl)) _).trans (bindE (Blk.cell f16 4 (by kernel_rfl)) _)))))) ⟨rfl, (Put.ext hP15 (Ext.trans (New.ext hN6) (New.ext hN9)) (New.ge hN9 (New.ext hN6)))⟩
/- (mullion/vt.row).cut -/
def vt_row_cut (a1 : Option Addr) (a1n : Nat) (a1c : Nat) (a2 : Int) (K : Heap → Prop) (h : Heap) : Prop :=
 if ((decide (0 < a2)) && (decide (a2 < (a1n : Int)))) = true then
  nz a1 fun p13 =>
  0 ≤ a2 ∧
  a2 < (a1n : Int) ∧
  ldI h .i64 ((p13.add ((a2).toNat * 5)).add 1) fun x14 =>
  if x14 = 0 then
   0 ≤ (IntKind.wrap .i64 (a2 - 1)) ∧
   (IntKind.wrap .i64 (a2 - 1)) < (a1n : Int) ∧
   ldI h .i64 ((p13.add ((IntKind.wrap .i64 (a2 - 1)).toNat * 5)).add 2) fun x20 =>
   ldI h .i64 ((p13.add ((IntKind.wrap .i64 (a2 - 1)).toNat * 5)).add 3) fun x22 =>
   ldI h .i64 ((p13.add ((IntKind.wrap .i64 (a2 - 1)).toNat * 5)).add 4) fun x24 =>
   0 ≤ (IntKind.wrap .i64 (a2 - 1)) ∧
   (IntKind.wrap .i64 (a2 - 1)) < (a1n : Int) ∧
   gap h fun h29 =>
   stN (p13.add ((IntKind.wrap .i64 (a2 - 1)).toNat * 5)) [.string ((vt_blank x20 x22 x24).1), .int .i64 ((vt_blank x20 x22 x24).2.1), .int .i64 ((vt_blank x20 x22 x24).2.2.1), .int .i64 ((vt_blank x20 x22 x24).2.2.2.1), .int .i64 ((vt_blank x20 x22 x24).2.2.2.2)] 0 h29 fun h33 =>
   0 ≤ a2 ∧
   a2 < (a1n : Int) ∧
   ldI h33 .i64 ((p13.add ((a2).toNat * 5)).add 2) fun x36 =>
   ldI h33 .i64 ((p13.add ((a2).toNat * 5)).add 3) fun x38 =>
   ldI h33 .i64 ((p13.add ((a2).toNat * 5)).add 4) fun x40 =>
   0 ≤ a2 ∧
   a2 < (a1n : Int) ∧
   gap h33 fun h45 =>
   stN (p13.add ((a2).toNat * 5)) [.string ((vt_blank x36 x38 x40).1), .int .i64 ((vt_blank x36 x38 x40).2.1), .int .i64 ((vt_blank x36 x38 x40).2.2.1), .int .i64 ((vt_blank x36 x38 x40).2.2.2.1), .int .i64 ((vt_blank x36 x38 x40).2.2.2.2)] 0 h45 fun h49 =>
   K h49
  else
  K h
 else
 K h
theorem vt_row_cut_ok (a1 : Option Addr) (a1n : Nat) (a1c : Nat) (a2 : Int) (K : Heap → Prop) (h : Heap) (hM : vt_row_cut a1 a1n a1c a2 K h) : CallsH Tryd.prog 49 #[.slice a1 a1n a1c, .int .i64 a2] (fun v h' => v = .tuple #[] ∧ K h') h := by
 unfold vt_row_cut at hM
 refine callsH_intro (n := 40) Tryd.func49 rfl rfl (by kernel_rfl) ?_
 refine cR ?_
 refine oS [(4, .int .i64 a2), (5, .bool (decide (0 < a2))), (6, .bool (decide (0 < a2)))] rfl ?_
 refine oB (decide (0 < a2)) 5 [5, 6] (fun b_ => [(7, iteV b_ (.int .i64 a2 : Value) undef), (8, iteV b_ (.slice a1 a1n a1c : Value) undef), (9, iteV b_ (.int .i64 (a1n : Int) : Value) undef), (10, iteV b_ (.bool (decide (a2 < (a1n : Int))) : Value) undef), (11, .bool (b_ && (decide (a2 < (a1n : Int)))))]) rfl (fun hb3 hq4 => oS [(7, .int .i64 a2), (8, .slice a1 a1n a1c), (9, .int .i64 (a1n : Int)), (10, .bool (decide (a2 < (a1n : Int)))), (11, .bool (decide (a2 < (a1n : Int))))] rfl (hq4)) (fun hb5 hq6 => oS [(7, undef), (8, undef), (9, undef), (10, undef), (11, .bool false)] rfl (hq6)) ?_
 refine oS [(12, .bool ((decide (0 < a2)) && (decide (a2 < (a1n : Int)))))] rfl ?_
 by_cases hc10 : ((decide (0 < a2)) && (decide (a2 < (a1n : Int)))) = true
 · refine owp_at 11 (.bool true) (Eq.trans (b := .bool ((decide (0 < a2)) && (decide (a2 < (a1n : Int))))) (by kernel_rfl) (by rw [hc10])) ?_
   refine owp_at 12 (.bool true) (Eq.trans (b := .bool ((decide (0 < a2)) && (decide (a2 < (a1n : Int))))) (by kernel_rfl) (by rw [hc10])) ?_
   replace hM := ifT hc10 hM
   refine oS [(13, .slice a1 a1n a1c), (14, .int .i64 a2)] rfl ?_
   obtain ⟨p13, rfl, hM⟩ := hM
   obtain ⟨hc11, hM⟩ := hM
   obtain ⟨hc12, hM⟩ := hM
   refine owp_rdG (.pointer (some (p13.add ((a2).toNat * 5)))) rfl (by kernel_rfl) (rd_ixS (P := Tryd.prog) (h := h) (t := 72) (el := 43) (sz := 5) (ad := p13) (len := a1n) (c := a1c) (k := .i64) (i := a2) (by kernel_rfl) (by kernel_rfl) hc11 hc12 (by kernel_rfl)) ?_
   refine oS [(16, .pointer (some ((p13.add ((a2).toNat * 5)).add 1)))] rfl ?_
   obtain ⟨x14, hc15, hM⟩ := hM
   refine owp_rdG (.int .i64 x14) rfl (by kernel_rfl) (Eq.trans (b := (cellH h ((p13.add ((a2).toNat * 5)).add 1)).bind fun v16 => some (.value v16)) (by kernel_rfl) (bindE hc15 _)) ?_
   refine oS [(18, .bool (decide (x14 = 0))), (19, .bool (decide (x14 = 0)))] rfl ?_
   refine oE ?_
   refine cwp_condD (x14 = 0) (by kernel_rfl) (fun hc17 => ?_) (fun hc17 => ?_)
   · replace hM := ifT hc17 hM
     refine cR ?_
     refine oS [(20, .slice (some p13) a1n a1c), (21, .int .i64 a2), (22, .int .i64 (IntKind.wrap .i64 (a2 - 1))), (23, .slice (some p13) a1n a1c), (24, .int .i64 a2), (25, .int .i64 (IntKind.wrap .i64 (a2 - 1)))] rfl ?_
     obtain ⟨hc18, hM⟩ := hM
     obtain ⟨hc19, hM⟩ := hM
     refine owp_rdG (.pointer (some (p13.add ((IntKind.wrap .i64 (a2 - 1)).toNat * 5)))) rfl (by kernel_rfl) (rd_ixS (P := Tryd.prog) (h := h) (t := 72) (el := 43) (sz := 5) (ad := p13) (len := a1n) (c := a1c) (k := .i64) (i := (IntKind.wrap .i64 (a2 - 1))) (by kernel_rfl) (by kernel_rfl) hc18 hc19 (by kernel_rfl)) ?_
     refine oS [(27, .pointer (some ((p13.add ((IntKind.wrap .i64 (a2 - 1)).toNat * 5)).add 2)))] rfl ?_
     obtain ⟨x20, hc21, hM⟩ := hM
     obtain ⟨x22, hc23, hM⟩ := hM
     obtain ⟨x24, hc25, hM⟩ := hM
     refine owp_rdG (.agg #[.int .i64 x20, .int .i64 x22, .int .i64 x24]) rfl (by kernel_rfl) (Eq.trans (b := (cellH h ((p13.add ((IntKind.wrap .i64 (a2 - 1)).toNat * 5)).add 2)).bind fun v26 => (cellH h ((p13.add ((IntKind.wrap .i64 (a2 - 1)).toNat * 5)).add 3)).bind fun v27 => (cellH h ((p13.add ((IntKind.wrap .i64 (a2 - 1)).toNat * 5)).add 4)).bind fun v28 => some (.value (.agg #[v26, v27, v28]))) (by kernel_rfl) ((bindE hc21 _).trans ((bindE hc23 _).trans (bindE hc25 _)))) ?_
     refine owp_hpG rfl (by kernel_rfl) (hpCallP 60 #[.agg #[.int .i64 x20, .int .i64 x22, .int .i64 x24]] (.agg #[.string ((vt_blank x20 x22 x24).1), .int .i64 ((vt_blank x20 x22 x24).2.1), .int .i64 ((vt_blank x20 x22 x24).2.2.1), .int .i64 ((vt_blank x20 x22 x24).2.2.2.1), .int .i64 ((vt_blank x20 x22 x24).2.2.2.2)]) (by kernel_rfl) (vt_blank_ok x20 x22 x24 _ h rfl) ?_)
     intro h29 hx30
     obtain ⟨hc31, hM⟩ := hM
     obtain ⟨hc32, hM⟩ := hM
     refine owp_rdG (.pointer (some (p13.add ((IntKind.wrap .i64 (a2 - 1)).toNat * 5)))) rfl (by kernel_rfl) (rd_ixS (P := Tryd.prog) (h := h29) (t := 72) (el := 43) (sz := 5) (ad := p13) (len := a1n) (c := a1c) (k := .i64) (i := (IntKind.wrap .i64 (a2 - 1))) (by kernel_rfl) (by kernel_rfl) hc31 hc32 (by kernel_rfl)) ?_
     replace hM := hM _ hx30
     refine owp_hpD rfl (by kernel_rfl) (hpSt (p13.add ((IntKind.wrap .i64 (a2 - 1)).toNat * 5)) [.string ((vt_blank x20 x22 x24).1), .int .i64 ((vt_blank x20 x22 x24).2.1), .int .i64 ((vt_blank x20 x22 x24).2.2.1), .int .i64 ((vt_blank x20 x22 x24).2.2.2.1), .int .i64 ((vt_blank x20 x22 x24).2.2.2.2)] (fun _ => by kernel_rfl) (by kernel_rfl) hM ?_)
     clear hM
     intro h33 hM
     refine oE (cwp_region ?_)
     refine oS [(31, .slice (some p13) a1n a1c), (32, .int .i64 a2), (33, .slice (some p13) a1n a1c), (34, .int .i64 a2)] rfl ?_
     obtain ⟨hc34, hM⟩ := hM
     obtain ⟨hc35, hM⟩ := hM
     refine owp_rdG (.pointer (some (p13.add ((a2).toNat * 5)))) rfl (by kernel_rfl) (rd_ixS (P := Tryd.prog) (h := h33) (t := 72) (el := 43) (sz := 5) (ad := p13) (len := a1n) (c := a1c) (k := .i64) (i := a2) (by kernel_rfl) (by kernel_rfl) hc34 hc35 (by kernel_rfl)) ?_
     refine oS [(36, .pointer (some ((p13.add ((a2).toNat * 5)).add 2)))] rfl ?_
     obtain ⟨x36, hc37, hM⟩ := hM
     obtain ⟨x38, hc39, hM⟩ := hM
     obtain ⟨x40, hc41, hM⟩ := hM
     refine owp_rdG (.agg #[.int .i64 x36, .int .i64 x38, .int .i64 x40]) rfl (by kernel_rfl) (Eq.trans (b := (cellH h33 ((p13.add ((a2).toNat * 5)).add 2)).bind fun v42 => (cellH h33 ((p13.add ((a2).toNat * 5)).add 3)).bind fun v43 => (cellH h33 ((p13.add ((a2).toNat * 5)).add 4)).bind fun v44 => some (.value (.agg #[v42, v43, v44]))) (by kernel_rfl) ((bindE hc37 _).trans ((bindE hc39 _).trans (bindE hc41 _)))) ?_
     refine owp_hpG rfl (by kernel_rfl) (hpCallP 60 #[.agg #[.int .i64 x36, .int .i64 x38, .int .i64 x40]] (.agg #[.string ((vt_blank x36 x38 x40).1), .int .i64 ((vt_blank x36 x38 x40).2.1), .int .i64 ((vt_blank x36 x38 x40).2.2.1), .int .i64 ((vt_blank x36 x38 x40).2.2.2.1), .int .i64 ((vt_blank x36 x38 x40).2.2.2.2)]) (by kernel_rfl) (vt_blank_ok x36 x38 x40 _ h33 rfl) ?_)
     intro h45 hx46
     obtain ⟨hc47, hM⟩ := hM
     obtain ⟨hc48, hM⟩ := hM
     refine owp_rdG (.pointer (some (p13.add ((a2).toNat * 5)))) rfl (by kernel_rfl) (rd_ixS (P := Tryd.prog) (h := h45) (t := 72) (el := 43) (sz := 5) (ad := p13) (len := a1n) (c := a1c) (k := .i64) (i := a2) (by kernel_rfl) (by kernel_rfl) hc47 hc48 (by kernel_rfl)) ?_
     replace hM := hM _ hx46
     refine owp_hpD rfl (by kernel_rfl) (hpSt (p13.add ((a2).toNat * 5)) [.string ((vt_blank x36 x38 x40).1), .int .i64 ((vt_blank x36 x38 x40).2.1), .int .i64 ((vt_blank x36 x38 x40).2.2.1), .int .i64 ((vt_blank x36 x38 x40).2.2.2.1), .int .i64 ((vt_blank x36 x38 x40).2.2.2.2)] (fun _ => by kernel_rfl) (by kernel_rfl) hM ?_)
     clear hM
     intro h49 hM
     refine owp_nil ?_
     exact end_ (.tuple #[]) (by kernel_rfl) ⟨rfl, hM⟩
   replace hM := ifF hc17 hM
   refine cwp_skip ?_
   exact end_ (.tuple #[]) (by kernel_rfl) ⟨rfl, hM⟩
 refine owp_at 11 (.bool false) (Eq.trans (b := .bool ((decide (0 < a2)) && (decide (a2 < (a1n : Int))))) (by kernel_rfl) (by rw [Bool.eq_false_iff.2 hc10])) ?_
 refine owp_at 12 (.bool false) (Eq.trans (b := .bool ((decide (0 < a2)) && (decide (a2 < (a1n : Int))))) (by kernel_rfl) (by rw [Bool.eq_false_iff.2 hc10])) ?_
 replace hM := ifF hc10 hM
 refine oS [(13, undef), (14, undef), (15, undef), (16, undef), (17, undef), (18, undef), (19, .bool false)] rfl ?_
 refine oE ?_
 refine cwp_cond (t := false) (by kernel_rfl) (fun hx_ => ?_) (fun hx_ => ?_)
 all_goals first | (cases hx_; done) | skip
 refine cwp_skip ?_
 exact end_ (.tuple #[]) (by kernel_rfl) ⟨rfl, hM⟩
/- (*mullion/vt.Screen).write -/
def vt_Screen_write_j5 (Kn : Heap → Prop) (y128 : Addr) (y129 : Int) (h : Heap) : Prop :=
 stN (y128.add 18) [.bool false] 0 h fun h130 =>
 ldI h130 .i64 (y128.add 9) fun x131 =>
 stN (y128.add 9) [.int .i64 (IntKind.wrap .i64 (x131 + y129))] 0 h130 fun h134 =>
 ldI h134 .i64 (y128.add 9) fun x135 =>
 ldI h134 .i64 y128 fun x139 =>
 if x139 ≤ x135 then
  ldI h134 .i64 y128 fun x144 =>
  stN (y128.add 9) [.int .i64 (IntKind.wrap .i64 (x144 - 1))] 0 h134 fun h147 =>
  ldB h147 (y128.add 24) fun x148 =>
  stN (y128.add 18) [.bool x148] 0 h147 fun h151 =>
  Kn  h151
 else
 Kn  h134
theorem vt_Screen_write_j5_ok {Q : Exit → Env → Heap → Prop} (Kn : Heap → Prop) (hKn : ∀  (b : Env) (h : Heap), Kn  h → Q .normal b h) (y128 : Addr) (y129 : Int) (b : Env) (h : Heap) (hM : vt_Screen_write_j5 Kn y128 y129 h) : cwp Tryd.prog (partC Tryd.f36 [1, 1, 1, 1, 1, 1, 1, 1, 1, 1, 1, 1, 1, 1, 1]) 179 Q (upd (upd b 0 (.pointer (some y128))) 4 (.int .i64 y129)) h := by
  unfold vt_Screen_write_j5 at hM
  refine cwp_part rfl ?_
  refine cR ?_
  refine oS [(138, .pointer (some y128)), (139, .pointer (some y128)), (140, .pointer (some (y128.add 9))), (141, .pointer (some (y128.add 18)))] rfl ?_
  refine owp_hpD rfl (by kernel_rfl) (hpSt (y128.add 18) [.bool false] (fun _ => by kernel_rfl) (by kernel_rfl) hM ?_)
  clear hM
  intro h130 hM
  refine oE (cR ?_)
  refine oS [(142, .pointer (some y128)), (143, .pointer (some y128)), (144, .pointer (some (y128.add 9))), (145, .pointer (some (y128.add 9)))] rfl ?_
  obtain ⟨x131, hc132, hM⟩ := hM
  refine owp_rdG (.int .i64 x131) rfl (by kernel_rfl) (Eq.trans (b := (cellH h130 (y128.add 9)).bind fun v133 => some (.value v133)) (by kernel_rfl) (bindE hc132 _)) ?_
  refine oS [(147, .int .i64 y129), (148, .int .i64 (IntKind.wrap .i64 (x131 + y129))), (149, .pointer (some y128)), (150, .pointer (some (y128.add 9))), (151, .pointer (some (y128.add 9)))] rfl ?_
  refine owp_hpD rfl (by kernel_rfl) (hpSt (y128.add 9) [.int .i64 (IntKind.wrap .i64 (x131 + y129))] (fun _ => by kernel_rfl) (by kernel_rfl) hM ?_)
  clear hM
  intro h134 hM
  refine oE (cwp_seq ?_)
  refine cwp_draw (by kernel_rfl) ?_
  refine k_pure (i := 0) [1, 2, 3, 4, 9] (.pointer (some y128)) (by kernel_rfl) rfl rfl (by kernel_rfl) (fun h' => by kernel_rfl) (by kernel_rfl) ?_
  refine k_pure (i := 1) [2, 3, 4, 9] (.pointer (some y128)) (by kernel_rfl) rfl rfl (by kernel_rfl) (fun h' => by kernel_rfl) (by kernel_rfl) ?_
  refine k_pure (i := 2) [3, 4, 9] (.pointer (some (y128.add 9))) (by kernel_rfl) rfl rfl (by kernel_rfl) (fun h' => by kernel_rfl) (by kernel_rfl) ?_
  refine k_pure (i := 3) [4, 9] (.pointer (some (y128.add 9))) (by kernel_rfl) rfl rfl (by kernel_rfl) (fun h' => by kernel_rfl) (by kernel_rfl) ?_
  obtain ⟨x135, hc136, hM⟩ := hM
  refine k_load (i := 4) (.int .i64 x135) (fun h' => cellH h' (y128.add 9) = some (.int .i64 x135) ∧ True) [9] [] (by kernel_rfl) (by kernel_rfl) rfl rfl (by kernel_rfl) (fun h' hS => Eq.trans (b := (cellH h' (y128.add 9)).bind fun v138 => some (.value v138)) (by kernel_rfl) (bindE hS.1 _)) ⟨hc136, trivial⟩ (by kernel_rfl) ?_
  refine k_pure (i := 5) [6, 7, 8, 9] (.pointer (some y128)) (by kernel_rfl) rfl rfl (by kernel_rfl) (fun h' => by kernel_rfl) (by kernel_rfl) ?_
  refine k_pure (i := 6) [7, 8, 9] (.pointer (some y128)) (by kernel_rfl) rfl rfl (by kernel_rfl) (fun h' => by kernel_rfl) (by kernel_rfl) ?_
  refine k_pure (i := 7) [8, 9] (.pointer (some y128)) (by kernel_rfl) rfl rfl (by kernel_rfl) (fun h' => by kernel_rfl) (by kernel_rfl) ?_
  obtain ⟨x139, hc140, hM⟩ := hM
  refine k_load (i := 8) (.int .i64 x139) (fun h' => cellH h' y128 = some (.int .i64 x139) ∧ True) [9] [] (by kernel_rfl) (by kernel_rfl) rfl rfl (by kernel_rfl) (fun h' hS => Eq.trans (b := (cellH h' y128).bind fun v142 => some (.value v142)) (by kernel_rfl) (bindE hS.1 _)) ⟨hc140, trivial⟩ (by kernel_rfl) ?_
  refine k_pure (i := 9) [] (.bool (decide (x139 ≤ x135))) (by kernel_rfl) rfl rfl (by kernel_rfl) (fun h' => by kernel_rfl) (by kernel_rfl) ?_
  refine k_done (by kernel_rfl) ?_
  refine thenE_n ?_
  refine cwp_condD (x139 ≤ x135) (by kernel_rfl) (fun hc143 => ?_) (fun hc143 => ?_)
  · replace hM := ifT hc143 hM
    refine cR ?_
    refine oS [(162, .pointer (some y128)), (163, .pointer (some y128)), (164, .pointer (some y128)), (165, .pointer (some y128))] rfl ?_
    obtain ⟨x144, hc145, hM⟩ := hM
    refine owp_rdG (.int .i64 x144) rfl (by kernel_rfl) (Eq.trans (b := (cellH h134 y128).bind fun v146 => some (.value v146)) (by kernel_rfl) (bindE hc145 _)) ?_
    refine oS [(167, .int .i64 (IntKind.wrap .i64 (x144 - 1))), (168, .pointer (some y128)), (169, .pointer (some (y128.add 9))), (170, .pointer (some (y128.add 9)))] rfl ?_
    refine owp_hpD rfl (by kernel_rfl) (hpSt (y128.add 9) [.int .i64 (IntKind.wrap .i64 (x144 - 1))] (fun _ => by kernel_rfl) (by kernel_rfl) hM ?_)
    clear hM
    intro h147 hM
    refine oE (cwp_region ?_)
    refine oS [(171, .pointer (some y128)), (172, .pointer (some y128)), (173, .pointer (some y128)), (174, .pointer (some (y128.add 24)))] rfl ?_
    obtain ⟨x148, hc149, hM⟩ := hM
    refine owp_rdG (.bool x148) rfl (by kernel_rfl) (Eq.trans (b := (cellH h147 (y128.add 24)).bind fun v150 => some (.value v150)) (by kernel_rfl) (bindE hc149 _)) ?_
    refine oS [(176, .pointer (some y128)), (177, .pointer (some (y128.add 9))), (178, .pointer (some (y128.add 18)))] rfl ?_
    refine owp_hpD rfl (by kernel_rfl) (hpSt (y128.add 18) [.bool x148] (fun _ => by kernel_rfl) (by kernel_rfl) hM ?_)
    clear hM
    intro h151 hM
    refine owp_nil ?_
    exact hKn  _ _ hM
  replace hM := ifF hc143 hM
  refine cwp_skip ?_
  exact hKn  _ _ hM
def vt_Screen_write_j4 (Kn : Heap → Prop) (y75 : Addr) (y76 : Int) (y77 : Int) (h : Heap) : Prop :=
 vt_Screen_row (some y75) (fun x79 x79n x79c h78 =>
  ldI h78 .i64 (y75.add 9) fun x80 =>
  vt_row_cut x79 x79n x79c x80 (fun  h83 =>
   ldI h83 .i64 (y75.add 9) fun x84 =>
   vt_row_cut x79 x79n x79c (IntKind.wrap .i64 (x84 + y77)) (fun  h87 =>
    ldI h87 .i64 (y75.add 9) fun x88 =>
    ldI h87 .i64 (y75.add 11) fun x92 =>
    ldI h87 .i64 (y75.add 12) fun x94 =>
    ldI h87 .i64 (y75.add 13) fun x96 =>
    nz x79 fun p106 =>
    0 ≤ x88 ∧
    x88 < (x79n : Int) ∧
    stN (p106.add ((x88).toNat * 5)) [.string (Utf8.encode y76), .int .i64 y77, .int .i64 x92, .int .i64 x94, .int .i64 x96] 0 h87 fun h107 =>
    if y77 = 2 then
     ldI h107 .i64 (y75.add 9) fun x109 =>
     ldI h107 .i64 (y75.add 11) fun x113 =>
     ldI h107 .i64 (y75.add 12) fun x115 =>
     ldI h107 .i64 (y75.add 13) fun x117 =>
     0 ≤ (IntKind.wrap .i64 (x109 + 1)) ∧
     (IntKind.wrap .i64 (x109 + 1)) < (x79n : Int) ∧
     stN (p106.add ((IntKind.wrap .i64 (x109 + 1)).toNat * 5)) [.string (⟨#[]⟩ : ByteArray), .int .i64 0, .int .i64 x113, .int .i64 x115, .int .i64 x117] 0 h107 fun h127 =>
     vt_Screen_write_j5
      (fun  h152 =>
          Kn  h152) y75 y77 h127
    else
    vt_Screen_write_j5
     (fun  h155 =>
            Kn  h155) y75 y77 h107) h83) h78) h
theorem vt_Screen_write_j4_ok {Q : Exit → Env → Heap → Prop} (Kn : Heap → Prop) (hKn : ∀  (b : Env) (h : Heap), Kn  h → Q .normal b h) (y75 : Addr) (y76 : Int) (y77 : Int) (b : Env) (h : Heap) (hM : vt_Screen_write_j4 Kn y75 y76 y77 h) : cwp Tryd.prog (partC Tryd.f36 [1, 1, 1, 1, 1, 1, 1, 1, 1, 1]) 179 Q (upd (upd (upd b 0 (.pointer (some y75))) 1 (.int .i32 y76)) 4 (.int .i64 y77)) h := by
  unfold vt_Screen_write_j4 at hM
  refine cwp_part rfl ?_
  refine cR ?_
  refine oS [(88, .pointer (some y75))] rfl ?_
  refine owp_hpG rfl (by kernel_rfl) (hpCallE 48 #[.pointer (some y75)] (by kernel_rfl) (vt_Screen_row_ok (some y75) _ h hM) ?_)
  clear hM
  rintro _ h78 ⟨x79, x79n, x79c, rfl, hM⟩
  refine oS [(7, .slice x79 x79n x79c)] rfl ?_
  refine oE (cR ?_)
  refine oS [(90, .slice x79 x79n x79c), (91, .pointer (some y75)), (92, .pointer (some y75)), (93, .pointer (some (y75.add 9))), (94, .pointer (some (y75.add 9)))] rfl ?_
  obtain ⟨x80, hc81, hM⟩ := hM
  refine owp_rdG (.int .i64 x80) rfl (by kernel_rfl) (Eq.trans (b := (cellH h78 (y75.add 9)).bind fun v82 => some (.value v82)) (by kernel_rfl) (bindE hc81 _)) ?_
  refine owp_hpG rfl (by kernel_rfl) (hpCallE 49 #[.slice x79 x79n x79c, .int .i64 x80] (by kernel_rfl) (vt_row_cut_ok x79 x79n x79c x80 _ h78 hM) ?_)
  clear hM
  rintro _ h83 ⟨rfl, hM⟩
  refine oE (cR ?_)
  refine oS [(97, .slice x79 x79n x79c), (98, .pointer (some y75)), (99, .pointer (some y75)), (100, .pointer (some (y75.add 9))), (101, .pointer (some (y75.add 9)))] rfl ?_
  obtain ⟨x84, hc85, hM⟩ := hM
  refine owp_rdG (.int .i64 x84) rfl (by kernel_rfl) (Eq.trans (b := (cellH h83 (y75.add 9)).bind fun v86 => some (.value v86)) (by kernel_rfl) (bindE hc85 _)) ?_
  refine oS [(103, .int .i64 y77), (104, .int .i64 (IntKind.wrap .i64 (x84 + y77)))] rfl ?_
  refine owp_hpG rfl (by kernel_rfl) (hpCallE 49 #[.slice x79 x79n x79c, .int .i64 (IntKind.wrap .i64 (x84 + y77))] (by kernel_rfl) (vt_row_cut_ok x79 x79n x79c (IntKind.wrap .i64 (x84 + y77)) _ h83 hM) ?_)
  clear hM
  rintro _ h87 ⟨rfl, hM⟩
  refine oE (cwp_seq ?_)
  refine cwp_draw (by kernel_rfl) ?_
  refine k_pure (i := 0) [15, 16] (.slice x79 x79n x79c) (by kernel_rfl) rfl rfl (by kernel_rfl) (fun h' => by kernel_rfl) (by kernel_rfl) ?_
  refine k_pure (i := 1) [2, 3, 4, 5, 15, 16] (.pointer (some y75)) (by kernel_rfl) rfl rfl (by kernel_rfl) (fun h' => by kernel_rfl) (by kernel_rfl) ?_
  refine k_pure (i := 2) [3, 4, 5, 15, 16] (.pointer (some y75)) (by kernel_rfl) rfl rfl (by kernel_rfl) (fun h' => by kernel_rfl) (by kernel_rfl) ?_
  refine k_pure (i := 3) [4, 5, 15, 16] (.pointer (some (y75.add 9))) (by kernel_rfl) rfl rfl (by kernel_rfl) (fun h' => by kernel_rfl) (by kernel_rfl) ?_
  refine k_pure (i := 4) [5, 15, 16] (.pointer (some (y75.add 9))) (by kernel_rfl) rfl rfl (by kernel_rfl) (fun h' => by kernel_rfl) (by kernel_rfl) ?_
  obtain ⟨x88, hc89, hM⟩ := hM
  refine k_load (i := 5) (.int .i64 x88) (fun h' => cellH h' (y75.add 9) = some (.int .i64 x88) ∧ True) [15, 16] [16] (by kernel_rfl) (by kernel_rfl) rfl rfl (by kernel_rfl) (fun h' hS => Eq.trans (b := (cellH h' (y75.add 9)).bind fun v91 => some (.value v91)) (by kernel_rfl) (bindE hS.1 _)) ⟨hc89, trivial⟩ (by kernel_rfl) ?_
  refine k_pure (i := 6) [7, 14, 15, 16] (.int .i32 y76) (by kernel_rfl) rfl rfl (by kernel_rfl) (fun h' => by kernel_rfl) (by kernel_rfl) ?_
  refine k_pure (i := 7) [14, 15, 16] (.string (Utf8.encode y76)) (by kernel_rfl) rfl rfl (by kernel_rfl) (fun h' => by kernel_rfl) (by kernel_rfl) ?_
  refine k_pure (i := 8) [14, 15, 16] (.int .i64 y77) (by kernel_rfl) rfl rfl (by kernel_rfl) (fun h' => by kernel_rfl) (by kernel_rfl) ?_
  refine k_pure (i := 9) [10, 11, 12, 13, 14, 15, 16] (.pointer (some y75)) (by kernel_rfl) rfl rfl (by kernel_rfl) (fun h' => by kernel_rfl) (by kernel_rfl) ?_
  refine k_pure (i := 10) [11, 12, 13, 14, 15, 16] (.pointer (some y75)) (by kernel_rfl) rfl rfl (by kernel_rfl) (fun h' => by kernel_rfl) (by kernel_rfl) ?_
  refine k_pure (i := 11) [12, 13, 14, 15, 16] (.pointer (some (y75.add 9))) (by kernel_rfl) rfl rfl (by kernel_rfl) (fun h' => by kernel_rfl) (by kernel_rfl) ?_
  refine k_pure (i := 12) [13, 14, 15, 16] (.pointer (some (y75.add 11))) (by kernel_rfl) rfl rfl (by kernel_rfl) (fun h' => by kernel_rfl) (by kernel_rfl) ?_
  obtain ⟨x92, hc93, hM⟩ := hM
  obtain ⟨x94, hc95, hM⟩ := hM
  obtain ⟨x96, hc97, hM⟩ := hM
  refine k_load (i := 13) (.agg #[.int .i64 x92, .int .i64 x94, .int .i64 x96]) (fun h' => cellH h' (y75.add 11) = some (.int .i64 x92) ∧ cellH h' (y75.add 12) = some (.int .i64 x94) ∧ cellH h' (y75.add 13) = some (.int .i64 x96) ∧ True) [14, 15, 16] [16] (by kernel_rfl) (by kernel_rfl) rfl rfl (by kernel_rfl) (fun h' hS => Eq.trans (b := (cellH h' (y75.add 11)).bind fun v101 => (cellH h' (y75.add 12)).bind fun v102 => (cellH h' (y75.add 13)).bind fun v103 => some (.value (.agg #[v101, v102, v103]))) (by kernel_rfl) ((bindE hS.1 _).trans ((bindE hS.2.1 _).trans (bindE hS.2.2.1 _)))) ⟨hc93, hc95, hc97, trivial⟩ (by kernel_rfl) ?_
  refine k_pure (i := 14) [15, 16] (.agg #[.string (Utf8.encode y76), .int .i64 y77, .int .i64 x92, .int .i64 x94, .int .i64 x96]) (by kernel_rfl) rfl rfl (by kernel_rfl) (fun h' => by kernel_rfl) (by kernel_rfl) ?_
  obtain ⟨p106, rfl, hM⟩ := hM
  obtain ⟨hc104, hM⟩ := hM
  obtain ⟨hc105, hM⟩ := hM
  refine k_pure (i := 15) [16] (.pointer (some (p106.add ((x88).toNat * 5)))) (by kernel_rfl) rfl rfl (by kernel_rfl) (fun h' => rd_ixS (P := Tryd.prog) (h := h') (t := 72) (el := 43) (sz := 5) (ad := p106) (len := x79n) (c := x79c) (k := .i64) (i := x88) (by kernel_rfl) (by kernel_rfl) hc104 hc105 (by kernel_rfl)) (by kernel_rfl) ?_
  refine k_effD (j := 16) (by kernel_rfl) rfl rfl (by kernel_rfl) (hpSt (p106.add ((x88).toNat * 5)) [.string (Utf8.encode y76), .int .i64 y77, .int .i64 x92, .int .i64 x94, .int .i64 x96] (fun _ => by kernel_rfl) (by kernel_rfl) hM ?_)
  clear hM
  intro h107 hM
  refine ⟨trivial, ?_⟩
  refine k_done (by kernel_rfl) ?_
  refine thenE_n (cwp_seq (cR ?_))
  refine oS [(122, .int .i64 y77), (123, .bool (decide (y77 = 2)))] rfl ?_
  refine oE ?_
  refine cwp_condD (y77 = 2) (by kernel_rfl) (fun hc108 => ?_) (fun hc108 => ?_)
  · replace hM := ifT hc108 hM
    refine cwp_draw (by kernel_rfl) ?_
    refine k_pure (i := 0) [13, 14] (.slice (some p106) x79n x79c) (by kernel_rfl) rfl rfl (by kernel_rfl) (fun h' => by kernel_rfl) (by kernel_rfl) ?_
    refine k_pure (i := 1) [2, 3, 4, 5, 6, 13, 14] (.pointer (some y75)) (by kernel_rfl) rfl rfl (by kernel_rfl) (fun h' => by kernel_rfl) (by kernel_rfl) ?_
    refine k_pure (i := 2) [3, 4, 5, 6, 13, 14] (.pointer (some y75)) (by kernel_rfl) rfl rfl (by kernel_rfl) (fun h' => by kernel_rfl) (by kernel_rfl) ?_
    refine k_pure (i := 3) [4, 5, 6, 13, 14] (.pointer (some (y75.add 9))) (by kernel_rfl) rfl rfl (by kernel_rfl) (fun h' => by kernel_rfl) (by kernel_rfl) ?_
    refine k_pure (i := 4) [5, 6, 13, 14] (.pointer (some (y75.add 9))) (by kernel_rfl) rfl rfl (by kernel_rfl) (fun h' => by kernel_rfl) (by kernel_rfl) ?_
    obtain ⟨x109, hc110, hM⟩ := hM
    refine k_load (i := 5) (.int .i64 x109) (fun h' => cellH h' (y75.add 9) = some (.int .i64 x109) ∧ True) [6, 13, 14] [14] (by kernel_rfl) (by kernel_rfl) rfl rfl (by kernel_rfl) (fun h' hS => Eq.trans (b := (cellH h' (y75.add 9)).bind fun v112 => some (.value v112)) (by kernel_rfl) (bindE hS.1 _)) ⟨hc110, trivial⟩ (by kernel_rfl) ?_
    refine k_pure (i := 6) [13, 14] (.int .i64 (IntKind.wrap .i64 (x109 + 1))) (by kernel_rfl) rfl rfl (by kernel_rfl) (fun h' => by kernel_rfl) (by kernel_rfl) ?_
    refine k_pure (i := 7) [8, 9, 10, 11, 12, 13, 14] (.pointer (some y75)) (by kernel_rfl) rfl rfl (by kernel_rfl) (fun h' => by kernel_rfl) (by kernel_rfl) ?_
    refine k_pure (i := 8) [9, 10, 11, 12, 13, 14] (.pointer (some y75)) (by kernel_rfl) rfl rfl (by kernel_rfl) (fun h' => by kernel_rfl) (by kernel_rfl) ?_
    refine k_pure (i := 9) [10, 11, 12, 13, 14] (.pointer (some (y75.add 9))) (by kernel_rfl) rfl rfl (by kernel_rfl) (fun h' => by kernel_rfl) (by kernel_rfl) ?_
    refine k_pure (i := 10) [11, 12, 13, 14] (.pointer (some (y75.add 11))) (by kernel_rfl) rfl rfl (by kernel_rfl) (fun h' => by kernel_rfl) (by kernel_rfl) ?_
    obtain ⟨x113, hc114, hM⟩ := hM
    obtain ⟨x115, hc116, hM⟩ := hM
    obtain ⟨x117, hc118, hM⟩ := hM
    refine k_load (i := 11) (.agg #[.int .i64 x113, .int .i64 x115, .int .i64 x117]) (fun h' => cellH h' (y75.add 11) = some (.int .i64 x113) ∧ cellH h' (y75.add 12) = some (.int .i64 x115) ∧ cellH h' (y75.add 13) = some (.int .i64 x117) ∧ True) [12, 13, 14] [14] (by kernel_rfl) (by kernel_rfl) rfl rfl (by kernel_rfl) (fun h' hS => Eq.trans (b := (cellH h' (y75.add 11)).bind fun v122 => (cellH h' (y75.add 12)).bind fun v123 => (cellH h' (y75.add 13)).bind fun v124 => some (.value (.agg #[v122, v123, v124]))) (by kernel_rfl) ((bindE hS.1 _).trans ((bindE hS.2.1 _).trans (bindE hS.2.2.1 _)))) ⟨hc114, hc116, hc118, trivial⟩ (by kernel_rfl) ?_
    refine k_pure (i := 12) [13, 14] (.agg #[.string (⟨#[]⟩ : ByteArray), .int .i64 0, .int .i64 x113, .int .i64 x115, .int .i64 x117]) (by kernel_rfl) rfl rfl (by kernel_rfl) (fun h' => by kernel_rfl) (by kernel_rfl) ?_
    obtain ⟨hc125, hM⟩ := hM
    obtain ⟨hc126, hM⟩ := hM
    refine k_pure (i := 13) [14] (.pointer (some (p106.add ((IntKind.wrap .i64 (x109 + 1)).toNat * 5)))) (by kernel_rfl) rfl rfl (by kernel_rfl) (fun h' => rd_ixS (P := Tryd.prog) (h := h') (t := 72) (el := 43) (sz := 5) (ad := p106) (len := x79n) (c := x79c) (k := .i64) (i := (IntKind.wrap .i64 (x109 + 1))) (by kernel_rfl) (by kernel_rfl) hc125 hc126 (by kernel_rfl)) (by kernel_rfl) ?_
    refine k_effD (j := 14) (by kernel_rfl) rfl rfl (by kernel_rfl) (hpSt (p106.add ((IntKind.wrap .i64 (x109 + 1)).toNat * 5)) [.string (⟨#[]⟩ : ByteArray), .int .i64 0, .int .i64 x113, .int .i64 x115, .int .i64 x117] (fun _ => by kernel_rfl) (by kernel_rfl) hM ?_)
    clear hM
    intro h127 hM
    refine ⟨trivial, ?_⟩
    refine k_done (by kernel_rfl) ?_
    refine thenE_n ?_
    refine cwp_of_part (fn := Tryd.f36) (p := [1, 1, 1, 1, 1, 1, 1, 1, 1, 1, 1, 1, 1, 1, 1]) (by kernel_rfl) (cwp_at 0 (.pointer (some y75)) (by kernel_rfl) (cwp_at 4 (.int .i64 y77) (by kernel_rfl) (vt_Screen_write_j5_ok _ ?_ y75 y77 _ _ hM)))
    · intro  b153 h152 hM
      exact hKn  _ _ hM
  replace hM := ifF hc108 hM
  refine cwp_skip (thenE_n ?_)
  refine cwp_of_part (fn := Tryd.f36) (p := [1, 1, 1, 1, 1, 1, 1, 1, 1, 1, 1, 1, 1, 1, 1]) (by kernel_rfl) (cwp_at 0 (.pointer (some y75)) (by kernel_rfl) (cwp_at 4 (.int .i64 y77) (by kernel_rfl) (vt_Screen_write_j5_ok _ ?_ y75 y77 _ _ hM)))
  · intro  b156 h155 hM
    exact hKn  _ _ hM
def vt_Screen_write_j3 (Kn : Heap → Prop) (y66 : Addr) (y67 : Int) (y68 : Int) (y69 : Int) (h : Heap) : Prop :=
 stN (y66.add 40) [.int .i32 y69] 0 h fun h70 =>
 ldB h70 (y66.add 22) fun x71 =>
 if x71 = true then
  False
 else
 vt_Screen_write_j4
  (fun  h158 =>
      Kn  h158) y66 y67 y68 h70
theorem vt_Screen_write_j3_ok {Q : Exit → Env → Heap → Prop} (Kn : Heap → Prop) (hKn : ∀  (b : Env) (h : Heap), Kn  h → Q .normal b h) (y66 : Addr) (y67 : Int) (y68 : Int) (y69 : Int) (b : Env) (h : Heap) (hM : vt_Screen_write_j3 Kn y66 y67 y68 y69 h) : cwp Tryd.prog (partC Tryd.f36 [1, 1, 1, 1, 1, 1, 1, 1]) 179 Q (upd (upd (upd (upd b 0 (.pointer (some y66))) 1 (.int .i32 y67)) 4 (.int .i64 y68)) 5 (.int .i32 y69)) h := by
  unfold vt_Screen_write_j3 at hM
  refine cwp_part rfl ?_
  refine cR ?_
  refine oS [(77, .pointer (some y66)), (78, .int .i32 y69), (79, .pointer (some y66)), (80, .pointer (some (y66.add 40)))] rfl ?_
  refine owp_hpD rfl (by kernel_rfl) (hpSt (y66.add 40) [.int .i32 y69] (fun _ => by kernel_rfl) (by kernel_rfl) hM ?_)
  clear hM
  intro h70 hM
  refine oE (cwp_seq (cR ?_))
  refine oS [(81, .pointer (some y66)), (82, .pointer (some y66)), (83, .pointer (some (y66.add 22)))] rfl ?_
  obtain ⟨x71, hc72, hM⟩ := hM
  refine owp_rdG (.bool x71) rfl (by kernel_rfl) (Eq.trans (b := (cellH h70 (y66.add 22)).bind fun v73 => some (.value v73)) (by kernel_rfl) (bindE hc72 _)) ?_
  refine oE ?_
  refine cwp_condB x71 (by kernel_rfl) (fun hc74 => ?_) (fun hc74 => ?_)
  · replace hM := ifT hc74 hM
    refine cwp_region ?_
    exact hM.elim
  replace hM := ifF hc74 hM
  refine cwp_skip (thenE_n ?_)
  refine cwp_of_part (fn := Tryd.f36) (p := [1, 1, 1, 1, 1, 1, 1, 1, 1, 1]) (by kernel_rfl) (cwp_at 0 (.pointer (some y66)) (by kernel_rfl) (cwp_at 1 (.int .i32 y67) (by kernel_rfl) (cwp_at 4 (.int .i64 y68) (by kernel_rfl) (vt_Screen_write_j4_ok _ ?_ y66 y67 y68 _ _ hM))))
  · intro  b159 h158 hM
    exact hKn  _ _ hM
def vt_Screen_write_j2 (Kn : Heap → Prop) (Kr : Heap → Prop) (y39 : Addr) (y40 : Int) (y41 : Int) (y42 : Int) (h : Heap) : Prop :=
 if y41 = 2 then
  ldI h .i64 (y39.add 9) fun x44 =>
  ldI h .i64 y39 fun x48 =>
  if x44 = (IntKind.wrap .i64 (x48 - 1)) then
   ldB h (y39.add 24) fun x53 =>
   if (!x53) = true then
    Kr  h
   else
   ldI h .i64 y39 fun x60 =>
   if x60 = 1 then
    Kr  h
   else
   stN (y39.add 9) [.int .i64 0] 0 h fun h64 =>
   vt_Screen_feed (some y39) (fun  h65 =>
    vt_Screen_write_j3
     (fun  h161 =>
          Kn  h161) y39 y40 y41 y42 h65) h64
  else
  vt_Screen_write_j3
   (fun  h164 =>
       Kn  h164) y39 y40 y41 y42 h
 else
 vt_Screen_write_j3
  (fun  h167 =>
      Kn  h167) y39 y40 y41 y42 h
theorem vt_Screen_write_j2_ok {Q : Exit → Env → Heap → Prop} (Kn : Heap → Prop) (hKn : ∀  (b : Env) (h : Heap), Kn  h → Q .normal b h) (Kr : Heap → Prop) (hKr : ∀  (b : Env) (h : Heap), Kr  h → Q .ret b h) (y39 : Addr) (y40 : Int) (y41 : Int) (y42 : Int) (b : Env) (h : Heap) (hM : vt_Screen_write_j2 Kn Kr y39 y40 y41 y42 h) : cwp Tryd.prog (partC Tryd.f36 [1, 1, 1, 1, 1, 1, 1]) 179 Q (upd (upd (upd (upd b 0 (.pointer (some y39))) 1 (.int .i32 y40)) 4 (.int .i64 y41)) 5 (.int .i32 y42)) h := by
  unfold vt_Screen_write_j2 at hM
  refine cwp_part rfl ?_
  refine cwp_seq (cwp_seq ?_)
  refine cwp_draw (by kernel_rfl) ?_
  refine k_pure (i := 0) [1, 2, 3, 4, 5, 6, 7, 8, 9, 10, 11, 12, 13, 14] (.int .i64 y41) (by kernel_rfl) rfl rfl (by kernel_rfl) (fun h' => by kernel_rfl) (by kernel_rfl) ?_
  refine k_pure (i := 1) [2, 3, 4, 5, 6, 7, 8, 9, 10, 11, 12, 13, 14] (.bool (decide (y41 = 2))) (by kernel_rfl) rfl rfl (by kernel_rfl) (fun h' => by kernel_rfl) (by kernel_rfl) ?_
  refine k_pure (i := 2) [3, 4, 5, 6, 7, 8, 9, 10, 11, 12, 13, 14] (.bool (decide (y41 = 2))) (by kernel_rfl) rfl rfl (by kernel_rfl) (fun h' => by kernel_rfl) (by kernel_rfl) ?_
  by_cases hc43 : y41 = 2
  · refine kwp_at 45 (.bool true) (Eq.trans (b := .bool (decide (y41 = 2))) (by kernel_rfl) (by rw [decide_eq_true hc43])) ?_
    refine kwp_at 46 (.bool true) (Eq.trans (b := .bool (decide (y41 = 2))) (by kernel_rfl) (by rw [decide_eq_true hc43])) ?_
    replace hM := ifT hc43 hM
    refine k_pure (i := 3) [4, 5, 6, 7, 13, 14] (.pointer (some y39)) (by kernel_rfl) rfl rfl (by kernel_rfl) (fun h' => by kernel_rfl) (by kernel_rfl) ?_
    refine k_pure (i := 4) [5, 6, 7, 13, 14] (.pointer (some y39)) (by kernel_rfl) rfl rfl (by kernel_rfl) (fun h' => by kernel_rfl) (by kernel_rfl) ?_
    refine k_pure (i := 5) [6, 7, 13, 14] (.pointer (some (y39.add 9))) (by kernel_rfl) rfl rfl (by kernel_rfl) (fun h' => by kernel_rfl) (by kernel_rfl) ?_
    refine k_pure (i := 6) [7, 13, 14] (.pointer (some (y39.add 9))) (by kernel_rfl) rfl rfl (by kernel_rfl) (fun h' => by kernel_rfl) (by kernel_rfl) ?_
    obtain ⟨x44, hc45, hM⟩ := hM
    refine k_load (i := 7) (.int .i64 x44) (fun h' => cellH h' (y39.add 9) = some (.int .i64 x44) ∧ True) [13, 14] [] (by kernel_rfl) (by kernel_rfl) rfl rfl (by kernel_rfl) (fun h' hS => Eq.trans (b := (cellH h' (y39.add 9)).bind fun v47 => some (.value v47)) (by kernel_rfl) (bindE hS.1 _)) ⟨hc45, trivial⟩ (by kernel_rfl) ?_
    refine k_pure (i := 8) [9, 10, 11, 12, 13, 14] (.pointer (some y39)) (by kernel_rfl) rfl rfl (by kernel_rfl) (fun h' => by kernel_rfl) (by kernel_rfl) ?_
    refine k_pure (i := 9) [10, 11, 12, 13, 14] (.pointer (some y39)) (by kernel_rfl) rfl rfl (by kernel_rfl) (fun h' => by kernel_rfl) (by kernel_rfl) ?_
    refine k_pure (i := 10) [11, 12, 13, 14] (.pointer (some y39)) (by kernel_rfl) rfl rfl (by kernel_rfl) (fun h' => by kernel_rfl) (by kernel_rfl) ?_
    obtain ⟨x48, hc49, hM⟩ := hM
    refine k_load (i := 11) (.int .i64 x48) (fun h' => cellH h' y39 = some (.int .i64 x48) ∧ True) [12, 13, 14] [] (by kernel_rfl) (by kernel_rfl) rfl rfl (by kernel_rfl) (fun h' hS => Eq.trans (b := (cellH h' y39).bind fun v51 => some (.value v51)) (by kernel_rfl) (bindE hS.1 _)) ⟨hc49, trivial⟩ (by kernel_rfl) ?_
    refine k_pure (i := 12) [13, 14] (.int .i64 (IntKind.wrap .i64 (x48 - 1))) (by kernel_rfl) rfl rfl (by kernel_rfl) (fun h' => by kernel_rfl) (by kernel_rfl) ?_
    refine k_pure (i := 13) [14] (.bool (decide (x44 = (IntKind.wrap .i64 (x48 - 1))))) (by kernel_rfl) rfl rfl (by kernel_rfl) (fun h' => by kernel_rfl) (by kernel_rfl) ?_
    refine k_pure (i := 14) [] (.bool (decide (x44 = (IntKind.wrap .i64 (x48 - 1))))) (by kernel_rfl) rfl rfl (by kernel_rfl) (fun h' => by kernel_rfl) (by kernel_rfl) ?_
    refine k_done (by kernel_rfl) ?_
    refine thenE_n ?_
    refine cwp_condD (x44 = (IntKind.wrap .i64 (x48 - 1))) (by kernel_rfl) (fun hc52 => ?_) (fun hc52 => ?_)
    · replace hM := ifT hc52 hM
      refine cwp_seq (cR ?_)
      refine oS [(59, .pointer (some y39)), (60, .pointer (some y39)), (61, .pointer (some (y39.add 24)))] rfl ?_
      obtain ⟨x53, hc54, hM⟩ := hM
      refine owp_rdG (.bool x53) rfl (by kernel_rfl) (Eq.trans (b := (cellH h (y39.add 24)).bind fun v55 => some (.value v55)) (by kernel_rfl) (bindE hc54 _)) ?_
      refine oS [(63, .bool (!x53)), (64, .bool (!x53))] rfl ?_
      by_cases hc59 : (!x53) = true
      · refine owp_at 63 (.bool true) (Eq.trans (b := .bool (!x53)) (by kernel_rfl) (by rw [hc59])) ?_
        refine owp_at 64 (.bool true) (Eq.trans (b := .bool (!x53)) (by kernel_rfl) (by rw [hc59])) ?_
        replace hM := ifT hc59 hM
        refine oS [(65, undef), (66, undef), (67, undef), (68, undef), (69, undef), (70, .bool true)] rfl ?_
        refine oE ?_
        refine cwp_cond (t := true) (by kernel_rfl) (fun hx_ => ?_) (fun hx_ => ?_)
        all_goals first | (cases hx_; done) | skip
        refine cwp_ret (thenE_r (thenE_r ?_))
        exact hKr  _ _ hM
      refine owp_at 63 (.bool false) (Eq.trans (b := .bool (!x53)) (by kernel_rfl) (by rw [Bool.eq_false_iff.2 hc59])) ?_
      refine owp_at 64 (.bool false) (Eq.trans (b := .bool (!x53)) (by kernel_rfl) (by rw [Bool.eq_false_iff.2 hc59])) ?_
      replace hM := ifF hc59 hM
      refine oS [(65, .pointer (some y39)), (66, .pointer (some y39)), (67, .pointer (some y39))] rfl ?_
      obtain ⟨x60, hc61, hM⟩ := hM
      refine owp_rdG (.int .i64 x60) rfl (by kernel_rfl) (Eq.trans (b := (cellH h y39).bind fun v62 => some (.value v62)) (by kernel_rfl) (bindE hc61 _)) ?_
      refine oS [(69, .bool (decide (x60 = 1))), (70, .bool (decide (x60 = 1)))] rfl ?_
      refine oE ?_
      refine cwp_condD (x60 = 1) (by kernel_rfl) (fun hc63 => ?_) (fun hc63 => ?_)
      · replace hM := ifT hc63 hM
        refine cwp_ret (thenE_r (thenE_r ?_))
        exact hKr  _ _ hM
      replace hM := ifF hc63 hM
      refine cwp_skip (thenE_n (cR ?_))
      refine oS [(71, .pointer (some y39)), (72, .pointer (some y39)), (73, .pointer (some (y39.add 9))), (74, .pointer (some (y39.add 9)))] rfl ?_
      refine owp_hpD rfl (by kernel_rfl) (hpSt (y39.add 9) [.int .i64 0] (fun _ => by kernel_rfl) (by kernel_rfl) hM ?_)
      clear hM
      intro h64 hM
      refine oE (cwp_region ?_)
      refine oS [(75, .pointer (some y39))] rfl ?_
      refine owp_hpG rfl (by kernel_rfl) (hpCallE 46 #[.pointer (some y39)] (by kernel_rfl) (vt_Screen_feed_ok (some y39) _ h64 hM) ?_)
      clear hM
      rintro _ h65 ⟨rfl, hM⟩
      refine oE ?_
      refine cwp_of_part (fn := Tryd.f36) (p := [1, 1, 1, 1, 1, 1, 1, 1]) (by kernel_rfl) (cwp_at 0 (.pointer (some y39)) (by kernel_rfl) (cwp_at 1 (.int .i32 y40) (by kernel_rfl) (cwp_at 4 (.int .i64 y41) (by kernel_rfl) (cwp_at 5 (.int .i32 y42) (by kernel_rfl) (vt_Screen_write_j3_ok _ ?_ y39 y40 y41 y42 _ _ hM)))))
      · intro  b162 h161 hM
        exact hKn  _ _ hM
    replace hM := ifF hc52 hM
    refine cwp_skip (thenE_n ?_)
    refine cwp_of_part (fn := Tryd.f36) (p := [1, 1, 1, 1, 1, 1, 1, 1]) (by kernel_rfl) (cwp_at 0 (.pointer (some y39)) (by kernel_rfl) (cwp_at 1 (.int .i32 y40) (by kernel_rfl) (cwp_at 4 (.int .i64 y41) (by kernel_rfl) (cwp_at 5 (.int .i32 y42) (by kernel_rfl) (vt_Screen_write_j3_ok _ ?_ y39 y40 y41 y42 _ _ hM)))))
    · intro  b165 h164 hM
      exact hKn  _ _ hM
  refine kwp_at 45 (.bool false) (Eq.trans (b := .bool (decide (y41 = 2))) (by kernel_rfl) (by rw [decide_eq_false hc43])) ?_
  refine kwp_at 46 (.bool false) (Eq.trans (b := .bool (decide (y41 = 2))) (by kernel_rfl) (by rw [decide_eq_false hc43])) ?_
  replace hM := ifF hc43 hM
  refine k_not (i := 3) [4, 5, 6, 7, 13, 14] (by kernel_rfl) rfl rfl (by kernel_rfl) (by kernel_rfl) ?_
  refine k_not (i := 4) [5, 6, 7, 13, 14] (by kernel_rfl) rfl rfl (by kernel_rfl) (by kernel_rfl) ?_
  refine k_not (i := 5) [6, 7, 13, 14] (by kernel_rfl) rfl rfl (by kernel_rfl) (by kernel_rfl) ?_
  refine k_not (i := 6) [7, 13, 14] (by kernel_rfl) rfl rfl (by kernel_rfl) (by kernel_rfl) ?_
  refine k_not (i := 7) [13, 14] (by kernel_rfl) rfl rfl (by kernel_rfl) (by kernel_rfl) ?_
  refine k_not (i := 8) [9, 10, 11, 12, 13, 14] (by kernel_rfl) rfl rfl (by kernel_rfl) (by kernel_rfl) ?_
  refine k_not (i := 9) [10, 11, 12, 13, 14] (by kernel_rfl) rfl rfl (by kernel_rfl) (by kernel_rfl) ?_
  refine k_not (i := 10) [11, 12, 13, 14] (by kernel_rfl) rfl rfl (by kernel_rfl) (by kernel_rfl) ?_
  refine k_not (i := 11) [12, 13, 14] (by kernel_rfl) rfl rfl (by kernel_rfl) (by kernel_rfl) ?_
  refine k_not (i := 12) [13, 14] (by kernel_rfl) rfl rfl (by kernel_rfl) (by kernel_rfl) ?_
  refine k_not (i := 13) [14] (by kernel_rfl) rfl rfl (by kernel_rfl) (by kernel_rfl) ?_
  refine k_pure (i := 14) [] (.bool false) (by kernel_rfl) rfl rfl (by kernel_rfl) (fun h' => by kernel_rfl) (by kernel_rfl) ?_
  refine k_done (by kernel_rfl) ?_
  refine thenE_n ?_
  refine cwp_cond (t := false) (by kernel_rfl) (fun hx_ => ?_) (fun hx_ => ?_)
  all_goals first | (cases hx_; done) | skip
  refine cwp_skip (thenE_n ?_)
  refine cwp_of_part (fn := Tryd.f36) (p := [1, 1, 1, 1, 1, 1, 1, 1]) (by kernel_rfl) (cwp_at 0 (.pointer (some y39)) (by kernel_rfl) (cwp_at 1 (.int .i32 y40) (by kernel_rfl) (cwp_at 4 (.int .i64 y41) (by kernel_rfl) (cwp_at 5 (.int .i32 y42) (by kernel_rfl) (vt_Screen_write_j3_ok _ ?_ y39 y40 y41 y42 _ _ hM)))))
  · intro  b168 h167 hM
    exact hKn  _ _ hM
def vt_Screen_write_j1 (Kn : Heap → Prop) (Kr : Heap → Prop) (y22 : Addr) (y23 : Int) (y24 : Int) (y25 : Int) (h : Heap) : Prop :=
 ldB h (y22.add 18) fun x26 =>
 if x26 = true then
  ldB h (y22.add 24) fun x33 =>
  if x33 = true then
   stN (y22.add 9) [.int .i64 0] 0 h fun h37 =>
   vt_Screen_feed (some y22) (fun  h38 =>
    vt_Screen_write_j2
     (fun  h170 =>
         Kn  h170)
     (fun  h172 =>
          Kr  h172) y22 y23 y24 y25 h38) h37
  else
  vt_Screen_write_j2
   (fun  h175 =>
       Kn  h175)
   (fun  h177 =>
       Kr  h177) y22 y23 y24 y25 h
 else
 vt_Screen_write_j2
  (fun  h180 =>
      Kn  h180)
  (fun  h182 =>
      Kr  h182) y22 y23 y24 y25 h
theorem vt_Screen_write_j1_ok {Q : Exit → Env → Heap → Prop} (Kn : Heap → Prop) (hKn : ∀  (b : Env) (h : Heap), Kn  h → Q .normal b h) (Kr : Heap → Prop) (hKr : ∀  (b : Env) (h : Heap), Kr  h → Q .ret b h) (y22 : Addr) (y23 : Int) (y24 : Int) (y25 : Int) (b : Env) (h : Heap) (hM : vt_Screen_write_j1 Kn Kr y22 y23 y24 y25 h) : cwp Tryd.prog (partC Tryd.f36 [1, 1, 1, 1, 1, 1]) 179 Q (upd (upd (upd (upd b 0 (.pointer (some y22))) 1 (.int .i32 y23)) 4 (.int .i64 y24)) 5 (.int .i32 y25)) h := by
  unfold vt_Screen_write_j1 at hM
  refine cwp_part rfl ?_
  refine cwp_seq (cR ?_)
  refine oS [(27, .pointer (some y22)), (28, .pointer (some y22)), (29, .pointer (some (y22.add 9))), (30, .pointer (some (y22.add 18)))] rfl ?_
  obtain ⟨x26, hc27, hM⟩ := hM
  refine owp_rdG (.bool x26) rfl (by kernel_rfl) (Eq.trans (b := (cellH h (y22.add 18)).bind fun v28 => some (.value v28)) (by kernel_rfl) (bindE hc27 _)) ?_
  refine oS [(32, .bool x26)] rfl ?_
  by_cases hc32 : x26 = true
  · refine owp_at 31 (.bool true) (Eq.trans (b := .bool x26) (by kernel_rfl) (by rw [hc32])) ?_
    refine owp_at 32 (.bool true) (Eq.trans (b := .bool x26) (by kernel_rfl) (by rw [hc32])) ?_
    replace hM := ifT hc32 hM
    refine oS [(33, .pointer (some y22)), (34, .pointer (some y22)), (35, .pointer (some (y22.add 24)))] rfl ?_
    obtain ⟨x33, hc34, hM⟩ := hM
    refine owp_rdG (.bool x33) rfl (by kernel_rfl) (Eq.trans (b := (cellH h (y22.add 24)).bind fun v35 => some (.value v35)) (by kernel_rfl) (bindE hc34 _)) ?_
    refine oS [(37, .bool x33)] rfl ?_
    refine oE ?_
    refine cwp_condB x33 (by kernel_rfl) (fun hc36 => ?_) (fun hc36 => ?_)
    · replace hM := ifT hc36 hM
      refine cR ?_
      refine oS [(38, .pointer (some y22)), (39, .pointer (some y22)), (40, .pointer (some (y22.add 9))), (41, .pointer (some (y22.add 9)))] rfl ?_
      refine owp_hpD rfl (by kernel_rfl) (hpSt (y22.add 9) [.int .i64 0] (fun _ => by kernel_rfl) (by kernel_rfl) hM ?_)
      clear hM
      intro h37 hM
      refine oE (cwp_region ?_)
      refine oS [(42, .pointer (some y22))] rfl ?_
      refine owp_hpG rfl (by kernel_rfl) (hpCallE 46 #[.pointer (some y22)] (by kernel_rfl) (vt_Screen_feed_ok (some y22) _ h37 hM) ?_)
      clear hM
      rintro _ h38 ⟨rfl, hM⟩
      refine oE ?_
      refine cwp_of_part (fn := Tryd.f36) (p := [1, 1, 1, 1, 1, 1, 1]) (by kernel_rfl) (cwp_at 0 (.pointer (some y22)) (by kernel_rfl) (cwp_at 1 (.int .i32 y23) (by kernel_rfl) (cwp_at 4 (.int .i64 y24) (by kernel_rfl) (cwp_at 5 (.int .i32 y25) (by kernel_rfl) (vt_Screen_write_j2_ok _ ?_ _ ?_ y22 y23 y24 y25 _ _ hM)))))
      · intro  b171 h170 hM
        exact hKn  _ _ hM
      · intro  b173 h172 hM
        exact hKr  _ _ hM
    replace hM := ifF hc36 hM
    refine cwp_skip (thenE_n ?_)
    refine cwp_of_part (fn := Tryd.f36) (p := [1, 1, 1, 1, 1, 1, 1]) (by kernel_rfl) (cwp_at 0 (.pointer (some y22)) (by kernel_rfl) (cwp_at 1 (.int .i32 y23) (by kernel_rfl) (cwp_at 4 (.int .i64 y24) (by kernel_rfl) (cwp_at 5 (.int .i32 y25) (by kernel_rfl) (vt_Screen_write_j2_ok _ ?_ _ ?_ y22 y23 y24 y25 _ _ hM)))))
    · intro  b176 h175 hM
      exact hKn  _ _ hM
    · intro  b178 h177 hM
      exact hKr  _ _ hM
  refine owp_at 31 (.bool false) (Eq.trans (b := .bool x26) (by kernel_rfl) (by rw [Bool.eq_false_iff.2 hc32])) ?_
  refine owp_at 32 (.bool false) (Eq.trans (b := .bool x26) (by kernel_rfl) (by rw [Bool.eq_false_iff.2 hc32])) ?_
  replace hM := ifF hc32 hM
  refine oS [(33, undef), (34, undef), (35, undef), (36, undef), (37, .bool false)] rfl ?_
  refine oE ?_
  refine cwp_cond (t := false) (by kernel_rfl) (fun hx_ => ?_) (fun hx_ => ?_)
  all_goals first | (cases hx_; done) | skip
  refine cwp_skip (thenE_n ?_)
  refine cwp_of_part (fn := Tryd.f36) (p := [1, 1, 1, 1, 1, 1, 1]) (by kernel_rfl) (cwp_at 0 (.pointer (some y22)) (by kernel_rfl) (cwp_at 1 (.int .i32 y23) (by kernel_rfl) (cwp_at 4 (.int .i64 y24) (by kernel_rfl) (cwp_at 5 (.int .i32 y25) (by kernel_rfl) (vt_Screen_write_j2_ok _ ?_ _ ?_ y22 y23 y24 y25 _ _ hM)))))
  · intro  b181 h180 hM
    exact hKn  _ _ hM
  · intro  b183 h182 hM
    exact hKr  _ _ hM
def vt_Screen_write_j0 (Kn : Heap → Prop) (Kr : Heap → Prop) (y11 : Addr) (y12 : Int) (y13 : Int) (y14 : Int) (y15 : Int) (h : Heap) : Prop :=
 0 ≤ y15 ∧
 y15 < (2 : Int) ∧
 ldB h ((y11.add 15).add (y15.toNat * 1)) fun x18 =>
 if x18 = true then
  False
 else
 vt_Screen_write_j1
  (fun  h185 =>
      Kn  h185)
  (fun  h187 =>
      Kr  h187) y11 y12 y13 y14 h
theorem vt_Screen_write_j0_ok {Q : Exit → Env → Heap → Prop} (Kn : Heap → Prop) (hKn : ∀  (b : Env) (h : Heap), Kn  h → Q .normal b h) (Kr : Heap → Prop) (hKr : ∀  (b : Env) (h : Heap), Kr  h → Q .ret b h) (y11 : Addr) (y12 : Int) (y13 : Int) (y14 : Int) (y15 : Int) (b : Env) (h : Heap) (hM : vt_Screen_write_j0 Kn Kr y11 y12 y13 y14 y15 h) : cwp Tryd.prog (partC Tryd.f36 [1, 1, 1, 1, 1]) 179 Q (upd (upd (upd (upd (upd b 0 (.pointer (some y11))) 1 (.int .i32 y12)) 4 (.int .i64 y13)) 5 (.int .i32 y14)) 6 (.int .i64 y15)) h := by
  unfold vt_Screen_write_j0 at hM
  refine cwp_part rfl ?_
  refine cwp_seq (cR ?_)
  refine oS [(18, .pointer (some y11)), (19, .int .i64 y15), (20, .pointer (some y11)), (21, .pointer (some (y11.add 9))), (22, .pointer (some (y11.add 15)))] rfl ?_
  obtain ⟨hc16, hM⟩ := hM
  obtain ⟨hc17, hM⟩ := hM
  refine owp_rdG (.pointer (some ((y11.add 15).add (y15.toNat * 1)))) rfl (by kernel_rfl) (rd_ixA (P := Tryd.prog) (h := h) (t := 61) (el := 4) (sz := 1) (len := 2) (ad := (y11.add 15)) (k := .i64) (i := y15) (by kernel_rfl) (by kernel_rfl) hc16 hc17 (by kernel_rfl)) ?_
  obtain ⟨x18, hc19, hM⟩ := hM
  refine owp_rdG (.bool x18) rfl (by kernel_rfl) (Eq.trans (b := (cellH h ((y11.add 15).add (y15.toNat * 1))).bind fun v20 => some (.value v20)) (by kernel_rfl) (bindE hc19 _)) ?_
  refine oE ?_
  refine cwp_condB x18 (by kernel_rfl) (fun hc21 => ?_) (fun hc21 => ?_)
  · replace hM := ifT hc21 hM
    refine cwp_region ?_
    exact hM.elim
  replace hM := ifF hc21 hM
  refine cwp_skip (thenE_n ?_)
  refine cwp_of_part (fn := Tryd.f36) (p := [1, 1, 1, 1, 1, 1]) (by kernel_rfl) (cwp_at 0 (.pointer (some y11)) (by kernel_rfl) (cwp_at 1 (.int .i32 y12) (by kernel_rfl) (cwp_at 4 (.int .i64 y13) (by kernel_rfl) (cwp_at 5 (.int .i32 y14) (by kernel_rfl) (vt_Screen_write_j1_ok _ ?_ _ ?_ y11 y12 y13 y14 _ _ hM)))))
  · intro  b186 h185 hM
    exact hKn  _ _ hM
  · intro  b188 h187 hM
    exact hKr  _ _ hM
def vt_Screen_write (a1 : Option Addr) (a2 : Int) (K : Heap → Prop) (h : Heap) : Prop :=
 vt_Width a2 (fun x4 h3 =>
  if x4 < 1 then
   K h3
  else
  nz a1 fun p6 =>
  ldB h3 (p6.add 17) fun x7 =>
  if x7 = true then
   vt_Screen_write_j0
    (fun  h190 =>
        K h190)
    (fun  h192 =>
        K h192) p6 a2 x4 a2 1 h3
  else
  vt_Screen_write_j0
   (fun  h195 =>
       K h195)
   (fun  h197 =>
        K h197) p6 a2 x4 a2 0 h3) h
theorem vt_Screen_write_ok (a1 : Option Addr) (a2 : Int) (K : Heap → Prop) (h : Heap) (hM : vt_Screen_write a1 a2 K h) : CallsH Tryd.prog 36 #[.pointer a1, .int .i32 a2] (fun v h' => v = .tuple #[] ∧ K h') h := by
 unfold vt_Screen_write at hM
 refine callsH_intro (n := 179) Tryd.func36 rfl rfl (by kernel_rfl) ?_
 refine cR ?_
 refine oS [(8, .int .i32 a2)] rfl ?_
 refine owp_hpG rfl (by kernel_rfl) (hpCallE 6 #[.int .i32 a2] (by kernel_rfl) (vt_Width_ok a2 _ h hM) ?_)
 clear hM
 rintro _ h3 ⟨x4, rfl, hM⟩
 refine oS [(4, .int .i64 x4)] rfl ?_
 refine oE (cwp_seq (cR ?_))
 refine oS [(10, .int .i64 x4), (11, .bool (decide (x4 < 1)))] rfl ?_
 refine oE ?_
 refine cwp_condD (x4 < 1) (by kernel_rfl) (fun hc5 => ?_) (fun hc5 => ?_)
 · replace hM := ifT hc5 hM
   refine cwp_ret (thenE_r ?_)
   exact ret_ (.tuple #[]) (by kernel_rfl) ⟨rfl, hM⟩
 replace hM := ifF hc5 hM
 refine cwp_skip (thenE_n (cR ?_))
 refine oS [(12, .int .i32 a2), (5, .int .i32 a2)] rfl ?_
 refine oE (cR ?_)
 refine oS [(6, .int .i64 0)] rfl ?_
 refine oE (cwp_seq (cR ?_))
 refine oS [(13, .pointer a1)] rfl ?_
 obtain ⟨p6, rfl, hM⟩ := hM
 refine owp_rdG (.pointer (some p6)) rfl (by kernel_rfl) (by kernel_rfl) ?_
 refine oS [(15, .pointer (some (p6.add 9))), (16, .pointer (some (p6.add 17)))] rfl ?_
 obtain ⟨x7, hc8, hM⟩ := hM
 refine owp_rdG (.bool x7) rfl (by kernel_rfl) (Eq.trans (b := (cellH h3 (p6.add 17)).bind fun v9 => some (.value v9)) (by kernel_rfl) (bindE hc8 _)) ?_
 refine oE ?_
 refine cwp_condB x7 (by kernel_rfl) (fun hc10 => ?_) (fun hc10 => ?_)
 · replace hM := ifT hc10 hM
   refine cwp_region ?_
   refine oS [(6, .int .i64 1)] rfl ?_
   refine oE ?_
   refine cwp_of_part (fn := Tryd.f36) (p := [1, 1, 1, 1, 1]) (by kernel_rfl) (cwp_at 0 (.pointer (some p6)) (by kernel_rfl) (cwp_at 1 (.int .i32 a2) (by kernel_rfl) (cwp_at 4 (.int .i64 x4) (by kernel_rfl) (cwp_at 5 (.int .i32 a2) (by kernel_rfl) (cwp_at 6 (.int .i64 1) (by kernel_rfl) (vt_Screen_write_j0_ok _ ?_ _ ?_ p6 a2 x4 a2 1 _ _ hM))))))
   · intro  b191 h190 hM
     exact end_ (.tuple #[]) (by kernel_rfl) ⟨rfl, hM⟩
   · intro  b193 h192 hM
     exact ret_ (.tuple #[]) (by kernel_rfl) ⟨rfl, hM⟩
 replace hM := ifF hc10 hM
 refine cwp_skip (thenE_n ?_)
 refine cwp_of_part (fn := Tryd.f36) (p := [1, 1, 1, 1, 1]) (by kernel_rfl) (cwp_at 0 (.pointer (some p6)) (by kernel_rfl) (cwp_at 1 (.int .i32 a2) (by kernel_rfl) (cwp_at 4 (.int .i64 x4) (by kernel_rfl) (cwp_at 5 (.int .i32 a2) (by kernel_rfl) (cwp_at 6 (.int .i64 0) (by kernel_rfl) (vt_Screen_write_j0_ok _ ?_ _ ?_ p6 a2 x4 a2 0 _ _ hM))))))
 · intro  b196 h195 hM
   exact end_ (.tuple #[]) (by kernel_rfl) ⟨rfl, hM⟩
 · intro  b198 h197 hM
   exact ret_ (.tuple #[]) (by kernel_rfl) ⟨rfl, hM⟩
/- (*mullion/vt.Screen).broken -/
def vt_Screen_broken (a1 : Option Addr) (K : Heap → Prop) (h : Heap) : Prop :=
 nz a1 fun p2 =>
 ldI h .i64 (p2.add 38) fun x3 =>
 if 0 < x3 then
  stN (p2.add 38) [.int .i64 0] 0 h fun h7 =>
  vt_Screen_write (some p2) 65533 (fun  h8 =>
    K h8) h7
 else
 K h
theorem vt_Screen_broken_ok (a1 : Option Addr) (K : Heap → Prop) (h : Heap) (hM : vt_Screen_broken a1 K h) : CallsH Tryd.prog 26 #[.pointer a1] (fun v h' => v = .tuple #[] ∧ K h') h := by
 unfold vt_Screen_broken at hM
 refine callsH_intro (n := 12) Tryd.func26 rfl rfl (by kernel_rfl) ?_
 refine cR ?_
 refine oS [(2, .pointer a1)] rfl ?_
 obtain ⟨p2, rfl, hM⟩ := hM
 refine owp_rdG (.pointer (some p2)) rfl (by kernel_rfl) (by kernel_rfl) ?_
 refine oS [(4, .pointer (some (p2.add 38)))] rfl ?_
 obtain ⟨x3, hc4, hM⟩ := hM
 refine owp_rdG (.int .i64 x3) rfl (by kernel_rfl) (Eq.trans (b := (cellH h (p2.add 38)).bind fun v5 => some (.value v5)) (by kernel_rfl) (bindE hc4 _)) ?_
 refine oS [(6, .bool (decide (0 < x3)))] rfl ?_
 refine oE ?_
 refine cwp_condD (0 < x3) (by kernel_rfl) (fun hc6 => ?_) (fun hc6 => ?_)
 · replace hM := ifT hc6 hM
   refine cR ?_
   refine oS [(7, .pointer (some p2)), (8, .pointer (some p2)), (9, .pointer (some (p2.add 38)))] rfl ?_
   refine owp_hpD rfl (by kernel_rfl) (hpSt (p2.add 38) [.int .i64 0] (fun _ => by kernel_rfl) (by kernel_rfl) hM ?_)
   clear hM
   intro h7 hM
   refine oE (cwp_region ?_)
   refine oS [(10, .pointer (some p2))] rfl ?_
   refine owp_hpG rfl (by kernel_rfl) (hpCallE 36 #[.pointer (some p2), .int .i32 65533] (by kernel_rfl) (vt_Screen_write_ok (some p2) 65533 _ h7 hM) ?_)
   clear hM
   rintro _ h8 ⟨rfl, hM⟩
   refine owp_nil ?_
   exact end_ (.tuple #[]) (by kernel_rfl) ⟨rfl, hM⟩
 replace hM := ifF hc6 hM
 refine cwp_skip ?_
 exact end_ (.tuple #[]) (by kernel_rfl) ⟨rfl, hM⟩
/- (*mullion/vt.Screen).begin -/
def vt_Screen_begin (a1 : Option Addr) (a2 : Int) (K : Heap → Prop) (h : Heap) : Prop :=
 nz a1 fun p3 =>
 stN (p3.add 31) [.int .i64 a2] 0 h fun h4 =>
 ldL h4 (p3.add 32) fun x5 x5n x5c =>
 (0 : Int) ≤ (x5c : Int) ∧
 stN (p3.add 32) [.slice (cutA x5 x5c 0 1) ((0 : Int).toNat - 0) (x5c - 0)] 0 h4 fun h9 =>
 stN (p3.add 33) [.bool false] 0 h9 fun h10 =>
 K h10
theorem vt_Screen_begin_ok (a1 : Option Addr) (a2 : Int) (K : Heap → Prop) (h : Heap) (hM : vt_Screen_begin a1 a2 K h) : CallsH Tryd.prog 28 #[.pointer a1, .int .i64 a2] (fun v h' => v = .tuple #[] ∧ K h') h := by
 unfold vt_Screen_begin at hM
 refine callsH_intro (n := 19) Tryd.func28 rfl rfl (by kernel_rfl) ?_
 refine cR ?_
 refine oS [(4, .pointer a1), (5, .int .i64 a2)] rfl ?_
 obtain ⟨p3, rfl, hM⟩ := hM
 refine owp_rdG (.pointer (some p3)) rfl (by kernel_rfl) (by kernel_rfl) ?_
 refine oS [(7, .pointer (some (p3.add 31)))] rfl ?_
 refine owp_hpD rfl (by kernel_rfl) (hpSt (p3.add 31) [.int .i64 a2] (fun _ => by kernel_rfl) (by kernel_rfl) hM ?_)
 clear hM
 intro h4 hM
 refine oE (cR ?_)
 refine oS [(8, .pointer (some p3)), (9, .pointer (some p3)), (10, .pointer (some p3)), (11, .pointer (some (p3.add 32)))] rfl ?_
 obtain ⟨x5, x5n, x5c, hc6, hM⟩ := hM
 refine owp_rdG (.slice x5 x5n x5c) rfl (by kernel_rfl) (Eq.trans (b := (cellH h4 (p3.add 32)).bind fun v7 => some (.value v7)) (by kernel_rfl) (bindE hc6 _)) ?_
 obtain ⟨hc8, hM⟩ := hM
 refine owp_rdG (.slice (cutA x5 x5c 0 1) ((0 : Int).toNat - 0) (x5c - 0)) rfl (by kernel_rfl) (rd_sSHi (P := Tryd.prog) (h := h4) (t := 66) (el := 5) (sz := 1) (a := x5) (n := x5n) (c := x5c) (k := .i64) (i := (0 : Int)) (by kernel_rfl) (by kernel_rfl) (by decide) hc8 (by kernel_rfl)) ?_
 refine oS [(14, .pointer (some p3)), (15, .pointer (some (p3.add 32)))] rfl ?_
 refine owp_hpD rfl (by kernel_rfl) (hpSt (p3.add 32) [.slice (cutA x5 x5c 0 1) ((0 : Int).toNat - 0) (x5c - 0)] (fun _ => by kernel_rfl) (by kernel_rfl) hM ?_)
 clear hM
 intro h9 hM
 refine oE (cwp_region ?_)
 refine oS [(16, .pointer (some p3)), (17, .pointer (some p3)), (18, .pointer (some (p3.add 33)))] rfl ?_
 refine owp_hpD rfl (by kernel_rfl) (hpSt (p3.add 33) [.bool false] (fun _ => by kernel_rfl) (by kernel_rfl) hM ?_)
 clear hM
 intro h10 hM
 refine owp_nil ?_
 exact end_ (.tuple #[]) (by kernel_rfl) ⟨rfl, hM⟩
/- (*mullion/vt.Screen).to -/
def vt_Screen_to (a1 : Option Addr) (a2 : Int) (a3 : Int) (K : Heap → Prop) (h : Heap) : Prop :=
 nz a1 fun p4 =>
 ldI h .i64 p4 fun x5 =>
 stN (p4.add 9) [.int .i64 (imax 0 (imin a2 (IntKind.wrap .i64 (x5 - 1))))] 0 h fun h8 =>
 ldI h8 .i64 (p4.add 1) fun x9 =>
 stN (p4.add 10) [.int .i64 (imax 0 (imin a3 (IntKind.wrap .i64 (x9 - 1))))] 0 h8 fun h12 =>
 stN (p4.add 18) [.bool false] 0 h12 fun h13 =>
 K h13
theorem vt_Screen_to_ok (a1 : Option Addr) (a2 : Int) (a3 : Int) (K : Heap → Prop) (h : Heap) (hM : vt_Screen_to a1 a2 a3 K h) : CallsH Tryd.prog 51 #[.pointer a1, .int .i64 a2, .int .i64 a3] (fun v h' => v = .tuple #[] ∧ K h') h := by
 unfold vt_Screen_to at hM
 refine callsH_intro (n := 34) Tryd.func51 rfl rfl (by kernel_rfl) ?_
 refine cR ?_
 refine oS [(6, .pointer a1), (7, .int .i64 a2), (8, .pointer a1)] rfl ?_
 obtain ⟨p4, rfl, hM⟩ := hM
 refine owp_rdG (.pointer (some p4)) rfl (by kernel_rfl) (by kernel_rfl) ?_
 refine oS [(10, .pointer (some p4))] rfl ?_
 obtain ⟨x5, hc6, hM⟩ := hM
 refine owp_rdG (.int .i64 x5) rfl (by kernel_rfl) (Eq.trans (b := (cellH h p4).bind fun v7 => some (.value v7)) (by kernel_rfl) (bindE hc6 _)) ?_
 refine oS [(12, .int .i64 (IntKind.wrap .i64 (x5 - 1))), (13, .int .i64 (imin a2 (IntKind.wrap .i64 (x5 - 1)))), (14, .int .i64 (imax 0 (imin a2 (IntKind.wrap .i64 (x5 - 1))))), (15, .pointer (some p4)), (16, .pointer (some (p4.add 9))), (17, .pointer (some (p4.add 9)))] rfl ?_
 refine owp_hpD rfl (by kernel_rfl) (hpSt (p4.add 9) [.int .i64 (imax 0 (imin a2 (IntKind.wrap .i64 (x5 - 1))))] (fun _ => by kernel_rfl) (by kernel_rfl) hM ?_)
 clear hM
 intro h8 hM
 refine oE (cR ?_)
 refine oS [(18, .pointer (some p4)), (19, .int .i64 a3), (20, .pointer (some p4)), (21, .pointer (some p4)), (22, .pointer (some (p4.add 1)))] rfl ?_
 obtain ⟨x9, hc10, hM⟩ := hM
 refine owp_rdG (.int .i64 x9) rfl (by kernel_rfl) (Eq.trans (b := (cellH h8 (p4.add 1)).bind fun v11 => some (.value v11)) (by kernel_rfl) (bindE hc10 _)) ?_
 refine oS [(24, .int .i64 (IntKind.wrap .i64 (x9 - 1))), (25, .int .i64 (imin a3 (IntKind.wrap .i64 (x9 - 1)))), (26, .int .i64 (imax 0 (imin a3 (IntKind.wrap .i64 (x9 - 1))))), (27, .pointer (some p4)), (28, .pointer (some (p4.add 9))), (29, .pointer (some (p4.add 10)))] rfl ?_
 refine owp_hpD rfl (by kernel_rfl) (hpSt (p4.add 10) [.int .i64 (imax 0 (imin a3 (IntKind.wrap .i64 (x9 - 1))))] (fun _ => by kernel_rfl) (by kernel_rfl) hM ?_)
 clear hM
 intro h12 hM
 refine oE (cwp_region ?_)
 refine oS [(30, .pointer (some p4)), (31, .pointer (some p4)), (32, .pointer (some (p4.add 9))), (33, .pointer (some (p4.add 18)))] rfl ?_
 refine owp_hpD rfl (by kernel_rfl) (hpSt (p4.add 18) [.bool false] (fun _ => by kernel_rfl) (by kernel_rfl) hM ?_)
 clear hM
 intro h13 hM
 refine owp_nil ?_
 exact end_ (.tuple #[]) (by kernel_rfl) ⟨rfl, hM⟩
/- (*mullion/vt.Screen).does -/
def vt_Screen_does_j0 (Kn : Heap → Prop) (y22 : Option Addr) (y23 : Int) (y24 : Bool) (h : Heap) : Prop :=
 if y24 = true then
  nz y22 fun p26 =>
  ldB h (p26.add 23) fun x27 =>
  if x27 = true then
   stN (p26.add 9) [.int .i64 0] 0 h fun h31 =>
   vt_Screen_feed (some p26) (fun  h32 =>
     Kn  h32) h31
  else
  vt_Screen_feed (some p26) (fun  h33 =>
    Kn  h33) h
 else
 if y23 = 13 then
  nz y22 fun p35 =>
  ldI h .i64 (p35.add 10) fun x36 =>
  vt_Screen_to (some p35) 0 x36 (fun  h39 =>
    Kn  h39) h
 else
 if y23 = 14 then
  nz y22 fun p41 =>
  stN (p41.add 17) [.bool true] 0 h fun h42 =>
  Kn  h42
 else
 if y23 = 15 then
  nz y22 fun p44 =>
  stN (p44.add 17) [.bool false] 0 h fun h45 =>
  Kn  h45
 else
 Kn  h
theorem vt_Screen_does_j0_ok {Q : Exit → Env → Heap → Prop} (Kn : Heap → Prop) (hKn : ∀  (b : Env) (h : Heap), Kn  h → Q .normal b h) (y22 : Option Addr) (y23 : Int) (y24 : Bool) (b : Env) (h : Heap) (hM : vt_Screen_does_j0 Kn y22 y23 y24 h) : cwp Tryd.prog (partC Tryd.f39 [1, 0, 1, 1, 1, 1, 1, 1, 1]) 68 Q (upd (upd (upd b 0 (.pointer y22)) 4 (.int .u8 y23)) 33 (.bool y24)) h := by
  unfold vt_Screen_does_j0 at hM
  refine cwp_part rfl ?_
  refine cwp_condB y24 (by kernel_rfl) (fun hc25 => ?_) (fun hc25 => ?_)
  · replace hM := ifT hc25 hM
    refine cwp_seq (cR ?_)
    refine oS [(37, .pointer y22)] rfl ?_
    obtain ⟨p26, rfl, hM⟩ := hM
    refine owp_rdG (.pointer (some p26)) rfl (by kernel_rfl) (by kernel_rfl) ?_
    refine oS [(39, .pointer (some (p26.add 23)))] rfl ?_
    obtain ⟨x27, hc28, hM⟩ := hM
    refine owp_rdG (.bool x27) rfl (by kernel_rfl) (Eq.trans (b := (cellH h (p26.add 23)).bind fun v29 => some (.value v29)) (by kernel_rfl) (bindE hc28 _)) ?_
    refine oE ?_
    refine cwp_condB x27 (by kernel_rfl) (fun hc30 => ?_) (fun hc30 => ?_)
    · replace hM := ifT hc30 hM
      refine cwp_region ?_
      refine oS [(41, .pointer (some p26)), (42, .pointer (some p26)), (43, .pointer (some (p26.add 9))), (44, .pointer (some (p26.add 9)))] rfl ?_
      refine owp_hpD rfl (by kernel_rfl) (hpSt (p26.add 9) [.int .i64 0] (fun _ => by kernel_rfl) (by kernel_rfl) hM ?_)
      clear hM
      intro h31 hM
      refine oE (cwp_region ?_)
      refine oS [(45, .pointer (some p26))] rfl ?_
      refine owp_hpG rfl (by kernel_rfl) (hpCallE 46 #[.pointer (some p26)] (by kernel_rfl) (vt_Screen_feed_ok (some p26) _ h31 hM) ?_)
      clear hM
      rintro _ h32 ⟨rfl, hM⟩
      refine owp_nil ?_
      exact hKn  _ _ hM
    replace hM := ifF hc30 hM
    refine cwp_skip (thenE_n (cwp_region ?_))
    refine oS [(45, .pointer (some p26))] rfl ?_
    refine owp_hpG rfl (by kernel_rfl) (hpCallE 46 #[.pointer (some p26)] (by kernel_rfl) (vt_Screen_feed_ok (some p26) _ h hM) ?_)
    clear hM
    rintro _ h33 ⟨rfl, hM⟩
    refine owp_nil ?_
    exact hKn  _ _ hM
  replace hM := ifF hc25 hM
  refine cR ?_
  refine oS [(48, .bool (decide (y23 = 13))), (47, .bool (decide (y23 = 13)))] rfl ?_
  refine oE ?_
  refine cwp_condD (y23 = 13) (by kernel_rfl) (fun hc34 => ?_) (fun hc34 => ?_)
  · replace hM := ifT hc34 hM
    refine cwp_region ?_
    refine oS [(49, .pointer y22), (50, .pointer y22)] rfl ?_
    obtain ⟨p35, rfl, hM⟩ := hM
    refine owp_rdG (.pointer (some p35)) rfl (by kernel_rfl) (by kernel_rfl) ?_
    refine oS [(52, .pointer (some (p35.add 9))), (53, .pointer (some (p35.add 10)))] rfl ?_
    obtain ⟨x36, hc37, hM⟩ := hM
    refine owp_rdG (.int .i64 x36) rfl (by kernel_rfl) (Eq.trans (b := (cellH h (p35.add 10)).bind fun v38 => some (.value v38)) (by kernel_rfl) (bindE hc37 _)) ?_
    refine owp_hpG rfl (by kernel_rfl) (hpCallE 51 #[.pointer (some p35), .int .i64 0, .int .i64 x36] (by kernel_rfl) (vt_Screen_to_ok (some p35) 0 x36 _ h hM) ?_)
    clear hM
    rintro _ h39 ⟨rfl, hM⟩
    refine owp_nil ?_
    exact hKn  _ _ hM
  replace hM := ifF hc34 hM
  refine cR ?_
  refine oS [(57, .bool (decide (y23 = 14))), (56, .bool (decide (y23 = 14)))] rfl ?_
  refine oE ?_
  refine cwp_condD (y23 = 14) (by kernel_rfl) (fun hc40 => ?_) (fun hc40 => ?_)
  · replace hM := ifT hc40 hM
    refine cwp_region ?_
    refine oS [(58, .pointer y22)] rfl ?_
    obtain ⟨p41, rfl, hM⟩ := hM
    refine owp_rdG (.pointer (some p41)) rfl (by kernel_rfl) (by kernel_rfl) ?_
    refine oS [(60, .pointer (some (p41.add 9))), (61, .pointer (some (p41.add 17)))] rfl ?_
    refine owp_hpD rfl (by kernel_rfl) (hpSt (p41.add 17) [.bool true] (fun _ => by kernel_rfl) (by kernel_rfl) hM ?_)
    clear hM
    intro h42 hM
    refine owp_nil ?_
    exact hKn  _ _ hM
  replace hM := ifF hc40 hM
  refine cR ?_
  refine oS [(63, .bool (decide (y23 = 15))), (62, .bool (decide (y23 = 15)))] rfl ?_
  refine oE ?_
  refine cwp_condD (y23 = 15) (by kernel_rfl) (fun hc43 => ?_) (fun hc43 => ?_)
  · replace hM := ifT hc43 hM
    refine cwp_region ?_
    refine oS [(64, .pointer y22)] rfl ?_
    obtain ⟨p44, rfl, hM⟩ := hM
    refine owp_rdG (.pointer (some p44)) rfl (by kernel_rfl) (by kernel_rfl) ?_
    refine oS [(66, .pointer (some (p44.add 9))), (67, .pointer (some (p44.add 17)))] rfl ?_
    refine owp_hpD rfl (by kernel_rfl) (hpSt (p44.add 17) [.bool false] (fun _ => by kernel_rfl) (by kernel_rfl) hM ?_)
    clear hM
    intro h45 hM
    refine owp_nil ?_
    exact hKn  _ _ hM
  replace hM := ifF hc43 hM
  refine cwp_skip ?_
  exact hKn  _ _ hM
def vt_Screen_does (a1 : Option Addr) (a2 : Int) (K : Heap → Prop) (h : Heap) : Prop :=
 if a2 = 7 then
  nz a1 fun p4 =>
  ldI h .i64 (p4.add 29) fun x5 =>
  stN (p4.add 29) [.int .i64 (IntKind.wrap .i64 (x5 + 1))] 0 h fun h8 =>
  K h8
 else
 if a2 = 8 then
  nz a1 fun p10 =>
  ldI h .i64 (p10.add 9) fun x11 =>
  ldI h .i64 (p10.add 10) fun x15 =>
  vt_Screen_to (some p10) (IntKind.wrap .i64 (x11 - 1)) x15 (fun  h19 =>
    K h19) h
 else
 if a2 = 9 then
  False
 else
 if a2 = 10 then
  vt_Screen_does_j0
   (fun  h46 =>
       K h46) a1 a2 (decide (a2 = 10)) h
 else
 if a2 = 11 then
  vt_Screen_does_j0
   (fun  h50 =>
       K h50) a1 a2 (decide (a2 = 11)) h
 else
 vt_Screen_does_j0
  (fun  h53 =>
      K h53) a1 a2 (decide (a2 = 12)) h
theorem vt_Screen_does_ok (a1 : Option Addr) (a2 : Int) (K : Heap → Prop) (h : Heap) (hM : vt_Screen_does a1 a2 K h) : CallsH Tryd.prog 39 #[.pointer a1, .int .u8 a2] (fun v h' => v = .tuple #[] ∧ K h') h := by
 unfold vt_Screen_does at hM
 refine callsH_intro (n := 68) Tryd.func39 rfl rfl (by kernel_rfl) ?_
 refine cR ?_
 refine oS [(4, .int .u8 a2)] rfl ?_
 refine oE (cwp_block (cR ?_))
 refine oS [(6, .bool (decide (a2 = 7))), (5, .bool (decide (a2 = 7)))] rfl ?_
 refine oE ?_
 refine cwp_condD (a2 = 7) (by kernel_rfl) (fun hc3 => ?_) (fun hc3 => ?_)
 · replace hM := ifT hc3 hM
   refine cwp_region ?_
   refine oS [(7, .pointer a1)] rfl ?_
   obtain ⟨p4, rfl, hM⟩ := hM
   refine owp_rdG (.pointer (some p4)) rfl (by kernel_rfl) (by kernel_rfl) ?_
   refine oS [(9, .pointer (some (p4.add 29)))] rfl ?_
   obtain ⟨x5, hc6, hM⟩ := hM
   refine owp_rdG (.int .i64 x5) rfl (by kernel_rfl) (Eq.trans (b := (cellH h (p4.add 29)).bind fun v7 => some (.value v7)) (by kernel_rfl) (bindE hc6 _)) ?_
   refine oS [(11, .int .i64 (IntKind.wrap .i64 (x5 + 1))), (12, .pointer (some p4)), (13, .pointer (some (p4.add 29)))] rfl ?_
   refine owp_hpD rfl (by kernel_rfl) (hpSt (p4.add 29) [.int .i64 (IntKind.wrap .i64 (x5 + 1))] (fun _ => by kernel_rfl) (by kernel_rfl) hM ?_)
   clear hM
   intro h8 hM
   refine owp_nil (blockE_n ?_)
   exact end_ (.tuple #[]) (by kernel_rfl) ⟨rfl, hM⟩
 replace hM := ifF hc3 hM
 refine cR ?_
 refine oS [(15, .bool (decide (a2 = 8))), (14, .bool (decide (a2 = 8)))] rfl ?_
 refine oE ?_
 refine cwp_condD (a2 = 8) (by kernel_rfl) (fun hc9 => ?_) (fun hc9 => ?_)
 · replace hM := ifT hc9 hM
   refine cwp_draw (by kernel_rfl) ?_
   refine k_pure (i := 0) [12] (.pointer a1) (by kernel_rfl) rfl rfl (by kernel_rfl) (fun h' => by kernel_rfl) (by kernel_rfl) ?_
   refine k_pure (i := 1) [2, 3, 4, 5, 6, 12] (.pointer a1) (by kernel_rfl) rfl rfl (by kernel_rfl) (fun h' => by kernel_rfl) (by kernel_rfl) ?_
   obtain ⟨p10, rfl, hM⟩ := hM
   refine k_pure (i := 2) [3, 4, 5, 6, 12] (.pointer (some p10)) (by kernel_rfl) rfl rfl (by kernel_rfl) (fun h' => by kernel_rfl) (by kernel_rfl) ?_
   refine k_pure (i := 3) [4, 5, 6, 12] (.pointer (some (p10.add 9))) (by kernel_rfl) rfl rfl (by kernel_rfl) (fun h' => by kernel_rfl) (by kernel_rfl) ?_
   refine k_pure (i := 4) [5, 6, 12] (.pointer (some (p10.add 9))) (by kernel_rfl) rfl rfl (by kernel_rfl) (fun h' => by kernel_rfl) (by kernel_rfl) ?_
   obtain ⟨x11, hc12, hM⟩ := hM
   refine k_load (i := 5) (.int .i64 x11) (fun h' => cellH h' (p10.add 9) = some (.int .i64 x11) ∧ True) [6, 12] [12] (by kernel_rfl) (by kernel_rfl) rfl rfl (by kernel_rfl) (fun h' hS => Eq.trans (b := (cellH h' (p10.add 9)).bind fun v14 => some (.value v14)) (by kernel_rfl) (bindE hS.1 _)) ⟨hc12, trivial⟩ (by kernel_rfl) ?_
   refine k_pure (i := 6) [12] (.int .i64 (IntKind.wrap .i64 (x11 - 1))) (by kernel_rfl) rfl rfl (by kernel_rfl) (fun h' => by kernel_rfl) (by kernel_rfl) ?_
   refine k_pure (i := 7) [8, 9, 10, 11, 12] (.pointer (some p10)) (by kernel_rfl) rfl rfl (by kernel_rfl) (fun h' => by kernel_rfl) (by kernel_rfl) ?_
   refine k_pure (i := 8) [9, 10, 11, 12] (.pointer (some p10)) (by kernel_rfl) rfl rfl (by kernel_rfl) (fun h' => by kernel_rfl) (by kernel_rfl) ?_
   refine k_pure (i := 9) [10, 11, 12] (.pointer (some (p10.add 9))) (by kernel_rfl) rfl rfl (by kernel_rfl) (fun h' => by kernel_rfl) (by kernel_rfl) ?_
   refine k_pure (i := 10) [11, 12] (.pointer (some (p10.add 10))) (by kernel_rfl) rfl rfl (by kernel_rfl) (fun h' => by kernel_rfl) (by kernel_rfl) ?_
   obtain ⟨x15, hc16, hM⟩ := hM
   refine k_load (i := 11) (.int .i64 x15) (fun h' => cellH h' (p10.add 10) = some (.int .i64 x15) ∧ True) [12] [12] (by kernel_rfl) (by kernel_rfl) rfl rfl (by kernel_rfl) (fun h' hS => Eq.trans (b := (cellH h' (p10.add 10)).bind fun v18 => some (.value v18)) (by kernel_rfl) (bindE hS.1 _)) ⟨hc16, trivial⟩ (by kernel_rfl) ?_
   refine k_eff (j := 12) (by kernel_rfl) rfl rfl (by kernel_rfl) (hpCallE 51 #[.pointer (some p10), .int .i64 (IntKind.wrap .i64 (x11 - 1)), .int .i64 x15] (by kernel_rfl) (vt_Screen_to_ok (some p10) (IntKind.wrap .i64 (x11 - 1)) x15 _ h hM) ?_)
   clear hM
   rintro _ h19 ⟨rfl, hM⟩
   refine ⟨trivial, ?_⟩
   refine k_done (by kernel_rfl) ?_
   refine blockE_n ?_
   exact end_ (.tuple #[]) (by kernel_rfl) ⟨rfl, hM⟩
 replace hM := ifF hc9 hM
 refine cR ?_
 refine oS [(30, .bool (decide (a2 = 9))), (29, .bool (decide (a2 = 9)))] rfl ?_
 refine oE ?_
 refine cwp_condD (a2 = 9) (by kernel_rfl) (fun hc20 => ?_) (fun hc20 => ?_)
 · replace hM := ifT hc20 hM
   refine cwp_region ?_
   exact hM.elim
 replace hM := ifF hc20 hM
 refine cwp_seq (cR ?_)
 refine oS [(34, .bool (decide (a2 = 10))), (33, .bool (decide (a2 = 10)))] rfl ?_
 refine oE ?_
 refine cwp_condD (a2 = 10) (by kernel_rfl) (fun hc21 => ?_) (fun hc21 => ?_)
 · replace hM := ifT hc21 hM
   refine cwp_skip (thenE_n ?_)
   refine cwp_of_part (fn := Tryd.f39) (p := [1, 0, 1, 1, 1, 1, 1, 1, 1]) (by kernel_rfl) (cwp_at 0 (.pointer a1) (by kernel_rfl) (cwp_at 4 (.int .u8 a2) (by kernel_rfl) (cwp_at 33 (.bool (decide (a2 = 10))) (by kernel_rfl) (vt_Screen_does_j0_ok _ ?_ a1 a2 (decide (a2 = 10)) _ _ hM))))
   · intro  b47 h46 hM
     refine blockE_n ?_
     exact end_ (.tuple #[]) (by kernel_rfl) ⟨rfl, hM⟩
 replace hM := ifF hc21 hM
 refine cR ?_
 refine oS [(35, .bool (decide (a2 = 11))), (33, .bool (decide (a2 = 11)))] rfl ?_
 refine oE ?_
 refine cwp_condD (a2 = 11) (by kernel_rfl) (fun hc49 => ?_) (fun hc49 => ?_)
 · replace hM := ifT hc49 hM
   refine cwp_skip (thenE_n ?_)
   refine cwp_of_part (fn := Tryd.f39) (p := [1, 0, 1, 1, 1, 1, 1, 1, 1]) (by kernel_rfl) (cwp_at 0 (.pointer a1) (by kernel_rfl) (cwp_at 4 (.int .u8 a2) (by kernel_rfl) (cwp_at 33 (.bool (decide (a2 = 11))) (by kernel_rfl) (vt_Screen_does_j0_ok _ ?_ a1 a2 (decide (a2 = 11)) _ _ hM))))
   · intro  b51 h50 hM
     refine blockE_n ?_
     exact end_ (.tuple #[]) (by kernel_rfl) ⟨rfl, hM⟩
 replace hM := ifF hc49 hM
 refine cwp_region ?_
 refine oS [(36, .bool (decide (a2 = 12))), (33, .bool (decide (a2 = 12)))] rfl ?_
 refine oE ?_
 refine cwp_of_part (fn := Tryd.f39) (p := [1, 0, 1, 1, 1, 1, 1, 1, 1]) (by kernel_rfl) (cwp_at 0 (.pointer a1) (by kernel_rfl) (cwp_at 4 (.int .u8 a2) (by kernel_rfl) (cwp_at 33 (.bool (decide (a2 = 12))) (by kernel_rfl) (vt_Screen_does_j0_ok _ ?_ a1 a2 (decide (a2 = 12)) _ _ hM))))
 · intro  b54 h53 hM
   refine blockE_n ?_
   exact end_ (.tuple #[]) (by kernel_rfl) ⟨rfl, hM⟩
/- (*mullion/vt.Screen).ground -/
def vt_Screen_ground_j0 (Kn : Heap → Prop) (y8 : Addr) (y9 : Int) (h : Heap) : Prop :=
 if y9 < 32 then
  vt_Screen_does (some y8) y9 (fun  h11 =>
    Kn  h11) h
 else
 if y9 < 127 then
  vt_Screen_write (some y8) (IntKind.wrap .i32 (y9)) (fun  h13 =>
    Kn  h13) h
 else
 if y9 = 127 then
  Kn  h
 else
 if ((decide (194 ≤ y9)) && (decide (y9 ≤ 244))) = true then
  stN (y8.add 34) [.int .u8 y9] 0 h fun h20 =>
  stN (y8.add 38) [.int .i64 1] 0 h20 fun h21 =>
  stN (y8.add 39) [.int .i64 2] 0 h21 fun h22 =>
  if 224 ≤ y9 then
   stN (y8.add 39) [.int .i64 3] 0 h22 fun h24 =>
   if 240 ≤ y9 then
    stN (y8.add 39) [.int .i64 4] 0 h24 fun h26 =>
    Kn  h26
   else
   Kn  h24
  else
  if 240 ≤ y9 then
   stN (y8.add 39) [.int .i64 4] 0 h22 fun h28 =>
   Kn  h28
  else
  Kn  h22
 else
 vt_Screen_write (some y8) 65533 (fun  h29 =>
   Kn  h29) h
theorem vt_Screen_ground_j0_ok {Q : Exit → Env → Heap → Prop} (Kn : Heap → Prop) (hKn : ∀  (b : Env) (h : Heap), Kn  h → Q .normal b h) (y8 : Addr) (y9 : Int) (b : Env) (h : Heap) (hM : vt_Screen_ground_j0 Kn y8 y9 h) : cwp Tryd.prog (partC Tryd.f29 [1]) 108 Q (upd (upd b 0 (.pointer (some y8))) 1 (.int .u8 y9)) h := by
  unfold vt_Screen_ground_j0 at hM
  refine cwp_part rfl ?_
  refine cwp_block (cR ?_)
  refine oS [(65, .int .u8 y9), (66, .bool (decide (y9 < 32))), (64, .bool (decide (y9 < 32)))] rfl ?_
  refine oE ?_
  refine cwp_condD (y9 < 32) (by kernel_rfl) (fun hc10 => ?_) (fun hc10 => ?_)
  · replace hM := ifT hc10 hM
    refine cwp_region ?_
    refine oS [(67, .pointer (some y8)), (68, .int .u8 y9)] rfl ?_
    refine owp_hpG rfl (by kernel_rfl) (hpCallE 39 #[.pointer (some y8), .int .u8 y9] (by kernel_rfl) (vt_Screen_does_ok (some y8) y9 _ h hM) ?_)
    clear hM
    rintro _ h11 ⟨rfl, hM⟩
    refine owp_nil (blockE_n ?_)
    exact hKn  _ _ hM
  replace hM := ifF hc10 hM
  refine cR ?_
  refine oS [(71, .int .u8 y9), (72, .bool (decide (y9 < 127))), (70, .bool (decide (y9 < 127)))] rfl ?_
  refine oE ?_
  refine cwp_condD (y9 < 127) (by kernel_rfl) (fun hc12 => ?_) (fun hc12 => ?_)
  · replace hM := ifT hc12 hM
    refine cwp_region ?_
    refine oS [(73, .pointer (some y8)), (74, .int .u8 y9), (75, .int .i32 (IntKind.wrap .i32 (y9)))] rfl ?_
    refine owp_hpG rfl (by kernel_rfl) (hpCallE 36 #[.pointer (some y8), .int .i32 (IntKind.wrap .i32 (y9))] (by kernel_rfl) (vt_Screen_write_ok (some y8) (IntKind.wrap .i32 (y9)) _ h hM) ?_)
    clear hM
    rintro _ h13 ⟨rfl, hM⟩
    refine owp_nil (blockE_n ?_)
    exact hKn  _ _ hM
  replace hM := ifF hc12 hM
  refine cR ?_
  refine oS [(78, .int .u8 y9), (79, .bool (decide (y9 = 127))), (77, .bool (decide (y9 = 127)))] rfl ?_
  refine oE ?_
  refine cwp_condD (y9 = 127) (by kernel_rfl) (fun hc14 => ?_) (fun hc14 => ?_)
  · replace hM := ifT hc14 hM
    refine cwp_skip (blockE_n ?_)
    exact hKn  _ _ hM
  replace hM := ifF hc14 hM
  refine cR ?_
  refine oS [(81, .int .u8 y9), (82, .bool (decide (194 ≤ y9))), (83, .bool (decide (194 ≤ y9)))] rfl ?_
  refine oB (decide (194 ≤ y9)) 3 [82, 83] (fun b_ => [(84, iteV b_ (.int .u8 y9 : Value) undef), (85, iteV b_ (.bool (decide (y9 ≤ 244)) : Value) undef), (86, .bool (b_ && (decide (y9 ≤ 244))))]) rfl (fun hb15 hq16 => oS [(84, .int .u8 y9), (85, .bool (decide (y9 ≤ 244))), (86, .bool (decide (y9 ≤ 244)))] rfl (hq16)) (fun hb17 hq18 => oS [(84, undef), (85, undef), (86, .bool false)] rfl (hq18)) ?_
  refine oS [(80, .bool ((decide (194 ≤ y9)) && (decide (y9 ≤ 244))))] rfl ?_
  refine oE ?_
  refine cwp_condB ((decide (194 ≤ y9)) && (decide (y9 ≤ 244))) (by kernel_rfl) (fun hc19 => ?_) (fun hc19 => ?_)
  · replace hM := ifT hc19 hM
    refine cR ?_
    refine oS [(87, .pointer (some y8)), (88, .int .u8 y9), (89, .pointer (some y8)), (90, .pointer (some (y8.add 34))), (91, .pointer (some (y8.add 34)))] rfl ?_
    refine owp_hpD rfl (by kernel_rfl) (hpSt (y8.add 34) [.int .u8 y9] (fun _ => by kernel_rfl) (by kernel_rfl) hM ?_)
    clear hM
    intro h20 hM
    refine oE (cR ?_)
    refine oS [(92, .pointer (some y8)), (93, .pointer (some y8)), (94, .pointer (some (y8.add 38)))] rfl ?_
    refine owp_hpD rfl (by kernel_rfl) (hpSt (y8.add 38) [.int .i64 1] (fun _ => by kernel_rfl) (by kernel_rfl) hM ?_)
    clear hM
    intro h21 hM
    refine oE (cR ?_)
    refine oS [(95, .pointer (some y8)), (96, .pointer (some y8)), (97, .pointer (some (y8.add 39)))] rfl ?_
    refine owp_hpD rfl (by kernel_rfl) (hpSt (y8.add 39) [.int .i64 2] (fun _ => by kernel_rfl) (by kernel_rfl) hM ?_)
    clear hM
    intro h22 hM
    refine oE (cwp_seq (cR ?_))
    refine oS [(98, .int .u8 y9), (99, .bool (decide (224 ≤ y9)))] rfl ?_
    refine oE ?_
    refine cwp_condD (224 ≤ y9) (by kernel_rfl) (fun hc23 => ?_) (fun hc23 => ?_)
    · replace hM := ifT hc23 hM
      refine cwp_region ?_
      refine oS [(100, .pointer (some y8)), (101, .pointer (some y8)), (102, .pointer (some (y8.add 39)))] rfl ?_
      refine owp_hpD rfl (by kernel_rfl) (hpSt (y8.add 39) [.int .i64 3] (fun _ => by kernel_rfl) (by kernel_rfl) hM ?_)
      clear hM
      intro h24 hM
      refine oE (cR ?_)
      refine oS [(103, .int .u8 y9), (104, .bool (decide (240 ≤ y9)))] rfl ?_
      refine oE ?_
      refine cwp_condD (240 ≤ y9) (by kernel_rfl) (fun hc25 => ?_) (fun hc25 => ?_)
      · replace hM := ifT hc25 hM
        refine cwp_region ?_
        refine oS [(105, .pointer (some y8)), (106, .pointer (some y8)), (107, .pointer (some (y8.add 39)))] rfl ?_
        refine owp_hpD rfl (by kernel_rfl) (hpSt (y8.add 39) [.int .i64 4] (fun _ => by kernel_rfl) (by kernel_rfl) hM ?_)
        clear hM
        intro h26 hM
        refine owp_nil (blockE_n ?_)
        exact hKn  _ _ hM
      replace hM := ifF hc25 hM
      refine cwp_skip (blockE_n ?_)
      exact hKn  _ _ hM
    replace hM := ifF hc23 hM
    refine cwp_skip (thenE_n (cR ?_))
    refine oS [(103, .int .u8 y9), (104, .bool (decide (240 ≤ y9)))] rfl ?_
    refine oE ?_
    refine cwp_condD (240 ≤ y9) (by kernel_rfl) (fun hc27 => ?_) (fun hc27 => ?_)
    · replace hM := ifT hc27 hM
      refine cwp_region ?_
      refine oS [(105, .pointer (some y8)), (106, .pointer (some y8)), (107, .pointer (some (y8.add 39)))] rfl ?_
      refine owp_hpD rfl (by kernel_rfl) (hpSt (y8.add 39) [.int .i64 4] (fun _ => by kernel_rfl) (by kernel_rfl) hM ?_)
      clear hM
      intro h28 hM
      refine owp_nil (blockE_n ?_)
      exact hKn  _ _ hM
    replace hM := ifF hc27 hM
    refine cwp_skip (blockE_n ?_)
    exact hKn  _ _ hM
  replace hM := ifF hc19 hM
  refine cwp_region ?_
  refine oS [(62, .pointer (some y8))] rfl ?_
  refine owp_hpG rfl (by kernel_rfl) (hpCallE 36 #[.pointer (some y8), .int .i32 65533] (by kernel_rfl) (vt_Screen_write_ok (some y8) 65533 _ h hM) ?_)
  clear hM
  rintro _ h29 ⟨rfl, hM⟩
  refine owp_nil (blockE_n ?_)
  exact hKn  _ _ hM
def vt_Screen_ground (a1 : Option Addr) (a2 : Int) (K : Heap → Prop) (h : Heap) : Prop :=
 nz a1 fun p3 =>
 ldI h .i64 (p3.add 38) fun x4 =>
 if 0 < x4 then
  False
 else
 vt_Screen_ground_j0
  (fun  h30 =>
      K h30) p3 a2 h
theorem vt_Screen_ground_ok (a1 : Option Addr) (a2 : Int) (K : Heap → Prop) (h : Heap) (hM : vt_Screen_ground a1 a2 K h) : CallsH Tryd.prog 29 #[.pointer a1, .int .u8 a2] (fun v h' => v = .tuple #[] ∧ K h') h := by
 unfold vt_Screen_ground at hM
 refine callsH_intro (n := 108) Tryd.func29 rfl rfl (by kernel_rfl) ?_
 refine cwp_seq (cR ?_)
 refine oS [(6, .pointer a1)] rfl ?_
 obtain ⟨p3, rfl, hM⟩ := hM
 refine owp_rdG (.pointer (some p3)) rfl (by kernel_rfl) (by kernel_rfl) ?_
 refine oS [(8, .pointer (some (p3.add 38)))] rfl ?_
 obtain ⟨x4, hc5, hM⟩ := hM
 refine owp_rdG (.int .i64 x4) rfl (by kernel_rfl) (Eq.trans (b := (cellH h (p3.add 38)).bind fun v6 => some (.value v6)) (by kernel_rfl) (bindE hc5 _)) ?_
 refine oS [(10, .bool (decide (0 < x4)))] rfl ?_
 refine oE ?_
 refine cwp_condD (0 < x4) (by kernel_rfl) (fun hc7 => ?_) (fun hc7 => ?_)
 · replace hM := ifT hc7 hM
   refine cwp_seq (cR ?_)
   exact hM.elim
 replace hM := ifF hc7 hM
 refine cwp_skip (thenE_n ?_)
 refine cwp_of_part (fn := Tryd.f29) (p := [1]) (by kernel_rfl) (cwp_at 0 (.pointer (some p3)) (by kernel_rfl) (cwp_at 1 (.int .u8 a2) (by kernel_rfl) (vt_Screen_ground_j0_ok _ ?_ p3 a2 _ _ hM)))
 · intro  b31 h30 hM
   exact end_ (.tuple #[]) (by kernel_rfl) ⟨rfl, hM⟩
/- (*mullion/vt.Screen).gather -/
def vt_Screen_gather (a1 : Option Addr) (a2 : Int) (K : Heap → Prop) (h : Heap) : Prop :=
 nz a1 fun p3 =>
 ldL h (p3.add 32) fun x4 x4n x4c =>
 if (x4n : Int) = 256 then
  stN (p3.add 33) [.bool true] 0 h fun h8 =>
  K h8
 else
 ldL h (p3.add 32) fun x9 x9n x9c =>
 gap h fun h13 =>
 appH h13 5 1 [.int .u8 0] x9 x9n x9c [.int .u8 a2] 1 fun s16 s16c h15 =>
 stN (p3.add 32) [.slice s16 (x9n + 1) s16c] 0 h15 fun h17 =>
 K h17
theorem vt_Screen_gather_ok (a1 : Option Addr) (a2 : Int) (K : Heap → Prop) (h : Heap) (hM : vt_Screen_gather a1 a2 K h) : CallsH Tryd.prog 40 #[.pointer a1, .int .u8 a2] (fun v h' => v = .tuple #[] ∧ K h') h := by
 unfold vt_Screen_gather at hM
 refine callsH_intro (n := 23) Tryd.func40 rfl rfl (by kernel_rfl) ?_
 refine cwp_seq (cR ?_)
 refine oS [(4, .pointer a1)] rfl ?_
 obtain ⟨p3, rfl, hM⟩ := hM
 refine owp_rdG (.pointer (some p3)) rfl (by kernel_rfl) (by kernel_rfl) ?_
 refine oS [(6, .pointer (some (p3.add 32)))] rfl ?_
 obtain ⟨x4, x4n, x4c, hc5, hM⟩ := hM
 refine owp_rdG (.slice x4 x4n x4c) rfl (by kernel_rfl) (Eq.trans (b := (cellH h (p3.add 32)).bind fun v6 => some (.value v6)) (by kernel_rfl) (bindE hc5 _)) ?_
 refine oS [(8, .int .i64 (x4n : Int)), (9, .bool (decide ((x4n : Int) = 256)))] rfl ?_
 refine oE ?_
 refine cwp_condD ((x4n : Int) = 256) (by kernel_rfl) (fun hc7 => ?_) (fun hc7 => ?_)
 · replace hM := ifT hc7 hM
   refine cR ?_
   refine oS [(10, .pointer (some p3)), (11, .pointer (some p3)), (12, .pointer (some (p3.add 33)))] rfl ?_
   refine owp_hpD rfl (by kernel_rfl) (hpSt (p3.add 33) [.bool true] (fun _ => by kernel_rfl) (by kernel_rfl) hM ?_)
   clear hM
   intro h8 hM
   refine oE (cwp_ret (thenE_r ?_))
   exact ret_ (.tuple #[]) (by kernel_rfl) ⟨rfl, hM⟩
 replace hM := ifF hc7 hM
 refine cwp_skip (thenE_n (cwp_region ?_))
 refine oS [(13, .pointer (some p3)), (14, .pointer (some p3)), (15, .pointer (some p3)), (16, .pointer (some (p3.add 32)))] rfl ?_
 obtain ⟨x9, x9n, x9c, hc10, hM⟩ := hM
 refine owp_rdG (.slice x9 x9n x9c) rfl (by kernel_rfl) (Eq.trans (b := (cellH h (p3.add 32)).bind fun v11 => some (.value v11)) (by kernel_rfl) (bindE hc10 _)) ?_
 refine oS [(18, .int .u8 a2)] rfl ?_
 refine owp_hpG rfl (by kernel_rfl) (hpNewS #[.int .u8 a2] 5 1 (fun _ => by kernel_rfl) ?_)
 intro b12 h13 hN14
 replace hM := hM _ (New.ext hN14)
 refine owp_hpG rfl (by kernel_rfl) (hpApp (t := 66) (ty := 66) (et := 5) (zv := .int .u8 0) (sz := 1) (by_ := 1) (base := x9) (n' := x9n) (c := x9c) (xb := (some ⟨b12, 0, none⟩)) (m := 1) (xc := 1) (new := [.int .u8 a2]) (fun _ => by kernel_rfl) (by kernel_rfl) (by kernel_rfl) [.int .u8 0] rfl rfl (by decide) rfl rfl ⟨Blk.cell (New.blk hN14) 0 (by kernel_rfl), trivial⟩ hM ?_)
 clear hM
 intro s16 s16c h15 hM
 refine oS [(21, .pointer (some p3)), (22, .pointer (some (p3.add 32)))] rfl ?_
 refine owp_hpD rfl (by kernel_rfl) (hpSt (p3.add 32) [.slice s16 (x9n + 1) s16c] (fun _ => by kernel_rfl) (by kernel_rfl) hM ?_)
 clear hM
 intro h17 hM
 refine owp_nil ?_
 exact end_ (.tuple #[]) (by kernel_rfl) ⟨rfl, hM⟩
/- (*mullion/vt.Screen).escape -/
def vt_Screen_escape (a1 : Option Addr) (a2 : Int) (K : Heap → Prop) (h : Heap) : Prop :=
 nz a1 fun p3 =>
 ldL h (p3.add 32) fun x4 x4n x4c =>
 if ((decide ((x4n : Int) = 0)) && (decide (a2 = 91))) = true then
  vt_Screen_begin (some p3) 2 (fun  h12 =>
    K h12) h
 else
 if ((decide ((x4n : Int) = 0)) && (decide (a2 = 93))) = true then
  vt_Screen_begin (some p3) 3 (fun  h18 =>
    K h18) h
 else
 if ((decide ((x4n : Int) = 0)) && ((((decide (a2 = 80)) || (decide (a2 = 88))) || (decide (a2 = 94))) || (decide (a2 = 95)))) = true then
  stN (p3.add 31) [.int .i64 4] 0 h fun h36 =>
  K h36
 else
 if a2 < 32 then
  vt_Screen_does (some p3) a2 (fun  h38 =>
    K h38) h
 else
 if a2 < 48 then
  vt_Screen_gather (some p3) a2 (fun  h40 =>
    K h40) h
 else
 if a2 < 127 then
  stN (p3.add 31) [.int .i64 0] 0 h fun h42 =>
  ldB h42 (p3.add 33) fun x43 =>
  if (!x43) = true then
   False
  else
  K h42
 else
 if 128 ≤ a2 then
  stN (p3.add 31) [.int .i64 0] 0 h fun h48 =>
  vt_Screen_ground (some p3) a2 (fun  h49 =>
    K h49) h48
 else
 K h
theorem vt_Screen_escape_ok (a1 : Option Addr) (a2 : Int) (K : Heap → Prop) (h : Heap) (hM : vt_Screen_escape a1 a2 K h) : CallsH Tryd.prog 30 #[.pointer a1, .int .u8 a2] (fun v h' => v = .tuple #[] ∧ K h') h := by
 unfold vt_Screen_escape at hM
 refine callsH_intro (n := 83) Tryd.func30 rfl rfl (by kernel_rfl) ?_
 refine cR ?_
 refine oS [(5, .pointer a1)] rfl ?_
 obtain ⟨p3, rfl, hM⟩ := hM
 refine owp_rdG (.pointer (some p3)) rfl (by kernel_rfl) (by kernel_rfl) ?_
 refine oS [(7, .pointer (some (p3.add 32)))] rfl ?_
 obtain ⟨x4, x4n, x4c, hc5, hM⟩ := hM
 refine owp_rdG (.slice x4 x4n x4c) rfl (by kernel_rfl) (Eq.trans (b := (cellH h (p3.add 32)).bind fun v6 => some (.value v6)) (by kernel_rfl) (bindE hc5 _)) ?_
 refine oS [(9, .int .i64 (x4n : Int)), (10, .bool (decide ((x4n : Int) = 0))), (4, .bool (decide ((x4n : Int) = 0)))] rfl ?_
 refine oE (cwp_block (cR ?_))
 refine oS [(12, .bool (decide ((x4n : Int) = 0))), (13, .bool (decide ((x4n : Int) = 0)))] rfl ?_
 refine oB (decide ((x4n : Int) = 0)) 3 [10, 4, 12, 13] (fun b_ => [(14, iteV b_ (.int .u8 a2 : Value) undef), (15, iteV b_ (.bool (decide (a2 = 91)) : Value) undef), (16, .bool (b_ && (decide (a2 = 91))))]) rfl (fun hb7 hq8 => oS [(14, .int .u8 a2), (15, .bool (decide (a2 = 91))), (16, .bool (decide (a2 = 91)))] rfl (hq8)) (fun hb9 hq10 => oS [(14, undef), (15, undef), (16, .bool false)] rfl (hq10)) ?_
 refine oS [(11, .bool ((decide ((x4n : Int) = 0)) && (decide (a2 = 91))))] rfl ?_
 refine oE ?_
 refine cwp_condB ((decide ((x4n : Int) = 0)) && (decide (a2 = 91))) (by kernel_rfl) (fun hc11 => ?_) (fun hc11 => ?_)
 · replace hM := ifT hc11 hM
   refine cwp_region ?_
   refine oS [(17, .pointer (some p3))] rfl ?_
   refine owp_hpG rfl (by kernel_rfl) (hpCallE 28 #[.pointer (some p3), .int .i64 2] (by kernel_rfl) (vt_Screen_begin_ok (some p3) 2 _ h hM) ?_)
   clear hM
   rintro _ h12 ⟨rfl, hM⟩
   refine owp_nil (blockE_n ?_)
   exact end_ (.tuple #[]) (by kernel_rfl) ⟨rfl, hM⟩
 replace hM := ifF hc11 hM
 refine cR ?_
 refine oS [(20, .bool (decide ((x4n : Int) = 0))), (21, .bool (decide ((x4n : Int) = 0)))] rfl ?_
 refine oB (decide ((x4n : Int) = 0)) 3 [10, 4, 12, 13, 20, 21] (fun b_ => [(22, iteV b_ (.int .u8 a2 : Value) undef), (23, iteV b_ (.bool (decide (a2 = 93)) : Value) undef), (24, .bool (b_ && (decide (a2 = 93))))]) rfl (fun hb13 hq14 => oS [(22, .int .u8 a2), (23, .bool (decide (a2 = 93))), (24, .bool (decide (a2 = 93)))] rfl (hq14)) (fun hb15 hq16 => oS [(22, undef), (23, undef), (24, .bool false)] rfl (hq16)) ?_
 refine oS [(19, .bool ((decide ((x4n : Int) = 0)) && (decide (a2 = 93))))] rfl ?_
 refine oE ?_
 refine cwp_condB ((decide ((x4n : Int) = 0)) && (decide (a2 = 93))) (by kernel_rfl) (fun hc17 => ?_) (fun hc17 => ?_)
 · replace hM := ifT hc17 hM
   refine cwp_region ?_
   refine oS [(25, .pointer (some p3))] rfl ?_
   refine owp_hpG rfl (by kernel_rfl) (hpCallE 28 #[.pointer (some p3), .int .i64 3] (by kernel_rfl) (vt_Screen_begin_ok (some p3) 3 _ h hM) ?_)
   clear hM
   rintro _ h18 ⟨rfl, hM⟩
   refine owp_nil (blockE_n ?_)
   exact end_ (.tuple #[]) (by kernel_rfl) ⟨rfl, hM⟩
 replace hM := ifF hc17 hM
 refine cR ?_
 refine oS [(28, .bool (decide ((x4n : Int) = 0))), (29, .bool (decide ((x4n : Int) = 0)))] rfl ?_
 refine oB (decide ((x4n : Int) = 0)) 15 [10, 4, 12, 13, 20, 21, 28, 29] (fun b_ => [(30, iteV b_ (.int .u8 a2 : Value) undef), (31, iteV b_ (.bool (decide (a2 = 80)) : Value) undef), (32, iteV b_ (.bool (decide (a2 = 80)) : Value) undef), (33, iteV b_ (iteV (decide (a2 = 80)) undef (.int .u8 a2 : Value)) undef), (34, iteV b_ (iteV (decide (a2 = 80)) undef (.bool (decide (a2 = 88)) : Value)) undef), (35, iteV b_ (.bool ((decide (a2 = 80)) || (decide (a2 = 88))) : Value) undef), (36, iteV b_ (.bool ((decide (a2 = 80)) || (decide (a2 = 88))) : Value) undef), (37, iteV b_ (iteV ((decide (a2 = 80)) || (decide (a2 = 88))) undef (.int .u8 a2 : Value)) undef), (38, iteV b_ (iteV ((decide (a2 = 80)) || (decide (a2 = 88))) undef (.bool (decide (a2 = 94)) : Value)) undef), (39, iteV b_ (.bool (((decide (a2 = 80)) || (decide (a2 = 88))) || (decide (a2 = 94))) : Value) undef), (40, iteV b_ (.bool (((decide (a2 = 80)) || (decide (a2 = 88))) || (decide (a2 = 94))) : Value) undef), (41, iteV b_ (iteV (((decide (a2 = 80)) || (decide (a2 = 88))) || (decide (a2 = 94))) undef (.int .u8 a2 : Value)) undef), (42, iteV b_ (iteV (((decide (a2 = 80)) || (decide (a2 = 88))) || (decide (a2 = 94))) undef (.bool (decide (a2 = 95)) : Value)) undef), (43, iteV b_ (.bool ((((decide (a2 = 80)) || (decide (a2 = 88))) || (decide (a2 = 94))) || (decide (a2 = 95))) : Value) undef), (44, .bool (b_ && ((((decide (a2 = 80)) || (decide (a2 = 88))) || (decide (a2 = 94))) || (decide (a2 = 95)))))]) rfl (fun hb31 hq32 => oS [(30, .int .u8 a2), (31, .bool (decide (a2 = 80))), (32, .bool (decide (a2 = 80)))] rfl (oB (decide (a2 = 80)) 3 [31, 32] (fun b_ => [(33, iteV b_ undef (.int .u8 a2 : Value)), (34, iteV b_ undef (.bool (decide (a2 = 88)) : Value)), (35, .bool (b_ || (decide (a2 = 88))))]) rfl (fun hb19 hq20 => oS [(33, undef), (34, undef), (35, .bool true)] rfl (hq20)) (fun hb21 hq22 => oS [(33, .int .u8 a2), (34, .bool (decide (a2 = 88))), (35, .bool (decide (a2 = 88)))] rfl (hq22)) (oS [(36, .bool ((decide (a2 = 80)) || (decide (a2 = 88))))] rfl (oB ((decide (a2 = 80)) || (decide (a2 = 88))) 3 [35, 36] (fun b_ => [(37, iteV b_ undef (.int .u8 a2 : Value)), (38, iteV b_ undef (.bool (decide (a2 = 94)) : Value)), (39, .bool (b_ || (decide (a2 = 94))))]) rfl (fun hb23 hq24 => oS [(37, undef), (38, undef), (39, .bool true)] rfl (hq24)) (fun hb25 hq26 => oS [(37, .int .u8 a2), (38, .bool (decide (a2 = 94))), (39, .bool (decide (a2 = 94)))] rfl (hq26)) (oS [(40, .bool (((decide (a2 = 80)) || (decide (a2 = 88))) || (decide (a2 = 94))))] rfl (oB (((decide (a2 = 80)) || (decide (a2 = 88))) || (decide (a2 = 94))) 3 [39, 40] (fun b_ => [(41, iteV b_ undef (.int .u8 a2 : Value)), (42, iteV b_ undef (.bool (decide (a2 = 95)) : Value)), (43, .bool (b_ || (decide (a2 = 95))))]) rfl (fun hb27 hq28 => oS [(41, undef), (42, undef), (43, .bool true)] rfl (hq28)) (fun hb29 hq30 => oS [(41, .int .u8 a2), (42, .bool (decide (a2 = 95))), (43, .bool (decide (a2 = 95)))] rfl (hq30)) (oS [(44, .bool ((((decide (a2 = 80)) || (decide (a2 = 88))) || (decide (a2 = 94))) || (decide (a2 = 95))))] rfl (hq32)))))))) (fun hb33 hq34 => oS [(30, undef), (31, undef), (32, undef), (33, undef), (34, undef), (35, undef), (36, undef), (37, undef), (38, undef), (39, undef), (40, undef), (41, undef), (42, undef), (43, undef), (44, .bool false)] rfl (hq34)) ?_
 refine oS [(27, .bool ((decide ((x4n : Int) = 0)) && ((((decide (a2 = 80)) || (decide (a2 = 88))) || (decide (a2 = 94))) || (decide (a2 = 95)))))] rfl ?_
 refine oE ?_
 refine cwp_condB ((decide ((x4n : Int) = 0)) && ((((decide (a2 = 80)) || (decide (a2 = 88))) || (decide (a2 = 94))) || (decide (a2 = 95)))) (by kernel_rfl) (fun hc35 => ?_) (fun hc35 => ?_)
 · replace hM := ifT hc35 hM
   refine cwp_region ?_
   refine oS [(45, .pointer (some p3)), (46, .pointer (some p3)), (47, .pointer (some (p3.add 31)))] rfl ?_
   refine owp_hpD rfl (by kernel_rfl) (hpSt (p3.add 31) [.int .i64 4] (fun _ => by kernel_rfl) (by kernel_rfl) hM ?_)
   clear hM
   intro h36 hM
   refine owp_nil (blockE_n ?_)
   exact end_ (.tuple #[]) (by kernel_rfl) ⟨rfl, hM⟩
 replace hM := ifF hc35 hM
 refine cR ?_
 refine oS [(49, .int .u8 a2), (50, .bool (decide (a2 < 32))), (48, .bool (decide (a2 < 32)))] rfl ?_
 refine oE ?_
 refine cwp_condD (a2 < 32) (by kernel_rfl) (fun hc37 => ?_) (fun hc37 => ?_)
 · replace hM := ifT hc37 hM
   refine cwp_region ?_
   refine oS [(51, .pointer (some p3)), (52, .int .u8 a2)] rfl ?_
   refine owp_hpG rfl (by kernel_rfl) (hpCallE 39 #[.pointer (some p3), .int .u8 a2] (by kernel_rfl) (vt_Screen_does_ok (some p3) a2 _ h hM) ?_)
   clear hM
   rintro _ h38 ⟨rfl, hM⟩
   refine owp_nil (blockE_n ?_)
   exact end_ (.tuple #[]) (by kernel_rfl) ⟨rfl, hM⟩
 replace hM := ifF hc37 hM
 refine cR ?_
 refine oS [(55, .int .u8 a2), (56, .bool (decide (a2 < 48))), (54, .bool (decide (a2 < 48)))] rfl ?_
 refine oE ?_
 refine cwp_condD (a2 < 48) (by kernel_rfl) (fun hc39 => ?_) (fun hc39 => ?_)
 · replace hM := ifT hc39 hM
   refine cwp_region ?_
   refine oS [(57, .pointer (some p3)), (58, .int .u8 a2)] rfl ?_
   refine owp_hpG rfl (by kernel_rfl) (hpCallE 40 #[.pointer (some p3), .int .u8 a2] (by kernel_rfl) (vt_Screen_gather_ok (some p3) a2 _ h hM) ?_)
   clear hM
   rintro _ h40 ⟨rfl, hM⟩
   refine owp_nil (blockE_n ?_)
   exact end_ (.tuple #[]) (by kernel_rfl) ⟨rfl, hM⟩
 replace hM := ifF hc39 hM
 refine cR ?_
 refine oS [(61, .int .u8 a2), (62, .bool (decide (a2 < 127))), (60, .bool (decide (a2 < 127)))] rfl ?_
 refine oE ?_
 refine cwp_condD (a2 < 127) (by kernel_rfl) (fun hc41 => ?_) (fun hc41 => ?_)
 · replace hM := ifT hc41 hM
   refine cR ?_
   refine oS [(63, .pointer (some p3)), (64, .pointer (some p3)), (65, .pointer (some (p3.add 31)))] rfl ?_
   refine owp_hpD rfl (by kernel_rfl) (hpSt (p3.add 31) [.int .i64 0] (fun _ => by kernel_rfl) (by kernel_rfl) hM ?_)
   clear hM
   intro h42 hM
   refine oE (cR ?_)
   refine oS [(66, .pointer (some p3)), (67, .pointer (some p3)), (68, .pointer (some (p3.add 33)))] rfl ?_
   obtain ⟨x43, hc44, hM⟩ := hM
   refine owp_rdG (.bool x43) rfl (by kernel_rfl) (Eq.trans (b := (cellH h42 (p3.add 33)).bind fun v45 => some (.value v45)) (by kernel_rfl) (bindE hc44 _)) ?_
   refine oS [(70, .bool (!x43))] rfl ?_
   refine oE ?_
   refine cwp_condB (!x43) (by kernel_rfl) (fun hc46 => ?_) (fun hc46 => ?_)
   · replace hM := ifT hc46 hM
     refine cwp_region ?_
     exact hM.elim
   replace hM := ifF hc46 hM
   refine cwp_skip (blockE_n ?_)
   exact end_ (.tuple #[]) (by kernel_rfl) ⟨rfl, hM⟩
 replace hM := ifF hc41 hM
 refine cR ?_
 refine oS [(75, .int .u8 a2), (76, .bool (decide (128 ≤ a2))), (74, .bool (decide (128 ≤ a2)))] rfl ?_
 refine oE ?_
 refine cwp_condD (128 ≤ a2) (by kernel_rfl) (fun hc47 => ?_) (fun hc47 => ?_)
 · replace hM := ifT hc47 hM
   refine cR ?_
   refine oS [(77, .pointer (some p3)), (78, .pointer (some p3)), (79, .pointer (some (p3.add 31)))] rfl ?_
   refine owp_hpD rfl (by kernel_rfl) (hpSt (p3.add 31) [.int .i64 0] (fun _ => by kernel_rfl) (by kernel_rfl) hM ?_)
   clear hM
   intro h48 hM
   refine oE (cwp_region ?_)
   refine oS [(80, .pointer (some p3)), (81, .int .u8 a2)] rfl ?_
   refine owp_hpG rfl (by kernel_rfl) (hpCallE 29 #[.pointer (some p3), .int .u8 a2] (by kernel_rfl) (vt_Screen_ground_ok (some p3) a2 _ h48 hM) ?_)
   clear hM
   rintro _ h49 ⟨rfl, hM⟩
   refine owp_nil (blockE_n ?_)
   exact end_ (.tuple #[]) (by kernel_rfl) ⟨rfl, hM⟩
 replace hM := ifF hc47 hM
 refine cwp_skip (blockE_n ?_)
 exact end_ (.tuple #[]) (by kernel_rfl) ⟨rfl, hM⟩
/- (*mullion/vt.Screen).numbers -/
def vt_Screen_numbers_l1 (K0 : Option Addr → Nat → Nat → Int → Int → Heap → Prop) : Nat → Option Addr → Nat → Nat → Int → Int → Heap → Prop
  | 0, _, _, _, _, _, _ => False
  | k + 1, y36, y36n, y36c, y37, y38, h =>
  if y38 < (y36n : Int) then
   nz y36 fun p45 =>
   0 ≤ y38 ∧
   y38 < (y36n : Int) ∧
   ldI h .u8 (p45.add ((y38).toNat * 1)) fun x46 =>
   if 48 ≤ x46 then
    0 ≤ y38 ∧
    y38 < (y36n : Int) ∧
    ldI h .u8 (p45.add ((y38).toNat * 1)) fun x57 =>
    if x57 ≤ 59 then
     vt_Screen_numbers_l1 K0 k (some p45) y36n y36c y37 (IntKind.wrap .i64 (y38 + 1)) h
    else
    K0 (some p45) y36n y36c y37 y38 h
   else
   K0 (some p45) y36n y36c y37 y38 h
  else
  K0 y36 y36n y36c y37 y38 h
theorem vt_Screen_numbers_l1_ok {Q : Exit → Env → Heap → Prop} (K0 : Option Addr → Nat → Nat → Int → Int → Heap → Prop) (hK0 : ∀ (z67 : Option Addr) (z67n : Nat) (z67c : Nat) (z68 : Int) (z69 : Int) (b : Env) (h : Heap), K0 z67 z67n z67c z68 z69 h → Q (.exit 0) (upd (upd (upd b 6 (.slice z67 z67n z67c)) 7 (.int .u8 z68)) 8 (.int .i64 z69)) h) : ∀ (k : Nat) (y36 : Option Addr) (y36n : Nat) (y36c : Nat) (y37 : Int) (y38 : Int) (b : Env) (h : Heap) (hM : vt_Screen_numbers_l1 K0 k y36 y36n y36c y37 y38 h), lwp Tryd.prog (partC Tryd.f56 [1, 1, 1, 1, 1, 0, 0, 0]) 116 Q k (upd (upd (upd b 6 (.slice y36 y36n y36c)) 7 (.int .u8 y37)) 8 (.int .i64 y38)) h := by
  intro k
  induction k with
  | zero => intro y36 y36n y36c y37 y38 b h hM; exact (show False from hM).elim
  | succ k ih =>
    intro y36 y36n y36c y37 y38 b h hM
    unfold vt_Screen_numbers_l1 at hM
    refine lwp_succ (cwp_part rfl ?_)
    refine cwp_seq (cR ?_)
    refine oS [(38, .int .i64 y38), (39, .slice y36 y36n y36c), (40, .int .i64 (y36n : Int)), (41, .bool (decide (y38 < (y36n : Int)))), (42, .bool (decide (y38 < (y36n : Int))))] rfl ?_
    by_cases hc42 : y38 < (y36n : Int)
    · refine owp_at 41 (.bool true) (Eq.trans (b := .bool (decide (y38 < (y36n : Int)))) (by kernel_rfl) (by rw [decide_eq_true hc42])) ?_
      refine owp_at 42 (.bool true) (Eq.trans (b := .bool (decide (y38 < (y36n : Int)))) (by kernel_rfl) (by rw [decide_eq_true hc42])) ?_
      replace hM := ifT hc42 hM
      refine oS [(43, .slice y36 y36n y36c), (44, .int .i64 y38)] rfl ?_
      obtain ⟨p45, rfl, hM⟩ := hM
      obtain ⟨hc43, hM⟩ := hM
      obtain ⟨hc44, hM⟩ := hM
      refine owp_rdG (.pointer (some (p45.add ((y38).toNat * 1)))) rfl (by kernel_rfl) (rd_ixS (P := Tryd.prog) (h := h) (t := 66) (el := 5) (sz := 1) (ad := p45) (len := y36n) (c := y36c) (k := .i64) (i := y38) (by kernel_rfl) (by kernel_rfl) hc43 hc44 (by kernel_rfl)) ?_
      obtain ⟨x46, hc47, hM⟩ := hM
      refine owp_rdG (.int .u8 x46) rfl (by kernel_rfl) (Eq.trans (b := (cellH h (p45.add ((y38).toNat * 1))).bind fun v48 => some (.value v48)) (by kernel_rfl) (bindE hc47 _)) ?_
      refine oS [(47, .bool (decide (48 ≤ x46))), (48, .bool (decide (48 ≤ x46))), (49, .bool (decide (48 ≤ x46)))] rfl ?_
      by_cases hc54 : 48 ≤ x46
      · refine owp_at 47 (.bool true) (Eq.trans (b := .bool (decide (48 ≤ x46))) (by kernel_rfl) (by rw [decide_eq_true hc54])) ?_
        refine owp_at 48 (.bool true) (Eq.trans (b := .bool (decide (48 ≤ x46))) (by kernel_rfl) (by rw [decide_eq_true hc54])) ?_
        refine owp_at 49 (.bool true) (Eq.trans (b := .bool (decide (48 ≤ x46))) (by kernel_rfl) (by rw [decide_eq_true hc54])) ?_
        replace hM := ifT hc54 hM
        refine oS [(50, .slice (some p45) y36n y36c), (51, .int .i64 y38)] rfl ?_
        obtain ⟨hc55, hM⟩ := hM
        obtain ⟨hc56, hM⟩ := hM
        refine owp_rdG (.pointer (some (p45.add ((y38).toNat * 1)))) rfl (by kernel_rfl) (rd_ixS (P := Tryd.prog) (h := h) (t := 66) (el := 5) (sz := 1) (ad := p45) (len := y36n) (c := y36c) (k := .i64) (i := y38) (by kernel_rfl) (by kernel_rfl) hc55 hc56 (by kernel_rfl)) ?_
        obtain ⟨x57, hc58, hM⟩ := hM
        refine owp_rdG (.int .u8 x57) rfl (by kernel_rfl) (Eq.trans (b := (cellH h (p45.add ((y38).toNat * 1))).bind fun v59 => some (.value v59)) (by kernel_rfl) (bindE hc58 _)) ?_
        refine oS [(54, .bool (decide (x57 ≤ 59))), (55, .bool (decide (x57 ≤ 59)))] rfl ?_
        refine oE ?_
        refine cwp_condD (x57 ≤ 59) (by kernel_rfl) (fun hc60 => ?_) (fun hc60 => ?_)
        · replace hM := ifT hc60 hM
          refine cwp_skip (thenE_n (cwp_block (cwp_region ?_)))
          refine oS [(56, .int .i64 y38), (57, .int .i64 (IntKind.wrap .i64 (y38 + 1))), (8, .int .i64 (IntKind.wrap .i64 (y38 + 1)))] rfl ?_
          refine owp_nil (blockE_n ?_)
          exact lwp_at 6 (.slice (some p45) y36n y36c) (by kernel_rfl) (lwp_at 7 (.int .u8 y37) (by kernel_rfl) (lwp_at 8 (.int .i64 (IntKind.wrap .i64 (y38 + 1))) (by kernel_rfl) (ih (some p45) y36n y36c y37 (IntKind.wrap .i64 (y38 + 1)) _ _ hM)))
        replace hM := ifF hc60 hM
        refine cwp_exit (thenE_x ?_)
        exact q_at (Q := Q (.exit 0)) 6 (.slice (some p45) y36n y36c) (by kernel_rfl) (q_at (Q := Q (.exit 0)) 7 (.int .u8 y37) (by kernel_rfl) (q_at (Q := Q (.exit 0)) 8 (.int .i64 y38) (by kernel_rfl) (hK0 (some p45) y36n y36c y37 y38 _ _ hM)))
      refine owp_at 47 (.bool false) (Eq.trans (b := .bool (decide (48 ≤ x46))) (by kernel_rfl) (by rw [decide_eq_false hc54])) ?_
      refine owp_at 48 (.bool false) (Eq.trans (b := .bool (decide (48 ≤ x46))) (by kernel_rfl) (by rw [decide_eq_false hc54])) ?_
      refine owp_at 49 (.bool false) (Eq.trans (b := .bool (decide (48 ≤ x46))) (by kernel_rfl) (by rw [decide_eq_false hc54])) ?_
      replace hM := ifF hc54 hM
      refine oS [(50, undef), (51, undef), (52, undef), (53, undef), (54, undef), (55, .bool false)] rfl ?_
      refine oE ?_
      refine cwp_cond (t := false) (by kernel_rfl) (fun hx_ => ?_) (fun hx_ => ?_)
      all_goals first | (cases hx_; done) | skip
      refine cwp_exit (thenE_x ?_)
      exact q_at (Q := Q (.exit 0)) 6 (.slice (some p45) y36n y36c) (by kernel_rfl) (q_at (Q := Q (.exit 0)) 7 (.int .u8 y37) (by kernel_rfl) (q_at (Q := Q (.exit 0)) 8 (.int .i64 y38) (by kernel_rfl) (hK0 (some p45) y36n y36c y37 y38 _ _ hM)))
    refine owp_at 41 (.bool false) (Eq.trans (b := .bool (decide (y38 < (y36n : Int)))) (by kernel_rfl) (by rw [decide_eq_false hc42])) ?_
    refine owp_at 42 (.bool false) (Eq.trans (b := .bool (decide (y38 < (y36n : Int)))) (by kernel_rfl) (by rw [decide_eq_false hc42])) ?_
    replace hM := ifF hc42 hM
    refine oS [(43, undef), (44, undef), (45, undef), (46, undef), (47, undef), (48, .bool false), (49, .bool false), (50, undef), (51, undef), (52, undef), (53, undef), (54, undef), (55, .bool false)] rfl ?_
    refine oE ?_
    refine cwp_cond (t := false) (by kernel_rfl) (fun hx_ => ?_) (fun hx_ => ?_)
    all_goals first | (cases hx_; done) | skip
    refine cwp_exit (thenE_x ?_)
    exact q_at (Q := Q (.exit 0)) 6 (.slice y36 y36n y36c) (by kernel_rfl) (q_at (Q := Q (.exit 0)) 7 (.int .u8 y37) (by kernel_rfl) (q_at (Q := Q (.exit 0)) 8 (.int .i64 y38) (by kernel_rfl) (hK0 y36 y36n y36c y37 y38 _ _ hM)))
def vt_Screen_numbers_l2 (K2 : Option Addr → Nat → Nat → Int → Int → ByteArray → Heap → Prop) (Kr : Int → Option Addr → Nat → Nat → ByteArray → Bool → Heap → Prop) : Nat → Option Addr → Nat → Nat → Int → Int → ByteArray → Int → Int → Heap → Prop
  | 0, _, _, _, _, _, _, _, _, _ => False
  | k + 1, y78, y78n, y78c, y79, y80, y81, y82, y83, h =>
  if y83 < y82 then
   0 ≤ y83 ∧
   y83 < (y81.size : Int) ∧
   if 48 ≤ (byteAt y81 y83) then
    Kr 0 none 0 0 (⟨#[]⟩ : ByteArray) false h
   else
   vt_Screen_numbers_l2 K2 Kr k y78 y78n y78c y79 y80 y81 y82 (IntKind.wrap .i64 (y83 + 1)) h
  else
  K2 y78 y78n y78c y79 y80 y81 h
theorem vt_Screen_numbers_l2_ok {Q : Exit → Env → Heap → Prop} (K2 : Option Addr → Nat → Nat → Int → Int → ByteArray → Heap → Prop) (hK2 : ∀ (z100 : Option Addr) (z100n : Nat) (z100c : Nat) (z101 : Int) (z102 : Int) (z103 : ByteArray) (b : Env) (h : Heap), K2 z100 z100n z100c z101 z102 z103 h → Q (.exit 2) (upd (upd (upd (upd b 6 (.slice z100 z100n z100c)) 7 (.int .u8 z101)) 8 (.int .i64 z102)) 9 (.string z103)) h) (Kr : Int → Option Addr → Nat → Nat → ByteArray → Bool → Heap → Prop) (hKr : ∀ (z108 : Int) (z109 : Option Addr) (z109n : Nat) (z109c : Nat) (z110 : ByteArray) (z111 : Bool) (b : Env) (h : Heap), Kr z108 z109 z109n z109c z110 z111 h → Q .ret (upd (upd (upd (upd b 2 (.int .u8 z108)) 3 (.slice z109 z109n z109c)) 4 (.string z110)) 5 (.bool z111)) h) : ∀ (k : Nat) (y78 : Option Addr) (y78n : Nat) (y78c : Nat) (y79 : Int) (y80 : Int) (y81 : ByteArray) (y82 : Int) (y83 : Int) (b : Env) (h : Heap) (hM : vt_Screen_numbers_l2 K2 Kr k y78 y78n y78c y79 y80 y81 y82 y83 h), lwp Tryd.prog (partC Tryd.f56 [1, 1, 1, 1, 1, 1, 1, 0, 1, 0, 0]) 116 Q k (upd (upd (upd (upd (upd (upd b 6 (.slice y78 y78n y78c)) 7 (.int .u8 y79)) 8 (.int .i64 y80)) 9 (.string y81)) 63 (.int .i64 y82)) 64 (.int .i64 y83)) h := by
  intro k
  induction k with
  | zero => intro y78 y78n y78c y79 y80 y81 y82 y83 b h hM; exact (show False from hM).elim
  | succ k ih =>
    intro y78 y78n y78c y79 y80 y81 y82 y83 b h hM
    unfold vt_Screen_numbers_l2 at hM
    refine lwp_succ (cwp_part rfl ?_)
    refine cR ?_
    refine oS [(65, .bool (decide (y83 < y82)))] rfl ?_
    refine oE (cwp_seq ?_)
    refine cwp_condD (y83 < y82) (by kernel_rfl) (fun hc84 => ?_) (fun hc84 => ?_)
    · replace hM := ifT hc84 hM
      refine cwp_skip (thenE_n (cwp_seq (cwp_block (cR ?_))))
      refine oS [(66, .int .i64 y83), (10, .int .i64 y83)] rfl ?_
      refine oE (cR ?_)
      refine oS [(67, .string y81), (68, .int .i64 y83)] rfl ?_
      obtain ⟨hc85, hM⟩ := hM
      obtain ⟨hc86, hM⟩ := hM
      refine owp_rdG (.int .u8 (byteAt y81 y83)) rfl (by kernel_rfl) (rd_ixStr (P := Tryd.prog) (h := h) (t := 9) (s := y81) (k := .i64) (i := y83) (by kernel_rfl) hc85 hc86 (by kernel_rfl)) ?_
      refine oS [(70, .bool (decide (48 ≤ (byteAt y81 y83))))] rfl ?_
      refine oE ?_
      refine cwp_condD (48 ≤ (byteAt y81 y83)) (by kernel_rfl) (fun hc87 => ?_) (fun hc87 => ?_)
      · replace hM := ifT hc87 hM
        refine cR ?_
        refine oS [(2, .int .u8 0), (3, .slice none 0 0), (4, .string (⟨#[]⟩ : ByteArray)), (5, .bool false)] rfl ?_
        refine oE (cwp_ret (blockE_r (thenE_r ?_)))
        exact q_at (Q := Q .ret) 2 (.int .u8 0) (by kernel_rfl) (q_at (Q := Q .ret) 3 (.slice none 0 0) (by kernel_rfl) (q_at (Q := Q .ret) 4 (.string (⟨#[]⟩ : ByteArray)) (by kernel_rfl) (q_at (Q := Q .ret) 5 (.bool false) (by kernel_rfl) (hKr 0 none 0 0 (⟨#[]⟩ : ByteArray) false _ _ hM))))
      replace hM := ifF hc87 hM
      refine cwp_skip (blockE_n (thenE_n (cwp_region ?_)))
      refine oS [(71, .int .i64 (IntKind.wrap .i64 (y83 + 1))), (64, .int .i64 (IntKind.wrap .i64 (y83 + 1)))] rfl ?_
      refine owp_nil ?_
      exact lwp_at 6 (.slice y78 y78n y78c) (by kernel_rfl) (lwp_at 7 (.int .u8 y79) (by kernel_rfl) (lwp_at 8 (.int .i64 y80) (by kernel_rfl) (lwp_at 9 (.string y81) (by kernel_rfl) (lwp_at 63 (.int .i64 y82) (by kernel_rfl) (lwp_at 64 (.int .i64 (IntKind.wrap .i64 (y83 + 1))) (by kernel_rfl) (ih y78 y78n y78c y79 y80 y81 y82 (IntKind.wrap .i64 (y83 + 1)) _ _ hM))))))
    replace hM := ifF hc84 hM
    refine cwp_exit (thenE_x ?_)
    exact q_at (Q := Q (.exit 2)) 6 (.slice y78 y78n y78c) (by kernel_rfl) (q_at (Q := Q (.exit 2)) 7 (.int .u8 y79) (by kernel_rfl) (q_at (Q := Q (.exit 2)) 8 (.int .i64 y80) (by kernel_rfl) (q_at (Q := Q (.exit 2)) 9 (.string y81) (by kernel_rfl) (hK2 y78 y78n y78c y79 y80 y81 _ _ hM))))
def vt_Screen_numbers_l3 (K4 : Int → Int → ByteArray → Option Addr → Nat → Nat → Int → Heap → Prop) : Nat → Option Addr → Nat → Nat → Int → Int → ByteArray → Option Addr → Nat → Nat → Int → Int → Heap → Prop
  | 0, _, _, _, _, _, _, _, _, _, _, _, _ => False
  | k + 1, y117, y117n, y117c, y118, y119, y120, y121, y121n, y121c, y122, y123, h =>
  if y123 < y119 then
   nz y117 fun p127 =>
   0 ≤ y123 ∧
   y123 < (y117n : Int) ∧
   ldI h .u8 (p127.add ((y123).toNat * 1)) fun x128 =>
   if x128 = 59 then
    gap h fun h138 =>
    appH h138 3 8 [.int .i64 0] y121 y121n y121c [.int .i64 y122] 1 fun s141 s141c h140 =>
    vt_Screen_numbers_l3 K4 k (some p127) y117n y117c y118 y119 y120 s141 (y121n + 1) s141c (-1) (IntKind.wrap .i64 (y123 + 1)) h140
   else
   0 ≤ y123 ∧
   y123 < (y117n : Int) ∧
   ldI h .u8 (p127.add ((y123).toNat * 1)) fun x144 =>
   if x144 = 58 then
    gap h fun h149 =>
    appH h149 3 8 [.int .i64 0] y121 y121n y121c [.int .i64 y122] 1 fun s152 s152c h151 =>
    vt_Screen_numbers_l3 K4 k (some p127) y117n y117c y118 y119 y120 s152 (y121n + 1) s152c (-1) (IntKind.wrap .i64 (y123 + 1)) h151
   else
   0 ≤ y123 ∧
   y123 < (y117n : Int) ∧
   ldI h .u8 (p127.add ((y123).toNat * 1)) fun x155 =>
   vt_Screen_numbers_l3 K4 k (some p127) y117n y117c y118 y119 y120 y121 y121n y121c (imin 9999 (IntKind.wrap .i64 ((IntKind.wrap .i64 ((imax y122 0) * 10)) + (IntKind.wrap .i64 (IntKind.wrap .u8 (x155 - 48)))))) (IntKind.wrap .i64 (y123 + 1)) h
  else
  K4 y118 y119 y120 y121 y121n y121c y122 h
theorem vt_Screen_numbers_l3_ok {Q : Exit → Env → Heap → Prop} (K4 : Int → Int → ByteArray → Option Addr → Nat → Nat → Int → Heap → Prop) (hK4 : ∀ (z168 : Int) (z169 : Int) (z170 : ByteArray) (z171 : Option Addr) (z171n : Nat) (z171c : Nat) (z172 : Int) (b : Env) (h : Heap), K4 z168 z169 z170 z171 z171n z171c z172 h → Q (.exit 4) (upd (upd (upd (upd (upd b 7 (.int .u8 z168)) 8 (.int .i64 z169)) 9 (.string z170)) 11 (.slice z171 z171n z171c)) 12 (.int .i64 z172)) h) : ∀ (k : Nat) (y117 : Option Addr) (y117n : Nat) (y117c : Nat) (y118 : Int) (y119 : Int) (y120 : ByteArray) (y121 : Option Addr) (y121n : Nat) (y121c : Nat) (y122 : Int) (y123 : Int) (b : Env) (h : Heap) (hM : vt_Screen_numbers_l3 K4 k y117 y117n y117c y118 y119 y120 y121 y121n y121c y122 y123 h), lwp Tryd.prog (partC Tryd.f56 [1, 1, 1, 1, 1, 1, 1, 1, 1, 1, 0, 1, 0, 0]) 116 Q k (upd (upd (upd (upd (upd (upd (upd b 6 (.slice y117 y117n y117c)) 7 (.int .u8 y118)) 8 (.int .i64 y119)) 9 (.string y120)) 11 (.slice y121 y121n y121c)) 12 (.int .i64 y122)) 13 (.int .i64 y123)) h := by
  intro k
  induction k with
  | zero => intro y117 y117n y117c y118 y119 y120 y121 y121n y121c y122 y123 b h hM; exact (show False from hM).elim
  | succ k ih =>
    intro y117 y117n y117c y118 y119 y120 y121 y121n y121c y122 y123 b h hM
    unfold vt_Screen_numbers_l3 at hM
    refine lwp_succ (cwp_part rfl ?_)
    refine cwp_seq (cR ?_)
    refine oS [(72, .int .i64 y123), (73, .int .i64 y119), (74, .bool (decide (y123 < y119)))] rfl ?_
    refine oE ?_
    refine cwp_condD (y123 < y119) (by kernel_rfl) (fun hc124 => ?_) (fun hc124 => ?_)
    · replace hM := ifT hc124 hM
      refine cwp_skip (thenE_n (cwp_seq (cwp_block (cwp_seq (cR ?_)))))
      refine oS [(77, .slice y117 y117n y117c), (78, .int .i64 y123)] rfl ?_
      obtain ⟨p127, rfl, hM⟩ := hM
      obtain ⟨hc125, hM⟩ := hM
      obtain ⟨hc126, hM⟩ := hM
      refine owp_rdG (.pointer (some (p127.add ((y123).toNat * 1)))) rfl (by kernel_rfl) (rd_ixS (P := Tryd.prog) (h := h) (t := 66) (el := 5) (sz := 1) (ad := p127) (len := y117n) (c := y117c) (k := .i64) (i := y123) (by kernel_rfl) (by kernel_rfl) hc125 hc126 (by kernel_rfl)) ?_
      obtain ⟨x128, hc129, hM⟩ := hM
      refine owp_rdG (.int .u8 x128) rfl (by kernel_rfl) (Eq.trans (b := (cellH h (p127.add ((y123).toNat * 1))).bind fun v130 => some (.value v130)) (by kernel_rfl) (bindE hc129 _)) ?_
      refine oS [(81, .bool (decide (x128 = 59))), (82, .bool (decide (x128 = 59)))] rfl ?_
      by_cases hc136 : x128 = 59
      · refine owp_at 81 (.bool true) (Eq.trans (b := .bool (decide (x128 = 59))) (by kernel_rfl) (by rw [decide_eq_true hc136])) ?_
        refine owp_at 82 (.bool true) (Eq.trans (b := .bool (decide (x128 = 59))) (by kernel_rfl) (by rw [decide_eq_true hc136])) ?_
        replace hM := ifT hc136 hM
        refine oS [(83, undef), (84, undef), (85, undef), (86, undef), (87, undef), (88, .bool true)] rfl ?_
        refine oE ?_
        refine cwp_cond (t := true) (by kernel_rfl) (fun hx_ => ?_) (fun hx_ => ?_)
        all_goals first | (cases hx_; done) | skip
        refine cR ?_
        refine oS [(89, .slice y121 y121n y121c), (90, .int .i64 y122)] rfl ?_
        refine owp_hpG rfl (by kernel_rfl) (hpNewS #[.int .i64 y122] 3 1 (fun _ => by kernel_rfl) ?_)
        intro b137 h138 hN139
        replace hM := hM _ (New.ext hN139)
        refine owp_hpG rfl (by kernel_rfl) (hpApp (t := 95) (ty := 95) (et := 3) (zv := .int .i64 0) (sz := 1) (by_ := 8) (base := y121) (n' := y121n) (c := y121c) (xb := (some ⟨b137, 0, none⟩)) (m := 1) (xc := 1) (new := [.int .i64 y122]) (fun _ => by kernel_rfl) (by kernel_rfl) (by kernel_rfl) [.int .i64 0] rfl rfl (by decide) rfl rfl ⟨Blk.cell (New.blk hN139) 0 (by kernel_rfl), trivial⟩ hM ?_)
        clear hM
        intro s141 s141c h140 hM
        refine oS [(11, .slice s141 (y121n + 1) s141c)] rfl ?_
        refine oE (cR ?_)
        refine oS [(12, .int .i64 (-1))] rfl ?_
        refine oE (cwp_exit (thenE_x (blockE_h (thenE_n (cwp_region ?_)))))
        refine oS [(75, .int .i64 y123), (76, .int .i64 (IntKind.wrap .i64 (y123 + 1))), (13, .int .i64 (IntKind.wrap .i64 (y123 + 1)))] rfl ?_
        refine owp_nil ?_
        exact lwp_at 6 (.slice (some p127) y117n y117c) (by kernel_rfl) (lwp_at 7 (.int .u8 y118) (by kernel_rfl) (lwp_at 8 (.int .i64 y119) (by kernel_rfl) (lwp_at 9 (.string y120) (by kernel_rfl) (lwp_at 11 (.slice s141 (y121n + 1) s141c) (by kernel_rfl) (lwp_at 12 (.int .i64 (-1)) (by kernel_rfl) (lwp_at 13 (.int .i64 (IntKind.wrap .i64 (y123 + 1))) (by kernel_rfl) (ih (some p127) y117n y117c y118 y119 y120 s141 (y121n + 1) s141c (-1) (IntKind.wrap .i64 (y123 + 1)) _ _ hM)))))))
      refine owp_at 81 (.bool false) (Eq.trans (b := .bool (decide (x128 = 59))) (by kernel_rfl) (by rw [decide_eq_false hc136])) ?_
      refine owp_at 82 (.bool false) (Eq.trans (b := .bool (decide (x128 = 59))) (by kernel_rfl) (by rw [decide_eq_false hc136])) ?_
      replace hM := ifF hc136 hM
      refine oS [(83, .slice (some p127) y117n y117c), (84, .int .i64 y123)] rfl ?_
      obtain ⟨hc142, hM⟩ := hM
      obtain ⟨hc143, hM⟩ := hM
      refine owp_rdG (.pointer (some (p127.add ((y123).toNat * 1)))) rfl (by kernel_rfl) (rd_ixS (P := Tryd.prog) (h := h) (t := 66) (el := 5) (sz := 1) (ad := p127) (len := y117n) (c := y117c) (k := .i64) (i := y123) (by kernel_rfl) (by kernel_rfl) hc142 hc143 (by kernel_rfl)) ?_
      obtain ⟨x144, hc145, hM⟩ := hM
      refine owp_rdG (.int .u8 x144) rfl (by kernel_rfl) (Eq.trans (b := (cellH h (p127.add ((y123).toNat * 1))).bind fun v146 => some (.value v146)) (by kernel_rfl) (bindE hc145 _)) ?_
      refine oS [(87, .bool (decide (x144 = 58))), (88, .bool (decide (x144 = 58)))] rfl ?_
      refine oE ?_
      refine cwp_condD (x144 = 58) (by kernel_rfl) (fun hc147 => ?_) (fun hc147 => ?_)
      · replace hM := ifT hc147 hM
        refine cR ?_
        refine oS [(89, .slice y121 y121n y121c), (90, .int .i64 y122)] rfl ?_
        refine owp_hpG rfl (by kernel_rfl) (hpNewS #[.int .i64 y122] 3 1 (fun _ => by kernel_rfl) ?_)
        intro b148 h149 hN150
        replace hM := hM _ (New.ext hN150)
        refine owp_hpG rfl (by kernel_rfl) (hpApp (t := 95) (ty := 95) (et := 3) (zv := .int .i64 0) (sz := 1) (by_ := 8) (base := y121) (n' := y121n) (c := y121c) (xb := (some ⟨b148, 0, none⟩)) (m := 1) (xc := 1) (new := [.int .i64 y122]) (fun _ => by kernel_rfl) (by kernel_rfl) (by kernel_rfl) [.int .i64 0] rfl rfl (by decide) rfl rfl ⟨Blk.cell (New.blk hN150) 0 (by kernel_rfl), trivial⟩ hM ?_)
        clear hM
        intro s152 s152c h151 hM
        refine oS [(11, .slice s152 (y121n + 1) s152c)] rfl ?_
        refine oE (cR ?_)
        refine oS [(12, .int .i64 (-1))] rfl ?_
        refine oE (cwp_exit (thenE_x (blockE_h (thenE_n (cwp_region ?_)))))
        refine oS [(75, .int .i64 y123), (76, .int .i64 (IntKind.wrap .i64 (y123 + 1))), (13, .int .i64 (IntKind.wrap .i64 (y123 + 1)))] rfl ?_
        refine owp_nil ?_
        exact lwp_at 6 (.slice (some p127) y117n y117c) (by kernel_rfl) (lwp_at 7 (.int .u8 y118) (by kernel_rfl) (lwp_at 8 (.int .i64 y119) (by kernel_rfl) (lwp_at 9 (.string y120) (by kernel_rfl) (lwp_at 11 (.slice s152 (y121n + 1) s152c) (by kernel_rfl) (lwp_at 12 (.int .i64 (-1)) (by kernel_rfl) (lwp_at 13 (.int .i64 (IntKind.wrap .i64 (y123 + 1))) (by kernel_rfl) (ih (some p127) y117n y117c y118 y119 y120 s152 (y121n + 1) s152c (-1) (IntKind.wrap .i64 (y123 + 1)) _ _ hM)))))))
      replace hM := ifF hc147 hM
      refine cwp_skip (thenE_n (cwp_region ?_))
      refine oS [(93, .int .i64 y122), (94, .int .i64 (imax y122 0)), (95, .int .i64 (IntKind.wrap .i64 ((imax y122 0) * 10))), (96, .slice (some p127) y117n y117c), (97, .int .i64 y123)] rfl ?_
      obtain ⟨hc153, hM⟩ := hM
      obtain ⟨hc154, hM⟩ := hM
      refine owp_rdG (.pointer (some (p127.add ((y123).toNat * 1)))) rfl (by kernel_rfl) (rd_ixS (P := Tryd.prog) (h := h) (t := 66) (el := 5) (sz := 1) (ad := p127) (len := y117n) (c := y117c) (k := .i64) (i := y123) (by kernel_rfl) (by kernel_rfl) hc153 hc154 (by kernel_rfl)) ?_
      obtain ⟨x155, hc156, hM⟩ := hM
      refine owp_rdG (.int .u8 x155) rfl (by kernel_rfl) (Eq.trans (b := (cellH h (p127.add ((y123).toNat * 1))).bind fun v157 => some (.value v157)) (by kernel_rfl) (bindE hc156 _)) ?_
      refine oS [(100, .int .u8 (IntKind.wrap .u8 (x155 - 48))), (101, .int .i64 (IntKind.wrap .i64 (IntKind.wrap .u8 (x155 - 48)))), (102, .int .i64 (IntKind.wrap .i64 ((IntKind.wrap .i64 ((imax y122 0) * 10)) + (IntKind.wrap .i64 (IntKind.wrap .u8 (x155 - 48)))))), (103, .int .i64 (imin 9999 (IntKind.wrap .i64 ((IntKind.wrap .i64 ((imax y122 0) * 10)) + (IntKind.wrap .i64 (IntKind.wrap .u8 (x155 - 48))))))), (12, .int .i64 (imin 9999 (IntKind.wrap .i64 ((IntKind.wrap .i64 ((imax y122 0) * 10)) + (IntKind.wrap .i64 (IntKind.wrap .u8 (x155 - 48)))))))] rfl ?_
      refine owp_nil (blockE_n (thenE_n (cwp_region ?_)))
      refine oS [(75, .int .i64 y123), (76, .int .i64 (IntKind.wrap .i64 (y123 + 1))), (13, .int .i64 (IntKind.wrap .i64 (y123 + 1)))] rfl ?_
      refine owp_nil ?_
      exact lwp_at 6 (.slice (some p127) y117n y117c) (by kernel_rfl) (lwp_at 7 (.int .u8 y118) (by kernel_rfl) (lwp_at 8 (.int .i64 y119) (by kernel_rfl) (lwp_at 9 (.string y120) (by kernel_rfl) (lwp_at 11 (.slice y121 y121n y121c) (by kernel_rfl) (lwp_at 12 (.int .i64 (imin 9999 (IntKind.wrap .i64 ((IntKind.wrap .i64 ((imax y122 0) * 10)) + (IntKind.wrap .i64 (IntKind.wrap .u8 (x155 - 48))))))) (by kernel_rfl) (lwp_at 13 (.int .i64 (IntKind.wrap .i64 (y123 + 1))) (by kernel_rfl) (ih (some p127) y117n y117c y118 y119 y120 y121 y121n y121c (imin 9999 (IntKind.wrap .i64 ((IntKind.wrap .i64 ((imax y122 0) * 10)) + (IntKind.wrap .i64 (IntKind.wrap .u8 (x155 - 48)))))) (IntKind.wrap .i64 (y123 + 1)) _ _ hM)))))))
    replace hM := ifF hc124 hM
    refine cwp_exit (thenE_x ?_)
    exact q_at (Q := Q (.exit 4)) 7 (.int .u8 y118) (by kernel_rfl) (q_at (Q := Q (.exit 4)) 8 (.int .i64 y119) (by kernel_rfl) (q_at (Q := Q (.exit 4)) 9 (.string y120) (by kernel_rfl) (q_at (Q := Q (.exit 4)) 11 (.slice y121 y121n y121c) (by kernel_rfl) (q_at (Q := Q (.exit 4)) 12 (.int .i64 y122) (by kernel_rfl) (hK4 y118 y119 y120 y121 y121n y121c y122 _ _ hM)))))
def vt_Screen_numbers_j4 (Kr : Int → Option Addr → Nat → Nat → ByteArray → Bool → Heap → Prop) (y185 : Int) (y186 : ByteArray) (y187 : Option Addr) (y187n : Nat) (y187c : Nat) (h : Heap) : Prop :=
 Kr y185 y187 y187n y187c y186 (decide ((y187n : Int) ≤ 16)) h
theorem vt_Screen_numbers_j4_ok {Q : Exit → Env → Heap → Prop} (Kr : Int → Option Addr → Nat → Nat → ByteArray → Bool → Heap → Prop) (hKr : ∀ (z196 : Int) (z197 : Option Addr) (z197n : Nat) (z197c : Nat) (z198 : ByteArray) (z199 : Bool) (b : Env) (h : Heap), Kr z196 z197 z197n z197c z198 z199 h → Q .ret (upd (upd (upd (upd b 2 (.int .u8 z196)) 3 (.slice z197 z197n z197c)) 4 (.string z198)) 5 (.bool z199)) h) (y185 : Int) (y186 : ByteArray) (y187 : Option Addr) (y187n : Nat) (y187c : Nat) (b : Env) (h : Heap) (hM : vt_Screen_numbers_j4 Kr y185 y186 y187 y187n y187c h) : cwp Tryd.prog (partC Tryd.f56 [1, 1, 1, 1, 1, 1, 1, 1, 1, 1, 1, 1]) 116 Q (upd (upd (upd b 7 (.int .u8 y185)) 9 (.string y186)) 11 (.slice y187 y187n y187c)) h := by
  unfold vt_Screen_numbers_j4 at hM
  refine cwp_part rfl ?_
  refine cR ?_
  refine oS [(110, .int .u8 y185), (111, .slice y187 y187n y187c), (112, .string y186), (113, .slice y187 y187n y187c), (114, .int .i64 (y187n : Int)), (115, .bool (decide ((y187n : Int) ≤ 16))), (2, .int .u8 y185), (3, .slice y187 y187n y187c), (4, .string y186), (5, .bool (decide ((y187n : Int) ≤ 16)))] rfl ?_
  refine oE (cwp_ret ?_)
  exact q_at (Q := Q .ret) 2 (.int .u8 y185) (by kernel_rfl) (q_at (Q := Q .ret) 3 (.slice y187 y187n y187c) (by kernel_rfl) (q_at (Q := Q .ret) 4 (.string y186) (by kernel_rfl) (q_at (Q := Q .ret) 5 (.bool (decide ((y187n : Int) ≤ 16))) (by kernel_rfl) (hKr y185 y187 y187n y187c y186 (decide ((y187n : Int) ≤ 16)) _ _ hM))))
def vt_Screen_numbers_j0 (Kr : Int → Option Addr → Nat → Nat → ByteArray → Bool → Heap → Prop) (y34 : Option Addr) (y34n : Nat) (y34c : Nat) (y35 : Int) (h : Heap) : Prop :=
 ∃ k229, vt_Screen_numbers_l1
  (fun z70 z70n z70c z71 z72 h73 =>
    0 ≤ z72 ∧
    z72 ≤ (z70n : Int) ∧
    bytM h73 (cutA z70 z70c z72.toNat 1) (z70n - z72.toNat) fun x76 =>
    ∃ k227, vt_Screen_numbers_l2
     (fun z112 z112n z112c z113 z114 z115 h116 =>
       ∃ k219, vt_Screen_numbers_l3
        (fun z173 z174 z175 z176 z176n z176c z177 h178 =>
          if 0 < z174 then
           gap h178 fun h181 =>
           appH h181 3 8 [.int .i64 0] z176 z176n z176c [.int .i64 z177] 1 fun s184 s184c h183 =>
           vt_Screen_numbers_j4
            (fun z200 z201 z201n z201c z202 z203 h204 =>
                Kr z200 z201 z201n z201c z202 z203 h204) z173 z175 s184 (z176n + 1) s184c h183
          else
          vt_Screen_numbers_j4
           (fun z211 z212 z212n z212c z213 z214 h215 =>
                   Kr z211 z212 z212n z212c z213 z214 h215) z173 z175 z176 z176n z176c h178) k219 z112 z112n z112c z113 z114 z115 none 0 0 (-1) 0 h116)
     (fun z221 z222 z222n z222c z223 z224 h225 =>
           Kr z221 z222 z222n z222c z223 z224 h225) k227 z70 z70n z70c z71 z72 x76 (x76.size : Int) 0 h73) k229 y34 y34n y34c y35 0 h
theorem vt_Screen_numbers_j0_ok {Q : Exit → Env → Heap → Prop} (Kr : Int → Option Addr → Nat → Nat → ByteArray → Bool → Heap → Prop) (hKr : ∀ (z234 : Int) (z235 : Option Addr) (z235n : Nat) (z235c : Nat) (z236 : ByteArray) (z237 : Bool) (b : Env) (h : Heap), Kr z234 z235 z235n z235c z236 z237 h → Q .ret (upd (upd (upd (upd b 2 (.int .u8 z234)) 3 (.slice z235 z235n z235c)) 4 (.string z236)) 5 (.bool z237)) h) (y34 : Option Addr) (y34n : Nat) (y34c : Nat) (y35 : Int) (b : Env) (h : Heap) (hM : vt_Screen_numbers_j0 Kr y34 y34n y34c y35 h) : cwp Tryd.prog (partC Tryd.f56 [1, 1, 1, 1]) 116 Q (upd (upd b 6 (.slice y34 y34n y34c)) 7 (.int .u8 y35)) h := by
  unfold vt_Screen_numbers_j0 at hM
  refine cwp_part rfl ?_
  refine cR ?_
  refine oS [(8, .int .i64 0)] rfl ?_
  refine oE (cwp_seq (cwp_block ?_))
  obtain ⟨k_, hM⟩ := hM
  refine cwp_loop k_ (lwp_of_part (fn := Tryd.f56) (p := [1, 1, 1, 1, 1, 0, 0, 0]) (by kernel_rfl) (lwp_at 6 (.slice y34 y34n y34c) (by kernel_rfl) (lwp_at 7 (.int .u8 y35) (by kernel_rfl) (lwp_at 8 (.int .i64 0) (by kernel_rfl) (vt_Screen_numbers_l1_ok _ ?_ k_ y34 y34n y34c y35 0 _ _ hM)))))
  · intro z70 z70n z70c z71 z72 b228 h73 hM
    refine blockE_h (thenE_n (cR ?_))
    refine oS [(58, .slice z70 z70n z70c), (59, .int .i64 z72)] rfl ?_
    obtain ⟨hc74, hM⟩ := hM
    obtain ⟨hc75, hM⟩ := hM
    refine owp_rdG (.slice (cutA z70 z70c z72.toNat 1) (z70n - z72.toNat) (z70c - z72.toNat)) rfl (by kernel_rfl) (rd_sSLo (P := Tryd.prog) (h := h73) (t := 66) (el := 5) (sz := 1) (a := z70) (n := z70n) (c := z70c) (k := .i64) (i := z72) (by kernel_rfl) (by kernel_rfl) hc74 hc75 (by kernel_rfl)) ?_
    obtain ⟨x76, hx77, hM⟩ := hM
    refine owp_rdG (.string x76) rfl (by kernel_rfl) (rd_bytS (P := Tryd.prog) (h := h73) (a := (cutA z70 z70c z72.toNat 1)) (n := (z70n - z72.toNat)) (c := (z70c - z72.toNat)) hx77 (by kernel_rfl)) ?_
    refine oS [(9, .string x76)] rfl ?_
    refine oE (cwp_seq (cR ?_))
    refine oS [(62, .string x76), (63, .int .i64 (x76.size : Int)), (64, .int .i64 0)] rfl ?_
    refine oE (cwp_block ?_)
    obtain ⟨k_, hM⟩ := hM
    refine cwp_loop k_ (lwp_of_part (fn := Tryd.f56) (p := [1, 1, 1, 1, 1, 1, 1, 0, 1, 0, 0]) (by kernel_rfl) (lwp_at 6 (.slice z70 z70n z70c) (by kernel_rfl) (lwp_at 7 (.int .u8 z71) (by kernel_rfl) (lwp_at 8 (.int .i64 z72) (by kernel_rfl) (lwp_at 9 (.string x76) (by kernel_rfl) (lwp_at 63 (.int .i64 (x76.size : Int)) (by kernel_rfl) (lwp_at 64 (.int .i64 0) (by kernel_rfl) (vt_Screen_numbers_l2_ok _ ?_ _ ?_ k_ z70 z70n z70c z71 z72 x76 (x76.size : Int) 0 _ _ hM))))))))
    · intro z112 z112n z112c z113 z114 z115 b220 h116 hM
      refine blockE_h (thenE_n (cR ?_))
      refine oS [(11, .slice none 0 0)] rfl ?_
      refine oE (cR ?_)
      refine oS [(12, .int .i64 (-1))] rfl ?_
      refine oE (cwp_seq (cR ?_))
      refine oS [(13, .int .i64 0)] rfl ?_
      refine oE (cwp_block ?_)
      obtain ⟨k_, hM⟩ := hM
      refine cwp_loop k_ (lwp_of_part (fn := Tryd.f56) (p := [1, 1, 1, 1, 1, 1, 1, 1, 1, 1, 0, 1, 0, 0]) (by kernel_rfl) (lwp_at 6 (.slice z112 z112n z112c) (by kernel_rfl) (lwp_at 7 (.int .u8 z113) (by kernel_rfl) (lwp_at 8 (.int .i64 z114) (by kernel_rfl) (lwp_at 9 (.string z115) (by kernel_rfl) (lwp_at 11 (.slice none 0 0) (by kernel_rfl) (lwp_at 12 (.int .i64 (-1)) (by kernel_rfl) (lwp_at 13 (.int .i64 0) (by kernel_rfl) (vt_Screen_numbers_l3_ok _ ?_ k_ z112 z112n z112c z113 z114 z115 none 0 0 (-1) 0 _ _ hM)))))))))
      · intro z173 z174 z175 z176 z176n z176c z177 b218 h178 hM
        refine blockE_h (thenE_n (cwp_seq (cR ?_)))
        refine oS [(104, .int .i64 z174), (105, .bool (decide (0 < z174)))] rfl ?_
        refine oE ?_
        refine cwp_condD (0 < z174) (by kernel_rfl) (fun hc179 => ?_) (fun hc179 => ?_)
        · replace hM := ifT hc179 hM
          refine cwp_region ?_
          refine oS [(106, .slice z176 z176n z176c), (107, .int .i64 z177)] rfl ?_
          refine owp_hpG rfl (by kernel_rfl) (hpNewS #[.int .i64 z177] 3 1 (fun _ => by kernel_rfl) ?_)
          intro b180 h181 hN182
          replace hM := hM _ (New.ext hN182)
          refine owp_hpG rfl (by kernel_rfl) (hpApp (t := 95) (ty := 95) (et := 3) (zv := .int .i64 0) (sz := 1) (by_ := 8) (base := z176) (n' := z176n) (c := z176c) (xb := (some ⟨b180, 0, none⟩)) (m := 1) (xc := 1) (new := [.int .i64 z177]) (fun _ => by kernel_rfl) (by kernel_rfl) (by kernel_rfl) [.int .i64 0] rfl rfl (by decide) rfl rfl ⟨Blk.cell (New.blk hN182) 0 (by kernel_rfl), trivial⟩ hM ?_)
          clear hM
          intro s184 s184c h183 hM
          refine oS [(11, .slice s184 (z176n + 1) s184c)] rfl ?_
          refine oE ?_
          refine cwp_of_part (fn := Tryd.f56) (p := [1, 1, 1, 1, 1, 1, 1, 1, 1, 1, 1, 1]) (by kernel_rfl) (cwp_at 7 (.int .u8 z173) (by kernel_rfl) (cwp_at 9 (.string z175) (by kernel_rfl) (cwp_at 11 (.slice s184 (z176n + 1) s184c) (by kernel_rfl) (vt_Screen_numbers_j4_ok _ ?_ z173 z175 s184 (z176n + 1) s184c _ _ hM))))
          · intro z200 z201 z201n z201c z202 z203 b209 h204 hM
            exact q_at (Q := Q .ret) 2 (.int .u8 z200) (by kernel_rfl) (q_at (Q := Q .ret) 3 (.slice z201 z201n z201c) (by kernel_rfl) (q_at (Q := Q .ret) 4 (.string z202) (by kernel_rfl) (q_at (Q := Q .ret) 5 (.bool z203) (by kernel_rfl) (hKr z200 z201 z201n z201c z202 z203 _ _ hM))))
        replace hM := ifF hc179 hM
        refine cwp_skip (thenE_n ?_)
        refine cwp_of_part (fn := Tryd.f56) (p := [1, 1, 1, 1, 1, 1, 1, 1, 1, 1, 1, 1]) (by kernel_rfl) (cwp_at 7 (.int .u8 z173) (by kernel_rfl) (cwp_at 9 (.string z175) (by kernel_rfl) (cwp_at 11 (.slice z176 z176n z176c) (by kernel_rfl) (vt_Screen_numbers_j4_ok _ ?_ z173 z175 z176 z176n z176c _ _ hM))))
        · intro z211 z212 z212n z212c z213 z214 b216 h215 hM
          exact q_at (Q := Q .ret) 2 (.int .u8 z211) (by kernel_rfl) (q_at (Q := Q .ret) 3 (.slice z212 z212n z212c) (by kernel_rfl) (q_at (Q := Q .ret) 4 (.string z213) (by kernel_rfl) (q_at (Q := Q .ret) 5 (.bool z214) (by kernel_rfl) (hKr z211 z212 z212n z212c z213 z214 _ _ hM))))
    · intro z221 z222 z222n z222c z223 z224 b226 h225 hM
      refine blockE_r (thenE_r ?_)
      exact q_at (Q := Q .ret) 2 (.int .u8 z221) (by kernel_rfl) (q_at (Q := Q .ret) 3 (.slice z222 z222n z222c) (by kernel_rfl) (q_at (Q := Q .ret) 4 (.string z223) (by kernel_rfl) (q_at (Q := Q .ret) 5 (.bool z224) (by kernel_rfl) (hKr z221 z222 z222n z222c z223 z224 _ _ hM))))
def vt_Screen_numbers (a1 : Option Addr) (K : Int → Option Addr → Nat → Nat → ByteArray → Bool → Heap → Prop) (h : Heap) : Prop :=
 nz a1 fun p2 =>
 ldL h (p2.add 32) fun x3 x3n x3c =>
 if 0 < (x3n : Int) then
  nz x3 fun p12 =>
  0 ≤ (0 : Int) ∧
  (0 : Int) < (x3n : Int) ∧
  ldI h .u8 (p12.add (((0 : Int)).toNat * 1)) fun x13 =>
  if 60 ≤ x13 then
   0 ≤ (0 : Int) ∧
   (0 : Int) < (x3n : Int) ∧
   ldI h .u8 (p12.add (((0 : Int)).toNat * 1)) fun x24 =>
   if x24 ≤ 63 then
    0 ≤ (0 : Int) ∧
    (0 : Int) < (x3n : Int) ∧
    ldI h .u8 (p12.add (((0 : Int)).toNat * 1)) fun x30 =>
    (1 : Int) ≤ (x3n : Int) ∧
    vt_Screen_numbers_j0
     (fun z238 z239 z239n z239c z240 z241 h242 =>
         K z238 z239 z239n z239c z240 z241 h242) (cutA (some p12) x3c (1 : Int).toNat 1) (x3n - (1 : Int).toNat) (x3c - (1 : Int).toNat) x30 h
   else
   vt_Screen_numbers_j0
    (fun z245 z246 z246n z246c z247 z248 h249 =>
        K z245 z246 z246n z246c z247 z248 h249) (some p12) x3n x3c 0 h
  else
  vt_Screen_numbers_j0
   (fun z252 z253 z253n z253c z254 z255 h256 =>
       K z252 z253 z253n z253c z254 z255 h256) (some p12) x3n x3c 0 h
 else
 vt_Screen_numbers_j0
  (fun z259 z260 z260n z260c z261 z262 h263 =>
      K z259 z260 z260n z260c z261 z262 h263) x3 x3n x3c 0 h
theorem vt_Screen_numbers_ok (a1 : Option Addr) (K : Int → Option Addr → Nat → Nat → ByteArray → Bool → Heap → Prop) (h : Heap) (hM : vt_Screen_numbers a1 K h) : CallsH Tryd.prog 56 #[.pointer a1] (fun v h' => ∃ (r266 : Int) (r267 : Option Addr) (r267n : Nat) (r267c : Nat) (r268 : ByteArray) (r269 : Bool), v = .tuple #[.int .u8 r266, .slice r267 r267n r267c, .string r268, .bool r269] ∧ K r266 r267 r267n r267c r268 r269 h') h := by
 unfold vt_Screen_numbers at hM
 refine callsH_intro (n := 116) Tryd.func56 rfl rfl (by kernel_rfl) ?_
 refine cR ?_
 refine oS [(2, .int .u8 0), (3, .slice none 0 0), (4, .string (⟨#[]⟩ : ByteArray)), (5, .bool false)] rfl ?_
 refine oE (cR ?_)
 refine oS [(14, .pointer a1)] rfl ?_
 obtain ⟨p2, rfl, hM⟩ := hM
 refine owp_rdG (.pointer (some p2)) rfl (by kernel_rfl) (by kernel_rfl) ?_
 refine oS [(16, .pointer (some (p2.add 32)))] rfl ?_
 obtain ⟨x3, x3n, x3c, hc4, hM⟩ := hM
 refine owp_rdG (.slice x3 x3n x3c) rfl (by kernel_rfl) (Eq.trans (b := (cellH h (p2.add 32)).bind fun v5 => some (.value v5)) (by kernel_rfl) (bindE hc4 _)) ?_
 refine oS [(6, .slice x3 x3n x3c)] rfl ?_
 refine oE (cR ?_)
 refine oS [(7, .int .u8 0)] rfl ?_
 refine oE (cwp_seq (cR ?_))
 refine oS [(18, .slice x3 x3n x3c), (19, .int .i64 (x3n : Int)), (20, .bool (decide (0 < (x3n : Int)))), (21, .bool (decide (0 < (x3n : Int))))] rfl ?_
 by_cases hc9 : 0 < (x3n : Int)
 · refine owp_at 20 (.bool true) (Eq.trans (b := .bool (decide (0 < (x3n : Int)))) (by kernel_rfl) (by rw [decide_eq_true hc9])) ?_
   refine owp_at 21 (.bool true) (Eq.trans (b := .bool (decide (0 < (x3n : Int)))) (by kernel_rfl) (by rw [decide_eq_true hc9])) ?_
   replace hM := ifT hc9 hM
   refine oS [(22, .slice x3 x3n x3c)] rfl ?_
   obtain ⟨p12, rfl, hM⟩ := hM
   obtain ⟨hc10, hM⟩ := hM
   obtain ⟨hc11, hM⟩ := hM
   refine owp_rdG (.pointer (some (p12.add (((0 : Int)).toNat * 1)))) rfl (by kernel_rfl) (rd_ixS (P := Tryd.prog) (h := h) (t := 66) (el := 5) (sz := 1) (ad := p12) (len := x3n) (c := x3c) (k := .i64) (i := 0) (by kernel_rfl) (by kernel_rfl) hc10 hc11 (by kernel_rfl)) ?_
   obtain ⟨x13, hc14, hM⟩ := hM
   refine owp_rdG (.int .u8 x13) rfl (by kernel_rfl) (Eq.trans (b := (cellH h (p12.add (((0 : Int)).toNat * 1))).bind fun v15 => some (.value v15)) (by kernel_rfl) (bindE hc14 _)) ?_
   refine oS [(25, .bool (decide (60 ≤ x13))), (26, .bool (decide (60 ≤ x13))), (27, .bool (decide (60 ≤ x13)))] rfl ?_
   by_cases hc21 : 60 ≤ x13
   · refine owp_at 25 (.bool true) (Eq.trans (b := .bool (decide (60 ≤ x13))) (by kernel_rfl) (by rw [decide_eq_true hc21])) ?_
     refine owp_at 26 (.bool true) (Eq.trans (b := .bool (decide (60 ≤ x13))) (by kernel_rfl) (by rw [decide_eq_true hc21])) ?_
     refine owp_at 27 (.bool true) (Eq.trans (b := .bool (decide (60 ≤ x13))) (by kernel_rfl) (by rw [decide_eq_true hc21])) ?_
     replace hM := ifT hc21 hM
     refine oS [(28, .slice (some p12) x3n x3c)] rfl ?_
     obtain ⟨hc22, hM⟩ := hM
     obtain ⟨hc23, hM⟩ := hM
     refine owp_rdG (.pointer (some (p12.add (((0 : Int)).toNat * 1)))) rfl (by kernel_rfl) (rd_ixS (P := Tryd.prog) (h := h) (t := 66) (el := 5) (sz := 1) (ad := p12) (len := x3n) (c := x3c) (k := .i64) (i := 0) (by kernel_rfl) (by kernel_rfl) hc22 hc23 (by kernel_rfl)) ?_
     obtain ⟨x24, hc25, hM⟩ := hM
     refine owp_rdG (.int .u8 x24) rfl (by kernel_rfl) (Eq.trans (b := (cellH h (p12.add (((0 : Int)).toNat * 1))).bind fun v26 => some (.value v26)) (by kernel_rfl) (bindE hc25 _)) ?_
     refine oS [(31, .bool (decide (x24 ≤ 63))), (32, .bool (decide (x24 ≤ 63)))] rfl ?_
     refine oE ?_
     refine cwp_condD (x24 ≤ 63) (by kernel_rfl) (fun hc27 => ?_) (fun hc27 => ?_)
     · replace hM := ifT hc27 hM
       refine cR ?_
       refine oS [(33, .slice (some p12) x3n x3c)] rfl ?_
       obtain ⟨hc28, hM⟩ := hM
       obtain ⟨hc29, hM⟩ := hM
       refine owp_rdG (.pointer (some (p12.add (((0 : Int)).toNat * 1)))) rfl (by kernel_rfl) (rd_ixS (P := Tryd.prog) (h := h) (t := 66) (el := 5) (sz := 1) (ad := p12) (len := x3n) (c := x3c) (k := .i64) (i := 0) (by kernel_rfl) (by kernel_rfl) hc28 hc29 (by kernel_rfl)) ?_
       obtain ⟨x30, hc31, hM⟩ := hM
       refine owp_rdG (.int .u8 x30) rfl (by kernel_rfl) (Eq.trans (b := (cellH h (p12.add (((0 : Int)).toNat * 1))).bind fun v32 => some (.value v32)) (by kernel_rfl) (bindE hc31 _)) ?_
       refine oS [(7, .int .u8 x30)] rfl ?_
       refine oE (cwp_region ?_)
       refine oS [(36, .slice (some p12) x3n x3c)] rfl ?_
       obtain ⟨hc33, hM⟩ := hM
       refine owp_rdG (.slice (cutA (some p12) x3c (1 : Int).toNat 1) (x3n - (1 : Int).toNat) (x3c - (1 : Int).toNat)) rfl (by kernel_rfl) (rd_sSLo (P := Tryd.prog) (h := h) (t := 66) (el := 5) (sz := 1) (a := (some p12)) (n := x3n) (c := x3c) (k := .i64) (i := (1 : Int)) (by kernel_rfl) (by kernel_rfl) (by decide) hc33 (by kernel_rfl)) ?_
       refine oS [(6, .slice (cutA (some p12) x3c (1 : Int).toNat 1) (x3n - (1 : Int).toNat) (x3c - (1 : Int).toNat))] rfl ?_
       refine oE ?_
       refine cwp_of_part (fn := Tryd.f56) (p := [1, 1, 1, 1]) (by kernel_rfl) (cwp_at 6 (.slice (cutA (some p12) x3c (1 : Int).toNat 1) (x3n - (1 : Int).toNat) (x3c - (1 : Int).toNat)) (by kernel_rfl) (cwp_at 7 (.int .u8 x30) (by kernel_rfl) (vt_Screen_numbers_j0_ok _ ?_ (cutA (some p12) x3c (1 : Int).toNat 1) (x3n - (1 : Int).toNat) (x3c - (1 : Int).toNat) x30 _ _ hM)))
       · intro z238 z239 z239n z239c z240 z241 b243 h242 hM
         exact ret_ (.tuple #[.int .u8 z238, .slice z239 z239n z239c, .string z240, .bool z241]) (by kernel_rfl) ⟨_, _, _, _, _, _, rfl, hM⟩
     replace hM := ifF hc27 hM
     refine cwp_skip (thenE_n ?_)
     refine cwp_of_part (fn := Tryd.f56) (p := [1, 1, 1, 1]) (by kernel_rfl) (cwp_at 6 (.slice (some p12) x3n x3c) (by kernel_rfl) (cwp_at 7 (.int .u8 0) (by kernel_rfl) (vt_Screen_numbers_j0_ok _ ?_ (some p12) x3n x3c 0 _ _ hM)))
     · intro z245 z246 z246n z246c z247 z248 b250 h249 hM
       exact ret_ (.tuple #[.int .u8 z245, .slice z246 z246n z246c, .string z247, .bool z248]) (by kernel_rfl) ⟨_, _, _, _, _, _, rfl, hM⟩
   refine owp_at 25 (.bool false) (Eq.trans (b := .bool (decide (60 ≤ x13))) (by kernel_rfl) (by rw [decide_eq_false hc21])) ?_
   refine owp_at 26 (.bool false) (Eq.trans (b := .bool (decide (60 ≤ x13))) (by kernel_rfl) (by rw [decide_eq_false hc21])) ?_
   refine owp_at 27 (.bool false) (Eq.trans (b := .bool (decide (60 ≤ x13))) (by kernel_rfl) (by rw [decide_eq_false hc21])) ?_
   replace hM := ifF hc21 hM
   refine oS [(28, undef), (29, undef), (30, undef), (31, undef), (32, .bool false)] rfl ?_
   refine oE ?_
   refine cwp_cond (t := false) (by kernel_rfl) (fun hx_ => ?_) (fun hx_ => ?_)
   all_goals first | (cases hx_; done) | skip
   refine cwp_skip (thenE_n ?_)
   refine cwp_of_part (fn := Tryd.f56) (p := [1, 1, 1, 1]) (by kernel_rfl) (cwp_at 6 (.slice (some p12) x3n x3c) (by kernel_rfl) (cwp_at 7 (.int .u8 0) (by kernel_rfl) (vt_Screen_numbers_j0_ok _ ?_ (some p12) x3n x3c 0 _ _ hM)))
   · intro z252 z253 z253n z253c z254 z255 b257 h256 hM
     exact ret_ (.tuple #[.int .u8 z252, .slice z253 z253n z253c, .string z254, .bool z255]) (by kernel_rfl) ⟨_, _, _, _, _, _, rfl, hM⟩
 refine owp_at 20 (.bool false) (Eq.trans (b := .bool (decide (0 < (x3n : Int)))) (by kernel_rfl) (by rw [decide_eq_false hc9])) ?_
 refine owp_at 21 (.bool false) (Eq.trans (b := .bool (decide (0 < (x3n : Int)))) (by kernel_rfl) (by rw [decide_eq_false hc9])) ?_
 replace hM := ifF hc9 hM
 refine oS [(22, undef), (23, undef), (24, undef), (25, undef), (26, .bool false), (27, .bool false), (28, undef), (29, undef), (30, undef), (31, undef), (32, .bool false)] rfl ?_
 refine oE ?_
 refine cwp_cond (t := false) (by kernel_rfl) (fun hx_ => ?_) (fun hx_ => ?_)
 all_goals first | (cases hx_; done) | skip
 refine cwp_skip (thenE_n ?_)
 refine cwp_of_part (fn := Tryd.f56) (p := [1, 1, 1, 1]) (by kernel_rfl) (cwp_at 6 (.slice x3 x3n x3c) (by kernel_rfl) (cwp_at 7 (.int .u8 0) (by kernel_rfl) (vt_Screen_numbers_j0_ok _ ?_ x3 x3n x3c 0 _ _ hM)))
 · intro z259 z260 z260n z260c z261 z262 b264 h263 hM
   exact ret_ (.tuple #[.int .u8 z259, .slice z260 z260n z260c, .string z261, .bool z262]) (by kernel_rfl) ⟨_, _, _, _, _, _, rfl, hM⟩
/- mullion/vt.at -/
def vt_at (a1 : Option Addr) (a1n : Nat) (a1c : Nat) (a2 : Int) (a3 : Int) (K : Int → Heap → Prop) (h : Heap) : Prop :=
 if a2 < (a1n : Int) then
  nz a1 fun p10 =>
  0 ≤ a2 ∧
  a2 < (a1n : Int) ∧
  ldI h .i64 (p10.add ((a2).toNat * 1)) fun x11 =>
  if 0 ≤ x11 then
   0 ≤ a2 ∧
   a2 < (a1n : Int) ∧
   ldI h .i64 (p10.add ((a2).toNat * 1)) fun x17 =>
   K x17 h
  else
  K a3 h
 else
 K a3 h
theorem vt_at_ok (a1 : Option Addr) (a1n : Nat) (a1c : Nat) (a2 : Int) (a3 : Int) (K : Int → Heap → Prop) (h : Heap) (hM : vt_at a1 a1n a1c a2 a3 K h) : CallsH Tryd.prog 66 #[.slice a1 a1n a1c, .int .i64 a2, .int .i64 a3] (fun v h' => ∃ (r20 : Int), v = .int .i64 r20 ∧ K r20 h') h := by
 unfold vt_at at hM
 refine callsH_intro (n := 23) Tryd.func66 rfl rfl (by kernel_rfl) ?_
 refine cR ?_
 refine oS [(6, .int .i64 0)] rfl ?_
 refine oE (cwp_seq (cR ?_))
 refine oS [(7, .int .i64 a2), (8, .slice a1 a1n a1c), (9, .int .i64 (a1n : Int)), (10, .bool (decide (a2 < (a1n : Int)))), (11, .bool (decide (a2 < (a1n : Int))))] rfl ?_
 by_cases hc7 : a2 < (a1n : Int)
 · refine owp_at 10 (.bool true) (Eq.trans (b := .bool (decide (a2 < (a1n : Int)))) (by kernel_rfl) (by rw [decide_eq_true hc7])) ?_
   refine owp_at 11 (.bool true) (Eq.trans (b := .bool (decide (a2 < (a1n : Int)))) (by kernel_rfl) (by rw [decide_eq_true hc7])) ?_
   replace hM := ifT hc7 hM
   refine oS [(12, .slice a1 a1n a1c), (13, .int .i64 a2)] rfl ?_
   obtain ⟨p10, rfl, hM⟩ := hM
   obtain ⟨hc8, hM⟩ := hM
   obtain ⟨hc9, hM⟩ := hM
   refine owp_rdG (.pointer (some (p10.add ((a2).toNat * 1)))) rfl (by kernel_rfl) (rd_ixS (P := Tryd.prog) (h := h) (t := 95) (el := 3) (sz := 1) (ad := p10) (len := a1n) (c := a1c) (k := .i64) (i := a2) (by kernel_rfl) (by kernel_rfl) hc8 hc9 (by kernel_rfl)) ?_
   obtain ⟨x11, hc12, hM⟩ := hM
   refine owp_rdG (.int .i64 x11) rfl (by kernel_rfl) (Eq.trans (b := (cellH h (p10.add ((a2).toNat * 1))).bind fun v13 => some (.value v13)) (by kernel_rfl) (bindE hc12 _)) ?_
   refine oS [(16, .bool (decide (0 ≤ x11))), (17, .bool (decide (0 ≤ x11)))] rfl ?_
   refine oE ?_
   refine cwp_condD (0 ≤ x11) (by kernel_rfl) (fun hc14 => ?_) (fun hc14 => ?_)
   · replace hM := ifT hc14 hM
     refine cR ?_
     refine oS [(18, .slice (some p10) a1n a1c), (19, .int .i64 a2)] rfl ?_
     obtain ⟨hc15, hM⟩ := hM
     obtain ⟨hc16, hM⟩ := hM
     refine owp_rdG (.pointer (some (p10.add ((a2).toNat * 1)))) rfl (by kernel_rfl) (rd_ixS (P := Tryd.prog) (h := h) (t := 95) (el := 3) (sz := 1) (ad := p10) (len := a1n) (c := a1c) (k := .i64) (i := a2) (by kernel_rfl) (by kernel_rfl) hc15 hc16 (by kernel_rfl)) ?_
     obtain ⟨x17, hc18, hM⟩ := hM
     refine owp_rdG (.int .i64 x17) rfl (by kernel_rfl) (Eq.trans (b := (cellH h (p10.add ((a2).toNat * 1))).bind fun v19 => some (.value v19)) (by kernel_rfl) (bindE hc18 _)) ?_
     refine oS [(6, .int .i64 x17)] rfl ?_
     refine oE (cwp_ret (thenE_r ?_))
     exact ret_ (.int .i64 x17) (by kernel_rfl) ⟨_, rfl, hM⟩
   replace hM := ifF hc14 hM
   refine cwp_skip (thenE_n (cR ?_))
   refine oS [(22, .int .i64 a3), (6, .int .i64 a3)] rfl ?_
   refine oE (cwp_ret ?_)
   exact ret_ (.int .i64 a3) (by kernel_rfl) ⟨_, rfl, hM⟩
 refine owp_at 10 (.bool false) (Eq.trans (b := .bool (decide (a2 < (a1n : Int)))) (by kernel_rfl) (by rw [decide_eq_false hc7])) ?_
 refine owp_at 11 (.bool false) (Eq.trans (b := .bool (decide (a2 < (a1n : Int)))) (by kernel_rfl) (by rw [decide_eq_false hc7])) ?_
 replace hM := ifF hc7 hM
 refine oS [(12, undef), (13, undef), (14, undef), (15, undef), (16, undef), (17, .bool false)] rfl ?_
 refine oE ?_
 refine cwp_cond (t := false) (by kernel_rfl) (fun hx_ => ?_) (fun hx_ => ?_)
 all_goals first | (cases hx_; done) | skip
 refine cwp_skip (thenE_n (cR ?_))
 refine oS [(22, .int .i64 a3), (6, .int .i64 a3)] rfl ?_
 refine oE (cwp_ret ?_)
 exact ret_ (.int .i64 a3) (by kernel_rfl) ⟨_, rfl, hM⟩
/- (*mullion/vt.Screen).pens -/
def vt_Screen_pens_l1 (K0 : Heap → Prop) (Kr : Heap → Prop) : Nat → Option Addr → Option Addr → Nat → Nat → Nat → Int → Heap → Prop
  | 0, _, _, _, _, _, _, _ => False
  | k + 1, y13, y14, y14n, y14c, y15, y16, h =>
  if y16 < (y14n : Int) then
   nz y14 fun p20 =>
   0 ≤ y16 ∧
   y16 < (y14n : Int) ∧
   ldI h .i64 (p20.add ((y16).toNat * 1)) fun x21 =>
   if (imax 0 x21) = 0 then
    nz y13 fun p25 =>
    stN (p25.add 11) [.int .i64 0, .int .i64 0, .int .i64 0] 0 h fun h26 =>
    vt_Screen_pens_l1 K0 Kr k (some p25) (some p20) y14n y14c y15 (IntKind.wrap .i64 (y16 + 1)) h26
   else
   if (imax 0 x21) < 10 then
    nz y13 fun p28 =>
    ldI h .i64 (p28.add 13) fun x29 =>
    0 ≤ (imax 0 x21) ∧
    (imax 0 x21) < (10 : Int) ∧
    ldI h .i64 ((⟨y15, 0, none⟩ : Addr).add ((imax 0 x21).toNat * 1)) fun x35 =>
    stN (p28.add 13) [.int .i64 (iOr .i64 x29 x35)] 0 h fun h39 =>
    vt_Screen_pens_l1 K0 Kr k (some p28) (some p20) y14n y14c y15 (IntKind.wrap .i64 (y16 + 1)) h39
   else
   if (imax 0 x21) = 21 then
    nz y13 fun p41 =>
    ldI h .i64 (p41.add 13) fun x42 =>
    stN (p41.add 13) [.int .i64 (iOr .i64 x42 8)] 0 h fun h45 =>
    vt_Screen_pens_l1 K0 Kr k (some p41) (some p20) y14n y14c y15 (IntKind.wrap .i64 (y16 + 1)) h45
   else
   if (imax 0 x21) = 22 then
    nz y13 fun p47 =>
    ldI h .i64 (p47.add 13) fun x48 =>
    stN (p47.add 13) [.int .i64 (iAndNot .i64 x48 3)] 0 h fun h51 =>
    vt_Screen_pens_l1 K0 Kr k (some p47) (some p20) y14n y14c y15 (IntKind.wrap .i64 (y16 + 1)) h51
   else
   if ((decide (23 ≤ (imax 0 x21))) && (decide ((imax 0 x21) ≤ 29))) = true then
    nz y13 fun p57 =>
    ldI h .i64 (p57.add 13) fun x58 =>
    0 ≤ (IntKind.wrap .i64 ((imax 0 x21) - 20)) ∧
    (IntKind.wrap .i64 ((imax 0 x21) - 20)) < (10 : Int) ∧
    ldI h .i64 ((⟨y15, 0, none⟩ : Addr).add ((IntKind.wrap .i64 ((imax 0 x21) - 20)).toNat * 1)) fun x64 =>
    stN (p57.add 13) [.int .i64 (iAndNot .i64 x58 x64)] 0 h fun h68 =>
    vt_Screen_pens_l1 K0 Kr k (some p57) (some p20) y14n y14c y15 (IntKind.wrap .i64 (y16 + 1)) h68
   else
   if ((decide (30 ≤ (imax 0 x21))) && (decide ((imax 0 x21) ≤ 37))) = true then
    nz y13 fun p74 =>
    stN (p74.add 11) [.int .i64 (IntKind.wrap .i64 ((imax 0 x21) - 29))] 0 h fun h75 =>
    vt_Screen_pens_l1 K0 Kr k (some p74) (some p20) y14n y14c y15 (IntKind.wrap .i64 (y16 + 1)) h75
   else
   if ((decide (40 ≤ (imax 0 x21))) && (decide ((imax 0 x21) ≤ 47))) = true then
    nz y13 fun p81 =>
    stN (p81.add 12) [.int .i64 (IntKind.wrap .i64 ((imax 0 x21) - 39))] 0 h fun h82 =>
    vt_Screen_pens_l1 K0 Kr k (some p81) (some p20) y14n y14c y15 (IntKind.wrap .i64 (y16 + 1)) h82
   else
   if ((decide (90 ≤ (imax 0 x21))) && (decide ((imax 0 x21) ≤ 97))) = true then
    nz y13 fun p88 =>
    stN (p88.add 11) [.int .i64 (IntKind.wrap .i64 ((imax 0 x21) - 81))] 0 h fun h89 =>
    vt_Screen_pens_l1 K0 Kr k (some p88) (some p20) y14n y14c y15 (IntKind.wrap .i64 (y16 + 1)) h89
   else
   if ((decide (100 ≤ (imax 0 x21))) && (decide ((imax 0 x21) ≤ 107))) = true then
    nz y13 fun p95 =>
    stN (p95.add 12) [.int .i64 (IntKind.wrap .i64 ((imax 0 x21) - 91))] 0 h fun h96 =>
    vt_Screen_pens_l1 K0 Kr k (some p95) (some p20) y14n y14c y15 (IntKind.wrap .i64 (y16 + 1)) h96
   else
   if (imax 0 x21) = 39 then
    nz y13 fun p98 =>
    stN (p98.add 11) [.int .i64 0] 0 h fun h99 =>
    vt_Screen_pens_l1 K0 Kr k (some p98) (some p20) y14n y14c y15 (IntKind.wrap .i64 (y16 + 1)) h99
   else
   if (imax 0 x21) = 49 then
    nz y13 fun p101 =>
    stN (p101.add 12) [.int .i64 0] 0 h fun h102 =>
    vt_Screen_pens_l1 K0 Kr k (some p101) (some p20) y14n y14c y15 (IntKind.wrap .i64 (y16 + 1)) h102
   else
   if ((decide ((imax 0 x21) = 38)) || (decide ((imax 0 x21) = 48))) = true then
    0 ≤ (IntKind.wrap .i64 (y16 + 1)) ∧
    (IntKind.wrap .i64 (y16 + 1)) ≤ (y14n : Int) ∧
    False
   else
   vt_Screen_pens_l1 K0 Kr k y13 (some p20) y14n y14c y15 (IntKind.wrap .i64 (y16 + 1)) h
  else
  K0  h
theorem vt_Screen_pens_l1_ok {Q : Exit → Env → Heap → Prop} (K0 : Heap → Prop) (hK0 : ∀  (b : Env) (h : Heap), K0  h → Q (.exit 0) b h) (Kr : Heap → Prop) : ∀ (k : Nat) (y13 : Option Addr) (y14 : Option Addr) (y14n : Nat) (y14c : Nat) (y15 : Nat) (y16 : Int) (b : Env) (h : Heap) (hM : vt_Screen_pens_l1 K0 Kr k y13 y14 y14n y14c y15 y16 h), lwp Tryd.prog (partC Tryd.f77 [1, 1, 1, 0, 0]) 212 Q k (upd (upd (upd (upd b 0 (.pointer y13)) 1 (.slice y14 y14n y14c)) 4 (.pointer (some ⟨y15, 0, none⟩))) 5 (.int .i64 y16)) h := by
  intro k
  induction k with
  | zero => intro y13 y14 y14n y14c y15 y16 b h hM; exact (show False from hM).elim
  | succ k ih =>
    intro y13 y14 y14n y14c y15 y16 b h hM
    unfold vt_Screen_pens_l1 at hM
    refine lwp_succ (cwp_part rfl ?_)
    refine cwp_seq (cR ?_)
    refine oS [(14, .int .i64 y16), (15, .slice y14 y14n y14c), (16, .int .i64 (y14n : Int)), (17, .bool (decide (y16 < (y14n : Int))))] rfl ?_
    refine oE ?_
    refine cwp_condD (y16 < (y14n : Int)) (by kernel_rfl) (fun hc17 => ?_) (fun hc17 => ?_)
    · replace hM := ifT hc17 hM
      refine cwp_skip (thenE_n (cwp_seq (cwp_block (cR ?_))))
      refine oS [(20, .slice y14 y14n y14c), (21, .int .i64 y16)] rfl ?_
      obtain ⟨p20, rfl, hM⟩ := hM
      obtain ⟨hc18, hM⟩ := hM
      obtain ⟨hc19, hM⟩ := hM
      refine owp_rdG (.pointer (some (p20.add ((y16).toNat * 1)))) rfl (by kernel_rfl) (rd_ixS (P := Tryd.prog) (h := h) (t := 95) (el := 3) (sz := 1) (ad := p20) (len := y14n) (c := y14c) (k := .i64) (i := y16) (by kernel_rfl) (by kernel_rfl) hc18 hc19 (by kernel_rfl)) ?_
      obtain ⟨x21, hc22, hM⟩ := hM
      refine owp_rdG (.int .i64 x21) rfl (by kernel_rfl) (Eq.trans (b := (cellH h (p20.add ((y16).toNat * 1))).bind fun v23 => some (.value v23)) (by kernel_rfl) (bindE hc22 _)) ?_
      refine oS [(24, .int .i64 (imax 0 x21)), (6, .int .i64 (imax 0 x21))] rfl ?_
      refine oE (cwp_block (cR ?_))
      refine oS [(26, .int .i64 (imax 0 x21)), (27, .bool (decide ((imax 0 x21) = 0))), (25, .bool (decide ((imax 0 x21) = 0)))] rfl ?_
      refine oE ?_
      refine cwp_condD ((imax 0 x21) = 0) (by kernel_rfl) (fun hc24 => ?_) (fun hc24 => ?_)
      · replace hM := ifT hc24 hM
        refine cwp_region ?_
        refine oS [(28, .pointer y13), (29, .agg #[.int .i64 0, .int .i64 0, .int .i64 0])] rfl ?_
        obtain ⟨p25, rfl, hM⟩ := hM
        refine owp_rdG (.pointer (some p25)) rfl (by kernel_rfl) (by kernel_rfl) ?_
        refine oS [(31, .pointer (some (p25.add 9))), (32, .pointer (some (p25.add 11)))] rfl ?_
        refine owp_hpD rfl (by kernel_rfl) (hpSt (p25.add 11) [.int .i64 0, .int .i64 0, .int .i64 0] (fun _ => by kernel_rfl) (by kernel_rfl) hM ?_)
        clear hM
        intro h26 hM
        refine owp_nil (blockE_n (blockE_n (thenE_n (cwp_region ?_))))
        refine oS [(18, .int .i64 y16), (19, .int .i64 (IntKind.wrap .i64 (y16 + 1))), (5, .int .i64 (IntKind.wrap .i64 (y16 + 1)))] rfl ?_
        refine owp_nil ?_
        exact lwp_at 0 (.pointer (some p25)) (by kernel_rfl) (lwp_at 1 (.slice (some p20) y14n y14c) (by kernel_rfl) (lwp_at 4 (.pointer (some ⟨y15, 0, none⟩)) (by kernel_rfl) (lwp_at 5 (.int .i64 (IntKind.wrap .i64 (y16 + 1))) (by kernel_rfl) (ih (some p25) (some p20) y14n y14c y15 (IntKind.wrap .i64 (y16 + 1)) _ _ hM))))
      replace hM := ifF hc24 hM
      refine cR ?_
      refine oS [(34, .int .i64 (imax 0 x21)), (35, .bool (decide ((imax 0 x21) < 10))), (33, .bool (decide ((imax 0 x21) < 10)))] rfl ?_
      refine oE ?_
      refine cwp_condD ((imax 0 x21) < 10) (by kernel_rfl) (fun hc27 => ?_) (fun hc27 => ?_)
      · replace hM := ifT hc27 hM
        refine cwp_draw (by kernel_rfl) ?_
        refine k_pure (i := 0) [1, 2, 3, 4, 5, 9, 10, 11, 12, 13, 14] (.pointer y13) (by kernel_rfl) rfl rfl (by kernel_rfl) (fun h' => by kernel_rfl) (by kernel_rfl) ?_
        obtain ⟨p28, rfl, hM⟩ := hM
        refine k_pure (i := 1) [2, 3, 4, 5, 9, 10, 11, 12, 13, 14] (.pointer (some p28)) (by kernel_rfl) rfl rfl (by kernel_rfl) (fun h' => by kernel_rfl) (by kernel_rfl) ?_
        refine k_pure (i := 2) [3, 4, 5, 9, 10, 11, 12, 13, 14] (.pointer (some (p28.add 9))) (by kernel_rfl) rfl rfl (by kernel_rfl) (fun h' => by kernel_rfl) (by kernel_rfl) ?_
        refine k_pure (i := 3) [4, 5, 9, 10, 11, 12, 13, 14] (.pointer (some (p28.add 11))) (by kernel_rfl) rfl rfl (by kernel_rfl) (fun h' => by kernel_rfl) (by kernel_rfl) ?_
        refine k_pure (i := 4) [5, 9, 10, 11, 12, 13, 14] (.pointer (some (p28.add 13))) (by kernel_rfl) rfl rfl (by kernel_rfl) (fun h' => by kernel_rfl) (by kernel_rfl) ?_
        obtain ⟨x29, hc30, hM⟩ := hM
        refine k_load (i := 5) (.int .i64 x29) (fun h' => cellH h' (p28.add 13) = some (.int .i64 x29) ∧ True) [9, 10, 11, 12, 13, 14] [14] (by kernel_rfl) (by kernel_rfl) rfl rfl (by kernel_rfl) (fun h' hS => Eq.trans (b := (cellH h' (p28.add 13)).bind fun v32 => some (.value v32)) (by kernel_rfl) (bindE hS.1 _)) ⟨hc30, trivial⟩ (by kernel_rfl) ?_
        refine k_pure (i := 6) [7, 8, 9, 10, 11, 12, 13, 14] (.int .i64 (imax 0 x21)) (by kernel_rfl) rfl rfl (by kernel_rfl) (fun h' => by kernel_rfl) (by kernel_rfl) ?_
        obtain ⟨hc33, hM⟩ := hM
        obtain ⟨hc34, hM⟩ := hM
        refine k_pure (i := 7) [8, 9, 10, 11, 12, 13, 14] (.pointer (some ((⟨y15, 0, none⟩ : Addr).add ((imax 0 x21).toNat * 1)))) (by kernel_rfl) rfl rfl (by kernel_rfl) (fun h' => rd_ixA (P := Tryd.prog) (h := h') (t := 116) (el := 3) (sz := 1) (len := 10) (ad := ⟨y15, 0, none⟩) (k := .i64) (i := (imax 0 x21)) (by kernel_rfl) (by kernel_rfl) hc33 hc34 (by kernel_rfl)) (by kernel_rfl) ?_
        obtain ⟨x35, hc36, hM⟩ := hM
        refine k_load (i := 8) (.int .i64 x35) (fun h' => cellH h' ((⟨y15, 0, none⟩ : Addr).add ((imax 0 x21).toNat * 1)) = some (.int .i64 x35) ∧ True) [9, 10, 11, 12, 13, 14] [14] (by kernel_rfl) (by kernel_rfl) rfl rfl (by kernel_rfl) (fun h' hS => Eq.trans (b := (cellH h' ((⟨y15, 0, none⟩ : Addr).add ((imax 0 x21).toNat * 1))).bind fun v38 => some (.value v38)) (by kernel_rfl) (bindE hS.1 _)) ⟨hc36, trivial⟩ (by kernel_rfl) ?_
        refine k_pure (i := 9) [10, 11, 12, 13, 14] (.int .i64 (iOr .i64 x29 x35)) (by kernel_rfl) rfl rfl (by kernel_rfl) (fun h' => by kernel_rfl) (by kernel_rfl) ?_
        refine k_pure (i := 10) [11, 12, 13, 14] (.pointer (some p28)) (by kernel_rfl) rfl rfl (by kernel_rfl) (fun h' => by kernel_rfl) (by kernel_rfl) ?_
        refine k_pure (i := 11) [12, 13, 14] (.pointer (some (p28.add 9))) (by kernel_rfl) rfl rfl (by kernel_rfl) (fun h' => by kernel_rfl) (by kernel_rfl) ?_
        refine k_pure (i := 12) [13, 14] (.pointer (some (p28.add 11))) (by kernel_rfl) rfl rfl (by kernel_rfl) (fun h' => by kernel_rfl) (by kernel_rfl) ?_
        refine k_pure (i := 13) [14] (.pointer (some (p28.add 13))) (by kernel_rfl) rfl rfl (by kernel_rfl) (fun h' => by kernel_rfl) (by kernel_rfl) ?_
        refine k_effD (j := 14) (by kernel_rfl) rfl rfl (by kernel_rfl) (hpSt (p28.add 13) [.int .i64 (iOr .i64 x29 x35)] (fun _ => by kernel_rfl) (by kernel_rfl) hM ?_)
        clear hM
        intro h39 hM
        refine ⟨trivial, ?_⟩
        refine k_done (by kernel_rfl) ?_
        refine blockE_n (blockE_n (thenE_n (cwp_region ?_)))
        refine oS [(18, .int .i64 y16), (19, .int .i64 (IntKind.wrap .i64 (y16 + 1))), (5, .int .i64 (IntKind.wrap .i64 (y16 + 1)))] rfl ?_
        refine owp_nil ?_
        exact lwp_at 0 (.pointer (some p28)) (by kernel_rfl) (lwp_at 1 (.slice (some p20) y14n y14c) (by kernel_rfl) (lwp_at 4 (.pointer (some ⟨y15, 0, none⟩)) (by kernel_rfl) (lwp_at 5 (.int .i64 (IntKind.wrap .i64 (y16 + 1))) (by kernel_rfl) (ih (some p28) (some p20) y14n y14c y15 (IntKind.wrap .i64 (y16 + 1)) _ _ hM))))
      replace hM := ifF hc27 hM
      refine cR ?_
      refine oS [(51, .int .i64 (imax 0 x21)), (52, .bool (decide ((imax 0 x21) = 21))), (50, .bool (decide ((imax 0 x21) = 21)))] rfl ?_
      refine oE ?_
      refine cwp_condD ((imax 0 x21) = 21) (by kernel_rfl) (fun hc40 => ?_) (fun hc40 => ?_)
      · replace hM := ifT hc40 hM
        refine cwp_region ?_
        refine oS [(53, .pointer y13)] rfl ?_
        obtain ⟨p41, rfl, hM⟩ := hM
        refine owp_rdG (.pointer (some p41)) rfl (by kernel_rfl) (by kernel_rfl) ?_
        refine oS [(55, .pointer (some (p41.add 9))), (56, .pointer (some (p41.add 11))), (57, .pointer (some (p41.add 13)))] rfl ?_
        obtain ⟨x42, hc43, hM⟩ := hM
        refine owp_rdG (.int .i64 x42) rfl (by kernel_rfl) (Eq.trans (b := (cellH h (p41.add 13)).bind fun v44 => some (.value v44)) (by kernel_rfl) (bindE hc43 _)) ?_
        refine oS [(59, .int .i64 (iOr .i64 x42 8)), (60, .pointer (some p41)), (61, .pointer (some (p41.add 9))), (62, .pointer (some (p41.add 11))), (63, .pointer (some (p41.add 13)))] rfl ?_
        refine owp_hpD rfl (by kernel_rfl) (hpSt (p41.add 13) [.int .i64 (iOr .i64 x42 8)] (fun _ => by kernel_rfl) (by kernel_rfl) hM ?_)
        clear hM
        intro h45 hM
        refine owp_nil (blockE_n (blockE_n (thenE_n (cwp_region ?_))))
        refine oS [(18, .int .i64 y16), (19, .int .i64 (IntKind.wrap .i64 (y16 + 1))), (5, .int .i64 (IntKind.wrap .i64 (y16 + 1)))] rfl ?_
        refine owp_nil ?_
        exact lwp_at 0 (.pointer (some p41)) (by kernel_rfl) (lwp_at 1 (.slice (some p20) y14n y14c) (by kernel_rfl) (lwp_at 4 (.pointer (some ⟨y15, 0, none⟩)) (by kernel_rfl) (lwp_at 5 (.int .i64 (IntKind.wrap .i64 (y16 + 1))) (by kernel_rfl) (ih (some p41) (some p20) y14n y14c y15 (IntKind.wrap .i64 (y16 + 1)) _ _ hM))))
      replace hM := ifF hc40 hM
      refine cR ?_
      refine oS [(65, .int .i64 (imax 0 x21)), (66, .bool (decide ((imax 0 x21) = 22))), (64, .bool (decide ((imax 0 x21) = 22)))] rfl ?_
      refine oE ?_
      refine cwp_condD ((imax 0 x21) = 22) (by kernel_rfl) (fun hc46 => ?_) (fun hc46 => ?_)
      · replace hM := ifT hc46 hM
        refine cwp_region ?_
        refine oS [(67, .pointer y13)] rfl ?_
        obtain ⟨p47, rfl, hM⟩ := hM
        refine owp_rdG (.pointer (some p47)) rfl (by kernel_rfl) (by kernel_rfl) ?_
        refine oS [(69, .pointer (some (p47.add 9))), (70, .pointer (some (p47.add 11))), (71, .pointer (some (p47.add 13)))] rfl ?_
        obtain ⟨x48, hc49, hM⟩ := hM
        refine owp_rdG (.int .i64 x48) rfl (by kernel_rfl) (Eq.trans (b := (cellH h (p47.add 13)).bind fun v50 => some (.value v50)) (by kernel_rfl) (bindE hc49 _)) ?_
        refine oS [(73, .int .i64 (iAndNot .i64 x48 3)), (74, .pointer (some p47)), (75, .pointer (some (p47.add 9))), (76, .pointer (some (p47.add 11))), (77, .pointer (some (p47.add 13)))] rfl ?_
        refine owp_hpD rfl (by kernel_rfl) (hpSt (p47.add 13) [.int .i64 (iAndNot .i64 x48 3)] (fun _ => by kernel_rfl) (by kernel_rfl) hM ?_)
        clear hM
        intro h51 hM
        refine owp_nil (blockE_n (blockE_n (thenE_n (cwp_region ?_))))
        refine oS [(18, .int .i64 y16), (19, .int .i64 (IntKind.wrap .i64 (y16 + 1))), (5, .int .i64 (IntKind.wrap .i64 (y16 + 1)))] rfl ?_
        refine owp_nil ?_
        exact lwp_at 0 (.pointer (some p47)) (by kernel_rfl) (lwp_at 1 (.slice (some p20) y14n y14c) (by kernel_rfl) (lwp_at 4 (.pointer (some ⟨y15, 0, none⟩)) (by kernel_rfl) (lwp_at 5 (.int .i64 (IntKind.wrap .i64 (y16 + 1))) (by kernel_rfl) (ih (some p47) (some p20) y14n y14c y15 (IntKind.wrap .i64 (y16 + 1)) _ _ hM))))
      replace hM := ifF hc46 hM
      refine cR ?_
      refine oS [(79, .int .i64 (imax 0 x21)), (80, .bool (decide (23 ≤ (imax 0 x21)))), (81, .bool (decide (23 ≤ (imax 0 x21))))] rfl ?_
      refine oB (decide (23 ≤ (imax 0 x21))) 3 [80, 81] (fun b_ => [(82, iteV b_ (.int .i64 (imax 0 x21) : Value) undef), (83, iteV b_ (.bool (decide ((imax 0 x21) ≤ 29)) : Value) undef), (84, .bool (b_ && (decide ((imax 0 x21) ≤ 29))))]) rfl (fun hb52 hq53 => oS [(82, .int .i64 (imax 0 x21)), (83, .bool (decide ((imax 0 x21) ≤ 29))), (84, .bool (decide ((imax 0 x21) ≤ 29)))] rfl (hq53)) (fun hb54 hq55 => oS [(82, undef), (83, undef), (84, .bool false)] rfl (hq55)) ?_
      refine oS [(78, .bool ((decide (23 ≤ (imax 0 x21))) && (decide ((imax 0 x21) ≤ 29))))] rfl ?_
      refine oE ?_
      refine cwp_condB ((decide (23 ≤ (imax 0 x21))) && (decide ((imax 0 x21) ≤ 29))) (by kernel_rfl) (fun hc56 => ?_) (fun hc56 => ?_)
      · replace hM := ifT hc56 hM
        refine cwp_draw (by kernel_rfl) ?_
        refine k_pure (i := 0) [1, 2, 3, 4, 5, 10, 11, 12, 13, 14, 15] (.pointer y13) (by kernel_rfl) rfl rfl (by kernel_rfl) (fun h' => by kernel_rfl) (by kernel_rfl) ?_
        obtain ⟨p57, rfl, hM⟩ := hM
        refine k_pure (i := 1) [2, 3, 4, 5, 10, 11, 12, 13, 14, 15] (.pointer (some p57)) (by kernel_rfl) rfl rfl (by kernel_rfl) (fun h' => by kernel_rfl) (by kernel_rfl) ?_
        refine k_pure (i := 2) [3, 4, 5, 10, 11, 12, 13, 14, 15] (.pointer (some (p57.add 9))) (by kernel_rfl) rfl rfl (by kernel_rfl) (fun h' => by kernel_rfl) (by kernel_rfl) ?_
        refine k_pure (i := 3) [4, 5, 10, 11, 12, 13, 14, 15] (.pointer (some (p57.add 11))) (by kernel_rfl) rfl rfl (by kernel_rfl) (fun h' => by kernel_rfl) (by kernel_rfl) ?_
        refine k_pure (i := 4) [5, 10, 11, 12, 13, 14, 15] (.pointer (some (p57.add 13))) (by kernel_rfl) rfl rfl (by kernel_rfl) (fun h' => by kernel_rfl) (by kernel_rfl) ?_
        obtain ⟨x58, hc59, hM⟩ := hM
        refine k_load (i := 5) (.int .i64 x58) (fun h' => cellH h' (p57.add 13) = some (.int .i64 x58) ∧ True) [10, 11, 12, 13, 14, 15] [15] (by kernel_rfl) (by kernel_rfl) rfl rfl (by kernel_rfl) (fun h' hS => Eq.trans (b := (cellH h' (p57.add 13)).bind fun v61 => some (.value v61)) (by kernel_rfl) (bindE hS.1 _)) ⟨hc59, trivial⟩ (by kernel_rfl) ?_
        refine k_pure (i := 6) [7, 8, 9, 10, 11, 12, 13, 14, 15] (.int .i64 (imax 0 x21)) (by kernel_rfl) rfl rfl (by kernel_rfl) (fun h' => by kernel_rfl) (by kernel_rfl) ?_
        refine k_pure (i := 7) [8, 9, 10, 11, 12, 13, 14, 15] (.int .i64 (IntKind.wrap .i64 ((imax 0 x21) - 20))) (by kernel_rfl) rfl rfl (by kernel_rfl) (fun h' => by kernel_rfl) (by kernel_rfl) ?_
        obtain ⟨hc62, hM⟩ := hM
        obtain ⟨hc63, hM⟩ := hM
        refine k_pure (i := 8) [9, 10, 11, 12, 13, 14, 15] (.pointer (some ((⟨y15, 0, none⟩ : Addr).add ((IntKind.wrap .i64 ((imax 0 x21) - 20)).toNat * 1)))) (by kernel_rfl) rfl rfl (by kernel_rfl) (fun h' => rd_ixA (P := Tryd.prog) (h := h') (t := 116) (el := 3) (sz := 1) (len := 10) (ad := ⟨y15, 0, none⟩) (k := .i64) (i := (IntKind.wrap .i64 ((imax 0 x21) - 20))) (by kernel_rfl) (by kernel_rfl) hc62 hc63 (by kernel_rfl)) (by kernel_rfl) ?_
        obtain ⟨x64, hc65, hM⟩ := hM
        refine k_load (i := 9) (.int .i64 x64) (fun h' => cellH h' ((⟨y15, 0, none⟩ : Addr).add ((IntKind.wrap .i64 ((imax 0 x21) - 20)).toNat * 1)) = some (.int .i64 x64) ∧ True) [10, 11, 12, 13, 14, 15] [15] (by kernel_rfl) (by kernel_rfl) rfl rfl (by kernel_rfl) (fun h' hS => Eq.trans (b := (cellH h' ((⟨y15, 0, none⟩ : Addr).add ((IntKind.wrap .i64 ((imax 0 x21) - 20)).toNat * 1))).bind fun v67 => some (.value v67)) (by kernel_rfl) (bindE hS.1 _)) ⟨hc65, trivial⟩ (by kernel_rfl) ?_
        refine k_pure (i := 10) [11, 12, 13, 14, 15] (.int .i64 (iAndNot .i64 x58 x64)) (by kernel_rfl) rfl rfl (by kernel_rfl) (fun h' => by kernel_rfl) (by kernel_rfl) ?_
        refine k_pure (i := 11) [12, 13, 14, 15] (.pointer (some p57)) (by kernel_rfl) rfl rfl (by kernel_rfl) (fun h' => by kernel_rfl) (by kernel_rfl) ?_
        refine k_pure (i := 12) [13, 14, 15] (.pointer (some (p57.add 9))) (by kernel_rfl) rfl rfl (by kernel_rfl) (fun h' => by kernel_rfl) (by kernel_rfl) ?_
        refine k_pure (i := 13) [14, 15] (.pointer (some (p57.add 11))) (by kernel_rfl) rfl rfl (by kernel_rfl) (fun h' => by kernel_rfl) (by kernel_rfl) ?_
        refine k_pure (i := 14) [15] (.pointer (some (p57.add 13))) (by kernel_rfl) rfl rfl (by kernel_rfl) (fun h' => by kernel_rfl) (by kernel_rfl) ?_
        refine k_effD (j := 15) (by kernel_rfl) rfl rfl (by kernel_rfl) (hpSt (p57.add 13) [.int .i64 (iAndNot .i64 x58 x64)] (fun _ => by kernel_rfl) (by kernel_rfl) hM ?_)
        clear hM
        intro h68 hM
        refine ⟨trivial, ?_⟩
        refine k_done (by kernel_rfl) ?_
        refine blockE_n (blockE_n (thenE_n (cwp_region ?_)))
        refine oS [(18, .int .i64 y16), (19, .int .i64 (IntKind.wrap .i64 (y16 + 1))), (5, .int .i64 (IntKind.wrap .i64 (y16 + 1)))] rfl ?_
        refine owp_nil ?_
        exact lwp_at 0 (.pointer (some p57)) (by kernel_rfl) (lwp_at 1 (.slice (some p20) y14n y14c) (by kernel_rfl) (lwp_at 4 (.pointer (some ⟨y15, 0, none⟩)) (by kernel_rfl) (lwp_at 5 (.int .i64 (IntKind.wrap .i64 (y16 + 1))) (by kernel_rfl) (ih (some p57) (some p20) y14n y14c y15 (IntKind.wrap .i64 (y16 + 1)) _ _ hM))))
      replace hM := ifF hc56 hM
      refine cR ?_
      refine oS [(101, .int .i64 (imax 0 x21)), (102, .bool (decide (30 ≤ (imax 0 x21)))), (103, .bool (decide (30 ≤ (imax 0 x21))))] rfl ?_
      refine oB (decide (30 ≤ (imax 0 x21))) 3 [102, 103] (fun b_ => [(104, iteV b_ (.int .i64 (imax 0 x21) : Value) undef), (105, iteV b_ (.bool (decide ((imax 0 x21) ≤ 37)) : Value) undef), (106, .bool (b_ && (decide ((imax 0 x21) ≤ 37))))]) rfl (fun hb69 hq70 => oS [(104, .int .i64 (imax 0 x21)), (105, .bool (decide ((imax 0 x21) ≤ 37))), (106, .bool (decide ((imax 0 x21) ≤ 37)))] rfl (hq70)) (fun hb71 hq72 => oS [(104, undef), (105, undef), (106, .bool false)] rfl (hq72)) ?_
      refine oS [(100, .bool ((decide (30 ≤ (imax 0 x21))) && (decide ((imax 0 x21) ≤ 37))))] rfl ?_
      refine oE ?_
      refine cwp_condB ((decide (30 ≤ (imax 0 x21))) && (decide ((imax 0 x21) ≤ 37))) (by kernel_rfl) (fun hc73 => ?_) (fun hc73 => ?_)
      · replace hM := ifT hc73 hM
        refine cwp_region ?_
        refine oS [(107, .pointer y13), (108, .int .i64 (imax 0 x21)), (109, .int .i64 (IntKind.wrap .i64 ((imax 0 x21) - 29)))] rfl ?_
        obtain ⟨p74, rfl, hM⟩ := hM
        refine owp_rdG (.pointer (some p74)) rfl (by kernel_rfl) (by kernel_rfl) ?_
        refine oS [(111, .pointer (some (p74.add 9))), (112, .pointer (some (p74.add 11))), (113, .pointer (some (p74.add 11)))] rfl ?_
        refine owp_hpD rfl (by kernel_rfl) (hpSt (p74.add 11) [.int .i64 (IntKind.wrap .i64 ((imax 0 x21) - 29))] (fun _ => by kernel_rfl) (by kernel_rfl) hM ?_)
        clear hM
        intro h75 hM
        refine owp_nil (blockE_n (blockE_n (thenE_n (cwp_region ?_))))
        refine oS [(18, .int .i64 y16), (19, .int .i64 (IntKind.wrap .i64 (y16 + 1))), (5, .int .i64 (IntKind.wrap .i64 (y16 + 1)))] rfl ?_
        refine owp_nil ?_
        exact lwp_at 0 (.pointer (some p74)) (by kernel_rfl) (lwp_at 1 (.slice (some p20) y14n y14c) (by kernel_rfl) (lwp_at 4 (.pointer (some ⟨y15, 0, none⟩)) (by kernel_rfl) (lwp_at 5 (.int .i64 (IntKind.wrap .i64 (y16 + 1))) (by kernel_rfl) (ih (some p74) (some p20) y14n y14c y15 (IntKind.wrap .i64 (y16 + 1)) _ _ hM))))
      replace hM := ifF hc73 hM
      refine cR ?_
      refine oS [(115, .int .i64 (imax 0 x21)), (116, .bool (decide (40 ≤ (imax 0 x21)))), (117, .bool (decide (40 ≤ (imax 0 x21))))] rfl ?_
      refine oB (decide (40 ≤ (imax 0 x21))) 3 [116, 117] (fun b_ => [(118, iteV b_ (.int .i64 (imax 0 x21) : Value) undef), (119, iteV b_ (.bool (decide ((imax 0 x21) ≤ 47)) : Value) undef), (120, .bool (b_ && (decide ((imax 0 x21) ≤ 47))))]) rfl (fun hb76 hq77 => oS [(118, .int .i64 (imax 0 x21)), (119, .bool (decide ((imax 0 x21) ≤ 47))), (120, .bool (decide ((imax 0 x21) ≤ 47)))] rfl (hq77)) (fun hb78 hq79 => oS [(118, undef), (119, undef), (120, .bool false)] rfl (hq79)) ?_
      refine oS [(114, .bool ((decide (40 ≤ (imax 0 x21))) && (decide ((imax 0 x21) ≤ 47))))] rfl ?_
      refine oE ?_
      refine cwp_condB ((decide (40 ≤ (imax 0 x21))) && (decide ((imax 0 x21) ≤ 47))) (by kernel_rfl) (fun hc80 => ?_) (fun hc80 => ?_)
      · replace hM := ifT hc80 hM
        refine cwp_region ?_
        refine oS [(121, .pointer y13), (122, .int .i64 (imax 0 x21)), (123, .int .i64 (IntKind.wrap .i64 ((imax 0 x21) - 39)))] rfl ?_
        obtain ⟨p81, rfl, hM⟩ := hM
        refine owp_rdG (.pointer (some p81)) rfl (by kernel_rfl) (by kernel_rfl) ?_
        refine oS [(125, .pointer (some (p81.add 9))), (126, .pointer (some (p81.add 11))), (127, .pointer (some (p81.add 12)))] rfl ?_
        refine owp_hpD rfl (by kernel_rfl) (hpSt (p81.add 12) [.int .i64 (IntKind.wrap .i64 ((imax 0 x21) - 39))] (fun _ => by kernel_rfl) (by kernel_rfl) hM ?_)
        clear hM
        intro h82 hM
        refine owp_nil (blockE_n (blockE_n (thenE_n (cwp_region ?_))))
        refine oS [(18, .int .i64 y16), (19, .int .i64 (IntKind.wrap .i64 (y16 + 1))), (5, .int .i64 (IntKind.wrap .i64 (y16 + 1)))] rfl ?_
        refine owp_nil ?_
        exact lwp_at 0 (.pointer (some p81)) (by kernel_rfl) (lwp_at 1 (.slice (some p20) y14n y14c) (by kernel_rfl) (lwp_at 4 (.pointer (some ⟨y15, 0, none⟩)) (by kernel_rfl) (lwp_at 5 (.int .i64 (IntKind.wrap .i64 (y16 + 1))) (by kernel_rfl) (ih (some p81) (some p20) y14n y14c y15 (IntKind.wrap .i64 (y16 + 1)) _ _ hM))))
      replace hM := ifF hc80 hM
      refine cR ?_
      refine oS [(129, .int .i64 (imax 0 x21)), (130, .bool (decide (90 ≤ (imax 0 x21)))), (131, .bool (decide (90 ≤ (imax 0 x21))))] rfl ?_
      refine oB (decide (90 ≤ (imax 0 x21))) 3 [130, 131] (fun b_ => [(132, iteV b_ (.int .i64 (imax 0 x21) : Value) undef), (133, iteV b_ (.bool (decide ((imax 0 x21) ≤ 97)) : Value) undef), (134, .bool (b_ && (decide ((imax 0 x21) ≤ 97))))]) rfl (fun hb83 hq84 => oS [(132, .int .i64 (imax 0 x21)), (133, .bool (decide ((imax 0 x21) ≤ 97))), (134, .bool (decide ((imax 0 x21) ≤ 97)))] rfl (hq84)) (fun hb85 hq86 => oS [(132, undef), (133, undef), (134, .bool false)] rfl (hq86)) ?_
      refine oS [(128, .bool ((decide (90 ≤ (imax 0 x21))) && (decide ((imax 0 x21) ≤ 97))))] rfl ?_
      refine oE ?_
      refine cwp_condB ((decide (90 ≤ (imax 0 x21))) && (decide ((imax 0 x21) ≤ 97))) (by kernel_rfl) (fun hc87 => ?_) (fun hc87 => ?_)
      · replace hM := ifT hc87 hM
        refine cwp_region ?_
        refine oS [(135, .pointer y13), (136, .int .i64 (imax 0 x21)), (137, .int .i64 (IntKind.wrap .i64 ((imax 0 x21) - 81)))] rfl ?_
        obtain ⟨p88, rfl, hM⟩ := hM
        refine owp_rdG (.pointer (some p88)) rfl (by kernel_rfl) (by kernel_rfl) ?_
        refine oS [(139, .pointer (some (p88.add 9))), (140, .pointer (some (p88.add 11))), (141, .pointer (some (p88.add 11)))] rfl ?_
        refine owp_hpD rfl (by kernel_rfl) (hpSt (p88.add 11) [.int .i64 (IntKind.wrap .i64 ((imax 0 x21) - 81))] (fun _ => by kernel_rfl) (by kernel_rfl) hM ?_)
        clear hM
        intro h89 hM
        refine owp_nil (blockE_n (blockE_n (thenE_n (cwp_region ?_))))
        refine oS [(18, .int .i64 y16), (19, .int .i64 (IntKind.wrap .i64 (y16 + 1))), (5, .int .i64 (IntKind.wrap .i64 (y16 + 1)))] rfl ?_
        refine owp_nil ?_
        exact lwp_at 0 (.pointer (some p88)) (by kernel_rfl) (lwp_at 1 (.slice (some p20) y14n y14c) (by kernel_rfl) (lwp_at 4 (.pointer (some ⟨y15, 0, none⟩)) (by kernel_rfl) (lwp_at 5 (.int .i64 (IntKind.wrap .i64 (y16 + 1))) (by kernel_rfl) (ih (some p88) (some p20) y14n y14c y15 (IntKind.wrap .i64 (y16 + 1)) _ _ hM))))
      replace hM := ifF hc87 hM
      refine cR ?_
      refine oS [(143, .int .i64 (imax 0 x21)), (144, .bool (decide (100 ≤ (imax 0 x21)))), (145, .bool (decide (100 ≤ (imax 0 x21))))] rfl ?_
      refine oB (decide (100 ≤ (imax 0 x21))) 3 [144, 145] (fun b_ => [(146, iteV b_ (.int .i64 (imax 0 x21) : Value) undef), (147, iteV b_ (.bool (decide ((imax 0 x21) ≤ 107)) : Value) undef), (148, .bool (b_ && (decide ((imax 0 x21) ≤ 107))))]) rfl (fun hb90 hq91 => oS [(146, .int .i64 (imax 0 x21)), (147, .bool (decide ((imax 0 x21) ≤ 107))), (148, .bool (decide ((imax 0 x21) ≤ 107)))] rfl (hq91)) (fun hb92 hq93 => oS [(146, undef), (147, undef), (148, .bool false)] rfl (hq93)) ?_
      refine oS [(142, .bool ((decide (100 ≤ (imax 0 x21))) && (decide ((imax 0 x21) ≤ 107))))] rfl ?_
      refine oE ?_
      refine cwp_condB ((decide (100 ≤ (imax 0 x21))) && (decide ((imax 0 x21) ≤ 107))) (by kernel_rfl) (fun hc94 => ?_) (fun hc94 => ?_)
      · replace hM := ifT hc94 hM
        refine cwp_region ?_
        refine oS [(149, .pointer y13), (150, .int .i64 (imax 0 x21)), (151, .int .i64 (IntKind.wrap .i64 ((imax 0 x21) - 91)))] rfl ?_
        obtain ⟨p95, rfl, hM⟩ := hM
        refine owp_rdG (.pointer (some p95)) rfl (by kernel_rfl) (by kernel_rfl) ?_
        refine oS [(153, .pointer (some (p95.add 9))), (154, .pointer (some (p95.add 11))), (155, .pointer (some (p95.add 12)))] rfl ?_
        refine owp_hpD rfl (by kernel_rfl) (hpSt (p95.add 12) [.int .i64 (IntKind.wrap .i64 ((imax 0 x21) - 91))] (fun _ => by kernel_rfl) (by kernel_rfl) hM ?_)
        clear hM
        intro h96 hM
        refine owp_nil (blockE_n (blockE_n (thenE_n (cwp_region ?_))))
        refine oS [(18, .int .i64 y16), (19, .int .i64 (IntKind.wrap .i64 (y16 + 1))), (5, .int .i64 (IntKind.wrap .i64 (y16 + 1)))] rfl ?_
        refine owp_nil ?_
        exact lwp_at 0 (.pointer (some p95)) (by kernel_rfl) (lwp_at 1 (.slice (some p20) y14n y14c) (by kernel_rfl) (lwp_at 4 (.pointer (some ⟨y15, 0, none⟩)) (by kernel_rfl) (lwp_at 5 (.int .i64 (IntKind.wrap .i64 (y16 + 1))) (by kernel_rfl) (ih (some p95) (some p20) y14n y14c y15 (IntKind.wrap .i64 (y16 + 1)) _ _ hM))))
      replace hM := ifF hc94 hM
      refine cR ?_
      refine oS [(157, .int .i64 (imax 0 x21)), (158, .bool (decide ((imax 0 x21) = 39))), (156, .bool (decide ((imax 0 x21) = 39)))] rfl ?_
      refine oE ?_
      refine cwp_condD ((imax 0 x21) = 39) (by kernel_rfl) (fun hc97 => ?_) (fun hc97 => ?_)
      · replace hM := ifT hc97 hM
        refine cwp_region ?_
        refine oS [(159, .pointer y13)] rfl ?_
        obtain ⟨p98, rfl, hM⟩ := hM
        refine owp_rdG (.pointer (some p98)) rfl (by kernel_rfl) (by kernel_rfl) ?_
        refine oS [(161, .pointer (some (p98.add 9))), (162, .pointer (some (p98.add 11))), (163, .pointer (some (p98.add 11)))] rfl ?_
        refine owp_hpD rfl (by kernel_rfl) (hpSt (p98.add 11) [.int .i64 0] (fun _ => by kernel_rfl) (by kernel_rfl) hM ?_)
        clear hM
        intro h99 hM
        refine owp_nil (blockE_n (blockE_n (thenE_n (cwp_region ?_))))
        refine oS [(18, .int .i64 y16), (19, .int .i64 (IntKind.wrap .i64 (y16 + 1))), (5, .int .i64 (IntKind.wrap .i64 (y16 + 1)))] rfl ?_
        refine owp_nil ?_
        exact lwp_at 0 (.pointer (some p98)) (by kernel_rfl) (lwp_at 1 (.slice (some p20) y14n y14c) (by kernel_rfl) (lwp_at 4 (.pointer (some ⟨y15, 0, none⟩)) (by kernel_rfl) (lwp_at 5 (.int .i64 (IntKind.wrap .i64 (y16 + 1))) (by kernel_rfl) (ih (some p98) (some p20) y14n y14c y15 (IntKind.wrap .i64 (y16 + 1)) _ _ hM))))
      replace hM := ifF hc97 hM
      refine cR ?_
      refine oS [(165, .int .i64 (imax 0 x21)), (166, .bool (decide ((imax 0 x21) = 49))), (164, .bool (decide ((imax 0 x21) = 49)))] rfl ?_
      refine oE ?_
      refine cwp_condD ((imax 0 x21) = 49) (by kernel_rfl) (fun hc100 => ?_) (fun hc100 => ?_)
      · replace hM := ifT hc100 hM
        refine cwp_region ?_
        refine oS [(167, .pointer y13)] rfl ?_
        obtain ⟨p101, rfl, hM⟩ := hM
        refine owp_rdG (.pointer (some p101)) rfl (by kernel_rfl) (by kernel_rfl) ?_
        refine oS [(169, .pointer (some (p101.add 9))), (170, .pointer (some (p101.add 11))), (171, .pointer (some (p101.add 12)))] rfl ?_
        refine owp_hpD rfl (by kernel_rfl) (hpSt (p101.add 12) [.int .i64 0] (fun _ => by kernel_rfl) (by kernel_rfl) hM ?_)
        clear hM
        intro h102 hM
        refine owp_nil (blockE_n (blockE_n (thenE_n (cwp_region ?_))))
        refine oS [(18, .int .i64 y16), (19, .int .i64 (IntKind.wrap .i64 (y16 + 1))), (5, .int .i64 (IntKind.wrap .i64 (y16 + 1)))] rfl ?_
        refine owp_nil ?_
        exact lwp_at 0 (.pointer (some p101)) (by kernel_rfl) (lwp_at 1 (.slice (some p20) y14n y14c) (by kernel_rfl) (lwp_at 4 (.pointer (some ⟨y15, 0, none⟩)) (by kernel_rfl) (lwp_at 5 (.int .i64 (IntKind.wrap .i64 (y16 + 1))) (by kernel_rfl) (ih (some p101) (some p20) y14n y14c y15 (IntKind.wrap .i64 (y16 + 1)) _ _ hM))))
      replace hM := ifF hc100 hM
      refine cR ?_
      refine oS [(173, .int .i64 (imax 0 x21)), (174, .bool (decide ((imax 0 x21) = 38))), (175, .bool (decide ((imax 0 x21) = 38)))] rfl ?_
      refine oB (decide ((imax 0 x21) = 38)) 3 [174, 175] (fun b_ => [(176, iteV b_ undef (.int .i64 (imax 0 x21) : Value)), (177, iteV b_ undef (.bool (decide ((imax 0 x21) = 48)) : Value)), (178, .bool (b_ || (decide ((imax 0 x21) = 48))))]) rfl (fun hb103 hq104 => oS [(176, undef), (177, undef), (178, .bool true)] rfl (hq104)) (fun hb105 hq106 => oS [(176, .int .i64 (imax 0 x21)), (177, .bool (decide ((imax 0 x21) = 48))), (178, .bool (decide ((imax 0 x21) = 48)))] rfl (hq106)) ?_
      refine oS [(172, .bool ((decide ((imax 0 x21) = 38)) || (decide ((imax 0 x21) = 48))))] rfl ?_
      refine oE ?_
      refine cwp_condB ((decide ((imax 0 x21) = 38)) || (decide ((imax 0 x21) = 48))) (by kernel_rfl) (fun hc107 => ?_) (fun hc107 => ?_)
      · replace hM := ifT hc107 hM
        refine cR ?_
        refine oS [(180, .slice (some p20) y14n y14c), (181, .int .i64 y16), (182, .int .i64 (IntKind.wrap .i64 (y16 + 1)))] rfl ?_
        obtain ⟨hc108, hM⟩ := hM
        obtain ⟨hc109, hM⟩ := hM
        refine owp_rdG (.slice (cutA (some p20) y14c (IntKind.wrap .i64 (y16 + 1)).toNat 1) (y14n - (IntKind.wrap .i64 (y16 + 1)).toNat) (y14c - (IntKind.wrap .i64 (y16 + 1)).toNat)) rfl (by kernel_rfl) (rd_sSLo (P := Tryd.prog) (h := h) (t := 95) (el := 3) (sz := 1) (a := (some p20)) (n := y14n) (c := y14c) (k := .i64) (i := (IntKind.wrap .i64 (y16 + 1))) (by kernel_rfl) (by kernel_rfl) hc108 hc109 (by kernel_rfl)) ?_
        exact hM.elim
      replace hM := ifF hc107 hM
      refine cwp_skip (blockE_n (blockE_n (thenE_n (cwp_region ?_))))
      refine oS [(18, .int .i64 y16), (19, .int .i64 (IntKind.wrap .i64 (y16 + 1))), (5, .int .i64 (IntKind.wrap .i64 (y16 + 1)))] rfl ?_
      refine owp_nil ?_
      exact lwp_at 0 (.pointer y13) (by kernel_rfl) (lwp_at 1 (.slice (some p20) y14n y14c) (by kernel_rfl) (lwp_at 4 (.pointer (some ⟨y15, 0, none⟩)) (by kernel_rfl) (lwp_at 5 (.int .i64 (IntKind.wrap .i64 (y16 + 1))) (by kernel_rfl) (ih y13 (some p20) y14n y14c y15 (IntKind.wrap .i64 (y16 + 1)) _ _ hM))))
    replace hM := ifF hc17 hM
    refine cwp_exit (thenE_x ?_)
    exact hK0  _ _ hM
def vt_Screen_pens_j0 (Kn : Heap → Prop) (Kr : Heap → Prop) (y7 : Option Addr) (y8 : Option Addr) (y8n : Nat) (y8c : Nat) (h : Heap) : Prop :=
 newB h #[.int .i64 0, .int .i64 0, .int .i64 0, .int .i64 0, .int .i64 0, .int .i64 0, .int .i64 0, .int .i64 0, .int .i64 0, .int .i64 0] 116 fun b9 h10 =>
 stN ⟨b9, 0, none⟩ [.int .i64 0, .int .i64 1, .int .i64 2, .int .i64 4, .int .i64 8, .int .i64 16, .int .i64 0, .int .i64 32, .int .i64 64, .int .i64 128] 0 h10 fun h12 =>
 ∃ k112, vt_Screen_pens_l1
  (fun  h110 =>
      Kn  h110) (fun _ => False) k112 y7 y8 y8n y8c b9 0 h12
theorem vt_Screen_pens_j0_ok {Q : Exit → Env → Heap → Prop} (Kn : Heap → Prop) (hKn : ∀  (b : Env) (h : Heap), Kn  h → Q .normal b h) (Kr : Heap → Prop) (y7 : Option Addr) (y8 : Option Addr) (y8n : Nat) (y8c : Nat) (b : Env) (h : Heap) (hM : vt_Screen_pens_j0 Kn Kr y7 y8 y8n y8c h) : cwp Tryd.prog (partC Tryd.f77 [1]) 212 Q (upd (upd b 0 (.pointer y7)) 1 (.slice y8 y8n y8c)) h := by
  unfold vt_Screen_pens_j0 at hM
  refine cwp_part rfl ?_
  refine cR ?_
  refine oS [(13, .agg #[.int .i64 0, .int .i64 1, .int .i64 2, .int .i64 4, .int .i64 8, .int .i64 16, .int .i64 0, .int .i64 32, .int .i64 64, .int .i64 128])] rfl ?_
  refine owp_hpG rfl (by kernel_rfl) (hpNew #[.int .i64 0, .int .i64 0, .int .i64 0, .int .i64 0, .int .i64 0, .int .i64 0, .int .i64 0, .int .i64 0, .int .i64 0, .int .i64 0] 116 (fun _ => by kernel_rfl) ?_)
  intro b9 h10 hN11
  replace hM := newB_of hN11 hM
  refine owp_hpD rfl (by kernel_rfl) (hpSt ⟨b9, 0, none⟩ [.int .i64 0, .int .i64 1, .int .i64 2, .int .i64 4, .int .i64 8, .int .i64 16, .int .i64 0, .int .i64 32, .int .i64 64, .int .i64 128] (fun _ => by kernel_rfl) (by kernel_rfl) hM ?_)
  clear hM
  intro h12 hM
  refine oE (cR ?_)
  refine oS [(5, .int .i64 0)] rfl ?_
  refine oE (cwp_block ?_)
  obtain ⟨k_, hM⟩ := hM
  refine cwp_loop k_ (lwp_of_part (fn := Tryd.f77) (p := [1, 1, 1, 0, 0]) (by kernel_rfl) (lwp_at 0 (.pointer y7) (by kernel_rfl) (lwp_at 1 (.slice y8 y8n y8c) (by kernel_rfl) (lwp_at 4 (.pointer (some ⟨b9, 0, none⟩)) (by kernel_rfl) (lwp_at 5 (.int .i64 0) (by kernel_rfl) (vt_Screen_pens_l1_ok _ ?_ _ k_ y7 y8 y8n y8c b9 0 _ _ hM))))))
  · intro  b111 h110 hM
    refine blockE_h ?_
    exact hKn  _ _ hM
def vt_Screen_pens (a1 : Option Addr) (a2 : Option Addr) (a2n : Nat) (a2c : Nat) (K : Heap → Prop) (h : Heap) : Prop :=
 if (a2n : Int) = 0 then
  newB h #[.int .i64 0] 3 fun b4 h5 =>
  vt_Screen_pens_j0
   (fun  h113 =>
       K h113) (fun _ => False) a1 (some ⟨b4, 0, none⟩) 1 1 h5
 else
 vt_Screen_pens_j0
  (fun  h116 =>
      K h116) (fun _ => False) a1 a2 a2n a2c h
theorem vt_Screen_pens_ok (a1 : Option Addr) (a2 : Option Addr) (a2n : Nat) (a2c : Nat) (K : Heap → Prop) (h : Heap) (hM : vt_Screen_pens a1 a2 a2n a2c K h) : CallsH Tryd.prog 77 #[.pointer a1, .slice a2 a2n a2c] (fun v h' => v = .tuple #[] ∧ K h') h := by
 unfold vt_Screen_pens at hM
 refine callsH_intro (n := 212) Tryd.func77 rfl rfl (by kernel_rfl) ?_
 refine cwp_seq (cR ?_)
 refine oS [(9, .slice a2 a2n a2c), (10, .int .i64 (a2n : Int)), (11, .bool (decide ((a2n : Int) = 0)))] rfl ?_
 refine oE ?_
 refine cwp_condD ((a2n : Int) = 0) (by kernel_rfl) (fun hc3 => ?_) (fun hc3 => ?_)
 · replace hM := ifT hc3 hM
   refine cwp_region ?_
   refine owp_hpG rfl (by kernel_rfl) (hpNewS #[.int .i64 0] 3 1 (fun _ => by kernel_rfl) ?_)
   intro b4 h5 hN6
   replace hM := newB_of hN6 hM
   refine oS [(1, .slice (some ⟨b4, 0, none⟩) 1 1)] rfl ?_
   refine oE ?_
   refine cwp_of_part (fn := Tryd.f77) (p := [1]) (by kernel_rfl) (cwp_at 0 (.pointer a1) (by kernel_rfl) (cwp_at 1 (.slice (some ⟨b4, 0, none⟩) 1 1) (by kernel_rfl) (vt_Screen_pens_j0_ok _ ?_ _ a1 (some ⟨b4, 0, none⟩) 1 1 _ _ hM)))
   · intro  b114 h113 hM
     exact end_ (.tuple #[]) (by kernel_rfl) ⟨rfl, hM⟩
 replace hM := ifF hc3 hM
 refine cwp_skip (thenE_n ?_)
 refine cwp_of_part (fn := Tryd.f77) (p := [1]) (by kernel_rfl) (cwp_at 0 (.pointer a1) (by kernel_rfl) (cwp_at 1 (.slice a2 a2n a2c) (by kernel_rfl) (vt_Screen_pens_j0_ok _ ?_ _ a1 a2 a2n a2c _ _ hM)))
 · intro  b117 h116 hM
   exact end_ (.tuple #[]) (by kernel_rfl) ⟨rfl, hM⟩
/- strconv.Itoa -/
def strconv_Itoa (a1 : Int) : Option (ByteArray) :=
 none
theorem strconv_Itoa_ok (a1 : Int) (r : ByteArray) (h : Heap) (hM : strconv_Itoa a1 = some r) : CallsH Tryd.prog 79 #[.int .i64 a1] (fun v h' => v = .string r ∧ Ext h h') h := by
 unfold strconv_Itoa at hM
 refine callsH_intro (n := 5) Tryd.func79 rfl rfl (by kernel_rfl) ?_
 refine cR ?_
 refine oS [(2, .string (⟨#[]⟩ : ByteArray))] rfl ?_
 refine oE (cR ?_)
 cases hM
end Go.Proofs.YthjdnhhifjpidaaDoor.M
