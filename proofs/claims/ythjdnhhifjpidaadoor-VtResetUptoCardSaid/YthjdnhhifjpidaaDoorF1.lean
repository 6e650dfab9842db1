/-
  PRINTED BY A PROGRAM OF THIS CLAIM'S (gen.py): for each Go function a Lean function over memory, and the proof that the code comes to what it says.
-/
import Derived.Test.YthjdnhhifjpidaaDoorHpX
import Derived.Test.YthjdnhhifjpidaaDoorProg
set_option linter.unusedVariables false
set_option linter.unusedSimpArgs false
set_option maxRecDepth 100000
set_option maxHeartbeats 1000000
namespace Go.Proofs.YthjdnhhifjpidaaDoor.M
open Go Go.Hp
def tab1 : List (Int × Int) := [(128, 191),
  (160, 191),
  (128, 159),
  (144, 191),
  (128, 143),
  (0, 0),
  (0, 0),
  (0, 0),
  (0, 0),
  (0, 0),
  (0, 0),
  (0, 0),
  (0, 0),
  (0, 0),
  (0, 0),
  (0, 0)]
def tab1d : Int × Int := (128, 191)
def tab1f (r : Int × Int) : List Value := [.int .u8 r.1, .int .u8 r.2]
/- mullion/vt.within -/
def vt_within_l0 (K0 : Heap → Prop) (Kr : Bool → Heap → Prop) : Nat → Int → Option Addr → Nat → Nat → Int → Int → Heap → Prop
  | 0, _, _, _, _, _, _, _ => False
  | k + 1, y3, y4, y4n, y4c, y5, y6, h =>
  if y6 < y5 then
   nz y4 fun p10 =>
   0 ≤ y6 ∧
   y6 < (y4n : Int) ∧
   ldI h .i32 (p10.add ((y6).toNat * 2)) fun x11 =>
   ldI h .i32 ((p10.add ((y6).toNat * 2)).add 1) fun x13 =>
   if ((decide (x11 ≤ y3)) && (decide (y3 ≤ x13))) = true then
    gap h fun h20 =>
    Kr true h20
   else
   gap h fun h20 =>
   vt_within_l0 K0 Kr k y3 (some p10) y4n y4c y5 (IntKind.wrap .i64 (y6 + 1)) h20
  else
  K0  h
theorem vt_within_l0_ok {Q : Exit → Env → Heap → Prop} (K0 : Heap → Prop) (hK0 : ∀  (b : Env) (h : Heap), K0  h → Q (.exit 0) b h) (Kr : Bool → Heap → Prop) (hKr : ∀ (z32 : Bool) (b : Env) (h : Heap), Kr z32 h → Q .ret (upd b 4 (.bool z32)) h) : ∀ (k : Nat) (y3 : Int) (y4 : Option Addr) (y4n : Nat) (y4c : Nat) (y5 : Int) (y6 : Int) (b : Env) (h : Heap) (hM : vt_within_l0 K0 Kr k y3 y4 y4n y4c y5 y6 h), lwp Tryd.prog (partC Tryd.f18 [1, 0, 1, 0, 0]) 24 Q k (upd (upd (upd (upd b 0 (.int .i32 y3)) 7 (.slice y4 y4n y4c)) 8 (.int .i64 y5)) 9 (.int .i64 y6)) h := by
  intro k
  induction k with
  | zero => intro y3 y4 y4n y4c y5 y6 b h hM; exact (show False from hM).elim
  | succ k ih =>
    intro y3 y4 y4n y4c y5 y6 b h hM
    unfold vt_within_l0 at hM
    refine lwp_succ (cwp_part rfl ?_)
    refine cR ?_
    refine oS [(10, .bool (decide (y6 < y5)))] rfl ?_
    refine oE (cwp_seq ?_)
    refine cwp_condD (y6 < y5) (by kernel_rfl) (fun hc7 => ?_) (fun hc7 => ?_)
    · replace hM := ifT hc7 hM
      refine cwp_skip (thenE_n (cwp_seq (cwp_block (cR ?_))))
      obtain ⟨p10, rfl, hM⟩ := hM
      obtain ⟨hc8, hM⟩ := hM
      obtain ⟨hc9, hM⟩ := hM
      refine owp_rdG (.pointer (some (p10.add ((y6).toNat * 2)))) rfl (by kernel_rfl) (rd_ixS (P := Tryd.prog) (h := h) (t := 50) (el := 49) (sz := 2) (ad := p10) (len := y4n) (c := y4c) (k := .i64) (i := y6) (by kernel_rfl) (by kernel_rfl) hc8 hc9 (by kernel_rfl)) ?_
      obtain ⟨x11, hc12, hM⟩ := hM
      obtain ⟨x13, hc14, hM⟩ := hM
      refine owp_rdG (.agg #[.int .i32 x11, .int .i32 x13]) rfl (by kernel_rfl) (Eq.trans (b := (cellH h (p10.add ((y6).toNat * 2))).bind fun v15 => (cellH h ((p10.add ((y6).toNat * 2)).add 1)).bind fun v16 => some (.value (.agg #[v15, v16]))) (by kernel_rfl) ((bindE hc12 _).trans (bindE hc14 _))) ?_
      refine oG (hpNew #[.int .i32 0, .int .i32 0] 49 (fun _ => by kernel_rfl) ?_)
      intro b17 h18 hN19
      refine owp_hpD rfl (by kernel_rfl) (hpStB b17 0 [.int .i32 x11, .int .i32 x13] (New.blk hN19) (fun _ => by kernel_rfl) rfl rfl ?_)
      intro h20 hP21
      have f22 : Blk h20 b17 #[.int .i32 x11, .int .i32 x13] 49 := hP21.blk
      refine oE (cR ?_)
      refine oS [(13, .int .i32 y3), (14, .pointer (some ⟨b17, 0, none⟩))] rfl ?_
      refine owp_rdG (.int .i32 x11) rfl (by kernel_rfl) (Eq.trans (b := (cellH h20 ⟨b17, 0, none⟩).bind fun v23 => some (.value v23)) (by kernel_rfl) (bindE (Blk.cell f22 0 (by kernel_rfl)) _)) ?_
      refine oS [(16, .bool (decide (x11 ≤ y3))), (17, .bool (decide (x11 ≤ y3)))] rfl ?_
      refine oB (decide (x11 ≤ y3)) 5 [16, 17] (fun b_ => [(18, iteV b_ (.int .i32 y3 : Value) undef), (19, iteV b_ (.pointer (some ⟨b17, 1, none⟩) : Value) undef), (20, iteV b_ (.int .i32 x13 : Value) undef), (21, iteV b_ (.bool (decide (y3 ≤ x13)) : Value) undef), (22, .bool (b_ && (decide (y3 ≤ x13))))]) rfl (fun hb25 hq26 => oS [(18, .int .i32 y3), (19, .pointer (some ⟨b17, 1, none⟩))] rfl (owp_rdG (.int .i32 x13) rfl (by kernel_rfl) (Eq.trans (b := (cellH h20 ⟨b17, 1, none⟩).bind fun v24 => some (.value v24)) (by kernel_rfl) (bindE (Blk.cell f22 1 (by kernel_rfl)) _)) (oS [(21, .bool (decide (y3 ≤ x13))), (22, .bool (decide (y3 ≤ x13)))] rfl (hq26)))) (fun hb27 hq28 => oS [(18, undef), (19, undef), (20, undef), (21, undef), (22, .bool false)] rfl (hq28)) ?_
      refine oE ?_
      refine cwp_condB ((decide (x11 ≤ y3)) && (decide (y3 ≤ x13))) (by kernel_rfl) (fun hc29 => ?_) (fun hc29 => ?_)
      · replace hM := ifT hc29 hM
        refine cR ?_
        refine oS [(4, .bool true)] rfl ?_
        refine oE (cwp_ret (blockE_r (thenE_r ?_)))
        replace hM := hM _ (Put.ext hP21 (New.ext hN19) (New.ge hN19 (Ext.refl _)))
        exact q_at (Q := Q .ret) 4 (.bool true) (by kernel_rfl) (hKr true _ _ hM)
      replace hM := ifF hc29 hM
      refine cwp_skip (blockE_n (thenE_n (cwp_region ?_)))
      refine oS [(23, .int .i64 (IntKind.wrap .i64 (y6 + 1))), (9, .int .i64 (IntKind.wrap .i64 (y6 + 1)))] rfl ?_
      refine owp_nil ?_
      replace hM := hM _ (Put.ext hP21 (New.ext hN19) (New.ge hN19 (Ext.refl _)))
      exact lwp_at 0 (.int .i32 y3) (by kernel_rfl) (lwp_at 7 (.slice (some p10) y4n y4c) (by kernel_rfl) (lwp_at 8 (.int .i64 y5) (by kernel_rfl) (lwp_at 9 (.int .i64 (IntKind.wrap .i64 (y6 + 1))) (by kernel_rfl) (ih y3 (some p10) y4n y4c y5 (IntKind.wrap .i64 (y6 + 1)) _ _ hM))))
    replace hM := ifF hc7 hM
    refine cwp_exit (thenE_x ?_)
    exact hK0  _ _ hM
def vt_within (a1 : Int) (a2 : Option Addr) (a2n : Nat) (a2c : Nat) (K : Bool → Heap → Prop) (h : Heap) : Prop :=
 ∃ k38, vt_within_l0
  (fun  h33 =>
      K false h33)
  (fun z35 h36 =>
      K z35 h36) k38 a1 a2 a2n a2c (a2n : Int) 0 h
theorem vt_within_ok (a1 : Int) (a2 : Option Addr) (a2n : Nat) (a2c : Nat) (K : Bool → Heap → Prop) (h : Heap) (hM : vt_within a1 a2 a2n a2c K h) : CallsH Tryd.prog 18 #[.int .i32 a1, .slice a2 a2n a2c] (fun v h' => ∃ (r39 : Bool), v = .bool r39 ∧ K r39 h') h := by
 unfold vt_within at hM
 refine callsH_intro (n := 24) Tryd.func18 rfl rfl (by kernel_rfl) ?_
 refine cR ?_
 refine oS [(4, .bool false)] rfl ?_
 refine oE (cwp_seq (cR ?_))
 refine oS [(7, .slice a2 a2n a2c), (8, .int .i64 (a2n : Int)), (9, .int .i64 0)] rfl ?_
 refine oE (cwp_block ?_)
 obtain ⟨k_, hM⟩ := hM
 refine cwp_loop k_ (lwp_of_part (fn := Tryd.f18) (p := [1, 0, 1, 0, 0]) (by kernel_rfl) (lwp_at 0 (.int .i32 a1) (by kernel_rfl) (lwp_at 7 (.slice a2 a2n a2c) (by kernel_rfl) (lwp_at 8 (.int .i64 (a2n : Int)) (by kernel_rfl) (lwp_at 9 (.int .i64 0) (by kernel_rfl) (vt_within_l0_ok _ ?_ _ ?_ k_ a1 a2 a2n a2c (a2n : Int) 0 _ _ hM))))))
 · intro  b34 h33 hM
   refine blockE_h (thenE_n (cR ?_))
   refine oS [(4, .bool false)] rfl ?_
   refine oE (cwp_ret ?_)
   exact ret_ (.bool false) (by kernel_rfl) ⟨_, rfl, hM⟩
 · intro z35 b37 h36 hM
   refine blockE_r (thenE_r ?_)
   exact ret_ (.bool z35) (by kernel_rfl) ⟨_, rfl, hM⟩
/- mullion/vt.Width -/
def vt_Width_j0 (Kn : Heap → Prop) (Kr : Int → Heap → Prop) (y9 : Int) (y10 : Option Addr) (y10n : Nat) (y10c : Nat) (y11 : Option Addr) (y11n : Nat) (y11c : Nat) (y12 : Bool) (h : Heap) : Prop :=
 if y12 = true then
  Kr (-1) h
 else
 vt_within y9 y10 y10n y10c (fun x16 h15 =>
  if x16 = true then
   Kr 0 h15
  else
  vt_within y9 y11 y11n y11c (fun x19 h18 =>
   if x19 = true then
    Kr 2 h18
   else
     Kn  h18) h15) h
theorem vt_Width_j0_ok {Q : Exit → Env → Heap → Prop} (Kn : Heap → Prop) (hKn : ∀  (b : Env) (h : Heap), Kn  h → Q .normal b h) (Kr : Int → Heap → Prop) (hKr : ∀ (z22 : Int) (b : Env) (h : Heap), Kr z22 h → Q .ret (upd b 2 (.int .i64 z22)) h) (y9 : Int) (y10 : Option Addr) (y10n : Nat) (y10c : Nat) (y11 : Option Addr) (y11n : Nat) (y11c : Nat) (y12 : Bool) (b : Env) (h : Heap) (hM : vt_Width_j0 Kn Kr y9 y10 y10n y10c y11 y11n y11c y12 h) : cwp Tryd.prog (partC Tryd.f6 [1, 1, 1, 0, 0, 1]) 52 Q (upd (upd (upd (upd b 0 (.int .i32 y9)) 3 (.slice y10 y10n y10c)) 4 (.slice y11 y11n y11c)) 27 (.bool y12)) h := by
  unfold vt_Width_j0 at hM
  refine cwp_part rfl ?_
  refine cwp_condB y12 (by kernel_rfl) (fun hc13 => ?_) (fun hc13 => ?_)
  · replace hM := ifT hc13 hM
    refine cR ?_
    refine oS [(2, .int .i64 (-1))] rfl ?_
    refine oE (cwp_ret ?_)
    exact q_at (Q := Q .ret) 2 (.int .i64 (-1)) (by kernel_rfl) (hKr (-1) _ _ hM)
  replace hM := ifF hc13 hM
  refine cR ?_
  refine oS [(45, .int .i32 y9), (46, .slice y10 y10n y10c)] rfl ?_
  refine oG (hpCallE 18 #[.int .i32 y9, .slice y10 y10n y10c] (by kernel_rfl) (vt_within_ok y9 y10 y10n y10c _ h hM) ?_)
  clear hM
  rintro _ h15 ⟨x16, rfl, hM⟩
  refine oS [(44, .bool x16)] rfl ?_
  refine oE ?_
  refine cwp_condB x16 (by kernel_rfl) (fun hc17 => ?_) (fun hc17 => ?_)
  · replace hM := ifT hc17 hM
    refine cR ?_
    refine oS [(2, .int .i64 0)] rfl ?_
    refine oE (cwp_ret ?_)
    exact q_at (Q := Q .ret) 2 (.int .i64 0) (by kernel_rfl) (hKr 0 _ _ hM)
  replace hM := ifF hc17 hM
  refine cR ?_
  refine oS [(49, .int .i32 y9), (50, .slice y11 y11n y11c)] rfl ?_
  refine oG (hpCallE 18 #[.int .i32 y9, .slice y11 y11n y11c] (by kernel_rfl) (vt_within_ok y9 y11 y11n y11c _ h15 hM) ?_)
  clear hM
  rintro _ h18 ⟨x19, rfl, hM⟩
  refine oS [(48, .bool x19)] rfl ?_
  refine oE ?_
  refine cwp_condB x19 (by kernel_rfl) (fun hc20 => ?_) (fun hc20 => ?_)
  · replace hM := ifT hc20 hM
    refine cR ?_
    refine oS [(2, .int .i64 2)] rfl ?_
    refine oE (cwp_ret ?_)
    exact q_at (Q := Q .ret) 2 (.int .i64 2) (by kernel_rfl) (hKr 2 _ _ hM)
  replace hM := ifF hc20 hM
  refine cwp_skip ?_
  exact hKn  _ _ hM
def vt_Width (a1 : Int) (K : Int → Heap → Prop) (h : Heap) : Prop :=
 newB h #[.int .i32 768, .int .i32 879, .int .i32 8203, .int .i32 8207, .int .i32 8232, .int .i32 8238, .int .i32 8400, .int .i32 8447, .int .i32 65024, .int .i32 65039, .int .i32 65279, .int .i32 65279] 49 fun b2 h3 =>
 newB h3 #[.int .i32 4352, .int .i32 4447, .int .i32 11904, .int .i32 12350, .int .i32 12353, .int .i32 13311, .int .i32 13312, .int .i32 19903, .int .i32 19968, .int .i32 40959, .int .i32 40960, .int .i32 42191, .int .i32 44032, .int .i32 55203, .int .i32 63744, .int .i32 64255, .int .i32 65072, .int .i32 65135, .int .i32 65280, .int .i32 65376, .int .i32 65504, .int .i32 65510, .int .i32 127744, .int .i32 128591, .int .i32 129280, .int .i32 129535, .int .i32 131072, .int .i32 262141] 49 fun b5 h6 =>
 if a1 < 32 then
  vt_Width_j0
   (fun  h23 =>
       K 1 h23)
   (fun z25 h26 =>
       K z25 h26) a1 (some ⟨b2, 0, none⟩) 6 6 (some ⟨b5, 0, none⟩) 14 14 (decide (a1 < 32)) h6
 else
 if ((decide (127 ≤ a1)) && (decide (a1 ≤ 159))) = true then
  vt_Width_j0
   (fun  h34 =>
       K 1 h34)
   (fun z36 h37 =>
       K z36 h37) a1 (some ⟨b2, 0, none⟩) 6 6 (some ⟨b5, 0, none⟩) 14 14 ((decide (127 ≤ a1)) && (decide (a1 ≤ 159))) h6
 else
 if ((decide (55296 ≤ a1)) && (decide (a1 ≤ 57343))) = true then
  vt_Width_j0
   (fun  h45 =>
       K 1 h45)
   (fun z47 h48 =>
       K z47 h48) a1 (some ⟨b2, 0, none⟩) 6 6 (some ⟨b5, 0, none⟩) 14 14 ((decide (55296 ≤ a1)) && (decide (a1 ≤ 57343))) h6
 else
 vt_Width_j0
  (fun  h51 =>
      K 1 h51)
  (fun z53 h54 =>
      K z53 h54) a1 (some ⟨b2, 0, none⟩) 6 6 (some ⟨b5, 0, none⟩) 14 14 (decide (1114111 < a1)) h6
theorem vt_Width_ok (a1 : Int) (K : Int → Heap → Prop) (h : Heap) (hM : vt_Width a1 K h) : CallsH Tryd.prog 6 #[.int .i32 a1] (fun v h' => ∃ (r57 : Int), v = .int .i64 r57 ∧ K r57 h') h := by
 unfold vt_Width at hM
 refine callsH_intro (n := 52) Tryd.func6 rfl rfl (by kernel_rfl) ?_
 refine cR ?_
 refine oS [(2, .int .i64 0)] rfl ?_
 refine oE (cR ?_)
 refine oS [(5, .agg #[.int .i32 768, .int .i32 879]), (6, .agg #[.int .i32 8203, .int .i32 8207]), (7, .agg #[.int .i32 8232, .int .i32 8238]), (8, .agg #[.int .i32 8400, .int .i32 8447]), (9, .agg #[.int .i32 65024, .int .i32 65039]), (10, .agg #[.int .i32 65279, .int .i32 65279])] rfl ?_
 refine oG (hpNewS #[.int .i32 768, .int .i32 879, .int .i32 8203, .int .i32 8207, .int .i32 8232, .int .i32 8238, .int .i32 8400, .int .i32 8447, .int .i32 65024, .int .i32 65039, .int .i32 65279, .int .i32 65279] 49 6 (fun _ => by kernel_rfl) ?_)
 intro b2 h3 hN4
 replace hM := newB_of hN4 hM
 refine oS [(3, .slice (some ⟨b2, 0, none⟩) 6 6)] rfl ?_
 refine oE (cR ?_)
 refine oS [(12, .agg #[.int .i32 4352, .int .i32 4447]), (13, .agg #[.int .i32 11904, .int .i32 12350]), (14, .agg #[.int .i32 12353, .int .i32 13311]), (15, .agg #[.int .i32 13312, .int .i32 19903]), (16, .agg #[.int .i32 19968, .int .i32 40959]), (17, .agg #[.int .i32 40960, .int .i32 42191]), (18, .agg #[.int .i32 44032, .int .i32 55203]), (19, .agg #[.int .i32 63744, .int .i32 64255]), (20, .agg #[.int .i32 65072, .int .i32 65135]), (21, .agg #[.int .i32 65280, .int .i32 65376]), (22, .agg #[.int .i32 65504, .int .i32 65510]), (23, .agg #[.int .i32 127744, .int .i32 128591]), (24, .agg #[.int .i32 129280, .int .i32 129535]), (25, .agg #[.int .i32 131072, .int .i32 262141])] rfl ?_
 refine oG (hpNewS #[.int .i32 4352, .int .i32 4447, .int .i32 11904, .int .i32 12350, .int .i32 12353, .int .i32 13311, .int .i32 13312, .int .i32 19903, .int .i32 19968, .int .i32 40959, .int .i32 40960, .int .i32 42191, .int .i32 44032, .int .i32 55203, .int .i32 63744, .int .i32 64255, .int .i32 65072, .int .i32 65135, .int .i32 65280, .int .i32 65376, .int .i32 65504, .int .i32 65510, .int .i32 127744, .int .i32 128591, .int .i32 129280, .int .i32 129535, .int .i32 131072, .int .i32 262141] 49 14 (fun _ => by kernel_rfl) ?_)
 intro b5 h6 hN7
 replace hM := newB_of hN7 hM
 refine oS [(4, .slice (some ⟨b5, 0, none⟩) 14 14)] rfl ?_
 refine oE (cwp_seq (cwp_block (cwp_seq (cR ?_))))
 refine oS [(28, .int .i32 a1), (29, .bool (decide (a1 < 32))), (27, .bool (decide (a1 < 32)))] rfl ?_
 refine oE ?_
 refine cwp_condD (a1 < 32) (by kernel_rfl) (fun hc8 => ?_) (fun hc8 => ?_)
 · replace hM := ifT hc8 hM
   refine cwp_skip (thenE_n ?_)
   refine cwp_of_part (fn := Tryd.f6) (p := [1, 1, 1, 0, 0, 1]) (by kernel_rfl) (cwp_at 0 (.int .i32 a1) (by kernel_rfl) (cwp_at 3 (.slice (some ⟨b2, 0, none⟩) 6 6) (by kernel_rfl) (cwp_at 4 (.slice (some ⟨b5, 0, none⟩) 14 14) (by kernel_rfl) (cwp_at 27 (.bool (decide (a1 < 32))) (by kernel_rfl) (vt_Width_j0_ok _ ?_ _ ?_ a1 (some ⟨b2, 0, none⟩) 6 6 (some ⟨b5, 0, none⟩) 14 14 (decide (a1 < 32)) _ _ hM)))))
   · intro  b24 h23 hM
     refine blockE_n (thenE_n (cR ?_))
     refine oS [(2, .int .i64 1)] rfl ?_
     refine oE (cwp_ret ?_)
     exact ret_ (.int .i64 1) (by kernel_rfl) ⟨_, rfl, hM⟩
   · intro z25 b27 h26 hM
     refine blockE_r (thenE_r ?_)
     exact ret_ (.int .i64 z25) (by kernel_rfl) ⟨_, rfl, hM⟩
 replace hM := ifF hc8 hM
 refine cR ?_
 refine oS [(30, .int .i32 a1), (31, .bool (decide (127 ≤ a1))), (32, .bool (decide (127 ≤ a1)))] rfl ?_
 refine oB (decide (127 ≤ a1)) 3 [31, 32] (fun b_ => [(33, iteV b_ (.int .i32 a1 : Value) undef), (34, iteV b_ (.bool (decide (a1 ≤ 159)) : Value) undef), (35, .bool (b_ && (decide (a1 ≤ 159))))]) rfl (fun hb29 hq30 => oS [(33, .int .i32 a1), (34, .bool (decide (a1 ≤ 159))), (35, .bool (decide (a1 ≤ 159)))] rfl (hq30)) (fun hb31 hq32 => oS [(33, undef), (34, undef), (35, .bool false)] rfl (hq32)) ?_
 refine oS [(27, .bool ((decide (127 ≤ a1)) && (decide (a1 ≤ 159))))] rfl ?_
 refine oE ?_
 refine cwp_condB ((decide (127 ≤ a1)) && (decide (a1 ≤ 159))) (by kernel_rfl) (fun hc33 => ?_) (fun hc33 => ?_)
 · replace hM := ifT hc33 hM
   refine cwp_skip (thenE_n ?_)
   refine cwp_of_part (fn := Tryd.f6) (p := [1, 1, 1, 0, 0, 1]) (by kernel_rfl) (cwp_at 0 (.int .i32 a1) (by kernel_rfl) (cwp_at 3 (.slice (some ⟨b2, 0, none⟩) 6 6) (by kernel_rfl) (cwp_at 4 (.slice (some ⟨b5, 0, none⟩) 14 14) (by kernel_rfl) (cwp_at 27 (.bool ((decide (127 ≤ a1)) && (decide (a1 ≤ 159)))) (by kernel_rfl) (vt_Width_j0_ok _ ?_ _ ?_ a1 (some ⟨b2, 0, none⟩) 6 6 (some ⟨b5, 0, none⟩) 14 14 ((decide (127 ≤ a1)) && (decide (a1 ≤ 159))) _ _ hM)))))
   · intro  b35 h34 hM
     refine blockE_n (thenE_n (cR ?_))
     refine oS [(2, .int .i64 1)] rfl ?_
     refine oE (cwp_ret ?_)
     exact ret_ (.int .i64 1) (by kernel_rfl) ⟨_, rfl, hM⟩
   · intro z36 b38 h37 hM
     refine blockE_r (thenE_r ?_)
     exact ret_ (.int .i64 z36) (by kernel_rfl) ⟨_, rfl, hM⟩
 replace hM := ifF hc33 hM
 refine cR ?_
 refine oS [(36, .int .i32 a1), (37, .bool (decide (55296 ≤ a1))), (38, .bool (decide (55296 ≤ a1)))] rfl ?_
 refine oB (decide (55296 ≤ a1)) 3 [37, 38] (fun b_ => [(39, iteV b_ (.int .i32 a1 : Value) undef), (40, iteV b_ (.bool (decide (a1 ≤ 57343)) : Value) undef), (41, .bool (b_ && (decide (a1 ≤ 57343))))]) rfl (fun hb40 hq41 => oS [(39, .int .i32 a1), (40, .bool (decide (a1 ≤ 57343))), (41, .bool (decide (a1 ≤ 57343)))] rfl (hq41)) (fun hb42 hq43 => oS [(39, undef), (40, undef), (41, .bool false)] rfl (hq43)) ?_
 refine oS [(27, .bool ((decide (55296 ≤ a1)) && (decide (a1 ≤ 57343))))] rfl ?_
 refine oE ?_
 refine cwp_condB ((decide (55296 ≤ a1)) && (decide (a1 ≤ 57343))) (by kernel_rfl) (fun hc44 => ?_) (fun hc44 => ?_)
 · replace hM := ifT hc44 hM
   refine cwp_skip (thenE_n ?_)
   refine cwp_of_part (fn := Tryd.f6) (p := [1, 1, 1, 0, 0, 1]) (by kernel_rfl) (cwp_at 0 (.int .i32 a1) (by kernel_rfl) (cwp_at 3 (.slice (some ⟨b2, 0, none⟩) 6 6) (by kernel_rfl) (cwp_at 4 (.slice (some ⟨b5, 0, none⟩) 14 14) (by kernel_rfl) (cwp_at 27 (.bool ((decide (55296 ≤ a1)) && (decide (a1 ≤ 57343)))) (by kernel_rfl) (vt_Width_j0_ok _ ?_ _ ?_ a1 (some ⟨b2, 0, none⟩) 6 6 (some ⟨b5, 0, none⟩) 14 14 ((decide (55296 ≤ a1)) && (decide (a1 ≤ 57343))) _ _ hM)))))
   · intro  b46 h45 hM
     refine blockE_n (thenE_n (cR ?_))
     refine oS [(2, .int .i64 1)] rfl ?_
     refine oE (cwp_ret ?_)
     exact ret_ (.int .i64 1) (by kernel_rfl) ⟨_, rfl, hM⟩
   · intro z47 b49 h48 hM
     refine blockE_r (thenE_r ?_)
     exact ret_ (.int .i64 z47) (by kernel_rfl) ⟨_, rfl, hM⟩
 replace hM := ifF hc44 hM
 refine cwp_region ?_
 refine oS [(42, .int .i32 a1), (43, .bool (decide (1114111 < a1))), (27, .bool (decide (1114111 < a1)))] rfl ?_
 refine oE ?_
 refine cwp_of_part (fn := Tryd.f6) (p := [1, 1, 1, 0, 0, 1]) (by kernel_rfl) (cwp_at 0 (.int .i32 a1) (by kernel_rfl) (cwp_at 3 (.slice (some ⟨b2, 0, none⟩) 6 6) (by kernel_rfl) (cwp_at 4 (.slice (some ⟨b5, 0, none⟩) 14 14) (by kernel_rfl) (cwp_at 27 (.bool (decide (1114111 < a1))) (by kernel_rfl) (vt_Width_j0_ok _ ?_ _ ?_ a1 (some ⟨b2, 0, none⟩) 6 6 (some ⟨b5, 0, none⟩) 14 14 (decide (1114111 < a1)) _ _ hM)))))
 · intro  b52 h51 hM
   refine blockE_n (thenE_n (cR ?_))
   refine oS [(2, .int .i64 1)] rfl ?_
   refine oE (cwp_ret ?_)
   exact ret_ (.int .i64 1) (by kernel_rfl) ⟨_, rfl, hM⟩
 · intro z53 b55 h54 hM
   refine blockE_r (thenE_r ?_)
   exact ret_ (.int .i64 z53) (by kernel_rfl) ⟨_, rfl, hM⟩
/- mullion/vt.drawn -/
def vt_drawn (a1 : Int) : Int :=
 if a1 = 106 then
  (9496)
 else
 if a1 = 107 then
  (9488)
 else
 if a1 = 108 then
  (9484)
 else
 if a1 = 109 then
  (9492)
 else
 if a1 = 110 then
  (9532)
 else
 if a1 = 113 then
  (9472)
 else
 if a1 = 116 then
  (9500)
 else
 if a1 = 117 then
  (9508)
 else
 if a1 = 118 then
  (9524)
 else
 if a1 = 119 then
  (9516)
 else
 if a1 = 120 then
  (9474)
 else
 if a1 = 97 then
  (9618)
 else
 if a1 = 102 then
  (176)
 else
 if a1 = 103 then
  (177)
 else
 if a1 = 126 then
  (183)
 else
 (a1)
theorem vt_drawn_ok (a1 : Int) (r : Int) (h : Heap) (hM : vt_drawn a1 = r) : CallsH Tryd.prog 45 #[.int .i32 a1] (fun v h' => v = .int .i32 r ∧ Ext h h') h := by
 unfold vt_drawn at hM
 refine callsH_intro (n := 35) Tryd.func45 rfl rfl (by kernel_rfl) ?_
 refine cR ?_
 refine oS [(2, .int .i32 0)] rfl ?_
 refine oE (cwp_seq (cR ?_))
 refine oS [(3, .int .i32 a1)] rfl ?_
 refine oE (cwp_block (cR ?_))
 refine oS [(5, .bool (decide (a1 = 106))), (4, .bool (decide (a1 = 106)))] rfl ?_
 refine oE ?_
 refine cwp_condD (a1 = 106) (by kernel_rfl) (fun hc2 => ?_) (fun hc2 => ?_)
 · replace hM := ifTo hc2 hM
   refine cR ?_
   refine oS [(2, .int .i32 9496)] rfl ?_
   refine oE (cwp_ret (blockE_r (thenE_r ?_)))
   subst hM
   exact ret_ (.int .i32 9496) (by kernel_rfl) ⟨rfl, Ext.refl _⟩
 replace hM := ifFo hc2 hM
 refine cR ?_
 refine oS [(7, .bool (decide (a1 = 107))), (6, .bool (decide (a1 = 107)))] rfl ?_
 refine oE ?_
 refine cwp_condD (a1 = 107) (by kernel_rfl) (fun hc3 => ?_) (fun hc3 => ?_)
 · replace hM := ifTo hc3 hM
   refine cR ?_
   refine oS [(2, .int .i32 9488)] rfl ?_
   refine oE (cwp_ret (blockE_r (thenE_r ?_)))
   subst hM
   exact ret_ (.int .i32 9488) (by kernel_rfl) ⟨rfl, Ext.refl _⟩
 replace hM := ifFo hc3 hM
 refine cR ?_
 refine oS [(9, .bool (decide (a1 = 108))), (8, .bool (decide (a1 = 108)))] rfl ?_
 refine oE ?_
 refine cwp_condD (a1 = 108) (by kernel_rfl) (fun hc4 => ?_) (fun hc4 => ?_)
 · replace hM := ifTo hc4 hM
   refine cR ?_
   refine oS [(2, .int .i32 9484)] rfl ?_
   refine oE (cwp_ret (blockE_r (thenE_r ?_)))
   subst hM
   exact ret_ (.int .i32 9484) (by kernel_rfl) ⟨rfl, Ext.refl _⟩
 replace hM := ifFo hc4 hM
 refine cR ?_
 refine oS [(11, .bool (decide (a1 = 109))), (10, .bool (decide (a1 = 109)))] rfl ?_
 refine oE ?_
 refine cwp_condD (a1 = 109) (by kernel_rfl) (fun hc5 => ?_) (fun hc5 => ?_)
 · replace hM := ifTo hc5 hM
   refine cR ?_
   refine oS [(2, .int .i32 9492)] rfl ?_
   refine oE (cwp_ret (blockE_r (thenE_r ?_)))
   subst hM
   exact ret_ (.int .i32 9492) (by kernel_rfl) ⟨rfl, Ext.refl _⟩
 replace hM := ifFo hc5 hM
 refine cR ?_
 refine oS [(13, .bool (decide (a1 = 110))), (12, .bool (decide (a1 = 110)))] rfl ?_
 refine oE ?_
 refine cwp_condD (a1 = 110) (by kernel_rfl) (fun hc6 => ?_) (fun hc6 => ?_)
 · replace hM := ifTo hc6 hM
   refine cR ?_
   refine oS [(2, .int .i32 9532)] rfl ?_
   refine oE (cwp_ret (blockE_r (thenE_r ?_)))
   subst hM
   exact ret_ (.int .i32 9532) (by kernel_rfl) ⟨rfl, Ext.refl _⟩
 replace hM := ifFo hc6 hM
 refine cR ?_
 refine oS [(15, .bool (decide (a1 = 113))), (14, .bool (decide (a1 = 113)))] rfl ?_
 refine oE ?_
 refine cwp_condD (a1 = 113) (by kernel_rfl) (fun hc7 => ?_) (fun hc7 => ?_)
 · replace hM := ifTo hc7 hM
   refine cR ?_
   refine oS [(2, .int .i32 9472)] rfl ?_
   refine oE (cwp_ret (blockE_r (thenE_r ?_)))
   subst hM
   exact ret_ (.int .i32 9472) (by kernel_rfl) ⟨rfl, Ext.refl _⟩
 replace hM := ifFo hc7 hM
 refine cR ?_
 refine oS [(17, .bool (decide (a1 = 116))), (16, .bool (decide (a1 = 116)))] rfl ?_
 refine oE ?_
 refine cwp_condD (a1 = 116) (by kernel_rfl) (fun hc8 => ?_) (fun hc8 => ?_)
 · replace hM := ifTo hc8 hM
   refine cR ?_
   refine oS [(2, .int .i32 9500)] rfl ?_
   refine oE (cwp_ret (blockE_r (thenE_r ?_)))
   subst hM
   exact ret_ (.int .i32 9500) (by kernel_rfl) ⟨rfl, Ext.refl _⟩
 replace hM := ifFo hc8 hM
 refine cR ?_
 refine oS [(19, .bool (decide (a1 = 117))), (18, .bool (decide (a1 = 117)))] rfl ?_
 refine oE ?_
 refine cwp_condD (a1 = 117) (by kernel_rfl) (fun hc9 => ?_) (fun hc9 => ?_)
 · replace hM := ifTo hc9 hM
   refine cR ?_
   refine oS [(2, .int .i32 9508)] rfl ?_
   refine oE (cwp_ret (blockE_r (thenE_r ?_)))
   subst hM
   exact ret_ (.int .i32 9508) (by kernel_rfl) ⟨rfl, Ext.refl _⟩
 replace hM := ifFo hc9 hM
 refine cR ?_
 refine oS [(21, .bool (decide (a1 = 118))), (20, .bool (decide (a1 = 118)))] rfl ?_
 refine oE ?_
 refine cwp_condD (a1 = 118) (by kernel_rfl) (fun hc10 => ?_) (fun hc10 => ?_)
 · replace hM := ifTo hc10 hM
   refine cR ?_
   refine oS [(2, .int .i32 9524)] rfl ?_
   refine oE (cwp_ret (blockE_r (thenE_r ?_)))
   subst hM
   exact ret_ (.int .i32 9524) (by kernel_rfl) ⟨rfl, Ext.refl _⟩
 replace hM := ifFo hc10 hM
 refine cR ?_
 refine oS [(23, .bool (decide (a1 = 119))), (22, .bool (decide (a1 = 119)))] rfl ?_
 refine oE ?_
 refine cwp_condD (a1 = 119) (by kernel_rfl) (fun hc11 => ?_) (fun hc11 => ?_)
 · replace hM := ifTo hc11 hM
   refine cR ?_
   refine oS [(2, .int .i32 9516)] rfl ?_
   refine oE (cwp_ret (blockE_r (thenE_r ?_)))
   subst hM
   exact ret_ (.int .i32 9516) (by kernel_rfl) ⟨rfl, Ext.refl _⟩
 replace hM := ifFo hc11 hM
 refine cR ?_
 refine oS [(25, .bool (decide (a1 = 120))), (24, .bool (decide (a1 = 120)))] rfl ?_
 refine oE ?_
 refine cwp_condD (a1 = 120) (by kernel_rfl) (fun hc12 => ?_) (fun hc12 => ?_)
 · replace hM := ifTo hc12 hM
   refine cR ?_
   refine oS [(2, .int .i32 9474)] rfl ?_
   refine oE (cwp_ret (blockE_r (thenE_r ?_)))
   subst hM
   exact ret_ (.int .i32 9474) (by kernel_rfl) ⟨rfl, Ext.refl _⟩
 replace hM := ifFo hc12 hM
 refine cR ?_
 refine oS [(27, .bool (decide (a1 = 97))), (26, .bool (decide (a1 = 97)))] rfl ?_
 refine oE ?_
 refine cwp_condD (a1 = 97) (by kernel_rfl) (fun hc13 => ?_) (fun hc13 => ?_)
 · replace hM := ifTo hc13 hM
   refine cR ?_
   refine oS [(2, .int .i32 9618)] rfl ?_
   refine oE (cwp_ret (blockE_r (thenE_r ?_)))
   subst hM
   exact ret_ (.int .i32 9618) (by kernel_rfl) ⟨rfl, Ext.refl _⟩
 replace hM := ifFo hc13 hM
 refine cR ?_
 refine oS [(29, .bool (decide (a1 = 102))), (28, .bool (decide (a1 = 102)))] rfl ?_
 refine oE ?_
 refine cwp_condD (a1 = 102) (by kernel_rfl) (fun hc14 => ?_) (fun hc14 => ?_)
 · replace hM := ifTo hc14 hM
   refine cR ?_
   refine oS [(2, .int .i32 176)] rfl ?_
   refine oE (cwp_ret (blockE_r (thenE_r ?_)))
   subst hM
   exact ret_ (.int .i32 176) (by kernel_rfl) ⟨rfl, Ext.refl _⟩
 replace hM := ifFo hc14 hM
 refine cR ?_
 refine oS [(31, .bool (decide (a1 = 103))), (30, .bool (decide (a1 = 103)))] rfl ?_
 refine oE ?_
 refine cwp_condD (a1 = 103) (by kernel_rfl) (fun hc15 => ?_) (fun hc15 => ?_)
 · replace hM := ifTo hc15 hM
   refine cR ?_
   refine oS [(2, .int .i32 177)] rfl ?_
   refine oE (cwp_ret (blockE_r (thenE_r ?_)))
   subst hM
   exact ret_ (.int .i32 177) (by kernel_rfl) ⟨rfl, Ext.refl _⟩
 replace hM := ifFo hc15 hM
 refine cR ?_
 refine oS [(33, .bool (decide (a1 = 126))), (32, .bool (decide (a1 = 126)))] rfl ?_
 refine oE ?_
 refine cwp_condD (a1 = 126) (by kernel_rfl) (fun hc16 => ?_) (fun hc16 => ?_)
 · replace hM := ifTo hc16 hM
   refine cR ?_
   refine oS [(2, .int .i32 183)] rfl ?_
   refine oE (cwp_ret (blockE_r (thenE_r ?_)))
   subst hM
   exact ret_ (.int .i32 183) (by kernel_rfl) ⟨rfl, Ext.refl _⟩
 replace hM := ifFo hc16 hM
 refine cwp_skip (blockE_n (thenE_n (cR ?_)))
 refine oS [(34, .int .i32 a1), (2, .int .i32 a1)] rfl ?_
 refine oE (cwp_ret ?_)
 subst hM
 exact ret_ (.int .i32 a1) (by kernel_rfl) ⟨rfl, Ext.refl _⟩
/- (*mullion/vt.Screen).shown -/
def vt_Screen_shown (a1 : Option Addr) (K : Option Addr → Heap → Prop) (h : Heap) : Prop :=
 nz a1 fun p2 =>
 ldB h (p2.add 7) fun x3 =>
 if x3 = true then
  K (some (p2.add 5)) h
 else
 K (some (p2.add 3)) h
theorem vt_Screen_shown_ok (a1 : Option Addr) (K : Option Addr → Heap → Prop) (h : Heap) (hM : vt_Screen_shown a1 K h) : CallsH Tryd.prog 22 #[.pointer a1] (fun v h' => ∃ (r7 : Option Addr), v = .pointer r7 ∧ K r7 h') h := by
 unfold vt_Screen_shown at hM
 refine callsH_intro (n := 13) Tryd.func22 rfl rfl (by kernel_rfl) ?_
 refine cR ?_
 refine oS [(2, .pointer none)] rfl ?_
 refine oE (cwp_seq (cR ?_))
 refine oS [(3, .pointer a1)] rfl ?_
 obtain ⟨p2, rfl, hM⟩ := hM
 refine owp_rdG (.pointer (some p2)) rfl (by kernel_rfl) (by kernel_rfl) ?_
 refine oS [(5, .pointer (some (p2.add 7)))] rfl ?_
 obtain ⟨x3, hc4, hM⟩ := hM
 refine oL (.bool x3) (p2.add 7) hc4 ?_
 refine oE ?_
 refine cwp_condB x3 (by kernel_rfl) (fun hc6 => ?_) (fun hc6 => ?_)
 · replace hM := ifT hc6 hM
   refine cR ?_
   refine oS [(7, .pointer (some p2)), (8, .pointer (some p2)), (9, .pointer (some (p2.add 5))), (2, .pointer (some (p2.add 5)))] rfl ?_
   refine oE (cwp_ret (thenE_r ?_))
   exact ret_ (.pointer (some (p2.add 5))) (by kernel_rfl) ⟨_, rfl, hM⟩
 replace hM := ifF hc6 hM
 refine cwp_skip (thenE_n (cR ?_))
 refine oS [(10, .pointer (some p2)), (11, .pointer (some p2)), (12, .pointer (some (p2.add 3))), (2, .pointer (some (p2.add 3)))] rfl ?_
 refine oE (cwp_ret ?_)
 exact ret_ (.pointer (some (p2.add 3))) (by kernel_rfl) ⟨_, rfl, hM⟩
/- mullion/vt.blank -/
def vt_blank (a1 : Int) (a2 : Int) (a3 : Int) : ByteArray × Int × Int × Int × Int :=
 ((⟨#[32]⟩ : ByteArray), 1, a1, a2, a3)
theorem vt_blank_ok (a1 : Int) (a2 : Int) (a3 : Int) (r : ByteArray × Int × Int × Int × Int) (h : Heap) (hM : vt_blank a1 a2 a3 = r) : CallsH Tryd.prog 60 #[.agg #[.int .i64 a1, .int .i64 a2, .int .i64 a3]] (fun v h' => v = .agg #[.string r.1, .int .i64 r.2.1, .int .i64 r.2.2.1, .int .i64 r.2.2.2.1, .int .i64 r.2.2.2.2] ∧ Ext h h') h := by
 unfold vt_blank at hM
 refine callsH_intro (n := 5) Tryd.func60 rfl rfl (by kernel_rfl) ?_
 refine cR ?_
 refine oG (hpNew #[.int .i64 a1, .int .i64 a2, .int .i64 a3] 41 (fun _ => by kernel_rfl) ?_)
 intro b4 h5 hN6
 refine oG (hpNew #[.string (⟨#[]⟩ : ByteArray), .int .i64 0, .int .i64 0, .int .i64 0, .int .i64 0] 43 (fun _ => by kernel_rfl) ?_)
 intro b7 h8 hN9
 have f10 := Blk.ext (New.blk hN6) (New.ext hN9)
 refine oE (cR ?_)
 refine owp_rdG (.agg #[.int .i64 a1, .int .i64 a2, .int .i64 a3]) rfl (by kernel_rfl) (Eq.trans (b := (cellH h8 ⟨b4, 0, none⟩).bind fun v11 => (cellH h8 ⟨b4, 1, none⟩).bind fun v12 => (cellH h8 ⟨b4, 2, none⟩).bind fun v13 => some (.value (.agg #[v11, v12, v13]))) (by kernel_rfl) ((bindE (Blk.cell f10 0 (by kernel_rfl)) _).trans ((bindE (Blk.cell f10 1 (by kernel_rfl)) _).trans (bindE (Blk.cell f10 2 (by kernel_rfl)) _)))) ?_
 refine oS [(4, .agg #[.string (⟨#[32]⟩ : ByteArray), .int .i64 1, .int .i64 a1, .int .i64 a2, .int .i64 a3])] rfl ?_
 refine owp_hpD rfl (by kernel_rfl) (hpStB b7 0 [.string (⟨#[32]⟩ : ByteArray), .int .i64 1, .int .i64 a1, .int .i64 a2, .int .i64 a3] (New.blk hN9) (fun _ => by kernel_rfl) rfl rfl ?_)
 intro h14 hP15
 have f17 := Put.old hP15 f10 (Ne.symm (New.ne hN9 (New.blk hN6)))
 have f16 : Blk h14 b7 #[.string (⟨#[32]⟩ : ByteArray), .int .i64 1, .int .i64 a1, .int .i64 a2, .int .i64 a3] 43 := hP15.blk
 refine oE (cwp_ret ?_)
 subst hM
 exact ret_ (.agg #[.string (⟨#[32]⟩ : ByteArray), .int .i64 1, .int .i64 a1, .int .i64 a2, .int .i64 a3]) (Eq.trans (b := (cellH h14 ⟨b7, 0, none⟩).bind fun v18 => (cellH h14 ⟨b7, 1, none⟩).bind fun v19 => (cellH h14 ⟨b7, 2, none⟩).bind fun v20 => (cellH h14 ⟨b7, 3, none⟩).bind fun v21 => (cellH h14 ⟨b7, 4, none⟩).bind fun v22 => some (.agg #[v18, v19, v20, v21, v22])) (by kernel_rfl) ((bindE (Blk.cell f16 0 (by kernel_rfl)) _).trans ((bindE (Blk.cell f16 1 (by kernel_rfl)) _).trans ((bindE (Blk.cell f16 2 (by kernel_rfl)) _).trans ((bindE (Blk.cell f16 3 (by kernel_rfl)) _).trans (bindE (Blk.cell f16 4 (by kernel_rfl)) _)))))) ⟨rfl, (Put.ext hP15 (Ext.trans (New.ext hN6) (New.ext hN9)) (New.ge hN9 (New.ext hN6)))⟩
/- mullion/vt.fresh -/
def vt_fresh_l0 (K0 : Option Addr → Nat → Nat → Heap → Prop) : Nat → Nat → Option Addr → Nat → Nat → Int → Int → Heap → Prop
  | 0, _, _, _, _, _, _, _ => False
  | k + 1, y10, y11, y11n, y11c, y12, y13, h =>
  if y13 < y12 then
   ldI h .i64 ⟨y10, 0, none⟩ fun x15 =>
   ldI h .i64 ⟨y10, 1, none⟩ fun x17 =>
   ldI h .i64 ⟨y10, 2, none⟩ fun x19 =>
   nz y11 fun p28 =>
   0 ≤ y13 ∧
   y13 < (y11n : Int) ∧
   gap h fun h24 =>
   stN (p28.add ((y13).toNat * 5)) [.string ((vt_blank x15 x17 x19).1), .int .i64 ((vt_blank x15 x17 x19).2.1), .int .i64 ((vt_blank x15 x17 x19).2.2.1), .int .i64 ((vt_blank x15 x17 x19).2.2.2.1), .int .i64 ((vt_blank x15 x17 x19).2.2.2.2)] 0 h24 fun h29 =>
   vt_fresh_l0 K0 k y10 (some p28) y11n y11c y12 (IntKind.wrap .i64 (y13 + 1)) h29
  else
  K0 y11 y11n y11c h
theorem vt_fresh_l0_ok {Q : Exit → Env → Heap → Prop} (K0 : Option Addr → Nat → Nat → Heap → Prop) (hK0 : ∀ (z32 : Option Addr) (z32n : Nat) (z32c : Nat) (b : Env) (h : Heap), K0 z32 z32n z32c h → Q (.exit 0) (upd b 5 (.slice z32 z32n z32c)) h) : ∀ (k : Nat) (y10 : Nat) (y11 : Option Addr) (y11n : Nat) (y11c : Nat) (y12 : Int) (y13 : Int) (b : Env) (h : Heap) (hM : vt_fresh_l0 K0 k y10 y11 y11n y11c y12 y13 h), lwp Tryd.prog (partC Tryd.f43 [1, 1, 0, 1, 0, 0]) 21 Q k (upd (upd (upd (upd b 3 (.pointer (some ⟨y10, 0, none⟩))) 5 (.slice y11 y11n y11c)) 10 (.int .i64 y12)) 11 (.int .i64 y13)) h := by
  intro k
  induction k with
  | zero => intro y10 y11 y11n y11c y12 y13 b h hM; exact (show False from hM).elim
  | succ k ih =>
    intro y10 y11 y11n y11c y12 y13 b h hM
    unfold vt_fresh_l0 at hM
    refine lwp_succ (cwp_part rfl ?_)
    refine cR ?_
    refine oS [(12, .bool (decide (y13 < y12)))] rfl ?_
    refine oE (cwp_seq ?_)
    refine cwp_condD (y13 < y12) (by kernel_rfl) (fun hc14 => ?_) (fun hc14 => ?_)
    · replace hM := ifT hc14 hM
      refine cwp_skip (thenE_n (cwp_seq (cwp_block (cR ?_))))
      refine oS [(13, .int .i64 y13), (6, .int .i64 y13)] rfl ?_
      refine oE (cwp_region ?_)
      refine oS [(14, .slice y11 y11n y11c), (15, .int .i64 y13)] rfl ?_
      obtain ⟨x15, hc16, hM⟩ := hM
      obtain ⟨x17, hc18, hM⟩ := hM
      obtain ⟨x19, hc20, hM⟩ := hM
      refine owp_rdG (.agg #[.int .i64 x15, .int .i64 x17, .int .i64 x19]) rfl (by kernel_rfl) (Eq.trans (b := (cellH h ⟨y10, 0, none⟩).bind fun v21 => (cellH h ⟨y10, 1, none⟩).bind fun v22 => (cellH h ⟨y10, 2, none⟩).bind fun v23 => some (.value (.agg #[v21, v22, v23]))) (by kernel_rfl) ((bindE hc16 _).trans ((bindE hc18 _).trans (bindE hc20 _)))) ?_
      refine oG (hpCallP 60 #[.agg #[.int .i64 x15, .int .i64 x17, .int .i64 x19]] (.agg #[.string ((vt_blank x15 x17 x19).1), .int .i64 ((vt_blank x15 x17 x19).2.1), .int .i64 ((vt_blank x15 x17 x19).2.2.1), .int .i64 ((vt_blank x15 x17 x19).2.2.2.1), .int .i64 ((vt_blank x15 x17 x19).2.2.2.2)]) (by kernel_rfl) (vt_blank_ok x15 x17 x19 _ h rfl) ?_)
      intro h24 hx25
      obtain ⟨p28, rfl, hM⟩ := hM
      obtain ⟨hc26, hM⟩ := hM
      obtain ⟨hc27, hM⟩ := hM
      refine owp_rdG (.pointer (some (p28.add ((y13).toNat * 5)))) rfl (by kernel_rfl) (rd_ixS (P := Tryd.prog) (h := h24) (t := 72) (el := 43) (sz := 5) (ad := p28) (len := y11n) (c := y11c) (k := .i64) (i := y13) (by kernel_rfl) (by kernel_rfl) hc26 hc27 (by kernel_rfl)) ?_
      replace hM := hM _ hx25
      refine oT (p28.add ((y13).toNat * 5)) [.string ((vt_blank x15 x17 x19).1), .int .i64 ((vt_blank x15 x17 x19).2.1), .int .i64 ((vt_blank x15 x17 x19).2.2.1), .int .i64 ((vt_blank x15 x17 x19).2.2.2.1), .int .i64 ((vt_blank x15 x17 x19).2.2.2.2)] hM ?_
      clear hM
      intro h29 hM
      refine owp_nil (blockE_n (thenE_n (cwp_region ?_)))
      refine oS [(19, .int .i64 (IntKind.wrap .i64 (y13 + 1))), (11, .int .i64 (IntKind.wrap .i64 (y13 + 1)))] rfl ?_
      refine owp_nil ?_
      exact lwp_at 3 (.pointer (some ⟨y10, 0, none⟩)) (by kernel_rfl) (lwp_at 5 (.slice (some p28) y11n y11c) (by kernel_rfl) (lwp_at 10 (.int .i64 y12) (by kernel_rfl) (lwp_at 11 (.int .i64 (IntKind.wrap .i64 (y13 + 1))) (by kernel_rfl) (ih y10 (some p28) y11n y11c y12 (IntKind.wrap .i64 (y13 + 1)) _ _ hM))))
    replace hM := ifF hc14 hM
    refine cwp_exit (thenE_x ?_)
    exact q_at (Q := Q (.exit 0)) 5 (.slice y11 y11n y11c) (by kernel_rfl) (hK0 y11 y11n y11c _ _ hM)
def vt_fresh (a1 : Int) (a2 : Int) (a3 : Int) (a4 : Int) (K : Option Addr → Nat → Nat → Heap → Prop) (h : Heap) : Prop :=
 newB h #[.int .i64 a2, .int .i64 a3, .int .i64 a4] 41 fun b5 h6 =>
 mkM h6 43 48 [.string (⟨#[]⟩ : ByteArray), .int .i64 0, .int .i64 0, .int .i64 0, .int .i64 0] a1 fun b8 h9 =>
 ∃ k36, vt_fresh_l0
  (fun z33 z33n z33c h34 =>
      K z33 z33n z33c h34) k36 b5 (some ⟨b8, 0, none⟩) a1.toNat a1.toNat (a1.toNat : Int) 0 h9
theorem vt_fresh_ok (a1 : Int) (a2 : Int) (a3 : Int) (a4 : Int) (K : Option Addr → Nat → Nat → Heap → Prop) (h : Heap) (hM : vt_fresh a1 a2 a3 a4 K h) : CallsH Tryd.prog 43 #[.int .i64 a1, .agg #[.int .i64 a2, .int .i64 a3, .int .i64 a4]] (fun v h' => ∃ (r37 : Option Addr) (r37n : Nat) (r37c : Nat), v = .slice r37 r37n r37c ∧ K r37 r37n r37c h') h := by
 unfold vt_fresh at hM
 refine callsH_intro (n := 21) Tryd.func43 rfl rfl (by kernel_rfl) ?_
 refine cR ?_
 refine oG (hpNew #[.int .i64 a2, .int .i64 a3, .int .i64 a4] 41 (fun _ => by kernel_rfl) ?_)
 intro b5 h6 hN7
 replace hM := newB_of hN7 hM
 refine oS [(4, .slice none 0 0)] rfl ?_
 refine oE (cR ?_)
 refine oS [(7, .int .i64 a1)] rfl ?_
 refine oG (hpMk (t := 72) (et := 43) (zv := .agg #[.string (⟨#[]⟩ : ByteArray), .int .i64 0, .int .i64 0, .int .i64 0, .int .i64 0]) (by_ := 48) (sz := 5) (x := a1) [.string (⟨#[]⟩ : ByteArray), .int .i64 0, .int .i64 0, .int .i64 0, .int .i64 0] (fun _ => by kernel_rfl) (by kernel_rfl) (by kernel_rfl) rfl rfl (by decide) hM ?_)
 clear hM
 intro b8 h9 hM
 refine oS [(5, .slice (some ⟨b8, 0, none⟩) a1.toNat a1.toNat)] rfl ?_
 refine oE (cwp_seq (cR ?_))
 refine oS [(9, .slice (some ⟨b8, 0, none⟩) a1.toNat a1.toNat), (10, .int .i64 (a1.toNat : Int)), (11, .int .i64 0)] rfl ?_
 refine oE (cwp_block ?_)
 obtain ⟨k_, hM⟩ := hM
 refine cwp_loop k_ (lwp_of_part (fn := Tryd.f43) (p := [1, 1, 0, 1, 0, 0]) (by kernel_rfl) (lwp_at 3 (.pointer (some ⟨b5, 0, none⟩)) (by kernel_rfl) (lwp_at 5 (.slice (some ⟨b8, 0, none⟩) a1.toNat a1.toNat) (by kernel_rfl) (lwp_at 10 (.int .i64 (a1.toNat : Int)) (by kernel_rfl) (lwp_at 11 (.int .i64 0) (by kernel_rfl) (vt_fresh_l0_ok _ ?_ k_ b5 (some ⟨b8, 0, none⟩) a1.toNat a1.toNat (a1.toNat : Int) 0 _ _ hM))))))
 · intro z33 z33n z33c b35 h34 hM
   refine blockE_h (thenE_n (cR ?_))
   refine oS [(20, .slice z33 z33n z33c), (4, .slice z33 z33n z33c)] rfl ?_
   refine oE (cwp_ret ?_)
   exact ret_ (.slice z33 z33n z33c) (by kernel_rfl) ⟨_, _, _, rfl, hM⟩
/- (*mullion/vt.Screen).erased -/
def vt_Screen_erased (a1 : Option Addr) (K : ByteArray → Int → Int → Int → Int → Heap → Prop) (h : Heap) : Prop :=
 newB h #[.string (⟨#[]⟩ : ByteArray), .int .i64 0, .int .i64 0, .int .i64 0, .int .i64 0] 43 fun b2 h3 =>
 nz a1 fun p5 =>
 ldI h3 .i64 (p5.add 12) fun x6 =>
 gap h3 fun h9 =>
 stN ⟨b2, 0, none⟩ [.string ((vt_blank 0 x6 0).1), .int .i64 ((vt_blank 0 x6 0).2.1), .int .i64 ((vt_blank 0 x6 0).2.2.1), .int .i64 ((vt_blank 0 x6 0).2.2.2.1), .int .i64 ((vt_blank 0 x6 0).2.2.2.2)] 0 h9 fun h11 =>
 ldS h11 ⟨b2, 0, none⟩ fun x12 =>
 ldI h11 .i64 ⟨b2, 1, none⟩ fun x14 =>
 ldI h11 .i64 ⟨b2, 2, none⟩ fun x16 =>
 ldI h11 .i64 ⟨b2, 3, none⟩ fun x18 =>
 ldI h11 .i64 ⟨b2, 4, none⟩ fun x20 =>
 K x12 x14 x16 x18 x20 h11
theorem vt_Screen_erased_ok (a1 : Option Addr) (K : ByteArray → Int → Int → Int → Int → Heap → Prop) (h : Heap) (hM : vt_Screen_erased a1 K h) : CallsH Tryd.prog 63 #[.pointer a1] (fun v h' => ∃ (r27 : ByteArray) (r28 : Int) (r29 : Int) (r30 : Int) (r31 : Int), v = .agg #[.string r27, .int .i64 r28, .int .i64 r29, .int .i64 r30, .int .i64 r31] ∧ K r27 r28 r29 r30 r31 h') h := by
 unfold vt_Screen_erased at hM
 refine callsH_intro (n := 11) Tryd.func63 rfl rfl (by kernel_rfl) ?_
 refine cR ?_
 refine oG (hpNew #[.string (⟨#[]⟩ : ByteArray), .int .i64 0, .int .i64 0, .int .i64 0, .int .i64 0] 43 (fun _ => by kernel_rfl) ?_)
 intro b2 h3 hN4
 replace hM := newB_of hN4 hM
 refine oE (cR ?_)
 refine oS [(3, .pointer a1)] rfl ?_
 obtain ⟨p5, rfl, hM⟩ := hM
 refine owp_rdG (.pointer (some p5)) rfl (by kernel_rfl) (by kernel_rfl) ?_
 refine oS [(5, .pointer (some (p5.add 9))), (6, .pointer (some (p5.add 11))), (7, .pointer (some (p5.add 12)))] rfl ?_
 obtain ⟨x6, hc7, hM⟩ := hM
 refine oL (.int .i64 x6) (p5.add 12) hc7 ?_
 refine oS [(9, .agg #[.int .i64 0, .int .i64 x6, .int .i64 0])] rfl ?_
 refine oG (hpCallP 60 #[.agg #[.int .i64 0, .int .i64 x6, .int .i64 0]] (.agg #[.string ((vt_blank 0 x6 0).1), .int .i64 ((vt_blank 0 x6 0).2.1), .int .i64 ((vt_blank 0 x6 0).2.2.1), .int .i64 ((vt_blank 0 x6 0).2.2.2.1), .int .i64 ((vt_blank 0 x6 0).2.2.2.2)]) (by kernel_rfl) (vt_blank_ok 0 x6 0 _ h3 rfl) ?_)
 intro h9 hx10
 replace hM := hM _ hx10
 refine oT ⟨b2, 0, none⟩ [.string ((vt_blank 0 x6 0).1), .int .i64 ((vt_blank 0 x6 0).2.1), .int .i64 ((vt_blank 0 x6 0).2.2.1), .int .i64 ((vt_blank 0 x6 0).2.2.2.1), .int .i64 ((vt_blank 0 x6 0).2.2.2.2)] hM ?_
 clear hM
 intro h11 hM
 refine oE (cwp_ret ?_)
 obtain ⟨x12, hc13, hM⟩ := hM
 obtain ⟨x14, hc15, hM⟩ := hM
 obtain ⟨x16, hc17, hM⟩ := hM
 obtain ⟨x18, hc19, hM⟩ := hM
 obtain ⟨x20, hc21, hM⟩ := hM
 exact ret_ (.agg #[.string x12, .int .i64 x14, .int .i64 x16, .int .i64 x18, .int .i64 x20]) (Eq.trans (b := (cellH h11 ⟨b2, 0, none⟩).bind fun v22 => (cellH h11 ⟨b2, 1, none⟩).bind fun v23 => (cellH h11 ⟨b2, 2, none⟩).bind fun v24 => (cellH h11 ⟨b2, 3, none⟩).bind fun v25 => (cellH h11 ⟨b2, 4, none⟩).bind fun v26 => some (.agg #[v22, v23, v24, v25, v26])) (by kernel_rfl) ((bindE hc13 _).trans ((bindE hc15 _).trans ((bindE hc17 _).trans ((bindE hc19 _).trans (bindE hc21 _)))))) ⟨_, _, _, _, _, rfl, hM⟩
/- (*mullion/vt.Screen).keep -/
def vt_Screen_keep (a1 : Option Addr) (a2 : Option Addr) (a2n : Nat) (a2c : Nat) (K : Heap → Prop) (h : Heap) : Prop :=
 nz a1 fun p3 =>
 ldL h (p3.add 8) fun x4 x4n x4c =>
 appS h 43 48 [.string (⟨#[]⟩ : ByteArray), .int .i64 0, .int .i64 0, .int .i64 0, .int .i64 0] none 0 0 a2 a2n fun s9 s9c h8 =>
 (cellH h8 (p3.add 8) = some (.slice x4 x4n x4c)) ∧
 gap h8 fun h13 =>
 (cellH h13 (p3.add 8) = some (.slice x4 x4n x4c)) ∧
 appH h13 72 24 [.slice none 0 0] x4 x4n x4c [.slice s9 (0 + a2n) s9c] 1 fun s17 s17c h16 =>
 stN (p3.add 8) [.slice s17 (x4n + 1) s17c] 0 h16 fun h18 =>
 ldL h18 (p3.add 8) fun x19 x19n x19c =>
 ldI h18 .i64 (p3.add 2) fun x23 =>
 if x23 < (x19n : Int) then
  ldL h18 (p3.add 8) fun x28 x28n x28c =>
  ldL h18 (p3.add 8) fun x32 x32n x32c =>
  ldI h18 .i64 (p3.add 2) fun x36 =>
  0 ≤ (IntKind.wrap .i64 ((x32n : Int) - x36)) ∧
  (IntKind.wrap .i64 ((x32n : Int) - x36)) ≤ (x28n : Int) ∧
  appS h18 72 24 [.slice none 0 0] none 0 0 (cutA x28 x28c (IntKind.wrap .i64 ((x32n : Int) - x36)).toNat 1) (x28n - (IntKind.wrap .i64 ((x32n : Int) - x36)).toNat) fun s43 s43c h42 =>
  stN (p3.add 8) [.slice s43 (0 + (x28n - (IntKind.wrap .i64 ((x32n : Int) - x36)).toNat)) s43c] 0 h42 fun h45 =>
  K h45
 else
 K h18
theorem vt_Screen_keep_ok (a1 : Option Addr) (a2 : Option Addr) (a2n : Nat) (a2c : Nat) (K : Heap → Prop) (h : Heap) (hM : vt_Screen_keep a1 a2 a2n a2c K h) : CallsH Tryd.prog 74 #[.pointer a1, .slice a2 a2n a2c] (fun v h' => v = .tuple #[] ∧ K h') h := by
 unfold vt_Screen_keep at hM
 refine callsH_intro (n := 44) Tryd.func74 rfl rfl (by kernel_rfl) ?_
 refine cwp_seq ?_
 refine cwp_draw (by kernel_rfl) ?_
 refine kp 0 [9, 10, 11] (.pointer a1) ?_
 refine kp 1 [2, 3, 4, 8, 9, 10, 11] (.pointer a1) ?_
 obtain ⟨p3, rfl, hM⟩ := hM
 refine kp 2 [3, 4, 8, 9, 10, 11] (.pointer (some p3)) ?_
 refine kp 3 [4, 8, 9, 10, 11] (.pointer (some (p3.add 8))) ?_
 obtain ⟨x4, x4n, x4c, hc5, hM⟩ := hM
 refine kl 4 (.slice x4 x4n x4c) (p3.add 8) [8, 9, 10, 11] [8, 11] hc5 ?_
 refine kp 5 [6, 7, 8, 9, 10, 11] (.slice a2 a2n a2c) ?_
 obtain ⟨nw10, nw101, nw102, nw103, hM⟩ := hM
 refine k_eff (j := 6) (by kernel_rfl) rfl rfl (by kernel_rfl) (hpApp (t := 72) (ty := 72) (et := 43) (zv := .agg #[.string (⟨#[]⟩ : ByteArray), .int .i64 0, .int .i64 0, .int .i64 0, .int .i64 0]) (sz := 5) (by_ := 48) (base := none) (n' := 0) (c := 0) (xb := a2) (m := a2n) (xc := a2c) (new := nw10) (fun _ => by kernel_rfl) (by kernel_rfl) (by kernel_rfl) [.string (⟨#[]⟩ : ByteArray), .int .i64 0, .int .i64 0, .int .i64 0, .int .i64 0] rfl rfl (by decide) nw101 nw102 nw103 hM ?_)
 clear hM
 intro s9 s9c h8 hM
 obtain ⟨hk11, hM⟩ := hM
 refine ⟨⟨⟨hk11, trivial⟩, trivial⟩, ?_⟩
 refine k_eff (j := 7) (by kernel_rfl) rfl rfl (by kernel_rfl) (hpNewS #[.slice s9 (0 + a2n) s9c] 72 1 (fun _ => by kernel_rfl) ?_)
 intro b12 h13 hN14
 replace hM := hM _ (New.ext hN14)
 obtain ⟨hk15, hM⟩ := hM
 refine ⟨⟨⟨hk15, trivial⟩, trivial⟩, ?_⟩
 refine k_eff (j := 8) (by kernel_rfl) rfl rfl (by kernel_rfl) (hpApp (t := 57) (ty := 57) (et := 72) (zv := .slice none 0 0) (sz := 1) (by_ := 24) (base := x4) (n' := x4n) (c := x4c) (xb := (some ⟨b12, 0, none⟩)) (m := 1) (xc := 1) (new := [.slice s9 (0 + a2n) s9c]) (fun _ => by kernel_rfl) (by kernel_rfl) (by kernel_rfl) [.slice none 0 0] rfl rfl (by decide) rfl rfl ⟨Blk.cell (New.blk hN14) 0 (by kernel_rfl), trivial⟩ hM ?_)
 clear hM
 intro s17 s17c h16 hM
 refine ⟨trivial, ?_⟩
 refine kp 9 [10, 11] (.pointer (some p3)) ?_
 refine kp 10 [11] (.pointer (some (p3.add 8))) ?_
 refine k_effD (j := 11) (by kernel_rfl) rfl rfl (by kernel_rfl) (hpSt (p3.add 8) [.slice s17 (x4n + 1) s17c] (fun _ => by kernel_rfl) (by kernel_rfl) hM ?_)
 clear hM
 intro h18 hM
 refine ⟨trivial, ?_⟩
 refine k_done (by kernel_rfl) ?_
 refine thenE_n (cwp_seq ?_)
 refine cwp_draw (by kernel_rfl) ?_
 refine kp 0 [1, 2, 3, 4, 9] (.pointer (some p3)) ?_
 refine kp 1 [2, 3, 4, 9] (.pointer (some p3)) ?_
 refine kp 2 [3, 4, 9] (.pointer (some (p3.add 8))) ?_
 obtain ⟨x19, x19n, x19c, hc20, hM⟩ := hM
 refine kl 3 (.slice x19 x19n x19c) (p3.add 8) [4, 9] [] hc20 ?_
 refine kp 4 [9] (.int .i64 (x19n : Int)) ?_
 refine kp 5 [6, 7, 8, 9] (.pointer (some p3)) ?_
 refine kp 6 [7, 8, 9] (.pointer (some p3)) ?_
 refine kp 7 [8, 9] (.pointer (some (p3.add 2))) ?_
 obtain ⟨x23, hc24, hM⟩ := hM
 refine kl 8 (.int .i64 x23) (p3.add 2) [9] [] hc24 ?_
 refine kp 9 [] (.bool (decide (x23 < (x19n : Int)))) ?_
 refine k_done (by kernel_rfl) ?_
 refine thenE_n ?_
 refine cwp_condD (x23 < (x19n : Int)) (by kernel_rfl) (fun hc27 => ?_) (fun hc27 => ?_)
 · replace hM := ifT hc27 hM
   refine cwp_draw (by kernel_rfl) ?_
   refine kp 0 [17, 18, 19] (.pointer (some p3)) ?_
   refine kp 1 [2, 3, 4, 15, 16, 17, 18, 19] (.pointer (some p3)) ?_
   refine kp 2 [3, 4, 15, 16, 17, 18, 19] (.pointer (some p3)) ?_
   refine kp 3 [4, 15, 16, 17, 18, 19] (.pointer (some (p3.add 8))) ?_
   obtain ⟨x28, x28n, x28c, hc29, hM⟩ := hM
   refine kl 4 (.slice x28 x28n x28c) (p3.add 8) [15, 16, 17, 18, 19] [16, 19] hc29 ?_
   refine kp 5 [6, 7, 8, 9, 14, 15, 16, 17, 18, 19] (.pointer (some p3)) ?_
   refine kp 6 [7, 8, 9, 14, 15, 16, 17, 18, 19] (.pointer (some p3)) ?_
   refine kp 7 [8, 9, 14, 15, 16, 17, 18, 19] (.pointer (some (p3.add 8))) ?_
   obtain ⟨x32, x32n, x32c, hc33, hM⟩ := hM
   refine kl 8 (.slice x32 x32n x32c) (p3.add 8) [9, 14, 15, 16, 17, 18, 19] [16, 19] hc33 ?_
   refine kp 9 [14, 15, 16, 17, 18, 19] (.int .i64 (x32n : Int)) ?_
   refine kp 10 [11, 12, 13, 14, 15, 16, 17, 18, 19] (.pointer (some p3)) ?_
   refine kp 11 [12, 13, 14, 15, 16, 17, 18, 19] (.pointer (some p3)) ?_
   refine kp 12 [13, 14, 15, 16, 17, 18, 19] (.pointer (some (p3.add 2))) ?_
   obtain ⟨x36, hc37, hM⟩ := hM
   refine kl 13 (.int .i64 x36) (p3.add 2) [14, 15, 16, 17, 18, 19] [16, 19] hc37 ?_
   refine kp 14 [15, 16, 17, 18, 19] (.int .i64 (IntKind.wrap .i64 ((x32n : Int) - x36))) ?_
   obtain ⟨hc40, hM⟩ := hM
   obtain ⟨hc41, hM⟩ := hM
   refine k_pure (i := 15) [16, 17, 18, 19] (.slice (cutA x28 x28c (IntKind.wrap .i64 ((x32n : Int) - x36)).toNat 1) (x28n - (IntKind.wrap .i64 ((x32n : Int) - x36)).toNat) (x28c - (IntKind.wrap .i64 ((x32n : Int) - x36)).toNat)) (by kernel_rfl) rfl rfl (by kernel_rfl) (fun h' => rd_sSLo (P := Tryd.prog) (h := h') (t := 57) (el := 72) (sz := 1) (a := x28) (n := x28n) (c := x28c) (k := .i64) (i := (IntKind.wrap .i64 ((x32n : Int) - x36))) (by kernel_rfl) (by kernel_rfl) hc40 hc41 (by kernel_rfl)) (by kernel_rfl) ?_
   obtain ⟨nw44, nw441, nw442, nw443, hM⟩ := hM
   refine k_eff (j := 16) (by kernel_rfl) rfl rfl (by kernel_rfl) (hpApp (t := 57) (ty := 57) (et := 72) (zv := .slice none 0 0) (sz := 1) (by_ := 24) (base := none) (n' := 0) (c := 0) (xb := (cutA x28 x28c (IntKind.wrap .i64 ((x32n : Int) - x36)).toNat 1)) (m := (x28n - (IntKind.wrap .i64 ((x32n : Int) - x36)).toNat)) (xc := (x28c - (IntKind.wrap .i64 ((x32n : Int) - x36)).toNat)) (new := nw44) (fun _ => by kernel_rfl) (by kernel_rfl) (by kernel_rfl) [.slice none 0 0] rfl rfl (by decide) nw441 nw442 nw443 hM ?_)
   clear hM
   intro s43 s43c h42 hM
   refine ⟨trivial, ?_⟩
   refine kp 17 [18, 19] (.pointer (some p3)) ?_
   refine kp 18 [19] (.pointer (some (p3.add 8))) ?_
   refine k_effD (j := 19) (by kernel_rfl) rfl rfl (by kernel_rfl) (hpSt (p3.add 8) [.slice s43 (0 + (x28n - (IntKind.wrap .i64 ((x32n : Int) - x36)).toNat)) s43c] (fun _ => by kernel_rfl) (by kernel_rfl) hM ?_)
   clear hM
   intro h45 hM
   refine ⟨trivial, ?_⟩
   refine k_done (by kernel_rfl) ?_
   exact end_ (.tuple #[]) (by kernel_rfl) ⟨rfl, hM⟩
 replace hM := ifF hc27 hM
 refine cwp_skip ?_
 exact end_ (.tuple #[]) (by kernel_rfl) ⟨rfl, hM⟩
/- (*mullion/vt.Screen).up -/
def vt_Screen_up_j1 (Kn : Addr → Int → Int → Bool → Option Addr → Nat → Nat → Int → Int → Heap → Prop) (y38 : Option Addr) (y39 : Int) (y40 : Int) (y41 : Bool) (y42 : Option Addr) (y42n : Nat) (y42c : Nat) (y43 : Int) (y44 : Int) (h : Heap) : Prop :=
 0 ≤ y40 ∧
 y40 ≤ (y42c : Int) ∧
 0 ≤ y39 ∧
 y39 ≤ y40 ∧
 0 ≤ (IntKind.wrap .i64 (y40 + 1)) ∧
 (IntKind.wrap .i64 (y40 + 1)) ≤ (y42c : Int) ∧
 0 ≤ (IntKind.wrap .i64 (y39 + 1)) ∧
 (IntKind.wrap .i64 (y39 + 1)) ≤ (IntKind.wrap .i64 (y40 + 1)) ∧
 cpM h 1 (cutA y42 y42c y39.toNat 1) (y40.toNat - y39.toNat) (cutA y42 y42c (IntKind.wrap .i64 (y39 + 1)).toNat 1) ((IntKind.wrap .i64 (y40 + 1)).toNat - (IntKind.wrap .i64 (y39 + 1)).toNat) fun h53 =>
 nz y38 fun p54 =>
 ldI h53 .i64 p54 fun x55 =>
 vt_Screen_erased (some p54) (fun x60 x61 x62 x63 x64 h59 =>
  (cellH h59 p54 = some (.int .i64 x55)) ∧
  vt_fresh x55 x62 x63 x64 (fun x67 x67n x67c h66 =>
   nz y42 fun p70 =>
   0 ≤ y40 ∧
   y40 < (y42n : Int) ∧
   stN (p70.add ((y40).toNat * 1)) [.slice x67 x67n x67c] 0 h66 fun h71 =>
     Kn p54 y39 y40 y41 (some p70) y42n y42c y43 y44 h71) h59) h53
theorem vt_Screen_up_j1_ok {Q : Exit → Env → Heap → Prop} (Kn : Addr → Int → Int → Bool → Option Addr → Nat → Nat → Int → Int → Heap → Prop) (hKn : ∀ (z86 : Addr) (z87 : Int) (z88 : Int) (z89 : Bool) (z90 : Option Addr) (z90n : Nat) (z90c : Nat) (z91 : Int) (z92 : Int) (b : Env) (h : Heap), Kn z86 z87 z88 z89 z90 z90n z90c z91 z92 h → Q .normal (upd (upd (upd (upd (upd (upd (upd b 0 (.pointer (some z86))) 1 (.int .i64 z87)) 2 (.int .i64 z88)) 4 (.bool z89)) 10 (.slice z90 z90n z90c)) 21 (.int .i64 z91)) 22 (.int .i64 z92)) h) (y38 : Option Addr) (y39 : Int) (y40 : Int) (y41 : Bool) (y42 : Option Addr) (y42n : Nat) (y42c : Nat) (y43 : Int) (y44 : Int) (b : Env) (h : Heap) (hM : vt_Screen_up_j1 Kn y38 y39 y40 y41 y42 y42n y42c y43 y44 h) : cwp Tryd.prog (partC Tryd.f62 [1, 1, 0, 0, 1, 1, 0, 0, 1]) 64 Q (upd (upd (upd (upd (upd (upd (upd b 0 (.pointer y38)) 1 (.int .i64 y39)) 2 (.int .i64 y40)) 4 (.bool y41)) 10 (.slice y42 y42n y42c)) 21 (.int .i64 y43)) 22 (.int .i64 y44)) h := by
  unfold vt_Screen_up_j1 at hM
  refine cwp_part rfl ?_
  refine cwp_seq ?_
  refine cwp_draw (by kernel_rfl) ?_
  refine kp 0 [3, 10] (.slice y42 y42n y42c) ?_
  refine kp 1 [3, 10] (.int .i64 y39) ?_
  refine kp 2 [3, 10] (.int .i64 y40) ?_
  obtain ⟨hc45, hM⟩ := hM
  obtain ⟨hc46, hM⟩ := hM
  obtain ⟨hc47, hM⟩ := hM
  obtain ⟨hc48, hM⟩ := hM
  refine k_pure (i := 3) [10] (.slice (cutA y42 y42c y39.toNat 1) (y40.toNat - y39.toNat) (y42c - y39.toNat)) (by kernel_rfl) rfl rfl (by kernel_rfl) (fun h' => rd_sSLH (P := Tryd.prog) (h := h') (t := 57) (el := 72) (sz := 1) (a := y42) (n := y42n) (c := y42c) (k := .i64) (k' := .i64) (i := y39) (j := y40) (by kernel_rfl) (by kernel_rfl) hc45 hc46 hc47 hc48 (by kernel_rfl)) (by kernel_rfl) ?_
  refine kp 4 [9, 10] (.slice y42 y42n y42c) ?_
  refine kp 5 [6, 9, 10] (.int .i64 y39) ?_
  refine kp 6 [9, 10] (.int .i64 (IntKind.wrap .i64 (y39 + 1))) ?_
  refine kp 7 [8, 9, 10] (.int .i64 y40) ?_
  refine kp 8 [9, 10] (.int .i64 (IntKind.wrap .i64 (y40 + 1))) ?_
  obtain ⟨hc49, hM⟩ := hM
  obtain ⟨hc50, hM⟩ := hM
  obtain ⟨hc51, hM⟩ := hM
  obtain ⟨hc52, hM⟩ := hM
  refine k_pure (i := 9) [10] (.slice (cutA y42 y42c (IntKind.wrap .i64 (y39 + 1)).toNat 1) ((IntKind.wrap .i64 (y40 + 1)).toNat - (IntKind.wrap .i64 (y39 + 1)).toNat) (y42c - (IntKind.wrap .i64 (y39 + 1)).toNat)) (by kernel_rfl) rfl rfl (by kernel_rfl) (fun h' => rd_sSLH (P := Tryd.prog) (h := h') (t := 57) (el := 72) (sz := 1) (a := y42) (n := y42n) (c := y42c) (k := .i64) (k' := .i64) (i := (IntKind.wrap .i64 (y39 + 1))) (j := (IntKind.wrap .i64 (y40 + 1))) (by kernel_rfl) (by kernel_rfl) hc49 hc50 hc51 hc52 (by kernel_rfl)) (by kernel_rfl) ?_
  refine k_eff (j := 10) (by kernel_rfl) rfl rfl (by kernel_rfl) (hpCp (t := 57) (t2 := 57) (ty := 3) (et := 72) (sz := 1) (d := (cutA y42 y42c y39.toNat 1)) (dn := (y40.toNat - y39.toNat)) (dc := (y42c - y39.toNat)) (s := (cutA y42 y42c (IntKind.wrap .i64 (y39 + 1)).toNat 1)) (sn := ((IntKind.wrap .i64 (y40 + 1)).toNat - (IntKind.wrap .i64 (y39 + 1)).toNat)) (sc := (y42c - (IntKind.wrap .i64 (y39 + 1)).toNat)) (fun _ => by kernel_rfl) (by kernel_rfl) (by kernel_rfl) hM ?_)
  clear hM
  intro h53 hM
  refine ⟨trivial, ?_⟩
  refine k_done (by kernel_rfl) ?_
  refine thenE_n ?_
  refine cwp_draw (by kernel_rfl) ?_
  refine kp 0 [10, 11] (.slice y42 y42n y42c) ?_
  refine kp 1 [10, 11] (.int .i64 y40) ?_
  refine kp 2 [3, 4, 5, 9, 10, 11] (.pointer y38) ?_
  obtain ⟨p54, rfl, hM⟩ := hM
  refine kp 3 [4, 5, 9, 10, 11] (.pointer (some p54)) ?_
  refine kp 4 [5, 9, 10, 11] (.pointer (some p54)) ?_
  obtain ⟨x55, hc56, hM⟩ := hM
  refine kl 5 (.int .i64 x55) p54 [9, 10, 11] [9, 11] hc56 ?_
  refine kp 6 [7, 8, 9, 10, 11] (.pointer (some p54)) ?_
  refine k_eff (j := 7) (by kernel_rfl) rfl rfl (by kernel_rfl) (hpCallE 63 #[.pointer (some p54)] (by kernel_rfl) (vt_Screen_erased_ok (some p54) _ h53 hM) ?_)
  clear hM
  rintro _ h59 ⟨x60, x61, x62, x63, x64, rfl, hM⟩
  obtain ⟨hk65, hM⟩ := hM
  refine ⟨⟨⟨hk65, trivial⟩, trivial⟩, ?_⟩
  refine kp 8 [9, 10, 11] (.agg #[.int .i64 x62, .int .i64 x63, .int .i64 x64]) ?_
  refine k_eff (j := 9) (by kernel_rfl) rfl rfl (by kernel_rfl) (hpCallE 43 #[.int .i64 x55, .agg #[.int .i64 x62, .int .i64 x63, .int .i64 x64]] (by kernel_rfl) (vt_fresh_ok x55 x62 x63 x64 _ h59 hM) ?_)
  clear hM
  rintro _ h66 ⟨x67, x67n, x67c, rfl, hM⟩
  refine ⟨trivial, ?_⟩
  obtain ⟨p70, rfl, hM⟩ := hM
  obtain ⟨hc68, hM⟩ := hM
  obtain ⟨hc69, hM⟩ := hM
  refine k_pure (i := 10) [11] (.pointer (some (p70.add ((y40).toNat * 1)))) (by kernel_rfl) rfl rfl (by kernel_rfl) (fun h' => rd_ixS (P := Tryd.prog) (h := h') (t := 57) (el := 72) (sz := 1) (ad := p70) (len := y42n) (c := y42c) (k := .i64) (i := y40) (by kernel_rfl) (by kernel_rfl) hc68 hc69 (by kernel_rfl)) (by kernel_rfl) ?_
  refine k_effD (j := 11) (by kernel_rfl) rfl rfl (by kernel_rfl) (hpSt (p70.add ((y40).toNat * 1)) [.slice x67 x67n x67c] (fun _ => by kernel_rfl) (by kernel_rfl) hM ?_)
  clear hM
  intro h71 hM
  refine ⟨trivial, ?_⟩
  refine k_done (by kernel_rfl) ?_
  exact q_at (Q := Q .normal) 0 (.pointer (some p54)) (by kernel_rfl) (q_at (Q := Q .normal) 1 (.int .i64 y39) (by kernel_rfl) (q_at (Q := Q .normal) 2 (.int .i64 y40) (by kernel_rfl) (q_at (Q := Q .normal) 4 (.bool y41) (by kernel_rfl) (q_at (Q := Q .normal) 10 (.slice (some p70) y42n y42c) (by kernel_rfl) (q_at (Q := Q .normal) 21 (.int .i64 y43) (by kernel_rfl) (q_at (Q := Q .normal) 22 (.int .i64 y44) (by kernel_rfl) (hKn p54 y39 y40 y41 (some p70) y42n y42c y43 y44 _ _ hM)))))))
def vt_Screen_up_l0 (K0 : Heap → Prop) : Nat → Option Addr → Int → Int → Bool → Option Addr → Nat → Nat → Int → Int → Heap → Prop
  | 0, _, _, _, _, _, _, _, _, _, _ => False
  | k + 1, y12, y13, y14, y15, y16, y16n, y16c, y17, y18, h =>
  if y18 < y17 then
   if (y15 && (decide (y13 = 0))) = true then
    nz y12 fun p26 =>
    ldB h (p26.add 7) fun x27 =>
    if (!x27) = true then
     nz y16 fun p33 =>
     0 ≤ (0 : Int) ∧
     (0 : Int) < (y16n : Int) ∧
     ldL h (p33.add (((0 : Int)).toNat * 1)) fun x34 x34n x34c =>
     vt_Screen_keep (some p26) x34 x34n x34c (fun  h37 =>
      vt_Screen_up_j1
       (fun z93 z94 z95 z96 z97 z97n z97c z98 z99 h100 =>
            vt_Screen_up_l0 K0 k (some z93) z94 z95 z96 z97 z97n z97c z98 (IntKind.wrap .i64 (z99 + 1)) h100) (some p26) y13 y14 y15 (some p33) y16n y16c y17 y18 h37) h
    else
    vt_Screen_up_j1
     (fun z103 z104 z105 z106 z107 z107n z107c z108 z109 h110 =>
         vt_Screen_up_l0 K0 k (some z103) z104 z105 z106 z107 z107n z107c z108 (IntKind.wrap .i64 (z109 + 1)) h110) (some p26) y13 y14 y15 y16 y16n y16c y17 y18 h
   else
   vt_Screen_up_j1
    (fun z113 z114 z115 z116 z117 z117n z117c z118 z119 h120 =>
        vt_Screen_up_l0 K0 k (some z113) z114 z115 z116 z117 z117n z117c z118 (IntKind.wrap .i64 (z119 + 1)) h120) y12 y13 y14 y15 y16 y16n y16c y17 y18 h
  else
  K0  h
theorem vt_Screen_up_l0_ok {Q : Exit → Env → Heap → Prop} (K0 : Heap → Prop) (hK0 : ∀  (b : Env) (h : Heap), K0  h → Q (.exit 0) b h) : ∀ (k : Nat) (y12 : Option Addr) (y13 : Int) (y14 : Int) (y15 : Bool) (y16 : Option Addr) (y16n : Nat) (y16c : Nat) (y17 : Int) (y18 : Int) (b : Env) (h : Heap) (hM : vt_Screen_up_l0 K0 k y12 y13 y14 y15 y16 y16n y16c y17 y18 h), lwp Tryd.prog (partC Tryd.f62 [1, 1, 0, 0]) 64 Q k (upd (upd (upd (upd (upd (upd (upd b 0 (.pointer y12)) 1 (.int .i64 y13)) 2 (.int .i64 y14)) 4 (.bool y15)) 10 (.slice y16 y16n y16c)) 21 (.int .i64 y17)) 22 (.int .i64 y18)) h := by
  intro k
  induction k with
  | zero => intro y12 y13 y14 y15 y16 y16n y16c y17 y18 b h hM; exact (show False from hM).elim
  | succ k ih =>
    intro y12 y13 y14 y15 y16 y16n y16c y17 y18 b h hM
    unfold vt_Screen_up_l0 at hM
    refine lwp_succ (cwp_part rfl ?_)
    refine cR ?_
    refine oS [(23, .bool (decide (y18 < y17)))] rfl ?_
    refine oE (cwp_seq ?_)
    refine cwp_condD (y18 < y17) (by kernel_rfl) (fun hc19 => ?_) (fun hc19 => ?_)
    · replace hM := ifT hc19 hM
      refine cwp_skip (thenE_n (cwp_seq (cwp_block (cwp_seq (cR ?_)))))
      refine oS [(24, .bool y15), (25, .bool y15)] rfl ?_
      refine oB (y15) 3 [4, 24, 25] (fun b_ => [(26, iteV b_ (.int .i64 y13 : Value) undef), (27, iteV b_ (.bool (decide (y13 = 0)) : Value) undef), (28, .bool (b_ && (decide (y13 = 0))))]) rfl (fun hb20 hq21 => oS [(26, .int .i64 y13), (27, .bool (decide (y13 = 0))), (28, .bool (decide (y13 = 0)))] rfl (hq21)) (fun hb22 hq23 => oS [(26, undef), (27, undef), (28, .bool false)] rfl (hq23)) ?_
      refine oS [(29, .bool (y15 && (decide (y13 = 0))))] rfl ?_
      by_cases hc25 : (y15 && (decide (y13 = 0))) = true
      · refine oA 28 true (y15 && (decide (y13 = 0))) (by rw [hc25]) ?_
        refine oA 29 true (y15 && (decide (y13 = 0))) (by rw [hc25]) ?_
        replace hM := ifT hc25 hM
        refine oS [(30, .pointer y12)] rfl ?_
        obtain ⟨p26, rfl, hM⟩ := hM
        refine owp_rdG (.pointer (some p26)) rfl (by kernel_rfl) (by kernel_rfl) ?_
        refine oS [(32, .pointer (some (p26.add 7)))] rfl ?_
        obtain ⟨x27, hc28, hM⟩ := hM
        refine oL (.bool x27) (p26.add 7) hc28 ?_
        refine oS [(34, .bool (!x27)), (35, .bool (!x27))] rfl ?_
        refine oE ?_
        refine cwp_condB (!x27) (by kernel_rfl) (fun hc30 => ?_) (fun hc30 => ?_)
        · replace hM := ifT hc30 hM
          refine cwp_region ?_
          refine oS [(36, .pointer (some p26)), (37, .slice y16 y16n y16c)] rfl ?_
          obtain ⟨p33, rfl, hM⟩ := hM
          obtain ⟨hc31, hM⟩ := hM
          obtain ⟨hc32, hM⟩ := hM
          refine owp_rdG (.pointer (some (p33.add (((0 : Int)).toNat * 1)))) rfl (by kernel_rfl) (rd_ixS (P := Tryd.prog) (h := h) (t := 57) (el := 72) (sz := 1) (ad := p33) (len := y16n) (c := y16c) (k := .i64) (i := 0) (by kernel_rfl) (by kernel_rfl) hc31 hc32 (by kernel_rfl)) ?_
          obtain ⟨x34, x34n, x34c, hc35, hM⟩ := hM
          refine oL (.slice x34 x34n x34c) (p33.add (((0 : Int)).toNat * 1)) hc35 ?_
          refine oG (hpCallE 74 #[.pointer (some p26), .slice x34 x34n x34c] (by kernel_rfl) (vt_Screen_keep_ok (some p26) x34 x34n x34c _ h hM) ?_)
          clear hM
          rintro _ h37 ⟨rfl, hM⟩
          refine oE ?_
          refine cwp_of_part (fn := Tryd.f62) (p := [1, 1, 0, 0, 1, 1, 0, 0, 1]) (by kernel_rfl) (cwp_at 0 (.pointer (some p26)) (by kernel_rfl) (cwp_at 1 (.int .i64 y13) (by kernel_rfl) (cwp_at 2 (.int .i64 y14) (by kernel_rfl) (cwp_at 4 (.bool y15) (by kernel_rfl) (cwp_at 10 (.slice (some p33) y16n y16c) (by kernel_rfl) (cwp_at 21 (.int .i64 y17) (by kernel_rfl) (cwp_at 22 (.int .i64 y18) (by kernel_rfl) (vt_Screen_up_j1_ok _ ?_ (some p26) y13 y14 y15 (some p33) y16n y16c y17 y18 _ _ hM))))))))
          · intro z93 z94 z95 z96 z97 z97n z97c z98 z99 b101 h100 hM
            refine blockE_n (thenE_n (cwp_region ?_))
            refine oS [(63, .int .i64 (IntKind.wrap .i64 (z99 + 1))), (22, .int .i64 (IntKind.wrap .i64 (z99 + 1)))] rfl ?_
            refine owp_nil ?_
            exact lwp_at 0 (.pointer (some z93)) (by kernel_rfl) (lwp_at 1 (.int .i64 z94) (by kernel_rfl) (lwp_at 2 (.int .i64 z95) (by kernel_rfl) (lwp_at 4 (.bool z96) (by kernel_rfl) (lwp_at 10 (.slice z97 z97n z97c) (by kernel_rfl) (lwp_at 21 (.int .i64 z98) (by kernel_rfl) (lwp_at 22 (.int .i64 (IntKind.wrap .i64 (z99 + 1))) (by kernel_rfl) (ih (some z93) z94 z95 z96 z97 z97n z97c z98 (IntKind.wrap .i64 (z99 + 1)) _ _ hM)))))))
        replace hM := ifF hc30 hM
        refine cwp_skip (thenE_n ?_)
        refine cwp_of_part (fn := Tryd.f62) (p := [1, 1, 0, 0, 1, 1, 0, 0, 1]) (by kernel_rfl) (cwp_at 0 (.pointer (some p26)) (by kernel_rfl) (cwp_at 1 (.int .i64 y13) (by kernel_rfl) (cwp_at 2 (.int .i64 y14) (by kernel_rfl) (cwp_at 4 (.bool y15) (by kernel_rfl) (cwp_at 10 (.slice y16 y16n y16c) (by kernel_rfl) (cwp_at 21 (.int .i64 y17) (by kernel_rfl) (cwp_at 22 (.int .i64 y18) (by kernel_rfl) (vt_Screen_up_j1_ok _ ?_ (some p26) y13 y14 y15 y16 y16n y16c y17 y18 _ _ hM))))))))
        · intro z103 z104 z105 z106 z107 z107n z107c z108 z109 b111 h110 hM
          refine blockE_n (thenE_n (cwp_region ?_))
          refine oS [(63, .int .i64 (IntKind.wrap .i64 (z109 + 1))), (22, .int .i64 (IntKind.wrap .i64 (z109 + 1)))] rfl ?_
          refine owp_nil ?_
          exact lwp_at 0 (.pointer (some z103)) (by kernel_rfl) (lwp_at 1 (.int .i64 z104) (by kernel_rfl) (lwp_at 2 (.int .i64 z105) (by kernel_rfl) (lwp_at 4 (.bool z106) (by kernel_rfl) (lwp_at 10 (.slice z107 z107n z107c) (by kernel_rfl) (lwp_at 21 (.int .i64 z108) (by kernel_rfl) (lwp_at 22 (.int .i64 (IntKind.wrap .i64 (z109 + 1))) (by kernel_rfl) (ih (some z103) z104 z105 z106 z107 z107n z107c z108 (IntKind.wrap .i64 (z109 + 1)) _ _ hM)))))))
      refine oA 28 false (y15 && (decide (y13 = 0))) (by rw [Bool.eq_false_iff.2 hc25]) ?_
      refine oA 29 false (y15 && (decide (y13 = 0))) (by rw [Bool.eq_false_iff.2 hc25]) ?_
      replace hM := ifF hc25 hM
      refine oS [(30, undef), (31, undef), (32, undef), (33, undef), (34, undef), (35, .bool false)] rfl ?_
      refine oE ?_
      refine cwp_cond (t := false) (by kernel_rfl) (fun hx_ => ?_) (fun hx_ => ?_)
      all_goals first | (cases hx_; done) | skip
      refine cwp_skip (thenE_n ?_)
      refine cwp_of_part (fn := Tryd.f62) (p := [1, 1, 0, 0, 1, 1, 0, 0, 1]) (by kernel_rfl) (cwp_at 0 (.pointer y12) (by kernel_rfl) (cwp_at 1 (.int .i64 y13) (by kernel_rfl) (cwp_at 2 (.int .i64 y14) (by kernel_rfl) (cwp_at 4 (.bool y15) (by kernel_rfl) (cwp_at 10 (.slice y16 y16n y16c) (by kernel_rfl) (cwp_at 21 (.int .i64 y17) (by kernel_rfl) (cwp_at 22 (.int .i64 y18) (by kernel_rfl) (vt_Screen_up_j1_ok _ ?_ y12 y13 y14 y15 y16 y16n y16c y17 y18 _ _ hM))))))))
      · intro z113 z114 z115 z116 z117 z117n z117c z118 z119 b121 h120 hM
        refine blockE_n (thenE_n (cwp_region ?_))
        refine oS [(63, .int .i64 (IntKind.wrap .i64 (z119 + 1))), (22, .int .i64 (IntKind.wrap .i64 (z119 + 1)))] rfl ?_
        refine owp_nil ?_
        exact lwp_at 0 (.pointer (some z113)) (by kernel_rfl) (lwp_at 1 (.int .i64 z114) (by kernel_rfl) (lwp_at 2 (.int .i64 z115) (by kernel_rfl) (lwp_at 4 (.bool z116) (by kernel_rfl) (lwp_at 10 (.slice z117 z117n z117c) (by kernel_rfl) (lwp_at 21 (.int .i64 z118) (by kernel_rfl) (lwp_at 22 (.int .i64 (IntKind.wrap .i64 (z119 + 1))) (by kernel_rfl) (ih (some z113) z114 z115 z116 z117 z117n z117c z118 (IntKind.wrap .i64 (z119 + 1)) _ _ hM)))))))
    replace hM := ifF hc19 hM
    refine cwp_exit (thenE_x ?_)
    exact hK0  _ _ hM
def vt_Screen_up (a1 : Option Addr) (a2 : Int) (a3 : Int) (a4 : Int) (a5 : Bool) (K : Heap → Prop) (h : Heap) : Prop :=
 vt_Screen_shown a1 (fun x7 h6 =>
  nz x7 fun p8 =>
  ldL h6 p8 fun x9 x9n x9c =>
  ∃ k125, vt_Screen_up_l0
   (fun  h123 =>
        K h123) k125 a1 a2 a3 a5 x9 x9n x9c (imin a4 (IntKind.wrap .i64 ((IntKind.wrap .i64 (a3 - a2)) + 1))) 0 h6) h
theorem vt_Screen_up_ok (a1 : Option Addr) (a2 : Int) (a3 : Int) (a4 : Int) (a5 : Bool) (K : Heap → Prop) (h : Heap) (hM : vt_Screen_up a1 a2 a3 a4 a5 K h) : CallsH Tryd.prog 62 #[.pointer a1, .int .i64 a2, .int .i64 a3, .int .i64 a4, .bool a5] (fun v h' => v = .tuple #[] ∧ K h') h := by
 unfold vt_Screen_up at hM
 refine callsH_intro (n := 64) Tryd.func62 rfl rfl (by kernel_rfl) ?_
 refine cR ?_
 refine oS [(11, .pointer a1)] rfl ?_
 refine oG (hpCallE 22 #[.pointer a1] (by kernel_rfl) (vt_Screen_shown_ok a1 _ h hM) ?_)
 clear hM
 rintro _ h6 ⟨x7, rfl, hM⟩
 obtain ⟨p8, rfl, hM⟩ := hM
 refine owp_rdG (.pointer (some p8)) rfl (by kernel_rfl) (by kernel_rfl) ?_
 refine oS [(14, .pointer (some p8))] rfl ?_
 obtain ⟨x9, x9n, x9c, hc10, hM⟩ := hM
 refine oL (.slice x9 x9n x9c) p8 hc10 ?_
 refine oS [(10, .slice x9 x9n x9c)] rfl ?_
 refine oE (cR ?_)
 refine oS [(16, .int .i64 a4), (17, .int .i64 a3), (18, .int .i64 a2), (19, .int .i64 (IntKind.wrap .i64 (a3 - a2))), (20, .int .i64 (IntKind.wrap .i64 ((IntKind.wrap .i64 (a3 - a2)) + 1))), (21, .int .i64 (imin a4 (IntKind.wrap .i64 ((IntKind.wrap .i64 (a3 - a2)) + 1)))), (22, .int .i64 0)] rfl ?_
 refine oE (cwp_block ?_)
 obtain ⟨k_, hM⟩ := hM
 refine cwp_loop k_ (lwp_of_part (fn := Tryd.f62) (p := [1, 1, 0, 0]) (by kernel_rfl) (lwp_at 0 (.pointer a1) (by kernel_rfl) (lwp_at 1 (.int .i64 a2) (by kernel_rfl) (lwp_at 2 (.int .i64 a3) (by kernel_rfl) (lwp_at 4 (.bool a5) (by kernel_rfl) (lwp_at 10 (.slice x9 x9n x9c) (by kernel_rfl) (lwp_at 21 (.int .i64 (imin a4 (IntKind.wrap .i64 ((IntKind.wrap .i64 (a3 - a2)) + 1)))) (by kernel_rfl) (lwp_at 22 (.int .i64 0) (by kernel_rfl) (vt_Screen_up_l0_ok _ ?_ k_ a1 a2 a3 a5 x9 x9n x9c (imin a4 (IntKind.wrap .i64 ((IntKind.wrap .i64 (a3 - a2)) + 1))) 0 _ _ hM)))))))))
 · intro  b124 h123 hM
   refine blockE_h ?_
   exact end_ (.tuple #[]) (by kernel_rfl) ⟨rfl, hM⟩
/- (*mullion/vt.Screen).feed -/
def vt_Screen_feed (a1 : Option Addr) (K : Heap → Prop) (h : Heap) : Prop :=
 nz a1 fun p2 =>
 ldI h .i64 (p2.add 10) fun x3 =>
 ldI h .i64 (p2.add 20) fun x7 =>
 if x3 = x7 then
  ldI h .i64 (p2.add 19) fun x12 =>
  ldI h .i64 (p2.add 20) fun x16 =>
  vt_Screen_up (some p2) x12 x16 1 true (fun  h20 =>
   stN (p2.add 18) [.bool false] 0 h20 fun h21 =>
    K h21) h
 else
 ldI h .i64 (p2.add 10) fun x22 =>
 ldI h .i64 (p2.add 1) fun x26 =>
 if x22 < (IntKind.wrap .i64 (x26 - 1)) then
  ldI h .i64 (p2.add 10) fun x31 =>
  stN (p2.add 10) [.int .i64 (IntKind.wrap .i64 (x31 + 1))] 0 h fun h34 =>
  stN (p2.add 18) [.bool false] 0 h34 fun h35 =>
  K h35
 else
 stN (p2.add 18) [.bool false] 0 h fun h36 =>
 K h36
theorem vt_Screen_feed_ok (a1 : Option Addr) (K : Heap → Prop) (h : Heap) (hM : vt_Screen_feed a1 K h) : CallsH Tryd.prog 46 #[.pointer a1] (fun v h' => v = .tuple #[] ∧ K h') h := by
 unfold vt_Screen_feed at hM
 refine callsH_intro (n := 46) Tryd.func46 rfl rfl (by kernel_rfl) ?_
 refine cwp_seq (cwp_seq ?_)
 refine cwp_draw (by kernel_rfl) ?_
 refine kp 0 [1, 2, 3, 4, 9] (.pointer a1) ?_
 obtain ⟨p2, rfl, hM⟩ := hM
 refine kp 1 [2, 3, 4, 9] (.pointer (some p2)) ?_
 refine kp 2 [3, 4, 9] (.pointer (some (p2.add 9))) ?_
 refine kp 3 [4, 9] (.pointer (some (p2.add 10))) ?_
 obtain ⟨x3, hc4, hM⟩ := hM
 refine kl 4 (.int .i64 x3) (p2.add 10) [9] [] hc4 ?_
 refine kp 5 [6, 7, 8, 9] (.pointer (some p2)) ?_
 refine kp 6 [7, 8, 9] (.pointer (some p2)) ?_
 refine kp 7 [8, 9] (.pointer (some (p2.add 20))) ?_
 obtain ⟨x7, hc8, hM⟩ := hM
 refine kl 8 (.int .i64 x7) (p2.add 20) [9] [] hc8 ?_
 refine kp 9 [] (.bool (decide (x3 = x7))) ?_
 refine k_done (by kernel_rfl) ?_
 refine thenE_n ?_
 refine cwp_condD (x3 = x7) (by kernel_rfl) (fun hc11 => ?_) (fun hc11 => ?_)
 · replace hM := ifT hc11 hM
   refine cwp_draw (by kernel_rfl) ?_
   refine kp 0 [9] (.pointer (some p2)) ?_
   refine kp 1 [2, 3, 4, 9] (.pointer (some p2)) ?_
   refine kp 2 [3, 4, 9] (.pointer (some p2)) ?_
   refine kp 3 [4, 9] (.pointer (some (p2.add 19))) ?_
   obtain ⟨x12, hc13, hM⟩ := hM
   refine kl 4 (.int .i64 x12) (p2.add 19) [9] [9] hc13 ?_
   refine kp 5 [6, 7, 8, 9] (.pointer (some p2)) ?_
   refine kp 6 [7, 8, 9] (.pointer (some p2)) ?_
   refine kp 7 [8, 9] (.pointer (some (p2.add 20))) ?_
   obtain ⟨x16, hc17, hM⟩ := hM
   refine kl 8 (.int .i64 x16) (p2.add 20) [9] [9] hc17 ?_
   refine k_eff (j := 9) (by kernel_rfl) rfl rfl (by kernel_rfl) (hpCallE 62 #[.pointer (some p2), .int .i64 x12, .int .i64 x16, .int .i64 1, .bool true] (by kernel_rfl) (vt_Screen_up_ok (some p2) x12 x16 1 true _ h hM) ?_)
   clear hM
   rintro _ h20 ⟨rfl, hM⟩
   refine ⟨trivial, ?_⟩
   refine k_done (by kernel_rfl) ?_
   refine thenE_n (cwp_region ?_)
   refine oS [(42, .pointer (some p2)), (43, .pointer (some p2)), (44, .pointer (some (p2.add 9))), (45, .pointer (some (p2.add 18)))] rfl ?_
   refine oT (p2.add 18) [.bool false] hM ?_
   clear hM
   intro h21 hM
   refine owp_nil ?_
   exact end_ (.tuple #[]) (by kernel_rfl) ⟨rfl, hM⟩
 replace hM := ifF hc11 hM
 refine cwp_seq ?_
 refine cwp_draw (by kernel_rfl) ?_
 refine kp 0 [1, 2, 3, 4, 10] (.pointer (some p2)) ?_
 refine kp 1 [2, 3, 4, 10] (.pointer (some p2)) ?_
 refine kp 2 [3, 4, 10] (.pointer (some (p2.add 9))) ?_
 refine kp 3 [4, 10] (.pointer (some (p2.add 10))) ?_
 obtain ⟨x22, hc23, hM⟩ := hM
 refine kl 4 (.int .i64 x22) (p2.add 10) [10] [] hc23 ?_
 refine kp 5 [6, 7, 8, 9, 10] (.pointer (some p2)) ?_
 refine kp 6 [7, 8, 9, 10] (.pointer (some p2)) ?_
 refine kp 7 [8, 9, 10] (.pointer (some (p2.add 1))) ?_
 obtain ⟨x26, hc27, hM⟩ := hM
 refine kl 8 (.int .i64 x26) (p2.add 1) [9, 10] [] hc27 ?_
 refine kp 9 [10] (.int .i64 (IntKind.wrap .i64 (x26 - 1))) ?_
 refine kp 10 [] (.bool (decide (x22 < (IntKind.wrap .i64 (x26 - 1))))) ?_
 refine k_done (by kernel_rfl) ?_
 refine thenE_n ?_
 refine cwp_condD (x22 < (IntKind.wrap .i64 (x26 - 1))) (by kernel_rfl) (fun hc30 => ?_) (fun hc30 => ?_)
 · replace hM := ifT hc30 hM
   refine cwp_region ?_
   refine oS [(33, .pointer (some p2)), (34, .pointer (some p2)), (35, .pointer (some (p2.add 9))), (36, .pointer (some (p2.add 10)))] rfl ?_
   obtain ⟨x31, hc32, hM⟩ := hM
   refine oL (.int .i64 x31) (p2.add 10) hc32 ?_
   refine oS [(38, .int .i64 (IntKind.wrap .i64 (x31 + 1))), (39, .pointer (some p2)), (40, .pointer (some (p2.add 9))), (41, .pointer (some (p2.add 10)))] rfl ?_
   refine oT (p2.add 10) [.int .i64 (IntKind.wrap .i64 (x31 + 1))] hM ?_
   clear hM
   intro h34 hM
   refine oE (cwp_region ?_)
   refine oS [(42, .pointer (some p2)), (43, .pointer (some p2)), (44, .pointer (some (p2.add 9))), (45, .pointer (some (p2.add 18)))] rfl ?_
   refine oT (p2.add 18) [.bool false] hM ?_
   clear hM
   intro h35 hM
   refine owp_nil ?_
   exact end_ (.tuple #[]) (by kernel_rfl) ⟨rfl, hM⟩
 replace hM := ifF hc30 hM
 refine cwp_skip (thenE_n (cwp_region ?_))
 refine oS [(42, .pointer (some p2)), (43, .pointer (some p2)), (44, .pointer (some (p2.add 9))), (45, .pointer (some (p2.add 18)))] rfl ?_
 refine oT (p2.add 18) [.bool false] hM ?_
 clear hM
 intro h36 hM
 refine owp_nil ?_
 exact end_ (.tuple #[]) (by kernel_rfl) ⟨rfl, hM⟩
/- (*mullion/vt.Screen).row -/
def vt_Screen_row (a1 : Option Addr) (K : Option Addr → Nat → Nat → Heap → Prop) (h : Heap) : Prop :=
 nz a1 fun p2 =>
 ldI h .i64 (p2.add 10) fun x3 =>
 vt_Screen_shown (some p2) (fun x8 h7 =>
  (cellH h7 (p2.add 10) = some (.int .i64 x3)) ∧
  nz x8 fun p10 =>
  ldL h7 p10 fun x11 x11n x11c =>
  nz x11 fun p17 =>
  0 ≤ x3 ∧
  x3 < (x11n : Int) ∧
  ldL h7 (p17.add ((x3).toNat * 1)) fun x18 x18n x18c =>
   K x18 x18n x18c h7) h
theorem vt_Screen_row_ok (a1 : Option Addr) (K : Option Addr → Nat → Nat → Heap → Prop) (h : Heap) (hM : vt_Screen_row a1 K h) : CallsH Tryd.prog 48 #[.pointer a1] (fun v h' => ∃ (r22 : Option Addr) (r22n : Nat) (r22c : Nat), v = .slice r22 r22n r22c ∧ K r22 r22n r22c h') h := by
 unfold vt_Screen_row at hM
 refine callsH_intro (n := 15) Tryd.func48 rfl rfl (by kernel_rfl) ?_
 refine cR ?_
 refine oS [(2, .slice none 0 0)] rfl ?_
 refine oE (cwp_seq ?_)
 refine cwp_draw (by kernel_rfl) ?_
 refine kp 0 [1, 2, 3, 4, 10, 11, 12] (.pointer a1) ?_
 refine kp 5 [6, 7, 8, 9, 10, 11, 12] (.pointer a1) ?_
 obtain ⟨p2, rfl, hM⟩ := hM
 refine kp 6 [7, 8, 9, 10, 11, 12] (.pointer (some p2)) ?_
 refine kp 7 [8, 9, 10, 11, 12] (.pointer (some (p2.add 9))) ?_
 refine kp 8 [9, 10, 11, 12] (.pointer (some (p2.add 10))) ?_
 obtain ⟨x3, hc4, hM⟩ := hM
 refine kl 9 (.int .i64 x3) (p2.add 10) [10, 11, 12] [] hc4 ?_
 refine k_eff (j := 1) (by kernel_rfl) rfl rfl (by kernel_rfl) (hpCallE 22 #[.pointer (some p2)] (by kernel_rfl) (vt_Screen_shown_ok (some p2) _ h hM) ?_)
 clear hM
 rintro _ h7 ⟨x8, rfl, hM⟩
 obtain ⟨hk9, hM⟩ := hM
 refine ⟨⟨⟨hk9, trivial⟩, trivial⟩, ?_⟩
 obtain ⟨p10, rfl, hM⟩ := hM
 refine kp 2 [3, 4, 10, 11, 12] (.pointer (some p10)) ?_
 refine kp 3 [4, 10, 11, 12] (.pointer (some p10)) ?_
 obtain ⟨x11, x11n, x11c, hc12, hM⟩ := hM
 refine kl 4 (.slice x11 x11n x11c) p10 [10, 11, 12] [] hc12 ?_
 obtain ⟨p17, rfl, hM⟩ := hM
 obtain ⟨hc15, hM⟩ := hM
 obtain ⟨hc16, hM⟩ := hM
 refine k_pure (i := 10) [11, 12] (.pointer (some (p17.add ((x3).toNat * 1)))) (by kernel_rfl) rfl rfl (by kernel_rfl) (fun h' => rd_ixS (P := Tryd.prog) (h := h') (t := 57) (el := 72) (sz := 1) (ad := p17) (len := x11n) (c := x11c) (k := .i64) (i := x3) (by kernel_rfl) (by kernel_rfl) hc15 hc16 (by kernel_rfl)) (by kernel_rfl) ?_
 obtain ⟨x18, x18n, x18c, hc19, hM⟩ := hM
 refine kl 11 (.slice x18 x18n x18c) (p17.add ((x3).toNat * 1)) [12] [] hc19 ?_
 refine kp 12 [] (.slice x18 x18n x18c) ?_
 refine k_done (by kernel_rfl) ?_
 refine thenE_n (cwp_ret ?_)
 exact ret_ (.slice x18 x18n x18c) (by kernel_rfl) ⟨_, _, _, rfl, hM⟩
/- (mullion/vt.row).cut -/
def vt_row_cut (a1 : Option Addr) (a1n : Nat) (a1c : Nat) (a2 : Int) (K : Heap → Prop) (h : Heap) : Prop :=
 if ((decide (0 < a2)) && (decide (a2 < (a1n : Int)))) = true then
  nz a1 fun p13 =>
  0 ≤ a2 ∧
  a2 < (a1n : Int) ∧
  ldI h .i64 ((p13.add ((a2).toNat * 5)).add 1) fun x14 =>
  if x14 = 0 then
   0 ≤ (IntKind.wrap .i64 (a2 - 1)) ∧
   (IntKind.wrap .i64 (a2 - 1)) < (a1n : Int) ∧
   ldI h .i64 ((p13.add ((IntKind.wrap .i64 (a2 - 1)).toNat * 5)).add 2) fun x20 =>
   ldI h .i64 ((p13.add ((IntKind.wrap .i64 (a2 - 1)).toNat * 5)).add 3) fun x22 =>
   ldI h .i64 ((p13.add ((IntKind.wrap .i64 (a2 - 1)).toNat * 5)).add 4) fun x24 =>
   0 ≤ (IntKind.wrap .i64 (a2 - 1)) ∧
   (IntKind.wrap .i64 (a2 - 1)) < (a1n : Int) ∧
   gap h fun h29 =>
   stN (p13.add ((IntKind.wrap .i64 (a2 - 1)).toNat * 5)) [.string ((vt_blank x20 x22 x24).1), .int .i64 ((vt_blank x20 x22 x24).2.1), .int .i64 ((vt_blank x20 x22 x24).2.2.1), .int .i64 ((vt_blank x20 x22 x24).2.2.2.1), .int .i64 ((vt_blank x20 x22 x24).2.2.2.2)] 0 h29 fun h33 =>
   0 ≤ a2 ∧
   a2 < (a1n : Int) ∧
   ldI h33 .i64 ((p13.add ((a2).toNat * 5)).add 2) fun x36 =>
   ldI h33 .i64 ((p13.add ((a2).toNat * 5)).add 3) fun x38 =>
   ldI h33 .i64 ((p13.add ((a2).toNat * 5)).add 4) fun x40 =>
   0 ≤ a2 ∧
   a2 < (a1n : Int) ∧
   gap h33 fun h45 =>
   stN (p13.add ((a2).toNat * 5)) [.string ((vt_blank x36 x38 x40).1), .int .i64 ((vt_blank x36 x38 x40).2.1), .int .i64 ((vt_blank x36 x38 x40).2.2.1), .int .i64 ((vt_blank x36 x38 x40).2.2.2.1), .int .i64 ((vt_blank x36 x38 x40).2.2.2.2)] 0 h45 fun h49 =>
   K h49
  else
  K h
 else
 K h
theorem vt_row_cut_ok (a1 : Option Addr) (a1n : Nat) (a1c : Nat) (a2 : Int) (K : Heap → Prop) (h : Heap) (hM : vt_row_cut a1 a1n a1c a2 K h) : CallsH Tryd.prog 49 #[.slice a1 a1n a1c, .int .i64 a2] (fun v h' => v = .tuple #[] ∧ K h') h := by
 unfold vt_row_cut at hM
 refine callsH_intro (n := 40) Tryd.func49 rfl rfl (by kernel_rfl) ?_
 refine cR ?_
 refine oS [(4, .int .i64 a2), (5, .bool (decide (0 < a2))), (6, .bool (decide (0 < a2)))] rfl ?_
 refine oB (decide (0 < a2)) 5 [5, 6] (fun b_ => [(7, iteV b_ (.int .i64 a2 : Value) undef), (8, iteV b_ (.slice a1 a1n a1c : Value) undef), (9, iteV b_ (.int .i64 (a1n : Int) : Value) undef), (10, iteV b_ (.bool (decide (a2 < (a1n : Int))) : Value) undef), (11, .bool (b_ && (decide (a2 < (a1n : Int)))))]) rfl (fun hb3 hq4 => oS [(7, .int .i64 a2), (8, .slice a1 a1n a1c), (9, .int .i64 (a1n : Int)), (10, .bool (decide (a2 < (a1n : Int)))), (11, .bool (decide (a2 < (a1n : Int))))] rfl (hq4)) (fun hb5 hq6 => oS [(7, undef), (8, undef), (9, undef), (10, undef), (11, .bool false)] rfl (hq6)) ?_
 refine oS [(12, .bool ((decide (0 < a2)) && (decide (a2 < (a1n : Int)))))] rfl ?_
 by_cases hc10 : ((decide (0 < a2)) && (decide (a2 < (a1n : Int)))) = true
 · refine oA 11 true ((decide (0 < a2)) && (decide (a2 < (a1n : Int)))) (by rw [hc10]) ?_
   refine oA 12 true ((decide (0 < a2)) && (decide (a2 < (a1n : Int)))) (by rw [hc10]) ?_
   replace hM := ifT hc10 hM
   refine oS [(13, .slice a1 a1n a1c), (14, .int .i64 a2)] rfl ?_
   obtain ⟨p13, rfl, hM⟩ := hM
   obtain ⟨hc11, hM⟩ := hM
   obtain ⟨hc12, hM⟩ := hM
   refine owp_rdG (.pointer (some (p13.add ((a2).toNat * 5)))) rfl (by kernel_rfl) (rd_ixS (P := Tryd.prog) (h := h) (t := 72) (el := 43) (sz := 5) (ad := p13) (len := a1n) (c := a1c) (k := .i64) (i := a2) (by kernel_rfl) (by kernel_rfl) hc11 hc12 (by kernel_rfl)) ?_
   refine oS [(16, .pointer (some ((p13.add ((a2).toNat * 5)).add 1)))] rfl ?_
   obtain ⟨x14, hc15, hM⟩ := hM
   refine oL (.int .i64 x14) ((p13.add ((a2).toNat * 5)).add 1) hc15 ?_
   refine oS [(18, .bool (decide (x14 = 0))), (19, .bool (decide (x14 = 0)))] rfl ?_
   refine oE ?_
   refine cwp_condD (x14 = 0) (by kernel_rfl) (fun hc17 => ?_) (fun hc17 => ?_)
   · replace hM := ifT hc17 hM
     refine cR ?_
     refine oS [(20, .slice (some p13) a1n a1c), (21, .int .i64 a2), (22, .int .i64 (IntKind.wrap .i64 (a2 - 1))), (23, .slice (some p13) a1n a1c), (24, .int .i64 a2), (25, .int .i64 (IntKind.wrap .i64 (a2 - 1)))] rfl ?_
     obtain ⟨hc18, hM⟩ := hM
     obtain ⟨hc19, hM⟩ := hM
     refine owp_rdG (.pointer (some (p13.add ((IntKind.wrap .i64 (a2 - 1)).toNat * 5)))) rfl (by kernel_rfl) (rd_ixS (P := Tryd.prog) (h := h) (t := 72) (el := 43) (sz := 5) (ad := p13) (len := a1n) (c := a1c) (k := .i64) (i := (IntKind.wrap .i64 (a2 - 1))) (by kernel_rfl) (by kernel_rfl) hc18 hc19 (by kernel_rfl)) ?_
     refine oS [(27, .pointer (some ((p13.add ((IntKind.wrap .i64 (a2 - 1)).toNat * 5)).add 2)))] rfl ?_
     obtain ⟨x20, hc21, hM⟩ := hM
     obtain ⟨x22, hc23, hM⟩ := hM
     obtain ⟨x24, hc25, hM⟩ := hM
     refine owp_rdG (.agg #[.int .i64 x20, .int .i64 x22, .int .i64 x24]) rfl (by kernel_rfl) (Eq.trans (b := (cellH h ((p13.add ((IntKind.wrap .i64 (a2 - 1)).toNat * 5)).add 2)).bind fun v26 => (cellH h ((p13.add ((IntKind.wrap .i64 (a2 - 1)).toNat * 5)).add 3)).bind fun v27 => (cellH h ((p13.add ((IntKind.wrap .i64 (a2 - 1)).toNat * 5)).add 4)).bind fun v28 => some (.value (.agg #[v26, v27, v28]))) (by kernel_rfl) ((bindE hc21 _).trans ((bindE hc23 _).trans (bindE hc25 _)))) ?_
     refine oG (hpCallP 60 #[.agg #[.int .i64 x20, .int .i64 x22, .int .i64 x24]] (.agg #[.string ((vt_blank x20 x22 x24).1), .int .i64 ((vt_blank x20 x22 x24).2.1), .int .i64 ((vt_blank x20 x22 x24).2.2.1), .int .i64 ((vt_blank x20 x22 x24).2.2.2.1), .int .i64 ((vt_blank x20 x22 x24).2.2.2.2)]) (by kernel_rfl) (vt_blank_ok x20 x22 x24 _ h rfl) ?_)
     intro h29 hx30
     obtain ⟨hc31, hM⟩ := hM
     obtain ⟨hc32, hM⟩ := hM
     refine owp_rdG (.pointer (some (p13.add ((IntKind.wrap .i64 (a2 - 1)).toNat * 5)))) rfl (by kernel_rfl) (rd_ixS (P := Tryd.prog) (h := h29) (t := 72) (el := 43) (sz := 5) (ad := p13) (len := a1n) (c := a1c) (k := .i64) (i := (IntKind.wrap .i64 (a2 - 1))) (by kernel_rfl) (by kernel_rfl) hc31 hc32 (by kernel_rfl)) ?_
     replace hM := hM _ hx30
     refine oT (p13.add ((IntKind.wrap .i64 (a2 - 1)).toNat * 5)) [.string ((vt_blank x20 x22 x24).1), .int .i64 ((vt_blank x20 x22 x24).2.1), .int .i64 ((vt_blank x20 x22 x24).2.2.1), .int .i64 ((vt_blank x20 x22 x24).2.2.2.1), .int .i64 ((vt_blank x20 x22 x24).2.2.2.2)] hM ?_
     clear hM
     intro h33 hM
     refine oE (cwp_region ?_)
     refine oS [(31, .slice (some p13) a1n a1c), (32, .int .i64 a2), (33, .slice (some p13) a1n a1c), (34, .int .i64 a2)] rfl ?_
     obtain ⟨hc34, hM⟩ := hM
     obtain ⟨hc35, hM⟩ := hM
     refine owp_rdG (.pointer (some (p13.add ((a2).toNat * 5)))) rfl (by kernel_rfl) (rd_ixS (P := Tryd.prog) (h := h33) (t := 72) (el := 43) (sz := 5) (ad := p13) (len := a1n) (c := a1c) (k := .i64) (i := a2) (by kernel_rfl) (by kernel_rfl) hc34 hc35 (by kernel_rfl)) ?_
     refine oS [(36, .pointer (some ((p13.add ((a2).toNat * 5)).add 2)))] rfl ?_
     obtain ⟨x36, hc37, hM⟩ := hM
     obtain ⟨x38, hc39, hM⟩ := hM
     obtain ⟨x40, hc41, hM⟩ := hM
     refine owp_rdG (.agg #[.int .i64 x36, .int .i64 x38, .int .i64 x40]) rfl (by kernel_rfl) (Eq.trans (b := (cellH h33 ((p13.add ((a2).toNat * 5)).add 2)).bind fun v42 => (cellH h33 ((p13.add ((a2).toNat * 5)).add 3)).bind fun v43 => (cellH h33 ((p13.add ((a2).toNat * 5)).add 4)).bind fun v44 => some (.value (.agg #[v42, v43, v44]))) (by kernel_rfl) ((bindE hc37 _).trans ((bindE hc39 _).trans (bindE hc41 _)))) ?_
     refine oG (hpCallP 60 #[.agg #[.int .i64 x36, .int .i64 x38, .int .i64 x40]] (.agg #[.string ((vt_blank x36 x38 x40).1), .int .i64 ((vt_blank x36 x38 x40).2.1), .int .i64 ((vt_blank x36 x38 x40).2.2.1), .int .i64 ((vt_blank x36 x38 x40).2.2.2.1), .int .i64 ((vt_blank x36 x38 x40).2.2.2.2)]) (by kernel_rfl) (vt_blank_ok x36 x38 x40 _ h33 rfl) ?_)
     intro h45 hx46
     obtain ⟨hc47, hM⟩ := hM
     obtain ⟨hc48, hM⟩ := hM
     refine owp_rdG (.pointer (some (p13.add ((a2).toNat * 5)))) rfl (by kernel_rfl) (rd_ixS (P := Tryd.prog) (h := h45) (t := 72) (el := 43) (sz := 5) (ad := p13) (len := a1n) (c := a1c) (k := .i64) (i := a2) (by kernel_rfl) (by kernel_rfl) hc47 hc48 (by kernel_rfl)) ?_
     replace hM := hM _ hx46
     refine oT (p13.add ((a2).toNat * 5)) [.string ((vt_blank x36 x38 x40).1), .int .i64 ((vt_blank x36 x38 x40).2.1), .int .i64 ((vt_blank x36 x38 x40).2.2.1), .int .i64 ((vt_blank x36 x38 x40).2.2.2.1), .int .i64 ((vt_blank x36 x38 x40).2.2.2.2)] hM ?_
     clear hM
     intro h49 hM
     refine owp_nil ?_
     exact end_ (.tuple #[]) (by kernel_rfl) ⟨rfl, hM⟩
   replace hM := ifF hc17 hM
   refine cwp_skip ?_
   exact end_ (.tuple #[]) (by kernel_rfl) ⟨rfl, hM⟩
 refine oA 11 false ((decide (0 < a2)) && (decide (a2 < (a1n : Int)))) (by rw [Bool.eq_false_iff.2 hc10]) ?_
 refine oA 12 false ((decide (0 < a2)) && (decide (a2 < (a1n : Int)))) (by rw [Bool.eq_false_iff.2 hc10]) ?_
 replace hM := ifF hc10 hM
 refine oS [(13, undef), (14, undef), (15, undef), (16, undef), (17, undef), (18, undef), (19, .bool false)] rfl ?_
 refine oE ?_
 refine cwp_cond (t := false) (by kernel_rfl) (fun hx_ => ?_) (fun hx_ => ?_)
 all_goals first | (cases hx_; done) | skip
 refine cwp_skip ?_
 exact end_ (.tuple #[]) (by kernel_rfl) ⟨rfl, hM⟩
/- (*mullion/vt.Screen).open -/
def vt_Screen_open_l0 (K0 : Heap → Prop) : Nat → Addr → Int → Option Addr → Nat → Nat → Int → Heap → Prop
  | 0, _, _, _, _, _, _, _ => False
  | k + 1, y44, y45, y46, y46n, y46c, y47, h =>
  ldI h .i64 (y44.add 9) fun x48 =>
  if y47 < (IntKind.wrap .i64 (x48 + y45)) then
   vt_Screen_erased (some y44) (fun x53 x54 x55 x56 x57 h52 =>
    nz y46 fun p60 =>
    0 ≤ y47 ∧
    y47 < (y46n : Int) ∧
    stN (p60.add ((y47).toNat * 5)) [.string x53, .int .i64 x54, .int .i64 x55, .int .i64 x56, .int .i64 x57] 0 h52 fun h61 =>
     vt_Screen_open_l0 K0 k y44 y45 (some p60) y46n y46c (IntKind.wrap .i64 (y47 + 1)) h61) h
  else
  K0  h
theorem vt_Screen_open_l0_ok {Q : Exit → Env → Heap → Prop} (K0 : Heap → Prop) (hK0 : ∀  (b : Env) (h : Heap), K0  h → Q (.exit 0) b h) : ∀ (k : Nat) (y44 : Addr) (y45 : Int) (y46 : Option Addr) (y46n : Nat) (y46c : Nat) (y47 : Int) (b : Env) (h : Heap) (hM : vt_Screen_open_l0 K0 k y44 y45 y46 y46n y46c y47 h), lwp Tryd.prog (partC Tryd.f47 [1, 1, 1, 1, 1, 1, 0, 0]) 79 Q k (upd (upd (upd (upd b 0 (.pointer (some y44))) 1 (.int .i64 y45)) 4 (.slice y46 y46n y46c)) 5 (.int .i64 y47)) h := by
  intro k
  induction k with
  | zero => intro y44 y45 y46 y46n y46c y47 b h hM; exact (show False from hM).elim
  | succ k ih =>
    intro y44 y45 y46 y46n y46c y47 b h hM
    unfold vt_Screen_open_l0 at hM
    refine lwp_succ (cwp_part rfl ?_)
    refine cwp_seq (cR ?_)
    refine oS [(63, .int .i64 y47), (64, .pointer (some y44)), (65, .pointer (some y44)), (66, .pointer (some (y44.add 9))), (67, .pointer (some (y44.add 9)))] rfl ?_
    obtain ⟨x48, hc49, hM⟩ := hM
    refine oL (.int .i64 x48) (y44.add 9) hc49 ?_
    refine oS [(69, .int .i64 y45), (70, .int .i64 (IntKind.wrap .i64 (x48 + y45))), (71, .bool (decide (y47 < (IntKind.wrap .i64 (x48 + y45)))))] rfl ?_
    refine oE ?_
    refine cwp_condD (y47 < (IntKind.wrap .i64 (x48 + y45))) (by kernel_rfl) (fun hc51 => ?_) (fun hc51 => ?_)
    · replace hM := ifT hc51 hM
      refine cwp_skip (thenE_n (cwp_seq (cwp_block (cwp_region ?_))))
      refine oS [(74, .slice y46 y46n y46c), (75, .int .i64 y47), (76, .pointer (some y44))] rfl ?_
      refine oG (hpCallE 63 #[.pointer (some y44)] (by kernel_rfl) (vt_Screen_erased_ok (some y44) _ h hM) ?_)
      clear hM
      rintro _ h52 ⟨x53, x54, x55, x56, x57, rfl, hM⟩
      obtain ⟨p60, rfl, hM⟩ := hM
      obtain ⟨hc58, hM⟩ := hM
      obtain ⟨hc59, hM⟩ := hM
      refine owp_rdG (.pointer (some (p60.add ((y47).toNat * 5)))) rfl (by kernel_rfl) (rd_ixS (P := Tryd.prog) (h := h52) (t := 72) (el := 43) (sz := 5) (ad := p60) (len := y46n) (c := y46c) (k := .i64) (i := y47) (by kernel_rfl) (by kernel_rfl) hc58 hc59 (by kernel_rfl)) ?_
      refine oT (p60.add ((y47).toNat * 5)) [.string x53, .int .i64 x54, .int .i64 x55, .int .i64 x56, .int .i64 x57] hM ?_
      clear hM
      intro h61 hM
      refine owp_nil (blockE_n (thenE_n (cwp_region ?_)))
      refine oS [(72, .int .i64 y47), (73, .int .i64 (IntKind.wrap .i64 (y47 + 1))), (5, .int .i64 (IntKind.wrap .i64 (y47 + 1)))] rfl ?_
      refine owp_nil ?_
      exact lwp_at 0 (.pointer (some y44)) (by kernel_rfl) (lwp_at 1 (.int .i64 y45) (by kernel_rfl) (lwp_at 4 (.slice (some p60) y46n y46c) (by kernel_rfl) (lwp_at 5 (.int .i64 (IntKind.wrap .i64 (y47 + 1))) (by kernel_rfl) (ih y44 y45 (some p60) y46n y46c (IntKind.wrap .i64 (y47 + 1)) _ _ hM))))
    replace hM := ifF hc51 hM
    refine cwp_exit (thenE_x ?_)
    exact hK0  _ _ hM
def vt_Screen_open (a1 : Option Addr) (a2 : Int) (K : Heap → Prop) (h : Heap) : Prop :=
 vt_Screen_row a1 (fun x4 x4n x4c h3 =>
  nz a1 fun p5 =>
  ldI h3 .i64 p5 fun x6 =>
  ldI h3 .i64 (p5.add 9) fun x10 =>
  ldI h3 .i64 (p5.add 9) fun x14 =>
  vt_row_cut x4 x4n x4c x14 (fun  h17 =>
   ldI h17 .i64 p5 fun x18 =>
   vt_row_cut x4 x4n x4c (IntKind.wrap .i64 (x18 - (imin a2 (IntKind.wrap .i64 (x6 - x10))))) (fun  h21 =>
    ldI h21 .i64 (p5.add 9) fun x22 =>
    0 ≤ (IntKind.wrap .i64 (x22 + (imin a2 (IntKind.wrap .i64 (x6 - x10))))) ∧
    (IntKind.wrap .i64 (x22 + (imin a2 (IntKind.wrap .i64 (x6 - x10))))) ≤ (x4n : Int) ∧
    ldI h21 .i64 (p5.add 9) fun x28 =>
    ldI h21 .i64 p5 fun x32 =>
    0 ≤ (IntKind.wrap .i64 (x32 - (imin a2 (IntKind.wrap .i64 (x6 - x10))))) ∧
    (IntKind.wrap .i64 (x32 - (imin a2 (IntKind.wrap .i64 (x6 - x10))))) ≤ (x4c : Int) ∧
    0 ≤ x28 ∧
    x28 ≤ (IntKind.wrap .i64 (x32 - (imin a2 (IntKind.wrap .i64 (x6 - x10))))) ∧
    cpM h21 5 (cutA x4 x4c (IntKind.wrap .i64 (x22 + (imin a2 (IntKind.wrap .i64 (x6 - x10))))).toNat 5) (x4n - (IntKind.wrap .i64 (x22 + (imin a2 (IntKind.wrap .i64 (x6 - x10))))).toNat) (cutA x4 x4c x28.toNat 5) ((IntKind.wrap .i64 (x32 - (imin a2 (IntKind.wrap .i64 (x6 - x10))))).toNat - x28.toNat) fun h40 =>
    ldI h40 .i64 (p5.add 9) fun x41 =>
    ∃ k64, vt_Screen_open_l0
     (fun  h62 =>
            K h62) k64 p5 (imin a2 (IntKind.wrap .i64 (x6 - x10))) x4 x4n x4c x41 h40) h17) h3) h
theorem vt_Screen_open_ok (a1 : Option Addr) (a2 : Int) (K : Heap → Prop) (h : Heap) (hM : vt_Screen_open a1 a2 K h) : CallsH Tryd.prog 47 #[.pointer a1, .int .i64 a2] (fun v h' => v = .tuple #[] ∧ K h') h := by
 unfold vt_Screen_open at hM
 refine callsH_intro (n := 79) Tryd.func47 rfl rfl (by kernel_rfl) ?_
 refine cR ?_
 refine oS [(6, .pointer a1)] rfl ?_
 refine oG (hpCallE 48 #[.pointer a1] (by kernel_rfl) (vt_Screen_row_ok a1 _ h hM) ?_)
 clear hM
 rintro _ h3 ⟨x4, x4n, x4c, rfl, hM⟩
 refine oS [(4, .slice x4 x4n x4c)] rfl ?_
 refine oE (cwp_seq ?_)
 refine cwp_draw (by kernel_rfl) ?_
 refine kp 0 [11, 12] (.int .i64 a2) ?_
 refine kp 1 [2, 3, 4, 10, 11, 12] (.pointer a1) ?_
 obtain ⟨p5, rfl, hM⟩ := hM
 refine kp 2 [3, 4, 10, 11, 12] (.pointer (some p5)) ?_
 refine kp 3 [4, 10, 11, 12] (.pointer (some p5)) ?_
 obtain ⟨x6, hc7, hM⟩ := hM
 refine kl 4 (.int .i64 x6) p5 [10, 11, 12] [] hc7 ?_
 refine kp 5 [6, 7, 8, 9, 10, 11, 12] (.pointer (some p5)) ?_
 refine kp 6 [7, 8, 9, 10, 11, 12] (.pointer (some p5)) ?_
 refine kp 7 [8, 9, 10, 11, 12] (.pointer (some (p5.add 9))) ?_
 refine kp 8 [9, 10, 11, 12] (.pointer (some (p5.add 9))) ?_
 obtain ⟨x10, hc11, hM⟩ := hM
 refine kl 9 (.int .i64 x10) (p5.add 9) [10, 11, 12] [] hc11 ?_
 refine kp 10 [11, 12] (.int .i64 (IntKind.wrap .i64 (x6 - x10))) ?_
 refine kp 11 [12] (.int .i64 (imin a2 (IntKind.wrap .i64 (x6 - x10)))) ?_
 refine kp 12 [] (.int .i64 (imin a2 (IntKind.wrap .i64 (x6 - x10)))) ?_
 refine k_done (by kernel_rfl) ?_
 refine thenE_n (cR ?_)
 refine oS [(20, .slice x4 x4n x4c), (21, .pointer (some p5)), (22, .pointer (some p5)), (23, .pointer (some (p5.add 9))), (24, .pointer (some (p5.add 9)))] rfl ?_
 obtain ⟨x14, hc15, hM⟩ := hM
 refine oL (.int .i64 x14) (p5.add 9) hc15 ?_
 refine oG (hpCallE 49 #[.slice x4 x4n x4c, .int .i64 x14] (by kernel_rfl) (vt_row_cut_ok x4 x4n x4c x14 _ h3 hM) ?_)
 clear hM
 rintro _ h17 ⟨rfl, hM⟩
 refine oE (cR ?_)
 refine oS [(27, .slice x4 x4n x4c), (28, .pointer (some p5)), (29, .pointer (some p5)), (30, .pointer (some p5))] rfl ?_
 obtain ⟨x18, hc19, hM⟩ := hM
 refine oL (.int .i64 x18) p5 hc19 ?_
 refine oS [(32, .int .i64 (imin a2 (IntKind.wrap .i64 (x6 - x10)))), (33, .int .i64 (IntKind.wrap .i64 (x18 - (imin a2 (IntKind.wrap .i64 (x6 - x10))))))] rfl ?_
 refine oG (hpCallE 49 #[.slice x4 x4n x4c, .int .i64 (IntKind.wrap .i64 (x18 - (imin a2 (IntKind.wrap .i64 (x6 - x10)))))] (by kernel_rfl) (vt_row_cut_ok x4 x4n x4c (IntKind.wrap .i64 (x18 - (imin a2 (IntKind.wrap .i64 (x6 - x10))))) _ h17 hM) ?_)
 clear hM
 rintro _ h21 ⟨rfl, hM⟩
 refine oE (cwp_seq ?_)
 refine cwp_draw (by kernel_rfl) ?_
 refine kp 0 [8, 22] (.slice x4 x4n x4c) ?_
 refine kp 1 [2, 3, 4, 5, 7, 8, 22] (.pointer (some p5)) ?_
 refine kp 2 [3, 4, 5, 7, 8, 22] (.pointer (some p5)) ?_
 refine kp 3 [4, 5, 7, 8, 22] (.pointer (some (p5.add 9))) ?_
 refine kp 4 [5, 7, 8, 22] (.pointer (some (p5.add 9))) ?_
 obtain ⟨x22, hc23, hM⟩ := hM
 refine kl 5 (.int .i64 x22) (p5.add 9) [7, 8, 22] [22] hc23 ?_
 refine kp 6 [7, 8, 22] (.int .i64 (imin a2 (IntKind.wrap .i64 (x6 - x10)))) ?_
 refine kp 7 [8, 22] (.int .i64 (IntKind.wrap .i64 (x22 + (imin a2 (IntKind.wrap .i64 (x6 - x10)))))) ?_
 obtain ⟨hc26, hM⟩ := hM
 obtain ⟨hc27, hM⟩ := hM
 refine k_pure (i := 8) [22] (.slice (cutA x4 x4c (IntKind.wrap .i64 (x22 + (imin a2 (IntKind.wrap .i64 (x6 - x10))))).toNat 5) (x4n - (IntKind.wrap .i64 (x22 + (imin a2 (IntKind.wrap .i64 (x6 - x10))))).toNat) (x4c - (IntKind.wrap .i64 (x22 + (imin a2 (IntKind.wrap .i64 (x6 - x10))))).toNat)) (by kernel_rfl) rfl rfl (by kernel_rfl) (fun h' => rd_sSLo (P := Tryd.prog) (h := h') (t := 72) (el := 43) (sz := 5) (a := x4) (n := x4n) (c := x4c) (k := .i64) (i := (IntKind.wrap .i64 (x22 + (imin a2 (IntKind.wrap .i64 (x6 - x10)))))) (by kernel_rfl) (by kernel_rfl) hc26 hc27 (by kernel_rfl)) (by kernel_rfl) ?_
 refine kp 9 [21, 22] (.slice x4 x4n x4c) ?_
 refine kp 10 [11, 12, 13, 14, 21, 22] (.pointer (some p5)) ?_
 refine kp 11 [12, 13, 14, 21, 22] (.pointer (some p5)) ?_
 refine kp 12 [13, 14, 21, 22] (.pointer (some (p5.add 9))) ?_
 refine kp 13 [14, 21, 22] (.pointer (some (p5.add 9))) ?_
 obtain ⟨x28, hc29, hM⟩ := hM
 refine kl 14 (.int .i64 x28) (p5.add 9) [21, 22] [22] hc29 ?_
 refine kp 15 [16, 17, 18, 20, 21, 22] (.pointer (some p5)) ?_
 refine kp 16 [17, 18, 20, 21, 22] (.pointer (some p5)) ?_
 refine kp 17 [18, 20, 21, 22] (.pointer (some p5)) ?_
 obtain ⟨x32, hc33, hM⟩ := hM
 refine kl 18 (.int .i64 x32) p5 [20, 21, 22] [22] hc33 ?_
 refine kp 19 [20, 21, 22] (.int .i64 (imin a2 (IntKind.wrap .i64 (x6 - x10)))) ?_
 refine kp 20 [21, 22] (.int .i64 (IntKind.wrap .i64 (x32 - (imin a2 (IntKind.wrap .i64 (x6 - x10)))))) ?_
 obtain ⟨hc36, hM⟩ := hM
 obtain ⟨hc37, hM⟩ := hM
 obtain ⟨hc38, hM⟩ := hM
 obtain ⟨hc39, hM⟩ := hM
 refine k_pure (i := 21) [22] (.slice (cutA x4 x4c x28.toNat 5) ((IntKind.wrap .i64 (x32 - (imin a2 (IntKind.wrap .i64 (x6 - x10))))).toNat - x28.toNat) (x4c - x28.toNat)) (by kernel_rfl) rfl rfl (by kernel_rfl) (fun h' => rd_sSLH (P := Tryd.prog) (h := h') (t := 72) (el := 43) (sz := 5) (a := x4) (n := x4n) (c := x4c) (k := .i64) (k' := .i64) (i := x28) (j := (IntKind.wrap .i64 (x32 - (imin a2 (IntKind.wrap .i64 (x6 - x10)))))) (by kernel_rfl) (by kernel_rfl) hc36 hc37 hc38 hc39 (by kernel_rfl)) (by kernel_rfl) ?_
 refine k_eff (j := 22) (by kernel_rfl) rfl rfl (by kernel_rfl) (hpCp (t := 72) (t2 := 72) (ty := 3) (et := 43) (sz := 5) (d := (cutA x4 x4c (IntKind.wrap .i64 (x22 + (imin a2 (IntKind.wrap .i64 (x6 - x10))))).toNat 5)) (dn := (x4n - (IntKind.wrap .i64 (x22 + (imin a2 (IntKind.wrap .i64 (x6 - x10))))).toNat)) (dc := (x4c - (IntKind.wrap .i64 (x22 + (imin a2 (IntKind.wrap .i64 (x6 - x10))))).toNat)) (s := (cutA x4 x4c x28.toNat 5)) (sn := ((IntKind.wrap .i64 (x32 - (imin a2 (IntKind.wrap .i64 (x6 - x10))))).toNat - x28.toNat)) (sc := (x4c - x28.toNat)) (fun _ => by kernel_rfl) (by kernel_rfl) (by kernel_rfl) hM ?_)
 clear hM
 intro h40 hM
 refine ⟨trivial, ?_⟩
 refine k_done (by kernel_rfl) ?_
 refine thenE_n (cR ?_)
 refine oS [(58, .pointer (some p5)), (59, .pointer (some p5)), (60, .pointer (some (p5.add 9))), (61, .pointer (some (p5.add 9)))] rfl ?_
 obtain ⟨x41, hc42, hM⟩ := hM
 refine oL (.int .i64 x41) (p5.add 9) hc42 ?_
 refine oS [(5, .int .i64 x41)] rfl ?_
 refine oE (cwp_block ?_)
 obtain ⟨k_, hM⟩ := hM
 refine cwp_loop k_ (lwp_of_part (fn := Tryd.f47) (p := [1, 1, 1, 1, 1, 1, 0, 0]) (by kernel_rfl) (lwp_at 0 (.pointer (some p5)) (by kernel_rfl) (lwp_at 1 (.int .i64 (imin a2 (IntKind.wrap .i64 (x6 - x10)))) (by kernel_rfl) (lwp_at 4 (.slice x4 x4n x4c) (by kernel_rfl) (lwp_at 5 (.int .i64 x41) (by kernel_rfl) (vt_Screen_open_l0_ok _ ?_ k_ p5 (imin a2 (IntKind.wrap .i64 (x6 - x10))) x4 x4n x4c x41 _ _ hM))))))
 · intro  b63 h62 hM
   refine blockE_h ?_
   exact end_ (.tuple #[]) (by kernel_rfl) ⟨rfl, hM⟩
/- (*mullion/vt.Screen).write -/
def vt_Screen_write_j5 (Kn : Heap → Prop) (y131 : Addr) (y132 : Int) (h : Heap) : Prop :=
 stN (y131.add 18) [.bool false] 0 h fun h133 =>
 ldI h133 .i64 (y131.add 9) fun x134 =>
 stN (y131.add 9) [.int .i64 (IntKind.wrap .i64 (x134 + y132))] 0 h133 fun h137 =>
 ldI h137 .i64 (y131.add 9) fun x138 =>
 ldI h137 .i64 y131 fun x142 =>
 if x142 ≤ x138 then
  ldI h137 .i64 y131 fun x147 =>
  stN (y131.add 9) [.int .i64 (IntKind.wrap .i64 (x147 - 1))] 0 h137 fun h150 =>
  ldB h150 (y131.add 24) fun x151 =>
  stN (y131.add 18) [.bool x151] 0 h150 fun h154 =>
  Kn  h154
 else
 Kn  h137
theorem vt_Screen_write_j5_ok {Q : Exit → Env → Heap → Prop} (Kn : Heap → Prop) (hKn : ∀  (b : Env) (h : Heap), Kn  h → Q .normal b h) (y131 : Addr) (y132 : Int) (b : Env) (h : Heap) (hM : vt_Screen_write_j5 Kn y131 y132 h) : cwp Tryd.prog (partC Tryd.f36 [1, 1, 1, 1, 1, 1, 1, 1, 1, 1, 1, 1, 1, 1, 1]) 179 Q (upd (upd b 0 (.pointer (some y131))) 4 (.int .i64 y132)) h := by
  unfold vt_Screen_write_j5 at hM
  refine cwp_part rfl ?_
  refine cR ?_
  refine oS [(138, .pointer (some y131)), (139, .pointer (some y131)), (140, .pointer (some (y131.add 9))), (141, .pointer (some (y131.add 18)))] rfl ?_
  refine oT (y131.add 18) [.bool false] hM ?_
  clear hM
  intro h133 hM
  refine oE (cR ?_)
  refine oS [(142, .pointer (some y131)), (143, .pointer (some y131)), (144, .pointer (some (y131.add 9))), (145, .pointer (some (y131.add 9)))] rfl ?_
  obtain ⟨x134, hc135, hM⟩ := hM
  refine oL (.int .i64 x134) (y131.add 9) hc135 ?_
  refine oS [(147, .int .i64 y132), (148, .int .i64 (IntKind.wrap .i64 (x134 + y132))), (149, .pointer (some y131)), (150, .pointer (some (y131.add 9))), (151, .pointer (some (y131.add 9)))] rfl ?_
  refine oT (y131.add 9) [.int .i64 (IntKind.wrap .i64 (x134 + y132))] hM ?_
  clear hM
  intro h137 hM
  refine oE (cwp_seq ?_)
  refine cwp_draw (by kernel_rfl) ?_
  refine kp 0 [1, 2, 3, 4, 9] (.pointer (some y131)) ?_
  refine kp 1 [2, 3, 4, 9] (.pointer (some y131)) ?_
  refine kp 2 [3, 4, 9] (.pointer (some (y131.add 9))) ?_
  refine kp 3 [4, 9] (.pointer (some (y131.add 9))) ?_
  obtain ⟨x138, hc139, hM⟩ := hM
  refine kl 4 (.int .i64 x138) (y131.add 9) [9] [] hc139 ?_
  refine kp 5 [6, 7, 8, 9] (.pointer (some y131)) ?_
  refine kp 6 [7, 8, 9] (.pointer (some y131)) ?_
  refine kp 7 [8, 9] (.pointer (some y131)) ?_
  obtain ⟨x142, hc143, hM⟩ := hM
  refine kl 8 (.int .i64 x142) y131 [9] [] hc143 ?_
  refine kp 9 [] (.bool (decide (x142 ≤ x138))) ?_
  refine k_done (by kernel_rfl) ?_
  refine thenE_n ?_
  refine cwp_condD (x142 ≤ x138) (by kernel_rfl) (fun hc146 => ?_) (fun hc146 => ?_)
  · replace hM := ifT hc146 hM
    refine cR ?_
    refine oS [(162, .pointer (some y131)), (163, .pointer (some y131)), (164, .pointer (some y131)), (165, .pointer (some y131))] rfl ?_
    obtain ⟨x147, hc148, hM⟩ := hM
    refine oL (.int .i64 x147) y131 hc148 ?_
    refine oS [(167, .int .i64 (IntKind.wrap .i64 (x147 - 1))), (168, .pointer (some y131)), (169, .pointer (some (y131.add 9))), (170, .pointer (some (y131.add 9)))] rfl ?_
    refine oT (y131.add 9) [.int .i64 (IntKind.wrap .i64 (x147 - 1))] hM ?_
    clear hM
    intro h150 hM
    refine oE (cwp_region ?_)
    refine oS [(171, .pointer (some y131)), (172, .pointer (some y131)), (173, .pointer (some y131)), (174, .pointer (some (y131.add 24)))] rfl ?_
    obtain ⟨x151, hc152, hM⟩ := hM
    refine oL (.bool x151) (y131.add 24) hc152 ?_
    refine oS [(176, .pointer (some y131)), (177, .pointer (some (y131.add 9))), (178, .pointer (some (y131.add 18)))] rfl ?_
    refine oT (y131.add 18) [.bool x151] hM ?_
    clear hM
    intro h154 hM
    refine owp_nil ?_
    exact hKn  _ _ hM
  replace hM := ifF hc146 hM
  refine cwp_skip ?_
  exact hKn  _ _ hM
def vt_Screen_write_j4 (Kn : Heap → Prop) (y78 : Addr) (y79 : Int) (y80 : Int) (h : Heap) : Prop :=
 vt_Screen_row (some y78) (fun x82 x82n x82c h81 =>
  ldI h81 .i64 (y78.add 9) fun x83 =>
  vt_row_cut x82 x82n x82c x83 (fun  h86 =>
   ldI h86 .i64 (y78.add 9) fun x87 =>
   vt_row_cut x82 x82n x82c (IntKind.wrap .i64 (x87 + y80)) (fun  h90 =>
    ldI h90 .i64 (y78.add 9) fun x91 =>
    ldI h90 .i64 (y78.add 11) fun x95 =>
    ldI h90 .i64 (y78.add 12) fun x97 =>
    ldI h90 .i64 (y78.add 13) fun x99 =>
    nz x82 fun p109 =>
    0 ≤ x91 ∧
    x91 < (x82n : Int) ∧
    stN (p109.add ((x91).toNat * 5)) [.string (Utf8.encode y79), .int .i64 y80, .int .i64 x95, .int .i64 x97, .int .i64 x99] 0 h90 fun h110 =>
    if y80 = 2 then
     ldI h110 .i64 (y78.add 9) fun x112 =>
     ldI h110 .i64 (y78.add 11) fun x116 =>
     ldI h110 .i64 (y78.add 12) fun x118 =>
     ldI h110 .i64 (y78.add 13) fun x120 =>
     0 ≤ (IntKind.wrap .i64 (x112 + 1)) ∧
     (IntKind.wrap .i64 (x112 + 1)) < (x82n : Int) ∧
     stN (p109.add ((IntKind.wrap .i64 (x112 + 1)).toNat * 5)) [.string (⟨#[]⟩ : ByteArray), .int .i64 0, .int .i64 x116, .int .i64 x118, .int .i64 x120] 0 h110 fun h130 =>
     vt_Screen_write_j5
      (fun  h155 =>
          Kn  h155) y78 y80 h130
    else
    vt_Screen_write_j5
     (fun  h158 =>
            Kn  h158) y78 y80 h110) h86) h81) h
theorem vt_Screen_write_j4_ok {Q : Exit → Env → Heap → Prop} (Kn : Heap → Prop) (hKn : ∀  (b : Env) (h : Heap), Kn  h → Q .normal b h) (y78 : Addr) (y79 : Int) (y80 : Int) (b : Env) (h : Heap) (hM : vt_Screen_write_j4 Kn y78 y79 y80 h) : cwp Tryd.prog (partC Tryd.f36 [1, 1, 1, 1, 1, 1, 1, 1, 1, 1]) 179 Q (upd (upd (upd b 0 (.pointer (some y78))) 1 (.int .i32 y79)) 4 (.int .i64 y80)) h := by
  unfold vt_Screen_write_j4 at hM
  refine cwp_part rfl ?_
  refine cR ?_
  refine oS [(88, .pointer (some y78))] rfl ?_
  refine oG (hpCallE 48 #[.pointer (some y78)] (by kernel_rfl) (vt_Screen_row_ok (some y78) _ h hM) ?_)
  clear hM
  rintro _ h81 ⟨x82, x82n, x82c, rfl, hM⟩
  refine oS [(7, .slice x82 x82n x82c)] rfl ?_
  refine oE (cR ?_)
  refine oS [(90, .slice x82 x82n x82c), (91, .pointer (some y78)), (92, .pointer (some y78)), (93, .pointer (some (y78.add 9))), (94, .pointer (some (y78.add 9)))] rfl ?_
  obtain ⟨x83, hc84, hM⟩ := hM
  refine oL (.int .i64 x83) (y78.add 9) hc84 ?_
  refine oG (hpCallE 49 #[.slice x82 x82n x82c, .int .i64 x83] (by kernel_rfl) (vt_row_cut_ok x82 x82n x82c x83 _ h81 hM) ?_)
  clear hM
  rintro _ h86 ⟨rfl, hM⟩
  refine oE (cR ?_)
  refine oS [(97, .slice x82 x82n x82c), (98, .pointer (some y78)), (99, .pointer (some y78)), (100, .pointer (some (y78.add 9))), (101, .pointer (some (y78.add 9)))] rfl ?_
  obtain ⟨x87, hc88, hM⟩ := hM
  refine oL (.int .i64 x87) (y78.add 9) hc88 ?_
  refine oS [(103, .int .i64 y80), (104, .int .i64 (IntKind.wrap .i64 (x87 + y80)))] rfl ?_
  refine oG (hpCallE 49 #[.slice x82 x82n x82c, .int .i64 (IntKind.wrap .i64 (x87 + y80))] (by kernel_rfl) (vt_row_cut_ok x82 x82n x82c (IntKind.wrap .i64 (x87 + y80)) _ h86 hM) ?_)
  clear hM
  rintro _ h90 ⟨rfl, hM⟩
  refine oE (cwp_seq ?_)
  refine cwp_draw (by kernel_rfl) ?_
  refine kp 0 [15, 16] (.slice x82 x82n x82c) ?_
  refine kp 1 [2, 3, 4, 5, 15, 16] (.pointer (some y78)) ?_
  refine kp 2 [3, 4, 5, 15, 16] (.pointer (some y78)) ?_
  refine kp 3 [4, 5, 15, 16] (.pointer (some (y78.add 9))) ?_
  refine kp 4 [5, 15, 16] (.pointer (some (y78.add 9))) ?_
  obtain ⟨x91, hc92, hM⟩ := hM
  refine kl 5 (.int .i64 x91) (y78.add 9) [15, 16] [16] hc92 ?_
  refine kp 6 [7, 14, 15, 16] (.int .i32 y79) ?_
  refine kp 7 [14, 15, 16] (.string (Utf8.encode y79)) ?_
  refine kp 8 [14, 15, 16] (.int .i64 y80) ?_
  refine kp 9 [10, 11, 12, 13, 14, 15, 16] (.pointer (some y78)) ?_
  refine kp 10 [11, 12, 13, 14, 15, 16] (.pointer (some y78)) ?_
  refine kp 11 [12, 13, 14, 15, 16] (.pointer (some (y78.add 9))) ?_
  refine kp 12 [13, 14, 15, 16] (.pointer (some (y78.add 11))) ?_
  obtain ⟨x95, hc96, hM⟩ := hM
  obtain ⟨x97, hc98, hM⟩ := hM
  obtain ⟨x99, hc100, hM⟩ := hM
  refine k_load (i := 13) (.agg #[.int .i64 x95, .int .i64 x97, .int .i64 x99]) (fun h' => cellH h' (y78.add 11) = some (.int .i64 x95) ∧ cellH h' (y78.add 12) = some (.int .i64 x97) ∧ cellH h' (y78.add 13) = some (.int .i64 x99) ∧ True) [14, 15, 16] [16] (by kernel_rfl) (by kernel_rfl) rfl rfl (by kernel_rfl) (fun h' hS => Eq.trans (b := (cellH h' (y78.add 11)).bind fun v104 => (cellH h' (y78.add 12)).bind fun v105 => (cellH h' (y78.add 13)).bind fun v106 => some (.value (.agg #[v104, v105, v106]))) (by kernel_rfl) ((bindE hS.1 _).trans ((bindE hS.2.1 _).trans (bindE hS.2.2.1 _)))) ⟨hc96, hc98, hc100, trivial⟩ (by kernel_rfl) ?_
  refine kp 14 [15, 16] (.agg #[.string (Utf8.encode y79), .int .i64 y80, .int .i64 x95, .int .i64 x97, .int .i64 x99]) ?_
  obtain ⟨p109, rfl, hM⟩ := hM
  obtain ⟨hc107, hM⟩ := hM
  obtain ⟨hc108, hM⟩ := hM
  refine k_pure (i := 15) [16] (.pointer (some (p109.add ((x91).toNat * 5)))) (by kernel_rfl) rfl rfl (by kernel_rfl) (fun h' => rd_ixS (P := Tryd.prog) (h := h') (t := 72) (el := 43) (sz := 5) (ad := p109) (len := x82n) (c := x82c) (k := .i64) (i := x91) (by kernel_rfl) (by kernel_rfl) hc107 hc108 (by kernel_rfl)) (by kernel_rfl) ?_
  refine k_effD (j := 16) (by kernel_rfl) rfl rfl (by kernel_rfl) (hpSt (p109.add ((x91).toNat * 5)) [.string (Utf8.encode y79), .int .i64 y80, .int .i64 x95, .int .i64 x97, .int .i64 x99] (fun _ => by kernel_rfl) (by kernel_rfl) hM ?_)
  clear hM
  intro h110 hM
  refine ⟨trivial, ?_⟩
  refine k_done (by kernel_rfl) ?_
  refine thenE_n (cwp_seq (cR ?_))
  refine oS [(122, .int .i64 y80), (123, .bool (decide (y80 = 2)))] rfl ?_
  refine oE ?_
  refine cwp_condD (y80 = 2) (by kernel_rfl) (fun hc111 => ?_) (fun hc111 => ?_)
  · replace hM := ifT hc111 hM
    refine cwp_draw (by kernel_rfl) ?_
    refine kp 0 [13, 14] (.slice (some p109) x82n x82c) ?_
    refine kp 1 [2, 3, 4, 5, 6, 13, 14] (.pointer (some y78)) ?_
    refine kp 2 [3, 4, 5, 6, 13, 14] (.pointer (some y78)) ?_
    refine kp 3 [4, 5, 6, 13, 14] (.pointer (some (y78.add 9))) ?_
    refine kp 4 [5, 6, 13, 14] (.pointer (some (y78.add 9))) ?_
    obtain ⟨x112, hc113, hM⟩ := hM
    refine kl 5 (.int .i64 x112) (y78.add 9) [6, 13, 14] [14] hc113 ?_
    refine kp 6 [13, 14] (.int .i64 (IntKind.wrap .i64 (x112 + 1))) ?_
    refine kp 7 [8, 9, 10, 11, 12, 13, 14] (.pointer (some y78)) ?_
    refine kp 8 [9, 10, 11, 12, 13, 14] (.pointer (some y78)) ?_
    refine kp 9 [10, 11, 12, 13, 14] (.pointer (some (y78.add 9))) ?_
    refine kp 10 [11, 12, 13, 14] (.pointer (some (y78.add 11))) ?_
    obtain ⟨x116, hc117, hM⟩ := hM
    obtain ⟨x118, hc119, hM⟩ := hM
    obtain ⟨x120, hc121, hM⟩ := hM
    refine k_load (i := 11) (.agg #[.int .i64 x116, .int .i64 x118, .int .i64 x120]) (fun h' => cellH h' (y78.add 11) = some (.int .i64 x116) ∧ cellH h' (y78.add 12) = some (.int .i64 x118) ∧ cellH h' (y78.add 13) = some (.int .i64 x120) ∧ True) [12, 13, 14] [14] (by kernel_rfl) (by kernel_rfl) rfl rfl (by kernel_rfl) (fun h' hS => Eq.trans (b := (cellH h' (y78.add 11)).bind fun v125 => (cellH h' (y78.add 12)).bind fun v126 => (cellH h' (y78.add 13)).bind fun v127 => some (.value (.agg #[v125, v126, v127]))) (by kernel_rfl) ((bindE hS.1 _).trans ((bindE hS.2.1 _).trans (bindE hS.2.2.1 _)))) ⟨hc117, hc119, hc121, trivial⟩ (by kernel_rfl) ?_
    refine kp 12 [13, 14] (.agg #[.string (⟨#[]⟩ : ByteArray), .int .i64 0, .int .i64 x116, .int .i64 x118, .int .i64 x120]) ?_
    obtain ⟨hc128, hM⟩ := hM
    obtain ⟨hc129, hM⟩ := hM
    refine k_pure (i := 13) [14] (.pointer (some (p109.add ((IntKind.wrap .i64 (x112 + 1)).toNat * 5)))) (by kernel_rfl) rfl rfl (by kernel_rfl) (fun h' => rd_ixS (P := Tryd.prog) (h := h') (t := 72) (el := 43) (sz := 5) (ad := p109) (len := x82n) (c := x82c) (k := .i64) (i := (IntKind.wrap .i64 (x112 + 1))) (by kernel_rfl) (by kernel_rfl) hc128 hc129 (by kernel_rfl)) (by kernel_rfl) ?_
    refine k_effD (j := 14) (by kernel_rfl) rfl rfl (by kernel_rfl) (hpSt (p109.add ((IntKind.wrap .i64 (x112 + 1)).toNat * 5)) [.string (⟨#[]⟩ : ByteArray), .int .i64 0, .int .i64 x116, .int .i64 x118, .int .i64 x120] (fun _ => by kernel_rfl) (by kernel_rfl) hM ?_)
    clear hM
    intro h130 hM
    refine ⟨trivial, ?_⟩
    refine k_done (by kernel_rfl) ?_
    refine thenE_n ?_
    refine cwp_of_part (fn := Tryd.f36) (p := [1, 1, 1, 1, 1, 1, 1, 1, 1, 1, 1, 1, 1, 1, 1]) (by kernel_rfl) (cwp_at 0 (.pointer (some y78)) (by kernel_rfl) (cwp_at 4 (.int .i64 y80) (by kernel_rfl) (vt_Screen_write_j5_ok _ ?_ y78 y80 _ _ hM)))
    · intro  b156 h155 hM
      exact hKn  _ _ hM
  replace hM := ifF hc111 hM
  refine cwp_skip (thenE_n ?_)
  refine cwp_of_part (fn := Tryd.f36) (p := [1, 1, 1, 1, 1, 1, 1, 1, 1, 1, 1, 1, 1, 1, 1]) (by kernel_rfl) (cwp_at 0 (.pointer (some y78)) (by kernel_rfl) (cwp_at 4 (.int .i64 y80) (by kernel_rfl) (vt_Screen_write_j5_ok _ ?_ y78 y80 _ _ hM)))
  · intro  b159 h158 hM
    exact hKn  _ _ hM
def vt_Screen_write_j3 (Kn : Heap → Prop) (y68 : Addr) (y69 : Int) (y70 : Int) (y71 : Int) (h : Heap) : Prop :=
 stN (y68.add 40) [.int .i32 y71] 0 h fun h72 =>
 ldB h72 (y68.add 22) fun x73 =>
 if x73 = true then
  vt_Screen_open (some y68) y70 (fun  h77 =>
   vt_Screen_write_j4
    (fun  h161 =>
         Kn  h161) y68 y69 y70 h77) h72
 else
 vt_Screen_write_j4
  (fun  h164 =>
      Kn  h164) y68 y69 y70 h72
theorem vt_Screen_write_j3_ok {Q : Exit → Env → Heap → Prop} (Kn : Heap → Prop) (hKn : ∀  (b : Env) (h : Heap), Kn  h → Q .normal b h) (y68 : Addr) (y69 : Int) (y70 : Int) (y71 : Int) (b : Env) (h : Heap) (hM : vt_Screen_write_j3 Kn y68 y69 y70 y71 h) : cwp Tryd.prog (partC Tryd.f36 [1, 1, 1, 1, 1, 1, 1, 1]) 179 Q (upd (upd (upd (upd b 0 (.pointer (some y68))) 1 (.int .i32 y69)) 4 (.int .i64 y70)) 5 (.int .i32 y71)) h := by
  unfold vt_Screen_write_j3 at hM
  refine cwp_part rfl ?_
  refine cR ?_
  refine oS [(77, .pointer (some y68)), (78, .int .i32 y71), (79, .pointer (some y68)), (80, .pointer (some (y68.add 40)))] rfl ?_
  refine oT (y68.add 40) [.int .i32 y71] hM ?_
  clear hM
  intro h72 hM
  refine oE (cwp_seq (cR ?_))
  refine oS [(81, .pointer (some y68)), (82, .pointer (some y68)), (83, .pointer (some (y68.add 22)))] rfl ?_
  obtain ⟨x73, hc74, hM⟩ := hM
  refine oL (.bool x73) (y68.add 22) hc74 ?_
  refine oE ?_
  refine cwp_condB x73 (by kernel_rfl) (fun hc76 => ?_) (fun hc76 => ?_)
  · replace hM := ifT hc76 hM
    refine cwp_region ?_
    refine oS [(85, .pointer (some y68)), (86, .int .i64 y70)] rfl ?_
    refine oG (hpCallE 47 #[.pointer (some y68), .int .i64 y70] (by kernel_rfl) (vt_Screen_open_ok (some y68) y70 _ h72 hM) ?_)
    clear hM
    rintro _ h77 ⟨rfl, hM⟩
    refine oE ?_
    refine cwp_of_part (fn := Tryd.f36) (p := [1, 1, 1, 1, 1, 1, 1, 1, 1, 1]) (by kernel_rfl) (cwp_at 0 (.pointer (some y68)) (by kernel_rfl) (cwp_at 1 (.int .i32 y69) (by kernel_rfl) (cwp_at 4 (.int .i64 y70) (by kernel_rfl) (vt_Screen_write_j4_ok _ ?_ y68 y69 y70 _ _ hM))))
    · intro  b162 h161 hM
      exact hKn  _ _ hM
  replace hM := ifF hc76 hM
  refine cwp_skip (thenE_n ?_)
  refine cwp_of_part (fn := Tryd.f36) (p := [1, 1, 1, 1, 1, 1, 1, 1, 1, 1]) (by kernel_rfl) (cwp_at 0 (.pointer (some y68)) (by kernel_rfl) (cwp_at 1 (.int .i32 y69) (by kernel_rfl) (cwp_at 4 (.int .i64 y70) (by kernel_rfl) (vt_Screen_write_j4_ok _ ?_ y68 y69 y70 _ _ hM))))
  · intro  b165 h164 hM
    exact hKn  _ _ hM
def vt_Screen_write_j2 (Kn : Heap → Prop) (Kr : Heap → Prop) (y41 : Addr) (y42 : Int) (y43 : Int) (y44 : Int) (h : Heap) : Prop :=
 if y43 = 2 then
  ldI h .i64 (y41.add 9) fun x46 =>
  ldI h .i64 y41 fun x50 =>
  if x46 = (IntKind.wrap .i64 (x50 - 1)) then
   ldB h (y41.add 24) fun x55 =>
   if (!x55) = true then
    Kr  h
   else
   ldI h .i64 y41 fun x62 =>
   if x62 = 1 then
    Kr  h
   else
   stN (y41.add 9) [.int .i64 0] 0 h fun h66 =>
   vt_Screen_feed (some y41) (fun  h67 =>
    vt_Screen_write_j3
     (fun  h167 =>
          Kn  h167) y41 y42 y43 y44 h67) h66
  else
  vt_Screen_write_j3
   (fun  h170 =>
       Kn  h170) y41 y42 y43 y44 h
 else
 vt_Screen_write_j3
  (fun  h173 =>
      Kn  h173) y41 y42 y43 y44 h
theorem vt_Screen_write_j2_ok {Q : Exit → Env → Heap → Prop} (Kn : Heap → Prop) (hKn : ∀  (b : Env) (h : Heap), Kn  h → Q .normal b h) (Kr : Heap → Prop) (hKr : ∀  (b : Env) (h : Heap), Kr  h → Q .ret b h) (y41 : Addr) (y42 : Int) (y43 : Int) (y44 : Int) (b : Env) (h : Heap) (hM : vt_Screen_write_j2 Kn Kr y41 y42 y43 y44 h) : cwp Tryd.prog (partC Tryd.f36 [1, 1, 1, 1, 1, 1, 1]) 179 Q (upd (upd (upd (upd b 0 (.pointer (some y41))) 1 (.int .i32 y42)) 4 (.int .i64 y43)) 5 (.int .i32 y44)) h := by
  unfold vt_Screen_write_j2 at hM
  refine cwp_part rfl ?_
  refine cwp_seq (cwp_seq ?_)
  refine cwp_draw (by kernel_rfl) ?_
  refine kp 0 [1, 2, 3, 4, 5, 6, 7, 8, 9, 10, 11, 12, 13, 14] (.int .i64 y43) ?_
  refine kp 1 [2, 3, 4, 5, 6, 7, 8, 9, 10, 11, 12, 13, 14] (.bool (decide (y43 = 2))) ?_
  refine kp 2 [3, 4, 5, 6, 7, 8, 9, 10, 11, 12, 13, 14] (.bool (decide (y43 = 2))) ?_
  by_cases hc45 : y43 = 2
  · refine kA 45 true (decide (y43 = 2)) (by rw [decide_eq_true hc45]) ?_
    refine kA 46 true (decide (y43 = 2)) (by rw [decide_eq_true hc45]) ?_
    replace hM := ifT hc45 hM
    refine kp 3 [4, 5, 6, 7, 13, 14] (.pointer (some y41)) ?_
    refine kp 4 [5, 6, 7, 13, 14] (.pointer (some y41)) ?_
    refine kp 5 [6, 7, 13, 14] (.pointer (some (y41.add 9))) ?_
    refine kp 6 [7, 13, 14] (.pointer (some (y41.add 9))) ?_
    obtain ⟨x46, hc47, hM⟩ := hM
    refine kl 7 (.int .i64 x46) (y41.add 9) [13, 14] [] hc47 ?_
    refine kp 8 [9, 10, 11, 12, 13, 14] (.pointer (some y41)) ?_
    refine kp 9 [10, 11, 12, 13, 14] (.pointer (some y41)) ?_
    refine kp 10 [11, 12, 13, 14] (.pointer (some y41)) ?_
    obtain ⟨x50, hc51, hM⟩ := hM
    refine kl 11 (.int .i64 x50) y41 [12, 13, 14] [] hc51 ?_
    refine kp 12 [13, 14] (.int .i64 (IntKind.wrap .i64 (x50 - 1))) ?_
    refine kp 13 [14] (.bool (decide (x46 = (IntKind.wrap .i64 (x50 - 1))))) ?_
    refine kp 14 [] (.bool (decide (x46 = (IntKind.wrap .i64 (x50 - 1))))) ?_
    refine k_done (by kernel_rfl) ?_
    refine thenE_n ?_
    refine cwp_condD (x46 = (IntKind.wrap .i64 (x50 - 1))) (by kernel_rfl) (fun hc54 => ?_) (fun hc54 => ?_)
    · replace hM := ifT hc54 hM
      refine cwp_seq (cR ?_)
      refine oS [(59, .pointer (some y41)), (60, .pointer (some y41)), (61, .pointer (some (y41.add 24)))] rfl ?_
      obtain ⟨x55, hc56, hM⟩ := hM
      refine oL (.bool x55) (y41.add 24) hc56 ?_
      refine oS [(63, .bool (!x55)), (64, .bool (!x55))] rfl ?_
      by_cases hc61 : (!x55) = true
      · refine oA 63 true (!x55) (by rw [hc61]) ?_
        refine oA 64 true (!x55) (by rw [hc61]) ?_
        replace hM := ifT hc61 hM
        refine oS [(65, undef), (66, undef), (67, undef), (68, undef), (69, undef), (70, .bool true)] rfl ?_
        refine oE ?_
        refine cwp_cond (t := true) (by kernel_rfl) (fun hx_ => ?_) (fun hx_ => ?_)
        all_goals first | (cases hx_; done) | skip
        refine cwp_ret (thenE_r (thenE_r ?_))
        exact hKr  _ _ hM
      refine oA 63 false (!x55) (by rw [Bool.eq_false_iff.2 hc61]) ?_
      refine oA 64 false (!x55) (by rw [Bool.eq_false_iff.2 hc61]) ?_
      replace hM := ifF hc61 hM
      refine oS [(65, .pointer (some y41)), (66, .pointer (some y41)), (67, .pointer (some y41))] rfl ?_
      obtain ⟨x62, hc63, hM⟩ := hM
      refine oL (.int .i64 x62) y41 hc63 ?_
      refine oS [(69, .bool (decide (x62 = 1))), (70, .bool (decide (x62 = 1)))] rfl ?_
      refine oE ?_
      refine cwp_condD (x62 = 1) (by kernel_rfl) (fun hc65 => ?_) (fun hc65 => ?_)
      · replace hM := ifT hc65 hM
        refine cwp_ret (thenE_r (thenE_r ?_))
        exact hKr  _ _ hM
      replace hM := ifF hc65 hM
      refine cwp_skip (thenE_n (cR ?_))
      refine oS [(71, .pointer (some y41)), (72, .pointer (some y41)), (73, .pointer (some (y41.add 9))), (74, .pointer (some (y41.add 9)))] rfl ?_
      refine oT (y41.add 9) [.int .i64 0] hM ?_
      clear hM
      intro h66 hM
      refine oE (cwp_region ?_)
      refine oS [(75, .pointer (some y41))] rfl ?_
      refine oG (hpCallE 46 #[.pointer (some y41)] (by kernel_rfl) (vt_Screen_feed_ok (some y41) _ h66 hM) ?_)
      clear hM
      rintro _ h67 ⟨rfl, hM⟩
      refine oE ?_
      refine cwp_of_part (fn := Tryd.f36) (p := [1, 1, 1, 1, 1, 1, 1, 1]) (by kernel_rfl) (cwp_at 0 (.pointer (some y41)) (by kernel_rfl) (cwp_at 1 (.int .i32 y42) (by kernel_rfl) (cwp_at 4 (.int .i64 y43) (by kernel_rfl) (cwp_at 5 (.int .i32 y44) (by kernel_rfl) (vt_Screen_write_j3_ok _ ?_ y41 y42 y43 y44 _ _ hM)))))
      · intro  b168 h167 hM
        exact hKn  _ _ hM
    replace hM := ifF hc54 hM
    refine cwp_skip (thenE_n ?_)
    refine cwp_of_part (fn := Tryd.f36) (p := [1, 1, 1, 1, 1, 1, 1, 1]) (by kernel_rfl) (cwp_at 0 (.pointer (some y41)) (by kernel_rfl) (cwp_at 1 (.int .i32 y42) (by kernel_rfl) (cwp_at 4 (.int .i64 y43) (by kernel_rfl) (cwp_at 5 (.int .i32 y44) (by kernel_rfl) (vt_Screen_write_j3_ok _ ?_ y41 y42 y43 y44 _ _ hM)))))
    · intro  b171 h170 hM
      exact hKn  _ _ hM
  refine kA 45 false (decide (y43 = 2)) (by rw [decide_eq_false hc45]) ?_
  refine kA 46 false (decide (y43 = 2)) (by rw [decide_eq_false hc45]) ?_
  replace hM := ifF hc45 hM
  refine kn 3 [4, 5, 6, 7, 13, 14] ?_
  refine kn 4 [5, 6, 7, 13, 14] ?_
  refine kn 5 [6, 7, 13, 14] ?_
  refine kn 6 [7, 13, 14] ?_
  refine kn 7 [13, 14] ?_
  refine kn 8 [9, 10, 11, 12, 13, 14] ?_
  refine kn 9 [10, 11, 12, 13, 14] ?_
  refine kn 10 [11, 12, 13, 14] ?_
  refine kn 11 [12, 13, 14] ?_
  refine kn 12 [13, 14] ?_
  refine kn 13 [14] ?_
  refine kp 14 [] (.bool false) ?_
  refine k_done (by kernel_rfl) ?_
  refine thenE_n ?_
  refine cwp_cond (t := false) (by kernel_rfl) (fun hx_ => ?_) (fun hx_ => ?_)
  all_goals first | (cases hx_; done) | skip
  refine cwp_skip (thenE_n ?_)
  refine cwp_of_part (fn := Tryd.f36) (p := [1, 1, 1, 1, 1, 1, 1, 1]) (by kernel_rfl) (cwp_at 0 (.pointer (some y41)) (by kernel_rfl) (cwp_at 1 (.int .i32 y42) (by kernel_rfl) (cwp_at 4 (.int .i64 y43) (by kernel_rfl) (cwp_at 5 (.int .i32 y44) (by kernel_rfl) (vt_Screen_write_j3_ok _ ?_ y41 y42 y43 y44 _ _ hM)))))
  · intro  b174 h173 hM
    exact hKn  _ _ hM
def vt_Screen_write_j1 (Kn : Heap → Prop) (Kr : Heap → Prop) (y24 : Addr) (y25 : Int) (y26 : Int) (y27 : Int) (h : Heap) : Prop :=
 ldB h (y24.add 18) fun x28 =>
 if x28 = true then
  ldB h (y24.add 24) fun x35 =>
  if x35 = true then
   stN (y24.add 9) [.int .i64 0] 0 h fun h39 =>
   vt_Screen_feed (some y24) (fun  h40 =>
    vt_Screen_write_j2
     (fun  h176 =>
         Kn  h176)
     (fun  h178 =>
          Kr  h178) y24 y25 y26 y27 h40) h39
  else
  vt_Screen_write_j2
   (fun  h181 =>
       Kn  h181)
   (fun  h183 =>
       Kr  h183) y24 y25 y26 y27 h
 else
 vt_Screen_write_j2
  (fun  h186 =>
      Kn  h186)
  (fun  h188 =>
      Kr  h188) y24 y25 y26 y27 h
theorem vt_Screen_write_j1_ok {Q : Exit → Env → Heap → Prop} (Kn : Heap → Prop) (hKn : ∀  (b : Env) (h : Heap), Kn  h → Q .normal b h) (Kr : Heap → Prop) (hKr : ∀  (b : Env) (h : Heap), Kr  h → Q .ret b h) (y24 : Addr) (y25 : Int) (y26 : Int) (y27 : Int) (b : Env) (h : Heap) (hM : vt_Screen_write_j1 Kn Kr y24 y25 y26 y27 h) : cwp Tryd.prog (partC Tryd.f36 [1, 1, 1, 1, 1, 1]) 179 Q (upd (upd (upd (upd b 0 (.pointer (some y24))) 1 (.int .i32 y25)) 4 (.int .i64 y26)) 5 (.int .i32 y27)) h := by
  unfold vt_Screen_write_j1 at hM
  refine cwp_part rfl ?_
  refine cwp_seq (cR ?_)
  refine oS [(27, .pointer (some y24)), (28, .pointer (some y24)), (29, .pointer (some (y24.add 9))), (30, .pointer (some (y24.add 18)))] rfl ?_
  obtain ⟨x28, hc29, hM⟩ := hM
  refine oL (.bool x28) (y24.add 18) hc29 ?_
  refine oS [(32, .bool x28)] rfl ?_
  by_cases hc34 : x28 = true
  · refine oA 31 true x28 (by rw [hc34]) ?_
    refine oA 32 true x28 (by rw [hc34]) ?_
    replace hM := ifT hc34 hM
    refine oS [(33, .pointer (some y24)), (34, .pointer (some y24)), (35, .pointer (some (y24.add 24)))] rfl ?_
    obtain ⟨x35, hc36, hM⟩ := hM
    refine oL (.bool x35) (y24.add 24) hc36 ?_
    refine oS [(37, .bool x35)] rfl ?_
    refine oE ?_
    refine cwp_condB x35 (by kernel_rfl) (fun hc38 => ?_) (fun hc38 => ?_)
    · replace hM := ifT hc38 hM
      refine cR ?_
      refine oS [(38, .pointer (some y24)), (39, .pointer (some y24)), (40, .pointer (some (y24.add 9))), (41, .pointer (some (y24.add 9)))] rfl ?_
      refine oT (y24.add 9) [.int .i64 0] hM ?_
      clear hM
      intro h39 hM
      refine oE (cwp_region ?_)
      refine oS [(42, .pointer (some y24))] rfl ?_
      refine oG (hpCallE 46 #[.pointer (some y24)] (by kernel_rfl) (vt_Screen_feed_ok (some y24) _ h39 hM) ?_)
      clear hM
      rintro _ h40 ⟨rfl, hM⟩
      refine oE ?_
      refine cwp_of_part (fn := Tryd.f36) (p := [1, 1, 1, 1, 1, 1, 1]) (by kernel_rfl) (cwp_at 0 (.pointer (some y24)) (by kernel_rfl) (cwp_at 1 (.int .i32 y25) (by kernel_rfl) (cwp_at 4 (.int .i64 y26) (by kernel_rfl) (cwp_at 5 (.int .i32 y27) (by kernel_rfl) (vt_Screen_write_j2_ok _ ?_ _ ?_ y24 y25 y26 y27 _ _ hM)))))
      · intro  b177 h176 hM
        exact hKn  _ _ hM
      · intro  b179 h178 hM
        exact hKr  _ _ hM
    replace hM := ifF hc38 hM
    refine cwp_skip (thenE_n ?_)
    refine cwp_of_part (fn := Tryd.f36) (p := [1, 1, 1, 1, 1, 1, 1]) (by kernel_rfl) (cwp_at 0 (.pointer (some y24)) (by kernel_rfl) (cwp_at 1 (.int .i32 y25) (by kernel_rfl) (cwp_at 4 (.int .i64 y26) (by kernel_rfl) (cwp_at 5 (.int .i32 y27) (by kernel_rfl) (vt_Screen_write_j2_ok _ ?_ _ ?_ y24 y25 y26 y27 _ _ hM)))))
    · intro  b182 h181 hM
      exact hKn  _ _ hM
    · intro  b184 h183 hM
      exact hKr  _ _ hM
  refine oA 31 false x28 (by rw [Bool.eq_false_iff.2 hc34]) ?_
  refine oA 32 false x28 (by rw [Bool.eq_false_iff.2 hc34]) ?_
  replace hM := ifF hc34 hM
  refine oS [(33, undef), (34, undef), (35, undef), (36, undef), (37, .bool false)] rfl ?_
  refine oE ?_
  refine cwp_cond (t := false) (by kernel_rfl) (fun hx_ => ?_) (fun hx_ => ?_)
  all_goals first | (cases hx_; done) | skip
  refine cwp_skip (thenE_n ?_)
  refine cwp_of_part (fn := Tryd.f36) (p := [1, 1, 1, 1, 1, 1, 1]) (by kernel_rfl) (cwp_at 0 (.pointer (some y24)) (by kernel_rfl) (cwp_at 1 (.int .i32 y25) (by kernel_rfl) (cwp_at 4 (.int .i64 y26) (by kernel_rfl) (cwp_at 5 (.int .i32 y27) (by kernel_rfl) (vt_Screen_write_j2_ok _ ?_ _ ?_ y24 y25 y26 y27 _ _ hM)))))
  · intro  b187 h186 hM
    exact hKn  _ _ hM
  · intro  b189 h188 hM
    exact hKr  _ _ hM
def vt_Screen_write_j0 (Kn : Heap → Prop) (Kr : Heap → Prop) (y11 : Addr) (y12 : Int) (y13 : Int) (y14 : Int) (y15 : Int) (h : Heap) : Prop :=
 0 ≤ y15 ∧
 y15 < (2 : Int) ∧
 ldB h ((y11.add 15).add (y15.toNat * 1)) fun x18 =>
 if x18 = true then
  gap h fun h22 =>
  vt_Screen_write_j1
   (fun  h191 =>
       Kn  h191)
   (fun  h193 =>
       Kr  h193) y11 (vt_drawn y12) y13 y14 h22
 else
 vt_Screen_write_j1
  (fun  h196 =>
      Kn  h196)
  (fun  h198 =>
      Kr  h198) y11 y12 y13 y14 h
theorem vt_Screen_write_j0_ok {Q : Exit → Env → Heap → Prop} (Kn : Heap → Prop) (hKn : ∀  (b : Env) (h : Heap), Kn  h → Q .normal b h) (Kr : Heap → Prop) (hKr : ∀  (b : Env) (h : Heap), Kr  h → Q .ret b h) (y11 : Addr) (y12 : Int) (y13 : Int) (y14 : Int) (y15 : Int) (b : Env) (h : Heap) (hM : vt_Screen_write_j0 Kn Kr y11 y12 y13 y14 y15 h) : cwp Tryd.prog (partC Tryd.f36 [1, 1, 1, 1, 1]) 179 Q (upd (upd (upd (upd (upd b 0 (.pointer (some y11))) 1 (.int .i32 y12)) 4 (.int .i64 y13)) 5 (.int .i32 y14)) 6 (.int .i64 y15)) h := by
  unfold vt_Screen_write_j0 at hM
  refine cwp_part rfl ?_
  refine cwp_seq (cR ?_)
  refine oS [(18, .pointer (some y11)), (19, .int .i64 y15), (20, .pointer (some y11)), (21, .pointer (some (y11.add 9))), (22, .pointer (some (y11.add 15)))] rfl ?_
  obtain ⟨hc16, hM⟩ := hM
  obtain ⟨hc17, hM⟩ := hM
  refine owp_rdG (.pointer (some ((y11.add 15).add (y15.toNat * 1)))) rfl (by kernel_rfl) (rd_ixA (P := Tryd.prog) (h := h) (t := 61) (el := 4) (sz := 1) (len := 2) (ad := (y11.add 15)) (k := .i64) (i := y15) (by kernel_rfl) (by kernel_rfl) hc16 hc17 (by kernel_rfl)) ?_
  obtain ⟨x18, hc19, hM⟩ := hM
  refine oL (.bool x18) ((y11.add 15).add (y15.toNat * 1)) hc19 ?_
  refine oE ?_
  refine cwp_condB x18 (by kernel_rfl) (fun hc21 => ?_) (fun hc21 => ?_)
  · replace hM := ifT hc21 hM
    refine cwp_region ?_
    refine oS [(25, .int .i32 y12)] rfl ?_
    refine oG (hpCallP 45 #[.int .i32 y12] (.int .i32 (vt_drawn y12)) (by kernel_rfl) (vt_drawn_ok y12 _ h rfl) ?_)
    intro h22 hx23
    refine oS [(1, .int .i32 (vt_drawn y12))] rfl ?_
    refine oE ?_
    replace hM := hM _ hx23
    refine cwp_of_part (fn := Tryd.f36) (p := [1, 1, 1, 1, 1, 1]) (by kernel_rfl) (cwp_at 0 (.pointer (some y11)) (by kernel_rfl) (cwp_at 1 (.int .i32 (vt_drawn y12)) (by kernel_rfl) (cwp_at 4 (.int .i64 y13) (by kernel_rfl) (cwp_at 5 (.int .i32 y14) (by kernel_rfl) (vt_Screen_write_j1_ok _ ?_ _ ?_ y11 (vt_drawn y12) y13 y14 _ _ hM)))))
    · intro  b192 h191 hM
      exact hKn  _ _ hM
    · intro  b194 h193 hM
      exact hKr  _ _ hM
  replace hM := ifF hc21 hM
  refine cwp_skip (thenE_n ?_)
  refine cwp_of_part (fn := Tryd.f36) (p := [1, 1, 1, 1, 1, 1]) (by kernel_rfl) (cwp_at 0 (.pointer (some y11)) (by kernel_rfl) (cwp_at 1 (.int .i32 y12) (by kernel_rfl) (cwp_at 4 (.int .i64 y13) (by kernel_rfl) (cwp_at 5 (.int .i32 y14) (by kernel_rfl) (vt_Screen_write_j1_ok _ ?_ _ ?_ y11 y12 y13 y14 _ _ hM)))))
  · intro  b197 h196 hM
    exact hKn  _ _ hM
  · intro  b199 h198 hM
    exact hKr  _ _ hM
def vt_Screen_write (a1 : Option Addr) (a2 : Int) (K : Heap → Prop) (h : Heap) : Prop :=
 vt_Width a2 (fun x4 h3 =>
  if x4 < 1 then
   K h3
  else
  nz a1 fun p6 =>
  ldB h3 (p6.add 17) fun x7 =>
  if x7 = true then
   vt_Screen_write_j0
    (fun  h201 =>
        K h201)
    (fun  h203 =>
        K h203) p6 a2 x4 a2 1 h3
  else
  vt_Screen_write_j0
   (fun  h206 =>
       K h206)
   (fun  h208 =>
        K h208) p6 a2 x4 a2 0 h3) h
theorem vt_Screen_write_ok (a1 : Option Addr) (a2 : Int) (K : Heap → Prop) (h : Heap) (hM : vt_Screen_write a1 a2 K h) : CallsH Tryd.prog 36 #[.pointer a1, .int .i32 a2] (fun v h' => v = .tuple #[] ∧ K h') h := by
 unfold vt_Screen_write at hM
 refine callsH_intro (n := 179) Tryd.func36 rfl rfl (by kernel_rfl) ?_
 refine cR ?_
 refine oS [(8, .int .i32 a2)] rfl ?_
 refine oG (hpCallE 6 #[.int .i32 a2] (by kernel_rfl) (vt_Width_ok a2 _ h hM) ?_)
 clear hM
 rintro _ h3 ⟨x4, rfl, hM⟩
 refine oS [(4, .int .i64 x4)] rfl ?_
 refine oE (cwp_seq (cR ?_))
 refine oS [(10, .int .i64 x4), (11, .bool (decide (x4 < 1)))] rfl ?_
 refine oE ?_
 refine cwp_condD (x4 < 1) (by kernel_rfl) (fun hc5 => ?_) (fun hc5 => ?_)
 · replace hM := ifT hc5 hM
   refine cwp_ret (thenE_r ?_)
   exact ret_ (.tuple #[]) (by kernel_rfl) ⟨rfl, hM⟩
 replace hM := ifF hc5 hM
 refine cwp_skip (thenE_n (cR ?_))
 refine oS [(12, .int .i32 a2), (5, .int .i32 a2)] rfl ?_
 refine oE (cR ?_)
 refine oS [(6, .int .i64 0)] rfl ?_
 refine oE (cwp_seq (cR ?_))
 refine oS [(13, .pointer a1)] rfl ?_
 obtain ⟨p6, rfl, hM⟩ := hM
 refine owp_rdG (.pointer (some p6)) rfl (by kernel_rfl) (by kernel_rfl) ?_
 refine oS [(15, .pointer (some (p6.add 9))), (16, .pointer (some (p6.add 17)))] rfl ?_
 obtain ⟨x7, hc8, hM⟩ := hM
 refine oL (.bool x7) (p6.add 17) hc8 ?_
 refine oE ?_
 refine cwp_condB x7 (by kernel_rfl) (fun hc10 => ?_) (fun hc10 => ?_)
 · replace hM := ifT hc10 hM
   refine cwp_region ?_
   refine oS [(6, .int .i64 1)] rfl ?_
   refine oE ?_
   refine cwp_of_part (fn := Tryd.f36) (p := [1, 1, 1, 1, 1]) (by kernel_rfl) (cwp_at 0 (.pointer (some p6)) (by kernel_rfl) (cwp_at 1 (.int .i32 a2) (by kernel_rfl) (cwp_at 4 (.int .i64 x4) (by kernel_rfl) (cwp_at 5 (.int .i32 a2) (by kernel_rfl) (cwp_at 6 (.int .i64 1) (by kernel_rfl) (vt_Screen_write_j0_ok _ ?_ _ ?_ p6 a2 x4 a2 1 _ _ hM))))))
   · intro  b202 h201 hM
     exact end_ (.tuple #[]) (by kernel_rfl) ⟨rfl, hM⟩
   · intro  b204 h203 hM
     exact ret_ (.tuple #[]) (by kernel_rfl) ⟨rfl, hM⟩
 replace hM := ifF hc10 hM
 refine cwp_skip (thenE_n ?_)
 refine cwp_of_part (fn := Tryd.f36) (p := [1, 1, 1, 1, 1]) (by kernel_rfl) (cwp_at 0 (.pointer (some p6)) (by kernel_rfl) (cwp_at 1 (.int .i32 a2) (by kernel_rfl) (cwp_at 4 (.int .i64 x4) (by kernel_rfl) (cwp_at 5 (.int .i32 a2) (by kernel_rfl) (cwp_at 6 (.int .i64 0) (by kernel_rfl) (vt_Screen_write_j0_ok _ ?_ _ ?_ p6 a2 x4 a2 0 _ _ hM))))))
 · intro  b207 h206 hM
   exact end_ (.tuple #[]) (by kernel_rfl) ⟨rfl, hM⟩
 · intro  b209 h208 hM
   exact ret_ (.tuple #[]) (by kernel_rfl) ⟨rfl, hM⟩
/- (*mullion/vt.Screen).broken -/
def vt_Screen_broken (a1 : Option Addr) (K : Heap → Prop) (h : Heap) : Prop :=
 nz a1 fun p2 =>
 ldI h .i64 (p2.add 38) fun x3 =>
 if 0 < x3 then
  stN (p2.add 38) [.int .i64 0] 0 h fun h7 =>
  vt_Screen_write (some p2) 65533 (fun  h8 =>
    K h8) h7
 else
 K h
theorem vt_Screen_broken_ok (a1 : Option Addr) (K : Heap → Prop) (h : Heap) (hM : vt_Screen_broken a1 K h) : CallsH Tryd.prog 26 #[.pointer a1] (fun v h' => v = .tuple #[] ∧ K h') h := by
 unfold vt_Screen_broken at hM
 refine callsH_intro (n := 12) Tryd.func26 rfl rfl (by kernel_rfl) ?_
 refine cR ?_
 refine oS [(2, .pointer a1)] rfl ?_
 obtain ⟨p2, rfl, hM⟩ := hM
 refine owp_rdG (.pointer (some p2)) rfl (by kernel_rfl) (by kernel_rfl) ?_
 refine oS [(4, .pointer (some (p2.add 38)))] rfl ?_
 obtain ⟨x3, hc4, hM⟩ := hM
 refine oL (.int .i64 x3) (p2.add 38) hc4 ?_
 refine oS [(6, .bool (decide (0 < x3)))] rfl ?_
 refine oE ?_
 refine cwp_condD (0 < x3) (by kernel_rfl) (fun hc6 => ?_) (fun hc6 => ?_)
 · replace hM := ifT hc6 hM
   refine cR ?_
   refine oS [(7, .pointer (some p2)), (8, .pointer (some p2)), (9, .pointer (some (p2.add 38)))] rfl ?_
   refine oT (p2.add 38) [.int .i64 0] hM ?_
   clear hM
   intro h7 hM
   refine oE (cwp_region ?_)
   refine oS [(10, .pointer (some p2))] rfl ?_
   refine oG (hpCallE 36 #[.pointer (some p2), .int .i32 65533] (by kernel_rfl) (vt_Screen_write_ok (some p2) 65533 _ h7 hM) ?_)
   clear hM
   rintro _ h8 ⟨rfl, hM⟩
   refine owp_nil ?_
   exact end_ (.tuple #[]) (by kernel_rfl) ⟨rfl, hM⟩
 replace hM := ifF hc6 hM
 refine cwp_skip ?_
 exact end_ (.tuple #[]) (by kernel_rfl) ⟨rfl, hM⟩
/- (*mullion/vt.Screen).named -/
def vt_Screen_named (a1 : Option Addr) (K : Heap → Prop) (h : Heap) : Prop :=
 nz a1 fun p2 =>
 ldL h (p2.add 32) fun x3 x3n x3c =>
 bytM h x3 x3n fun x6 =>
 if 2 ≤ (x6.size : Int) then
  (0 : Int) < (x6.size : Int) ∧
  if (byteAt x6 0) = 48 then
   (1 : Int) < (x6.size : Int) ∧
   if (byteAt x6 1) = 59 then
    0 ≤ (imin (x6.size : Int) 130) ∧
    (imin (x6.size : Int) 130) ≤ (x6.size : Int) ∧
    (2 : Int) ≤ (imin (x6.size : Int) 130) ∧
    stN (p2.add 28) [.string (x6.extract ((2 : Int).toNat) ((imin (x6.size : Int) 130).toNat))] 0 h fun h22 =>
    K h22
   else
   K h
  else
  (0 : Int) < (x6.size : Int) ∧
  if (byteAt x6 0) = 50 then
   (1 : Int) < (x6.size : Int) ∧
   if (byteAt x6 1) = 59 then
    0 ≤ (imin (x6.size : Int) 130) ∧
    (imin (x6.size : Int) 130) ≤ (x6.size : Int) ∧
    (2 : Int) ≤ (imin (x6.size : Int) 130) ∧
    stN (p2.add 28) [.string (x6.extract ((2 : Int).toNat) ((imin (x6.size : Int) 130).toNat))] 0 h fun h34 =>
    K h34
   else
   K h
  else
  K h
 else
 K h
theorem vt_Screen_named_ok (a1 : Option Addr) (K : Heap → Prop) (h : Heap) (hM : vt_Screen_named a1 K h) : CallsH Tryd.prog 27 #[.pointer a1] (fun v h' => v = .tuple #[] ∧ K h') h := by
 unfold vt_Screen_named at hM
 refine callsH_intro (n := 34) Tryd.func27 rfl rfl (by kernel_rfl) ?_
 refine cR ?_
 refine oS [(3, .pointer a1)] rfl ?_
 obtain ⟨p2, rfl, hM⟩ := hM
 refine owp_rdG (.pointer (some p2)) rfl (by kernel_rfl) (by kernel_rfl) ?_
 refine oS [(5, .pointer (some (p2.add 32)))] rfl ?_
 obtain ⟨x3, x3n, x3c, hc4, hM⟩ := hM
 refine oL (.slice x3 x3n x3c) (p2.add 32) hc4 ?_
 obtain ⟨x6, hx7, hM⟩ := hM
 refine owp_rdG (.string x6) rfl (by kernel_rfl) (rd_bytS (P := Tryd.prog) (h := h) (a := x3) (n := x3n) (c := x3c) hx7 (by kernel_rfl)) ?_
 refine oS [(2, .string x6)] rfl ?_
 refine oE (cR ?_)
 refine oS [(8, .string x6), (9, .int .i64 (x6.size : Int)), (10, .bool (decide (2 ≤ (x6.size : Int)))), (11, .bool (decide (2 ≤ (x6.size : Int))))] rfl ?_
 by_cases hc10 : 2 ≤ (x6.size : Int)
 · refine oA 10 true (decide (2 ≤ (x6.size : Int))) (by rw [decide_eq_true hc10]) ?_
   refine oA 11 true (decide (2 ≤ (x6.size : Int))) (by rw [decide_eq_true hc10]) ?_
   replace hM := ifT hc10 hM
   refine oS [(12, .string x6)] rfl ?_
   have hc11 : 0 ≤ (0 : Int) := by decide
   obtain ⟨hc12, hM⟩ := hM
   refine owp_rdG (.int .u8 (byteAt x6 0)) rfl (by kernel_rfl) (rd_ixStr (P := Tryd.prog) (h := h) (t := 9) (s := x6) (k := .i64) (i := 0) (by kernel_rfl) hc11 hc12 (by kernel_rfl)) ?_
   refine oS [(14, .bool (decide ((byteAt x6 0) = 48))), (15, .bool (decide ((byteAt x6 0) = 48)))] rfl ?_
   by_cases hc15 : (byteAt x6 0) = 48
   · refine oA 14 true (decide ((byteAt x6 0) = 48)) (by rw [decide_eq_true hc15]) ?_
     refine oA 15 true (decide ((byteAt x6 0) = 48)) (by rw [decide_eq_true hc15]) ?_
     replace hM := ifT hc15 hM
     refine oS [(16, undef), (17, undef), (18, undef), (19, .bool true), (20, .bool true), (21, .bool true), (22, .string x6)] rfl ?_
     have hc16 : 0 ≤ (1 : Int) := by decide
     obtain ⟨hc17, hM⟩ := hM
     refine owp_rdG (.int .u8 (byteAt x6 1)) rfl (by kernel_rfl) (rd_ixStr (P := Tryd.prog) (h := h) (t := 9) (s := x6) (k := .i64) (i := 1) (by kernel_rfl) hc16 hc17 (by kernel_rfl)) ?_
     refine oS [(24, .bool (decide ((byteAt x6 1) = 59))), (25, .bool (decide ((byteAt x6 1) = 59)))] rfl ?_
     refine oE ?_
     refine cwp_condD ((byteAt x6 1) = 59) (by kernel_rfl) (fun hc18 => ?_) (fun hc18 => ?_)
     · replace hM := ifT hc18 hM
       refine cwp_region ?_
       refine oS [(26, .pointer (some p2)), (27, .string x6), (28, .string x6), (29, .int .i64 (x6.size : Int)), (30, .int .i64 (imin (x6.size : Int) 130))] rfl ?_
       obtain ⟨hc19, hM⟩ := hM
       obtain ⟨hc20, hM⟩ := hM
       obtain ⟨hc21, hM⟩ := hM
       refine owp_rdG (.string (x6.extract ((2 : Int).toNat) ((imin (x6.size : Int) 130).toNat))) rfl (by kernel_rfl) (rd_slLH (P := Tryd.prog) (h := h) (t := 9) (s := x6) (k := .i64) (k' := .i64) (i := (2 : Int)) (j := (imin (x6.size : Int) 130)) (by kernel_rfl) hc19 hc20 (by decide) hc21 (by kernel_rfl)) ?_
       refine oS [(32, .pointer (some p2)), (33, .pointer (some (p2.add 28)))] rfl ?_
       refine oT (p2.add 28) [.string (x6.extract ((2 : Int).toNat) ((imin (x6.size : Int) 130).toNat))] hM ?_
       clear hM
       intro h22 hM
       refine owp_nil ?_
       exact end_ (.tuple #[]) (by kernel_rfl) ⟨rfl, hM⟩
     replace hM := ifF hc18 hM
     refine cwp_skip ?_
     exact end_ (.tuple #[]) (by kernel_rfl) ⟨rfl, hM⟩
   refine oA 14 false (decide ((byteAt x6 0) = 48)) (by rw [decide_eq_false hc15]) ?_
   refine oA 15 false (decide ((byteAt x6 0) = 48)) (by rw [decide_eq_false hc15]) ?_
   replace hM := ifF hc15 hM
   refine oS [(16, .string x6)] rfl ?_
   have hc23 : 0 ≤ (0 : Int) := by decide
   obtain ⟨hc24, hM⟩ := hM
   refine owp_rdG (.int .u8 (byteAt x6 0)) rfl (by kernel_rfl) (rd_ixStr (P := Tryd.prog) (h := h) (t := 9) (s := x6) (k := .i64) (i := 0) (by kernel_rfl) hc23 hc24 (by kernel_rfl)) ?_
   refine oS [(18, .bool (decide ((byteAt x6 0) = 50))), (19, .bool (decide ((byteAt x6 0) = 50))), (20, .bool (decide ((byteAt x6 0) = 50))), (21, .bool (decide ((byteAt x6 0) = 50)))] rfl ?_
   by_cases hc27 : (byteAt x6 0) = 50
   · refine oA 18 true (decide ((byteAt x6 0) = 50)) (by rw [decide_eq_true hc27]) ?_
     refine oA 19 true (decide ((byteAt x6 0) = 50)) (by rw [decide_eq_true hc27]) ?_
     refine oA 20 true (decide ((byteAt x6 0) = 50)) (by rw [decide_eq_true hc27]) ?_
     refine oA 21 true (decide ((byteAt x6 0) = 50)) (by rw [decide_eq_true hc27]) ?_
     replace hM := ifT hc27 hM
     refine oS [(22, .string x6)] rfl ?_
     have hc28 : 0 ≤ (1 : Int) := by decide
     obtain ⟨hc29, hM⟩ := hM
     refine owp_rdG (.int .u8 (byteAt x6 1)) rfl (by kernel_rfl) (rd_ixStr (P := Tryd.prog) (h := h) (t := 9) (s := x6) (k := .i64) (i := 1) (by kernel_rfl) hc28 hc29 (by kernel_rfl)) ?_
     refine oS [(24, .bool (decide ((byteAt x6 1) = 59))), (25, .bool (decide ((byteAt x6 1) = 59)))] rfl ?_
     refine oE ?_
     refine cwp_condD ((byteAt x6 1) = 59) (by kernel_rfl) (fun hc30 => ?_) (fun hc30 => ?_)
     · replace hM := ifT hc30 hM
       refine cwp_region ?_
       refine oS [(26, .pointer (some p2)), (27, .string x6), (28, .string x6), (29, .int .i64 (x6.size : Int)), (30, .int .i64 (imin (x6.size : Int) 130))] rfl ?_
       obtain ⟨hc31, hM⟩ := hM
       obtain ⟨hc32, hM⟩ := hM
       obtain ⟨hc33, hM⟩ := hM
       refine owp_rdG (.string (x6.extract ((2 : Int).toNat) ((imin (x6.size : Int) 130).toNat))) rfl (by kernel_rfl) (rd_slLH (P := Tryd.prog) (h := h) (t := 9) (s := x6) (k := .i64) (k' := .i64) (i := (2 : Int)) (j := (imin (x6.size : Int) 130)) (by kernel_rfl) hc31 hc32 (by decide) hc33 (by kernel_rfl)) ?_
       refine oS [(32, .pointer (some p2)), (33, .pointer (some (p2.add 28)))] rfl ?_
       refine oT (p2.add 28) [.string (x6.extract ((2 : Int).toNat) ((imin (x6.size : Int) 130).toNat))] hM ?_
       clear hM
       intro h34 hM
       refine owp_nil ?_
       exact end_ (.tuple #[]) (by kernel_rfl) ⟨rfl, hM⟩
     replace hM := ifF hc30 hM
     refine cwp_skip ?_
     exact end_ (.tuple #[]) (by kernel_rfl) ⟨rfl, hM⟩
   refine oA 18 false (decide ((byteAt x6 0) = 50)) (by rw [decide_eq_false hc27]) ?_
   refine oA 19 false (decide ((byteAt x6 0) = 50)) (by rw [decide_eq_false hc27]) ?_
   refine oA 20 false (decide ((byteAt x6 0) = 50)) (by rw [decide_eq_false hc27]) ?_
   refine oA 21 false (decide ((byteAt x6 0) = 50)) (by rw [decide_eq_false hc27]) ?_
   replace hM := ifF hc27 hM
   refine oS [(22, undef), (23, undef), (24, undef), (25, .bool false)] rfl ?_
   refine oE ?_
   refine cwp_cond (t := false) (by kernel_rfl) (fun hx_ => ?_) (fun hx_ => ?_)
   all_goals first | (cases hx_; done) | skip
   refine cwp_skip ?_
   exact end_ (.tuple #[]) (by kernel_rfl) ⟨rfl, hM⟩
 refine oA 10 false (decide (2 ≤ (x6.size : Int))) (by rw [decide_eq_false hc10]) ?_
 refine oA 11 false (decide (2 ≤ (x6.size : Int))) (by rw [decide_eq_false hc10]) ?_
 replace hM := ifF hc10 hM
 refine oS [(12, undef), (13, undef), (14, undef), (15, undef), (16, undef), (17, undef), (18, undef), (19, undef), (20, .bool false), (21, .bool false), (22, undef), (23, undef), (24, undef), (25, .bool false)] rfl ?_
 refine oE ?_
 refine cwp_cond (t := false) (by kernel_rfl) (fun hx_ => ?_) (fun hx_ => ?_)
 all_goals first | (cases hx_; done) | skip
 refine cwp_skip ?_
 exact end_ (.tuple #[]) (by kernel_rfl) ⟨rfl, hM⟩
/- (*mullion/vt.Screen).begin -/
def vt_Screen_begin (a1 : Option Addr) (a2 : Int) (K : Heap → Prop) (h : Heap) : Prop :=
 nz a1 fun p3 =>
 stN (p3.add 31) [.int .i64 a2] 0 h fun h4 =>
 ldL h4 (p3.add 32) fun x5 x5n x5c =>
 (0 : Int) ≤ (x5c : Int) ∧
 stN (p3.add 32) [.slice (cutA x5 x5c 0 1) ((0 : Int).toNat - 0) (x5c - 0)] 0 h4 fun h9 =>
 stN (p3.add 33) [.bool false] 0 h9 fun h10 =>
 K h10
theorem vt_Screen_begin_ok (a1 : Option Addr) (a2 : Int) (K : Heap → Prop) (h : Heap) (hM : vt_Screen_begin a1 a2 K h) : CallsH Tryd.prog 28 #[.pointer a1, .int .i64 a2] (fun v h' => v = .tuple #[] ∧ K h') h := by
 unfold vt_Screen_begin at hM
 refine callsH_intro (n := 19) Tryd.func28 rfl rfl (by kernel_rfl) ?_
 refine cR ?_
 refine oS [(4, .pointer a1), (5, .int .i64 a2)] rfl ?_
 obtain ⟨p3, rfl, hM⟩ := hM
 refine owp_rdG (.pointer (some p3)) rfl (by kernel_rfl) (by kernel_rfl) ?_
 refine oS [(7, .pointer (some (p3.add 31)))] rfl ?_
 refine oT (p3.add 31) [.int .i64 a2] hM ?_
 clear hM
 intro h4 hM
 refine oE (cR ?_)
 refine oS [(8, .pointer (some p3)), (9, .pointer (some p3)), (10, .pointer (some p3)), (11, .pointer (some (p3.add 32)))] rfl ?_
 obtain ⟨x5, x5n, x5c, hc6, hM⟩ := hM
 refine oL (.slice x5 x5n x5c) (p3.add 32) hc6 ?_
 obtain ⟨hc8, hM⟩ := hM
 refine owp_rdG (.slice (cutA x5 x5c 0 1) ((0 : Int).toNat - 0) (x5c - 0)) rfl (by kernel_rfl) (rd_sSHi (P := Tryd.prog) (h := h4) (t := 66) (el := 5) (sz := 1) (a := x5) (n := x5n) (c := x5c) (k := .i64) (i := (0 : Int)) (by kernel_rfl) (by kernel_rfl) (by decide) hc8 (by kernel_rfl)) ?_
 refine oS [(14, .pointer (some p3)), (15, .pointer (some (p3.add 32)))] rfl ?_
 refine oT (p3.add 32) [.slice (cutA x5 x5c 0 1) ((0 : Int).toNat - 0) (x5c - 0)] hM ?_
 clear hM
 intro h9 hM
 refine oE (cwp_region ?_)
 refine oS [(16, .pointer (some p3)), (17, .pointer (some p3)), (18, .pointer (some (p3.add 33)))] rfl ?_
 refine oT (p3.add 33) [.bool false] hM ?_
 clear hM
 intro h10 hM
 refine owp_nil ?_
 exact end_ (.tuple #[]) (by kernel_rfl) ⟨rfl, hM⟩
/- (*mullion/vt.Screen).goes -/
def vt_Screen_goes_j0 (Kr : Bool → Heap → Prop) (y12 : Int) (y13 : Int) (y14 : Int) (h : Heap) : Prop :=
 Kr ((decide (y13 ≤ y12)) && (decide (y12 ≤ y14))) h
theorem vt_Screen_goes_j0_ok {Q : Exit → Env → Heap → Prop} (Kr : Bool → Heap → Prop) (hKr : ∀ (z21 : Bool) (b : Env) (h : Heap), Kr z21 h → Q .ret (upd b 4 (.bool z21)) h) (y12 : Int) (y13 : Int) (y14 : Int) (b : Env) (h : Heap) (hM : vt_Screen_goes_j0 Kr y12 y13 y14 h) : cwp Tryd.prog (partC Tryd.f37 [1, 1, 1]) 33 Q (upd (upd (upd b 1 (.int .u8 y12)) 5 (.int .u8 y13)) 6 (.int .u8 y14)) h := by
  unfold vt_Screen_goes_j0 at hM
  refine cwp_part rfl ?_
  refine cR ?_
  refine oS [(25, .int .u8 y12), (26, .int .u8 y13), (27, .bool (decide (y13 ≤ y12))), (28, .bool (decide (y13 ≤ y12)))] rfl ?_
  refine oB (decide (y13 ≤ y12)) 4 [27, 28] (fun b_ => [(29, iteV b_ (.int .u8 y12 : Value) undef), (30, iteV b_ (.int .u8 y14 : Value) undef), (31, iteV b_ (.bool (decide (y12 ≤ y14)) : Value) undef), (32, .bool (b_ && (decide (y12 ≤ y14))))]) rfl (fun hb15 hq16 => oS [(29, .int .u8 y12), (30, .int .u8 y14), (31, .bool (decide (y12 ≤ y14))), (32, .bool (decide (y12 ≤ y14)))] rfl (hq16)) (fun hb17 hq18 => oS [(29, undef), (30, undef), (31, undef), (32, .bool false)] rfl (hq18)) ?_
  refine oS [(4, .bool ((decide (y13 ≤ y12)) && (decide (y12 ≤ y14))))] rfl ?_
  refine oE (cwp_ret ?_)
  exact q_at (Q := Q .ret) 4 (.bool ((decide (y13 ≤ y12)) && (decide (y12 ≤ y14)))) (by kernel_rfl) (hKr ((decide (y13 ≤ y12)) && (decide (y12 ≤ y14))) _ _ hM)
def vt_Screen_goes (a1 : Option Addr) (a2 : Int) (K : Bool → Heap → Prop) (h : Heap) : Prop :=
 nz a1 fun p3 =>
 ldI h .i64 (p3.add 38) fun x4 =>
 if x4 = 1 then
  ldI h .u8 (p3.add 34) fun x8 =>
  if x8 = 224 then
   vt_Screen_goes_j0
    (fun z22 h23 =>
        K z22 h23) a2 160 191 h
  else
  if x8 = 237 then
   vt_Screen_goes_j0
    (fun z27 h28 =>
        K z27 h28) a2 128 159 h
  else
  if x8 = 240 then
   vt_Screen_goes_j0
    (fun z32 h33 =>
        K z32 h33) a2 144 191 h
  else
  if x8 = 244 then
   vt_Screen_goes_j0
    (fun z37 h38 =>
        K z37 h38) a2 128 143 h
  else
  vt_Screen_goes_j0
   (fun z41 h42 =>
       K z41 h42) a2 128 191 h
 else
 vt_Screen_goes_j0
  (fun z45 h46 =>
      K z45 h46) a2 128 191 h
theorem vt_Screen_goes_ok (a1 : Option Addr) (a2 : Int) (K : Bool → Heap → Prop) (h : Heap) (hM : vt_Screen_goes a1 a2 K h) : CallsH Tryd.prog 37 #[.pointer a1, .int .u8 a2] (fun v h' => ∃ (r49 : Bool), v = .bool r49 ∧ K r49 h') h := by
 unfold vt_Screen_goes at hM
 refine callsH_intro (n := 33) Tryd.func37 rfl rfl (by kernel_rfl) ?_
 refine cR ?_
 refine oS [(4, .bool false)] rfl ?_
 refine oE (cR ?_)
 refine oS [(5, .int .u8 128), (6, .int .u8 191)] rfl ?_
 refine oE (cwp_seq (cR ?_))
 refine oS [(7, .pointer a1)] rfl ?_
 obtain ⟨p3, rfl, hM⟩ := hM
 refine owp_rdG (.pointer (some p3)) rfl (by kernel_rfl) (by kernel_rfl) ?_
 refine oS [(9, .pointer (some (p3.add 38)))] rfl ?_
 obtain ⟨x4, hc5, hM⟩ := hM
 refine oL (.int .i64 x4) (p3.add 38) hc5 ?_
 refine oS [(11, .bool (decide (x4 = 1)))] rfl ?_
 refine oE ?_
 refine cwp_condD (x4 = 1) (by kernel_rfl) (fun hc7 => ?_) (fun hc7 => ?_)
 · replace hM := ifT hc7 hM
   refine cR ?_
   refine oS [(12, .pointer (some p3)), (13, .pointer (some p3)), (14, .pointer (some (p3.add 34))), (15, .pointer (some (p3.add 34)))] rfl ?_
   obtain ⟨x8, hc9, hM⟩ := hM
   refine oL (.int .u8 x8) (p3.add 34) hc9 ?_
   refine oE (cwp_block (cR ?_))
   refine oS [(18, .bool (decide (x8 = 224))), (17, .bool (decide (x8 = 224)))] rfl ?_
   refine oE ?_
   refine cwp_condD (x8 = 224) (by kernel_rfl) (fun hc11 => ?_) (fun hc11 => ?_)
   · replace hM := ifT hc11 hM
     refine cwp_region ?_
     refine oS [(5, .int .u8 160)] rfl ?_
     refine owp_nil (blockE_n (thenE_n ?_))
     refine cwp_of_part (fn := Tryd.f37) (p := [1, 1, 1]) (by kernel_rfl) (cwp_at 1 (.int .u8 a2) (by kernel_rfl) (cwp_at 5 (.int .u8 160) (by kernel_rfl) (cwp_at 6 (.int .u8 191) (by kernel_rfl) (vt_Screen_goes_j0_ok _ ?_ a2 160 191 _ _ hM))))
     · intro z22 b24 h23 hM
       exact ret_ (.bool z22) (by kernel_rfl) ⟨_, rfl, hM⟩
   replace hM := ifF hc11 hM
   refine cR ?_
   refine oS [(20, .bool (decide (x8 = 237))), (19, .bool (decide (x8 = 237)))] rfl ?_
   refine oE ?_
   refine cwp_condD (x8 = 237) (by kernel_rfl) (fun hc26 => ?_) (fun hc26 => ?_)
   · replace hM := ifT hc26 hM
     refine cwp_region ?_
     refine oS [(6, .int .u8 159)] rfl ?_
     refine owp_nil (blockE_n (thenE_n ?_))
     refine cwp_of_part (fn := Tryd.f37) (p := [1, 1, 1]) (by kernel_rfl) (cwp_at 1 (.int .u8 a2) (by kernel_rfl) (cwp_at 5 (.int .u8 128) (by kernel_rfl) (cwp_at 6 (.int .u8 159) (by kernel_rfl) (vt_Screen_goes_j0_ok _ ?_ a2 128 159 _ _ hM))))
     · intro z27 b29 h28 hM
       exact ret_ (.bool z27) (by kernel_rfl) ⟨_, rfl, hM⟩
   replace hM := ifF hc26 hM
   refine cR ?_
   refine oS [(22, .bool (decide (x8 = 240))), (21, .bool (decide (x8 = 240)))] rfl ?_
   refine oE ?_
   refine cwp_condD (x8 = 240) (by kernel_rfl) (fun hc31 => ?_) (fun hc31 => ?_)
   · replace hM := ifT hc31 hM
     refine cwp_region ?_
     refine oS [(5, .int .u8 144)] rfl ?_
     refine owp_nil (blockE_n (thenE_n ?_))
     refine cwp_of_part (fn := Tryd.f37) (p := [1, 1, 1]) (by kernel_rfl) (cwp_at 1 (.int .u8 a2) (by kernel_rfl) (cwp_at 5 (.int .u8 144) (by kernel_rfl) (cwp_at 6 (.int .u8 191) (by kernel_rfl) (vt_Screen_goes_j0_ok _ ?_ a2 144 191 _ _ hM))))
     · intro z32 b34 h33 hM
       exact ret_ (.bool z32) (by kernel_rfl) ⟨_, rfl, hM⟩
   replace hM := ifF hc31 hM
   refine cR ?_
   refine oS [(24, .bool (decide (x8 = 244))), (23, .bool (decide (x8 = 244)))] rfl ?_
   refine oE ?_
   refine cwp_condD (x8 = 244) (by kernel_rfl) (fun hc36 => ?_) (fun hc36 => ?_)
   · replace hM := ifT hc36 hM
     refine cwp_region ?_
     refine oS [(6, .int .u8 143)] rfl ?_
     refine owp_nil (blockE_n (thenE_n ?_))
     refine cwp_of_part (fn := Tryd.f37) (p := [1, 1, 1]) (by kernel_rfl) (cwp_at 1 (.int .u8 a2) (by kernel_rfl) (cwp_at 5 (.int .u8 128) (by kernel_rfl) (cwp_at 6 (.int .u8 143) (by kernel_rfl) (vt_Screen_goes_j0_ok _ ?_ a2 128 143 _ _ hM))))
     · intro z37 b39 h38 hM
       exact ret_ (.bool z37) (by kernel_rfl) ⟨_, rfl, hM⟩
   replace hM := ifF hc36 hM
   refine cwp_skip (blockE_n (thenE_n ?_))
   refine cwp_of_part (fn := Tryd.f37) (p := [1, 1, 1]) (by kernel_rfl) (cwp_at 1 (.int .u8 a2) (by kernel_rfl) (cwp_at 5 (.int .u8 128) (by kernel_rfl) (cwp_at 6 (.int .u8 191) (by kernel_rfl) (vt_Screen_goes_j0_ok _ ?_ a2 128 191 _ _ hM))))
   · intro z41 b43 h42 hM
     exact ret_ (.bool z41) (by kernel_rfl) ⟨_, rfl, hM⟩
 replace hM := ifF hc7 hM
 refine cwp_skip (thenE_n ?_)
 refine cwp_of_part (fn := Tryd.f37) (p := [1, 1, 1]) (by kernel_rfl) (cwp_at 1 (.int .u8 a2) (by kernel_rfl) (cwp_at 5 (.int .u8 128) (by kernel_rfl) (cwp_at 6 (.int .u8 191) (by kernel_rfl) (vt_Screen_goes_j0_ok _ ?_ a2 128 191 _ _ hM))))
 · intro z45 b47 h46 hM
   exact ret_ (.bool z45) (by kernel_rfl) ⟨_, rfl, hM⟩
/- unicode/utf8.decodeRuneSlow -/
def unicode_utf8_decodeRuneSlow (a1 : Option Addr) (a1n : Nat) (a1c : Nat) (K : Int → Int → Heap → Prop) (h : Heap) : Prop :=
 if (a1n : Int) < 1 then
  K 65533 0 h
 else
 nz a1 fun p5 =>
 0 ≤ (0 : Int) ∧
 (0 : Int) < (a1n : Int) ∧
 ldI h .u8 (p5.add (((0 : Int)).toNat * 1)) fun x6 =>
 0 ≤ x6 ∧
 x6 < (256 : Int) ∧
 ldI h .u8 ((⟨0, 0, none⟩ : Addr).add (x6.toNat * 1)) fun x11 =>
 if 240 ≤ x11 then
  0 ≤ (0 : Int) ∧
  (0 : Int) < (a1n : Int) ∧
  ldI h .u8 (p5.add (((0 : Int)).toNat * 1)) fun x17 =>
  K (iOr .i32 (iAndNot .i32 (IntKind.wrap .i32 (x17)) (Int.fdiv (IntKind.wrap .i32 ((IntKind.wrap .i32 (x11)) * 2 ^ 31)) (2 ^ 31))) (iAnd .i32 65533 (Int.fdiv (IntKind.wrap .i32 ((IntKind.wrap .i32 (x11)) * 2 ^ 31)) (2 ^ 31)))) 1 h
 else
 0 ≤ (Int.fdiv x11 (2 ^ 4)) ∧
 (Int.fdiv x11 (2 ^ 4)) < (16 : Int) ∧
 cellsAt h ⟨1, 0, none⟩ 0 (tab1.flatMap tab1f) ∧
 if (a1n : Int) < (IntKind.wrap .i64 (iAnd .u8 x11 7)) then
  gap h fun h28 =>
  K 65533 1 h28
 else
 0 ≤ (1 : Int) ∧
 (1 : Int) < (a1n : Int) ∧
 gap h fun h28 =>
 ldI h28 .u8 (p5.add (((1 : Int)).toNat * 1)) fun x34 =>
 if ((decide (x34 < ((tab1.getD ((Int.fdiv x11 (2 ^ 4))).toNat tab1d).1))) || (decide (((tab1.getD ((Int.fdiv x11 (2 ^ 4))).toNat tab1d).2) < x34))) = true then
  K 65533 1 h28
 else
 if (IntKind.wrap .i64 (iAnd .u8 x11 7)) ≤ 2 then
  K (iOr .i32 (IntKind.wrap .i32 ((IntKind.wrap .i32 (iAnd .u8 x6 31)) * 2 ^ 6)) (IntKind.wrap .i32 (iAnd .u8 x34 63))) 2 h28
 else
 0 ≤ (2 : Int) ∧
 (2 : Int) < (a1n : Int) ∧
 ldI h28 .u8 (p5.add (((2 : Int)).toNat * 1)) fun x47 =>
 if ((decide (x47 < 128)) || (decide (191 < x47))) = true then
  K 65533 1 h28
 else
 if (IntKind.wrap .i64 (iAnd .u8 x11 7)) ≤ 3 then
  K (iOr .i32 (iOr .i32 (IntKind.wrap .i32 ((IntKind.wrap .i32 (iAnd .u8 x6 15)) * 2 ^ 12)) (IntKind.wrap .i32 ((IntKind.wrap .i32 (iAnd .u8 x34 63)) * 2 ^ 6))) (IntKind.wrap .i32 (iAnd .u8 x47 63))) 3 h28
 else
 0 ≤ (3 : Int) ∧
 (3 : Int) < (a1n : Int) ∧
 ldI h28 .u8 (p5.add (((3 : Int)).toNat * 1)) fun x58 =>
 if ((decide (x58 < 128)) || (decide (191 < x58))) = true then
  K 65533 1 h28
 else
 K (iOr .i32 (iOr .i32 (iOr .i32 (IntKind.wrap .i32 ((IntKind.wrap .i32 (iAnd .u8 x6 7)) * 2 ^ 18)) (IntKind.wrap .i32 ((IntKind.wrap .i32 (iAnd .u8 x34 63)) * 2 ^ 12))) (IntKind.wrap .i32 ((IntKind.wrap .i32 (iAnd .u8 x47 63)) * 2 ^ 6))) (IntKind.wrap .i32 (iAnd .u8 x58 63))) 4 h28
theorem unicode_utf8_decodeRuneSlow_ok (a1 : Option Addr) (a1n : Nat) (a1c : Nat) (K : Int → Int → Heap → Prop) (h : Heap) (hM : unicode_utf8_decodeRuneSlow a1 a1n a1c K h) : CallsH Tryd.prog 50 #[.slice a1 a1n a1c] (fun v h' => ∃ (r66 : Int) (r67 : Int), v = .tuple #[.int .i32 r66, .int .i64 r67] ∧ K r66 r67 h') h := by
 unfold unicode_utf8_decodeRuneSlow at hM
 refine callsH_intro (n := 122) Tryd.func50 rfl rfl (by kernel_rfl) ?_
 refine cR ?_
 refine oS [(2, .int .i32 0), (3, .int .i64 0)] rfl ?_
 refine oE (cR ?_)
 refine oS [(13, .slice a1 a1n a1c), (14, .int .i64 (a1n : Int)), (4, .int .i64 (a1n : Int))] rfl ?_
 refine oE (cwp_seq (cR ?_))
 refine oS [(15, .int .i64 (a1n : Int)), (16, .bool (decide ((a1n : Int) < 1)))] rfl ?_
 refine oE ?_
 refine cwp_condD ((a1n : Int) < 1) (by kernel_rfl) (fun hc2 => ?_) (fun hc2 => ?_)
 · replace hM := ifT hc2 hM
   refine cR ?_
   refine oS [(2, .int .i32 65533), (3, .int .i64 0)] rfl ?_
   refine oE (cwp_ret (thenE_r ?_))
   exact ret_ (.tuple #[.int .i32 65533, .int .i64 0]) (by kernel_rfl) ⟨_, _, rfl, hM⟩
 replace hM := ifF hc2 hM
 refine cwp_skip (thenE_n (cR ?_))
 refine oS [(17, .slice a1 a1n a1c)] rfl ?_
 obtain ⟨p5, rfl, hM⟩ := hM
 obtain ⟨hc3, hM⟩ := hM
 obtain ⟨hc4, hM⟩ := hM
 refine owp_rdG (.pointer (some (p5.add (((0 : Int)).toNat * 1)))) rfl (by kernel_rfl) (rd_ixS (P := Tryd.prog) (h := h) (t := 66) (el := 5) (sz := 1) (ad := p5) (len := a1n) (c := a1c) (k := .i64) (i := 0) (by kernel_rfl) (by kernel_rfl) hc3 hc4 (by kernel_rfl)) ?_
 obtain ⟨x6, hc7, hM⟩ := hM
 refine oL (.int .u8 x6) (p5.add (((0 : Int)).toNat * 1)) hc7 ?_
 refine oS [(5, .int .u8 x6)] rfl ?_
 refine oE (cR ?_)
 refine oS [(20, .int .u8 x6)] rfl ?_
 obtain ⟨hc9, hM⟩ := hM
 obtain ⟨hc10, hM⟩ := hM
 refine owp_rdG (.pointer (some ((⟨0, 0, none⟩ : Addr).add (x6.toNat * 1)))) rfl (by kernel_rfl) (rd_ixA (P := Tryd.prog) (h := h) (t := 103) (el := 5) (sz := 1) (len := 256) (ad := ⟨0, 0, none⟩) (k := .u8) (i := x6) (by kernel_rfl) (by kernel_rfl) hc9 hc10 (by kernel_rfl)) ?_
 obtain ⟨x11, hc12, hM⟩ := hM
 refine oL (.int .u8 x11) ((⟨0, 0, none⟩ : Addr).add (x6.toNat * 1)) hc12 ?_
 refine oS [(6, .int .u8 x11)] rfl ?_
 refine oE (cwp_seq (cR ?_))
 refine oS [(23, .int .u8 x11), (24, .bool (decide (240 ≤ x11)))] rfl ?_
 refine oE ?_
 refine cwp_condD (240 ≤ x11) (by kernel_rfl) (fun hc14 => ?_) (fun hc14 => ?_)
 · replace hM := ifT hc14 hM
   refine cR ?_
   refine oS [(25, .int .u8 x11), (26, .int .i32 (IntKind.wrap .i32 (x11))), (27, .int .i32 (IntKind.wrap .i32 ((IntKind.wrap .i32 (x11)) * 2 ^ 31))), (28, .int .i32 (Int.fdiv (IntKind.wrap .i32 ((IntKind.wrap .i32 (x11)) * 2 ^ 31)) (2 ^ 31))), (7, .int .i32 (Int.fdiv (IntKind.wrap .i32 ((IntKind.wrap .i32 (x11)) * 2 ^ 31)) (2 ^ 31)))] rfl ?_
   refine oE (cR ?_)
   refine oS [(29, .slice (some p5) a1n a1c)] rfl ?_
   obtain ⟨hc15, hM⟩ := hM
   obtain ⟨hc16, hM⟩ := hM
   refine owp_rdG (.pointer (some (p5.add (((0 : Int)).toNat * 1)))) rfl (by kernel_rfl) (rd_ixS (P := Tryd.prog) (h := h) (t := 66) (el := 5) (sz := 1) (ad := p5) (len := a1n) (c := a1c) (k := .i64) (i := 0) (by kernel_rfl) (by kernel_rfl) hc15 hc16 (by kernel_rfl)) ?_
   obtain ⟨x17, hc18, hM⟩ := hM
   refine oL (.int .u8 x17) (p5.add (((0 : Int)).toNat * 1)) hc18 ?_
   refine oS [(32, .int .i32 (IntKind.wrap .i32 (x17))), (33, .int .i32 (Int.fdiv (IntKind.wrap .i32 ((IntKind.wrap .i32 (x11)) * 2 ^ 31)) (2 ^ 31))), (34, .int .i32 (iAndNot .i32 (IntKind.wrap .i32 (x17)) (Int.fdiv (IntKind.wrap .i32 ((IntKind.wrap .i32 (x11)) * 2 ^ 31)) (2 ^ 31)))), (35, .int .i32 (Int.fdiv (IntKind.wrap .i32 ((IntKind.wrap .i32 (x11)) * 2 ^ 31)) (2 ^ 31))), (36, .int .i32 (iAnd .i32 65533 (Int.fdiv (IntKind.wrap .i32 ((IntKind.wrap .i32 (x11)) * 2 ^ 31)) (2 ^ 31)))), (37, .int .i32 (iOr .i32 (iAndNot .i32 (IntKind.wrap .i32 (x17)) (Int.fdiv (IntKind.wrap .i32 ((IntKind.wrap .i32 (x11)) * 2 ^ 31)) (2 ^ 31))) (iAnd .i32 65533 (Int.fdiv (IntKind.wrap .i32 ((IntKind.wrap .i32 (x11)) * 2 ^ 31)) (2 ^ 31))))), (2, .int .i32 (iOr .i32 (iAndNot .i32 (IntKind.wrap .i32 (x17)) (Int.fdiv (IntKind.wrap .i32 ((IntKind.wrap .i32 (x11)) * 2 ^ 31)) (2 ^ 31))) (iAnd .i32 65533 (Int.fdiv (IntKind.wrap .i32 ((IntKind.wrap .i32 (x11)) * 2 ^ 31)) (2 ^ 31))))), (3, .int .i64 1)] rfl ?_
   refine oE (cwp_ret (thenE_r ?_))
   exact ret_ (.tuple #[.int .i32 (iOr .i32 (iAndNot .i32 (IntKind.wrap .i32 (x17)) (Int.fdiv (IntKind.wrap .i32 ((IntKind.wrap .i32 (x11)) * 2 ^ 31)) (2 ^ 31))) (iAnd .i32 65533 (Int.fdiv (IntKind.wrap .i32 ((IntKind.wrap .i32 (x11)) * 2 ^ 31)) (2 ^ 31)))), .int .i64 1]) (by kernel_rfl) ⟨_, _, rfl, hM⟩
 replace hM := ifF hc14 hM
 refine cwp_skip (thenE_n (cR ?_))
 refine oS [(38, .int .u8 x11), (39, .int .u8 (iAnd .u8 x11 7)), (40, .int .i64 (IntKind.wrap .i64 (iAnd .u8 x11 7))), (8, .int .i64 (IntKind.wrap .i64 (iAnd .u8 x11 7)))] rfl ?_
 refine oE (cR ?_)
 refine oS [(41, .int .u8 x11), (42, .int .u8 (Int.fdiv x11 (2 ^ 4)))] rfl ?_
 obtain ⟨hc20, hM⟩ := hM
 obtain ⟨hc21, hM⟩ := hM
 refine owp_rdG (.pointer (some ((⟨1, 0, none⟩ : Addr).add (((Int.fdiv x11 (2 ^ 4))).toNat * 2)))) rfl (by kernel_rfl) (rd_ixA (P := Tryd.prog) (h := h) (t := 107) (el := 106) (sz := 2) (len := 16) (ad := ⟨1, 0, none⟩) (k := .u8) (i := (Int.fdiv x11 (2 ^ 4))) (by kernel_rfl) (by kernel_rfl) hc20 hc21 (by kernel_rfl)) ?_
 obtain ⟨hc22, hM⟩ := hM
 refine owp_rdG (.agg #[.int .u8 ((tab1.getD ((Int.fdiv x11 (2 ^ 4))).toNat tab1d).1), .int .u8 ((tab1.getD ((Int.fdiv x11 (2 ^ 4))).toNat tab1d).2)]) rfl (by kernel_rfl) (Eq.trans (b := (cellH h ((⟨1, 0, none⟩ : Addr).add (((Int.fdiv x11 (2 ^ 4))).toNat * 2))).bind fun v23 => (cellH h (((⟨1, 0, none⟩ : Addr).add (((Int.fdiv x11 (2 ^ 4))).toNat * 2)).add 1)).bind fun v24 => some (.value (.agg #[v23, v24]))) (by kernel_rfl) ((bindE (cell_tab0 tab1f tab1 tab1d hc22 (fun _ => rfl) (ltTab hc20 hc21 (by kernel_rfl)) rfl) _).trans (bindE (cell_tab tab1f tab1 tab1d hc22 (fun _ => rfl) (ltTab hc20 hc21 (by kernel_rfl)) 1 rfl) _))) ?_
 refine oG (hpNew #[.int .u8 0, .int .u8 0] 106 (fun _ => by kernel_rfl) ?_)
 intro b25 h26 hN27
 refine owp_hpD rfl (by kernel_rfl) (hpStB b25 0 [.int .u8 ((tab1.getD ((Int.fdiv x11 (2 ^ 4))).toNat tab1d).1), .int .u8 ((tab1.getD ((Int.fdiv x11 (2 ^ 4))).toNat tab1d).2)] (New.blk hN27) (fun _ => by kernel_rfl) rfl rfl ?_)
 intro h28 hP29
 have f30 : Blk h28 b25 #[.int .u8 ((tab1.getD ((Int.fdiv x11 (2 ^ 4))).toNat tab1d).1), .int .u8 ((tab1.getD ((Int.fdiv x11 (2 ^ 4))).toNat tab1d).2)] 106 := hP29.blk
 refine oE (cwp_seq (cR ?_))
 refine oS [(45, .int .i64 (a1n : Int)), (46, .int .i64 (IntKind.wrap .i64 (iAnd .u8 x11 7))), (47, .bool (decide ((a1n : Int) < (IntKind.wrap .i64 (iAnd .u8 x11 7)))))] rfl ?_
 refine oE ?_
 refine cwp_condD ((a1n : Int) < (IntKind.wrap .i64 (iAnd .u8 x11 7))) (by kernel_rfl) (fun hc31 => ?_) (fun hc31 => ?_)
 · replace hM := ifT hc31 hM
   refine cR ?_
   refine oS [(2, .int .i32 65533), (3, .int .i64 1)] rfl ?_
   refine oE (cwp_ret (thenE_r ?_))
   replace hM := hM _ (Put.ext hP29 (New.ext hN27) (New.ge hN27 (Ext.refl _)))
   exact ret_ (.tuple #[.int .i32 65533, .int .i64 1]) (by kernel_rfl) ⟨_, _, rfl, hM⟩
 replace hM := ifF hc31 hM
 refine cwp_skip (thenE_n (cR ?_))
 refine oS [(48, .slice (some p5) a1n a1c)] rfl ?_
 obtain ⟨hc32, hM⟩ := hM
 obtain ⟨hc33, hM⟩ := hM
 refine owp_rdG (.pointer (some (p5.add (((1 : Int)).toNat * 1)))) rfl (by kernel_rfl) (rd_ixS (P := Tryd.prog) (h := h28) (t := 66) (el := 5) (sz := 1) (ad := p5) (len := a1n) (c := a1c) (k := .i64) (i := 1) (by kernel_rfl) (by kernel_rfl) hc32 hc33 (by kernel_rfl)) ?_
 replace hM := hM _ (Put.ext hP29 (New.ext hN27) (New.ge hN27 (Ext.refl _)))
 obtain ⟨x34, hc35, hM⟩ := hM
 refine oL (.int .u8 x34) (p5.add (((1 : Int)).toNat * 1)) hc35 ?_
 refine oS [(10, .int .u8 x34)] rfl ?_
 refine oE (cwp_seq (cR ?_))
 refine oS [(51, .int .u8 x34), (52, .pointer (some ⟨b25, 0, none⟩))] rfl ?_
 refine owp_rdG (.int .u8 ((tab1.getD ((Int.fdiv x11 (2 ^ 4))).toNat tab1d).1)) rfl (by kernel_rfl) (Eq.trans (b := (cellH h28 ⟨b25, 0, none⟩).bind fun v37 => some (.value v37)) (by kernel_rfl) (bindE (Blk.cell f30 0 (by kernel_rfl)) _)) ?_
 refine oS [(54, .bool (decide (x34 < ((tab1.getD ((Int.fdiv x11 (2 ^ 4))).toNat tab1d).1)))), (55, .bool (decide (x34 < ((tab1.getD ((Int.fdiv x11 (2 ^ 4))).toNat tab1d).1))))] rfl ?_
 refine oB (decide (x34 < ((tab1.getD ((Int.fdiv x11 (2 ^ 4))).toNat tab1d).1))) 5 [54, 55] (fun b_ => [(56, iteV b_ undef (.pointer (some ⟨b25, 1, none⟩) : Value)), (57, iteV b_ undef (.int .u8 ((tab1.getD ((Int.fdiv x11 (2 ^ 4))).toNat tab1d).2) : Value)), (58, iteV b_ undef (.int .u8 x34 : Value)), (59, iteV b_ undef (.bool (decide (((tab1.getD ((Int.fdiv x11 (2 ^ 4))).toNat tab1d).2) < x34)) : Value)), (60, .bool (b_ || (decide (((tab1.getD ((Int.fdiv x11 (2 ^ 4))).toNat tab1d).2) < x34))))]) rfl (fun hb39 hq40 => oS [(56, undef), (57, undef), (58, undef), (59, undef), (60, .bool true)] rfl (hq40)) (fun hb41 hq42 => oS [(56, .pointer (some ⟨b25, 1, none⟩))] rfl (owp_rdG (.int .u8 ((tab1.getD ((Int.fdiv x11 (2 ^ 4))).toNat tab1d).2)) rfl (by kernel_rfl) (Eq.trans (b := (cellH h28 ⟨b25, 1, none⟩).bind fun v38 => some (.value v38)) (by kernel_rfl) (bindE (Blk.cell f30 1 (by kernel_rfl)) _)) (oS [(58, .int .u8 x34), (59, .bool (decide (((tab1.getD ((Int.fdiv x11 (2 ^ 4))).toNat tab1d).2) < x34))), (60, .bool (decide (((tab1.getD ((Int.fdiv x11 (2 ^ 4))).toNat tab1d).2) < x34)))] rfl (hq42)))) ?_
 refine oE ?_
 refine cwp_condB ((decide (x34 < ((tab1.getD ((Int.fdiv x11 (2 ^ 4))).toNat tab1d).1))) || (decide (((tab1.getD ((Int.fdiv x11 (2 ^ 4))).toNat tab1d).2) < x34))) (by kernel_rfl) (fun hc43 => ?_) (fun hc43 => ?_)
 · replace hM := ifT hc43 hM
   refine cR ?_
   refine oS [(2, .int .i32 65533), (3, .int .i64 1)] rfl ?_
   refine oE (cwp_ret (thenE_r ?_))
   exact ret_ (.tuple #[.int .i32 65533, .int .i64 1]) (by kernel_rfl) ⟨_, _, rfl, hM⟩
 replace hM := ifF hc43 hM
 refine cwp_skip (thenE_n (cwp_seq (cR ?_)))
 refine oS [(61, .int .i64 (IntKind.wrap .i64 (iAnd .u8 x11 7))), (62, .bool (decide ((IntKind.wrap .i64 (iAnd .u8 x11 7)) ≤ 2)))] rfl ?_
 refine oE ?_
 refine cwp_condD ((IntKind.wrap .i64 (iAnd .u8 x11 7)) ≤ 2) (by kernel_rfl) (fun hc44 => ?_) (fun hc44 => ?_)
 · replace hM := ifT hc44 hM
   refine cR ?_
   refine oS [(63, .int .u8 x6), (64, .int .u8 (iAnd .u8 x6 31)), (65, .int .i32 (IntKind.wrap .i32 (iAnd .u8 x6 31))), (66, .int .i32 (IntKind.wrap .i32 ((IntKind.wrap .i32 (iAnd .u8 x6 31)) * 2 ^ 6))), (67, .int .u8 x34), (68, .int .u8 (iAnd .u8 x34 63)), (69, .int .i32 (IntKind.wrap .i32 (iAnd .u8 x34 63))), (70, .int .i32 (iOr .i32 (IntKind.wrap .i32 ((IntKind.wrap .i32 (iAnd .u8 x6 31)) * 2 ^ 6)) (IntKind.wrap .i32 (iAnd .u8 x34 63)))), (2, .int .i32 (iOr .i32 (IntKind.wrap .i32 ((IntKind.wrap .i32 (iAnd .u8 x6 31)) * 2 ^ 6)) (IntKind.wrap .i32 (iAnd .u8 x34 63)))), (3, .int .i64 2)] rfl ?_
   refine oE (cwp_ret (thenE_r ?_))
   exact ret_ (.tuple #[.int .i32 (iOr .i32 (IntKind.wrap .i32 ((IntKind.wrap .i32 (iAnd .u8 x6 31)) * 2 ^ 6)) (IntKind.wrap .i32 (iAnd .u8 x34 63))), .int .i64 2]) (by kernel_rfl) ⟨_, _, rfl, hM⟩
 replace hM := ifF hc44 hM
 refine cwp_skip (thenE_n (cR ?_))
 refine oS [(71, .slice (some p5) a1n a1c)] rfl ?_
 obtain ⟨hc45, hM⟩ := hM
 obtain ⟨hc46, hM⟩ := hM
 refine owp_rdG (.pointer (some (p5.add (((2 : Int)).toNat * 1)))) rfl (by kernel_rfl) (rd_ixS (P := Tryd.prog) (h := h28) (t := 66) (el := 5) (sz := 1) (ad := p5) (len := a1n) (c := a1c) (k := .i64) (i := 2) (by kernel_rfl) (by kernel_rfl) hc45 hc46 (by kernel_rfl)) ?_
 obtain ⟨x47, hc48, hM⟩ := hM
 refine oL (.int .u8 x47) (p5.add (((2 : Int)).toNat * 1)) hc48 ?_
 refine oS [(11, .int .u8 x47)] rfl ?_
 refine oE (cwp_seq (cR ?_))
 refine oS [(74, .int .u8 x47), (75, .bool (decide (x47 < 128))), (76, .bool (decide (x47 < 128)))] rfl ?_
 refine oB (decide (x47 < 128)) 3 [75, 76] (fun b_ => [(77, iteV b_ undef (.int .u8 x47 : Value)), (78, iteV b_ undef (.bool (decide (191 < x47)) : Value)), (79, .bool (b_ || (decide (191 < x47))))]) rfl (fun hb50 hq51 => oS [(77, undef), (78, undef), (79, .bool true)] rfl (hq51)) (fun hb52 hq53 => oS [(77, .int .u8 x47), (78, .bool (decide (191 < x47))), (79, .bool (decide (191 < x47)))] rfl (hq53)) ?_
 refine oE ?_
 refine cwp_condB ((decide (x47 < 128)) || (decide (191 < x47))) (by kernel_rfl) (fun hc54 => ?_) (fun hc54 => ?_)
 · replace hM := ifT hc54 hM
   refine cR ?_
   refine oS [(2, .int .i32 65533), (3, .int .i64 1)] rfl ?_
   refine oE (cwp_ret (thenE_r ?_))
   exact ret_ (.tuple #[.int .i32 65533, .int .i64 1]) (by kernel_rfl) ⟨_, _, rfl, hM⟩
 replace hM := ifF hc54 hM
 refine cwp_skip (thenE_n (cwp_seq (cR ?_)))
 refine oS [(80, .int .i64 (IntKind.wrap .i64 (iAnd .u8 x11 7))), (81, .bool (decide ((IntKind.wrap .i64 (iAnd .u8 x11 7)) ≤ 3)))] rfl ?_
 refine oE ?_
 refine cwp_condD ((IntKind.wrap .i64 (iAnd .u8 x11 7)) ≤ 3) (by kernel_rfl) (fun hc55 => ?_) (fun hc55 => ?_)
 · replace hM := ifT hc55 hM
   refine cR ?_
   refine oS [(82, .int .u8 x6), (83, .int .u8 (iAnd .u8 x6 15)), (84, .int .i32 (IntKind.wrap .i32 (iAnd .u8 x6 15))), (85, .int .i32 (IntKind.wrap .i32 ((IntKind.wrap .i32 (iAnd .u8 x6 15)) * 2 ^ 12))), (86, .int .u8 x34), (87, .int .u8 (iAnd .u8 x34 63)), (88, .int .i32 (IntKind.wrap .i32 (iAnd .u8 x34 63))), (89, .int .i32 (IntKind.wrap .i32 ((IntKind.wrap .i32 (iAnd .u8 x34 63)) * 2 ^ 6))), (90, .int .i32 (iOr .i32 (IntKind.wrap .i32 ((IntKind.wrap .i32 (iAnd .u8 x6 15)) * 2 ^ 12)) (IntKind.wrap .i32 ((IntKind.wrap .i32 (iAnd .u8 x34 63)) * 2 ^ 6)))), (91, .int .u8 x47), (92, .int .u8 (iAnd .u8 x47 63)), (93, .int .i32 (IntKind.wrap .i32 (iAnd .u8 x47 63))), (94, .int .i32 (iOr .i32 (iOr .i32 (IntKind.wrap .i32 ((IntKind.wrap .i32 (iAnd .u8 x6 15)) * 2 ^ 12)) (IntKind.wrap .i32 ((IntKind.wrap .i32 (iAnd .u8 x34 63)) * 2 ^ 6))) (IntKind.wrap .i32 (iAnd .u8 x47 63)))), (2, .int .i32 (iOr .i32 (iOr .i32 (IntKind.wrap .i32 ((IntKind.wrap .i32 (iAnd .u8 x6 15)) * 2 ^ 12)) (IntKind.wrap .i32 ((IntKind.wrap .i32 (iAnd .u8 x34 63)) * 2 ^ 6))) (IntKind.wrap .i32 (iAnd .u8 x47 63)))), (3, .int .i64 3)] rfl ?_
   refine oE (cwp_ret (thenE_r ?_))
   exact ret_ (.tuple #[.int .i32 (iOr .i32 (iOr .i32 (IntKind.wrap .i32 ((IntKind.wrap .i32 (iAnd .u8 x6 15)) * 2 ^ 12)) (IntKind.wrap .i32 ((IntKind.wrap .i32 (iAnd .u8 x34 63)) * 2 ^ 6))) (IntKind.wrap .i32 (iAnd .u8 x47 63))), .int .i64 3]) (by kernel_rfl) ⟨_, _, rfl, hM⟩
 replace hM := ifF hc55 hM
 refine cwp_skip (thenE_n (cR ?_))
 refine oS [(95, .slice (some p5) a1n a1c)] rfl ?_
 obtain ⟨hc56, hM⟩ := hM
 obtain ⟨hc57, hM⟩ := hM
 refine owp_rdG (.pointer (some (p5.add (((3 : Int)).toNat * 1)))) rfl (by kernel_rfl) (rd_ixS (P := Tryd.prog) (h := h28) (t := 66) (el := 5) (sz := 1) (ad := p5) (len := a1n) (c := a1c) (k := .i64) (i := 3) (by kernel_rfl) (by kernel_rfl) hc56 hc57 (by kernel_rfl)) ?_
 obtain ⟨x58, hc59, hM⟩ := hM
 refine oL (.int .u8 x58) (p5.add (((3 : Int)).toNat * 1)) hc59 ?_
 refine oS [(12, .int .u8 x58)] rfl ?_
 refine oE (cwp_seq (cR ?_))
 refine oS [(98, .int .u8 x58), (99, .bool (decide (x58 < 128))), (100, .bool (decide (x58 < 128)))] rfl ?_
 refine oB (decide (x58 < 128)) 3 [99, 100] (fun b_ => [(101, iteV b_ undef (.int .u8 x58 : Value)), (102, iteV b_ undef (.bool (decide (191 < x58)) : Value)), (103, .bool (b_ || (decide (191 < x58))))]) rfl (fun hb61 hq62 => oS [(101, undef), (102, undef), (103, .bool true)] rfl (hq62)) (fun hb63 hq64 => oS [(101, .int .u8 x58), (102, .bool (decide (191 < x58))), (103, .bool (decide (191 < x58)))] rfl (hq64)) ?_
 refine oE ?_
 refine cwp_condB ((decide (x58 < 128)) || (decide (191 < x58))) (by kernel_rfl) (fun hc65 => ?_) (fun hc65 => ?_)
 · replace hM := ifT hc65 hM
   refine cR ?_
   refine oS [(2, .int .i32 65533), (3, .int .i64 1)] rfl ?_
   refine oE (cwp_ret (thenE_r ?_))
   exact ret_ (.tuple #[.int .i32 65533, .int .i64 1]) (by kernel_rfl) ⟨_, _, rfl, hM⟩
 replace hM := ifF hc65 hM
 refine cwp_skip (thenE_n (cR ?_))
 refine oS [(104, .int .u8 x6), (105, .int .u8 (iAnd .u8 x6 7)), (106, .int .i32 (IntKind.wrap .i32 (iAnd .u8 x6 7))), (107, .int .i32 (IntKind.wrap .i32 ((IntKind.wrap .i32 (iAnd .u8 x6 7)) * 2 ^ 18))), (108, .int .u8 x34), (109, .int .u8 (iAnd .u8 x34 63)), (110, .int .i32 (IntKind.wrap .i32 (iAnd .u8 x34 63))), (111, .int .i32 (IntKind.wrap .i32 ((IntKind.wrap .i32 (iAnd .u8 x34 63)) * 2 ^ 12))), (112, .int .i32 (iOr .i32 (IntKind.wrap .i32 ((IntKind.wrap .i32 (iAnd .u8 x6 7)) * 2 ^ 18)) (IntKind.wrap .i32 ((IntKind.wrap .i32 (iAnd .u8 x34 63)) * 2 ^ 12)))), (113, .int .u8 x47), (114, .int .u8 (iAnd .u8 x47 63)), (115, .int .i32 (IntKind.wrap .i32 (iAnd .u8 x47 63))), (116, .int .i32 (IntKind.wrap .i32 ((IntKind.wrap .i32 (iAnd .u8 x47 63)) * 2 ^ 6))), (117, .int .i32 (iOr .i32 (iOr .i32 (IntKind.wrap .i32 ((IntKind.wrap .i32 (iAnd .u8 x6 7)) * 2 ^ 18)) (IntKind.wrap .i32 ((IntKind.wrap .i32 (iAnd .u8 x34 63)) * 2 ^ 12))) (IntKind.wrap .i32 ((IntKind.wrap .i32 (iAnd .u8 x47 63)) * 2 ^ 6)))), (118, .int .u8 x58), (119, .int .u8 (iAnd .u8 x58 63)), (120, .int .i32 (IntKind.wrap .i32 (iAnd .u8 x58 63))), (121, .int .i32 (iOr .i32 (iOr .i32 (iOr .i32 (IntKind.wrap .i32 ((IntKind.wrap .i32 (iAnd .u8 x6 7)) * 2 ^ 18)) (IntKind.wrap .i32 ((IntKind.wrap .i32 (iAnd .u8 x34 63)) * 2 ^ 12))) (IntKind.wrap .i32 ((IntKind.wrap .i32 (iAnd .u8 x47 63)) * 2 ^ 6))) (IntKind.wrap .i32 (iAnd .u8 x58 63)))), (2, .int .i32 (iOr .i32 (iOr .i32 (iOr .i32 (IntKind.wrap .i32 ((IntKind.wrap .i32 (iAnd .u8 x6 7)) * 2 ^ 18)) (IntKind.wrap .i32 ((IntKind.wrap .i32 (iAnd .u8 x34 63)) * 2 ^ 12))) (IntKind.wrap .i32 ((IntKind.wrap .i32 (iAnd .u8 x47 63)) * 2 ^ 6))) (IntKind.wrap .i32 (iAnd .u8 x58 63)))), (3, .int .i64 4)] rfl ?_
 refine oE (cwp_ret ?_)
 exact ret_ (.tuple #[.int .i32 (iOr .i32 (iOr .i32 (iOr .i32 (IntKind.wrap .i32 ((IntKind.wrap .i32 (iAnd .u8 x6 7)) * 2 ^ 18)) (IntKind.wrap .i32 ((IntKind.wrap .i32 (iAnd .u8 x34 63)) * 2 ^ 12))) (IntKind.wrap .i32 ((IntKind.wrap .i32 (iAnd .u8 x47 63)) * 2 ^ 6))) (IntKind.wrap .i32 (iAnd .u8 x58 63))), .int .i64 4]) (by kernel_rfl) ⟨_, _, rfl, hM⟩
/- unicode/utf8.DecodeRune -/
def unicode_utf8_DecodeRune_l0 (K0 : Option Addr → Nat → Nat → Heap → Prop) (Kr : Int → Int → Heap → Prop) : Nat → Option Addr → Nat → Nat → Option Addr → Nat → Nat → Int → Int → Heap → Prop
  | 0, _, _, _, _, _, _, _, _, _ => False
  | k + 1, y2, y2n, y2c, y3, y3n, y3c, y4, y5, h =>
  if y5 < y4 then
   nz y3 fun p9 =>
   0 ≤ y5 ∧
   y5 < (y3n : Int) ∧
   ldI h .u8 (p9.add ((y5).toNat * 1)) fun x10 =>
   if x10 < 128 then
    Kr (IntKind.wrap .i32 (x10)) 1 h
   else
   K0 y2 y2n y2c h
  else
  K0 y2 y2n y2c h
theorem unicode_utf8_DecodeRune_l0_ok {Q : Exit → Env → Heap → Prop} (K0 : Option Addr → Nat → Nat → Heap → Prop) (hK0 : ∀ (z18 : Option Addr) (z18n : Nat) (z18c : Nat) (b : Env) (h : Heap), K0 z18 z18n z18c h → Q (.exit 0) (upd b 0 (.slice z18 z18n z18c)) h) (Kr : Int → Int → Heap → Prop) (hKr : ∀ (z21 : Int) (z22 : Int) (b : Env) (h : Heap), Kr z21 z22 h → Q .ret (upd (upd b 2 (.int .i32 z21)) 3 (.int .i64 z22)) h) : ∀ (k : Nat) (y2 : Option Addr) (y2n : Nat) (y2c : Nat) (y3 : Option Addr) (y3n : Nat) (y3c : Nat) (y4 : Int) (y5 : Int) (b : Env) (h : Heap) (hM : unicode_utf8_DecodeRune_l0 K0 Kr k y2 y2n y2c y3 y3n y3c y4 y5 h), lwp Tryd.prog (partC Tryd.f38 [1, 0, 1, 0, 0]) 22 Q k (upd (upd (upd (upd b 0 (.slice y2 y2n y2c)) 6 (.slice y3 y3n y3c)) 7 (.int .i64 y4)) 8 (.int .i64 y5)) h := by
  intro k
  induction k with
  | zero => intro y2 y2n y2c y3 y3n y3c y4 y5 b h hM; exact (show False from hM).elim
  | succ k ih =>
    intro y2 y2n y2c y3 y3n y3c y4 y5 b h hM
    unfold unicode_utf8_DecodeRune_l0 at hM
    refine lwp_succ (cwp_part rfl ?_)
    refine cR ?_
    refine oS [(9, .bool (decide (y5 < y4)))] rfl ?_
    refine oE (cwp_seq ?_)
    refine cwp_condD (y5 < y4) (by kernel_rfl) (fun hc6 => ?_) (fun hc6 => ?_)
    · replace hM := ifT hc6 hM
      refine cwp_skip (thenE_n (cwp_seq (cwp_block (cR ?_))))
      obtain ⟨p9, rfl, hM⟩ := hM
      obtain ⟨hc7, hM⟩ := hM
      obtain ⟨hc8, hM⟩ := hM
      refine owp_rdG (.pointer (some (p9.add ((y5).toNat * 1)))) rfl (by kernel_rfl) (rd_ixS (P := Tryd.prog) (h := h) (t := 66) (el := 5) (sz := 1) (ad := p9) (len := y3n) (c := y3c) (k := .i64) (i := y5) (by kernel_rfl) (by kernel_rfl) hc7 hc8 (by kernel_rfl)) ?_
      obtain ⟨x10, hc11, hM⟩ := hM
      refine oL (.int .u8 x10) (p9.add ((y5).toNat * 1)) hc11 ?_
      refine oS [(5, .int .u8 x10)] rfl ?_
      refine oE (cwp_seq (cR ?_))
      refine oS [(12, .int .u8 x10), (13, .bool (decide (x10 < 128)))] rfl ?_
      refine oE ?_
      refine cwp_condD (x10 < 128) (by kernel_rfl) (fun hc13 => ?_) (fun hc13 => ?_)
      · replace hM := ifT hc13 hM
        refine cR ?_
        refine oS [(14, .int .u8 x10), (15, .int .i32 (IntKind.wrap .i32 (x10))), (2, .int .i32 (IntKind.wrap .i32 (x10))), (3, .int .i64 1)] rfl ?_
        refine oE (cwp_ret (thenE_r (blockE_r (thenE_r ?_))))
        exact q_at (Q := Q .ret) 2 (.int .i32 (IntKind.wrap .i32 (x10))) (by kernel_rfl) (q_at (Q := Q .ret) 3 (.int .i64 1) (by kernel_rfl) (hKr (IntKind.wrap .i32 (x10)) 1 _ _ hM))
      replace hM := ifF hc13 hM
      refine cwp_skip (thenE_n (cwp_exit (blockE_x rfl (thenE_x ?_))))
      exact q_at (Q := Q (.exit 0)) 0 (.slice y2 y2n y2c) (by kernel_rfl) (hK0 y2 y2n y2c _ _ hM)
    replace hM := ifF hc6 hM
    refine cwp_exit (thenE_x ?_)
    exact q_at (Q := Q (.exit 0)) 0 (.slice y2 y2n y2c) (by kernel_rfl) (hK0 y2 y2n y2c _ _ hM)
def unicode_utf8_DecodeRune (a1 : Option Addr) (a1n : Nat) (a1c : Nat) (K : Int → Int → Heap → Prop) (h : Heap) : Prop :=
 ∃ k33, unicode_utf8_DecodeRune_l0
  (fun z23 z23n z23c h24 =>
    unicode_utf8_decodeRuneSlow z23 z23n z23c (fun x26 x27 h25 =>
        K x26 x27 h25) h24)
  (fun z29 z30 h31 =>
      K z29 z30 h31) k33 a1 a1n a1c a1 a1n a1c (a1n : Int) 0 h
theorem unicode_utf8_DecodeRune_ok (a1 : Option Addr) (a1n : Nat) (a1c : Nat) (K : Int → Int → Heap → Prop) (h : Heap) (hM : unicode_utf8_DecodeRune a1 a1n a1c K h) : CallsH Tryd.prog 38 #[.slice a1 a1n a1c] (fun v h' => ∃ (r34 : Int) (r35 : Int), v = .tuple #[.int .i32 r34, .int .i64 r35] ∧ K r34 r35 h') h := by
 unfold unicode_utf8_DecodeRune at hM
 refine callsH_intro (n := 22) Tryd.func38 rfl rfl (by kernel_rfl) ?_
 refine cR ?_
 refine oS [(2, .int .i32 0), (3, .int .i64 0)] rfl ?_
 refine oE (cwp_seq (cR ?_))
 refine oS [(6, .slice a1 a1n a1c), (7, .int .i64 (a1n : Int)), (8, .int .i64 0)] rfl ?_
 refine oE (cwp_block ?_)
 obtain ⟨k_, hM⟩ := hM
 refine cwp_loop k_ (lwp_of_part (fn := Tryd.f38) (p := [1, 0, 1, 0, 0]) (by kernel_rfl) (lwp_at 0 (.slice a1 a1n a1c) (by kernel_rfl) (lwp_at 6 (.slice a1 a1n a1c) (by kernel_rfl) (lwp_at 7 (.int .i64 (a1n : Int)) (by kernel_rfl) (lwp_at 8 (.int .i64 0) (by kernel_rfl) (unicode_utf8_DecodeRune_l0_ok _ ?_ _ ?_ k_ a1 a1n a1c a1 a1n a1c (a1n : Int) 0 _ _ hM))))))
 · intro z23 z23n z23c b28 h24 hM
   refine blockE_h (thenE_n (cR ?_))
   refine oS [(18, .slice z23 z23n z23c)] rfl ?_
   refine oG (hpCallE 50 #[.slice z23 z23n z23c] (by kernel_rfl) (unicode_utf8_decodeRuneSlow_ok z23 z23n z23c _ h24 hM) ?_)
   clear hM
   rintro _ h25 ⟨x26, x27, rfl, hM⟩
   refine oS [(17, .tuple #[.int .i32 x26, .int .i64 x27]), (20, .int .i32 x26), (21, .int .i64 x27), (2, .int .i32 x26), (3, .int .i64 x27)] rfl ?_
   refine oE (cwp_ret ?_)
   exact ret_ (.tuple #[.int .i32 x26, .int .i64 x27]) (by kernel_rfl) ⟨_, _, rfl, hM⟩
 · intro z29 z30 b32 h31 hM
   refine blockE_r (thenE_r ?_)
   exact ret_ (.tuple #[.int .i32 z29, .int .i64 z30]) (by kernel_rfl) ⟨_, _, rfl, hM⟩
/- (*mullion/vt.Screen).to -/
def vt_Screen_to (a1 : Option Addr) (a2 : Int) (a3 : Int) (K : Heap → Prop) (h : Heap) : Prop :=
 nz a1 fun p4 =>
 ldI h .i64 p4 fun x5 =>
 stN (p4.add 9) [.int .i64 (imax 0 (imin a2 (IntKind.wrap .i64 (x5 - 1))))] 0 h fun h8 =>
 ldI h8 .i64 (p4.add 1) fun x9 =>
 stN (p4.add 10) [.int .i64 (imax 0 (imin a3 (IntKind.wrap .i64 (x9 - 1))))] 0 h8 fun h12 =>
 stN (p4.add 18) [.bool false] 0 h12 fun h13 =>
 K h13
theorem vt_Screen_to_ok (a1 : Option Addr) (a2 : Int) (a3 : Int) (K : Heap → Prop) (h : Heap) (hM : vt_Screen_to a1 a2 a3 K h) : CallsH Tryd.prog 51 #[.pointer a1, .int .i64 a2, .int .i64 a3] (fun v h' => v = .tuple #[] ∧ K h') h := by
 unfold vt_Screen_to at hM
 refine callsH_intro (n := 34) Tryd.func51 rfl rfl (by kernel_rfl) ?_
 refine cR ?_
 refine oS [(6, .pointer a1), (7, .int .i64 a2), (8, .pointer a1)] rfl ?_
 obtain ⟨p4, rfl, hM⟩ := hM
 refine owp_rdG (.pointer (some p4)) rfl (by kernel_rfl) (by kernel_rfl) ?_
 refine oS [(10, .pointer (some p4))] rfl ?_
 obtain ⟨x5, hc6, hM⟩ := hM
 refine oL (.int .i64 x5) p4 hc6 ?_
 refine oS [(12, .int .i64 (IntKind.wrap .i64 (x5 - 1))), (13, .int .i64 (imin a2 (IntKind.wrap .i64 (x5 - 1)))), (14, .int .i64 (imax 0 (imin a2 (IntKind.wrap .i64 (x5 - 1))))), (15, .pointer (some p4)), (16, .pointer (some (p4.add 9))), (17, .pointer (some (p4.add 9)))] rfl ?_
 refine oT (p4.add 9) [.int .i64 (imax 0 (imin a2 (IntKind.wrap .i64 (x5 - 1))))] hM ?_
 clear hM
 intro h8 hM
 refine oE (cR ?_)
 refine oS [(18, .pointer (some p4)), (19, .int .i64 a3), (20, .pointer (some p4)), (21, .pointer (some p4)), (22, .pointer (some (p4.add 1)))] rfl ?_
 obtain ⟨x9, hc10, hM⟩ := hM
 refine oL (.int .i64 x9) (p4.add 1) hc10 ?_
 refine oS [(24, .int .i64 (IntKind.wrap .i64 (x9 - 1))), (25, .int .i64 (imin a3 (IntKind.wrap .i64 (x9 - 1)))), (26, .int .i64 (imax 0 (imin a3 (IntKind.wrap .i64 (x9 - 1))))), (27, .pointer (some p4)), (28, .pointer (some (p4.add 9))), (29, .pointer (some (p4.add 10)))] rfl ?_
 refine oT (p4.add 10) [.int .i64 (imax 0 (imin a3 (IntKind.wrap .i64 (x9 - 1))))] hM ?_
 clear hM
 intro h12 hM
 refine oE (cwp_region ?_)
 refine oS [(30, .pointer (some p4)), (31, .pointer (some p4)), (32, .pointer (some (p4.add 9))), (33, .pointer (some (p4.add 18)))] rfl ?_
 refine oT (p4.add 18) [.bool false] hM ?_
 clear hM
 intro h13 hM
 refine owp_nil ?_
 exact end_ (.tuple #[]) (by kernel_rfl) ⟨rfl, hM⟩
/- (*mullion/vt.Screen).tab -/
def vt_Screen_tab_l1 (K2 : Addr → Int → Int → Heap → Prop) : Nat → Addr → Int → Int → Heap → Prop
  | 0, _, _, _, _ => False
  | k + 1, y18, y19, y20, h =>
  ldI h .i64 y18 fun x21 =>
  if y20 < (IntKind.wrap .i64 (x21 - 1)) then
   ldL h (y18.add 21) fun x28 x28n x28c =>
   nz x28 fun p33 =>
   0 ≤ y20 ∧
   y20 < (x28n : Int) ∧
   ldB h (p33.add ((y20).toNat * 1)) fun x34 =>
   if (!x34) = true then
    vt_Screen_tab_l1 K2 k y18 y19 (IntKind.wrap .i64 (y20 + 1)) h
   else
   K2 y18 y19 y20 h
  else
  K2 y18 y19 y20 h
theorem vt_Screen_tab_l1_ok {Q : Exit → Env → Heap → Prop} (K2 : Addr → Int → Int → Heap → Prop) (hK2 : ∀ (z44 : Addr) (z45 : Int) (z46 : Int) (b : Env) (h : Heap), K2 z44 z45 z46 h → Q (.exit 2) (upd (upd (upd b 0 (.pointer (some z44))) 1 (.int .i64 z45)) 4 (.int .i64 z46)) h) : ∀ (k : Nat) (y18 : Addr) (y19 : Int) (y20 : Int) (b : Env) (h : Heap) (hM : vt_Screen_tab_l1 K2 k y18 y19 y20 h), lwp Tryd.prog (partC Tryd.f52 [1, 0, 0, 0, 1, 0, 0, 1, 0, 0]) 52 Q k (upd (upd (upd b 0 (.pointer (some y18))) 1 (.int .i64 y19)) 4 (.int .i64 y20)) h := by
  intro k
  induction k with
  | zero => intro y18 y19 y20 b h hM; exact (show False from hM).elim
  | succ k ih =>
    intro y18 y19 y20 b h hM
    unfold vt_Screen_tab_l1 at hM
    refine lwp_succ (cwp_part rfl ?_)
    refine cwp_seq (cR ?_)
    refine oS [(25, .int .i64 y20), (26, .pointer (some y18)), (27, .pointer (some y18)), (28, .pointer (some y18))] rfl ?_
    obtain ⟨x21, hc22, hM⟩ := hM
    refine oL (.int .i64 x21) y18 hc22 ?_
    refine oS [(30, .int .i64 (IntKind.wrap .i64 (x21 - 1))), (31, .bool (decide (y20 < (IntKind.wrap .i64 (x21 - 1))))), (32, .bool (decide (y20 < (IntKind.wrap .i64 (x21 - 1)))))] rfl ?_
    by_cases hc27 : y20 < (IntKind.wrap .i64 (x21 - 1))
    · refine oA 31 true (decide (y20 < (IntKind.wrap .i64 (x21 - 1)))) (by rw [decide_eq_true hc27]) ?_
      refine oA 32 true (decide (y20 < (IntKind.wrap .i64 (x21 - 1)))) (by rw [decide_eq_true hc27]) ?_
      replace hM := ifT hc27 hM
      refine oS [(33, .pointer (some y18)), (34, .pointer (some y18)), (35, .pointer (some (y18.add 21)))] rfl ?_
      obtain ⟨x28, x28n, x28c, hc29, hM⟩ := hM
      refine oL (.slice x28 x28n x28c) (y18.add 21) hc29 ?_
      refine oS [(37, .int .i64 y20)] rfl ?_
      obtain ⟨p33, rfl, hM⟩ := hM
      obtain ⟨hc31, hM⟩ := hM
      obtain ⟨hc32, hM⟩ := hM
      refine owp_rdG (.pointer (some (p33.add ((y20).toNat * 1)))) rfl (by kernel_rfl) (rd_ixS (P := Tryd.prog) (h := h) (t := 64) (el := 4) (sz := 1) (ad := p33) (len := x28n) (c := x28c) (k := .i64) (i := y20) (by kernel_rfl) (by kernel_rfl) hc31 hc32 (by kernel_rfl)) ?_
      obtain ⟨x34, hc35, hM⟩ := hM
      refine oL (.bool x34) (p33.add ((y20).toNat * 1)) hc35 ?_
      refine oS [(40, .bool (!x34)), (41, .bool (!x34))] rfl ?_
      refine oE ?_
      refine cwp_condB (!x34) (by kernel_rfl) (fun hc37 => ?_) (fun hc37 => ?_)
      · replace hM := ifT hc37 hM
        refine cwp_skip (thenE_n (cwp_seq (cwp_block (cwp_skip (blockE_n (thenE_n (cwp_region ?_)))))))
        refine oS [(42, .int .i64 y20), (43, .int .i64 (IntKind.wrap .i64 (y20 + 1))), (4, .int .i64 (IntKind.wrap .i64 (y20 + 1)))] rfl ?_
        refine owp_nil ?_
        exact lwp_at 0 (.pointer (some y18)) (by kernel_rfl) (lwp_at 1 (.int .i64 y19) (by kernel_rfl) (lwp_at 4 (.int .i64 (IntKind.wrap .i64 (y20 + 1))) (by kernel_rfl) (ih y18 y19 (IntKind.wrap .i64 (y20 + 1)) _ _ hM)))
      replace hM := ifF hc37 hM
      refine cwp_exit (thenE_x ?_)
      exact q_at (Q := Q (.exit 2)) 0 (.pointer (some y18)) (by kernel_rfl) (q_at (Q := Q (.exit 2)) 1 (.int .i64 y19) (by kernel_rfl) (q_at (Q := Q (.exit 2)) 4 (.int .i64 y20) (by kernel_rfl) (hK2 y18 y19 y20 _ _ hM)))
    refine oA 31 false (decide (y20 < (IntKind.wrap .i64 (x21 - 1)))) (by rw [decide_eq_false hc27]) ?_
    refine oA 32 false (decide (y20 < (IntKind.wrap .i64 (x21 - 1)))) (by rw [decide_eq_false hc27]) ?_
    replace hM := ifF hc27 hM
    refine oS [(33, undef), (34, undef), (35, undef), (36, undef), (37, undef), (38, undef), (39, undef), (40, undef), (41, .bool false)] rfl ?_
    refine oE ?_
    refine cwp_cond (t := false) (by kernel_rfl) (fun hx_ => ?_) (fun hx_ => ?_)
    all_goals first | (cases hx_; done) | skip
    refine cwp_exit (thenE_x ?_)
    exact q_at (Q := Q (.exit 2)) 0 (.pointer (some y18)) (by kernel_rfl) (q_at (Q := Q (.exit 2)) 1 (.int .i64 y19) (by kernel_rfl) (q_at (Q := Q (.exit 2)) 4 (.int .i64 y20) (by kernel_rfl) (hK2 y18 y19 y20 _ _ hM)))
def vt_Screen_tab_l0 (K0 : Addr → Int → Heap → Prop) : Nat → Addr → Int → Int → Heap → Prop
  | 0, _, _, _, _ => False
  | k + 1, y7, y8, y9, h =>
  if 0 < y8 then
   ldI h .i64 y7 fun x14 =>
   if y9 < (IntKind.wrap .i64 (x14 - 1)) then
    ∃ k52, vt_Screen_tab_l1
     (fun z47 z48 z49 h50 =>
         vt_Screen_tab_l0 K0 k z47 (IntKind.wrap .i64 (z48 - 1)) z49 h50) k52 y7 y8 (IntKind.wrap .i64 (y9 + 1)) h
   else
   K0 y7 y9 h
  else
  K0 y7 y9 h
theorem vt_Screen_tab_l0_ok {Q : Exit → Env → Heap → Prop} (K0 : Addr → Int → Heap → Prop) (hK0 : ∀ (z57 : Addr) (z58 : Int) (b : Env) (h : Heap), K0 z57 z58 h → Q (.exit 0) (upd (upd b 0 (.pointer (some z57))) 4 (.int .i64 z58)) h) : ∀ (k : Nat) (y7 : Addr) (y8 : Int) (y9 : Int) (b : Env) (h : Heap) (hM : vt_Screen_tab_l0 K0 k y7 y8 y9 h), lwp Tryd.prog (partC Tryd.f52 [1, 0, 0, 0]) 52 Q k (upd (upd (upd b 0 (.pointer (some y7))) 1 (.int .i64 y8)) 4 (.int .i64 y9)) h := by
  intro k
  induction k with
  | zero => intro y7 y8 y9 b h hM; exact (show False from hM).elim
  | succ k ih =>
    intro y7 y8 y9 b h hM
    unfold vt_Screen_tab_l0 at hM
    refine lwp_succ (cwp_part rfl ?_)
    refine cwp_seq (cR ?_)
    refine oS [(10, .int .i64 y8), (11, .bool (decide (0 < y8))), (12, .bool (decide (0 < y8)))] rfl ?_
    by_cases hc13 : 0 < y8
    · refine oA 11 true (decide (0 < y8)) (by rw [decide_eq_true hc13]) ?_
      refine oA 12 true (decide (0 < y8)) (by rw [decide_eq_true hc13]) ?_
      replace hM := ifT hc13 hM
      refine oS [(13, .int .i64 y9), (14, .pointer (some y7)), (15, .pointer (some y7)), (16, .pointer (some y7))] rfl ?_
      obtain ⟨x14, hc15, hM⟩ := hM
      refine oL (.int .i64 x14) y7 hc15 ?_
      refine oS [(18, .int .i64 (IntKind.wrap .i64 (x14 - 1))), (19, .bool (decide (y9 < (IntKind.wrap .i64 (x14 - 1))))), (20, .bool (decide (y9 < (IntKind.wrap .i64 (x14 - 1)))))] rfl ?_
      refine oE ?_
      refine cwp_condD (y9 < (IntKind.wrap .i64 (x14 - 1))) (by kernel_rfl) (fun hc17 => ?_) (fun hc17 => ?_)
      · replace hM := ifT hc17 hM
        refine cwp_skip (thenE_n (cwp_seq (cwp_block (cR ?_))))
        refine oS [(23, .int .i64 y9), (24, .int .i64 (IntKind.wrap .i64 (y9 + 1))), (4, .int .i64 (IntKind.wrap .i64 (y9 + 1)))] rfl ?_
        refine oE (cwp_block ?_)
        obtain ⟨k_, hM⟩ := hM
        refine cwp_loop k_ (lwp_of_part (fn := Tryd.f52) (p := [1, 0, 0, 0, 1, 0, 0, 1, 0, 0]) (by kernel_rfl) (lwp_at 0 (.pointer (some y7)) (by kernel_rfl) (lwp_at 1 (.int .i64 y8) (by kernel_rfl) (lwp_at 4 (.int .i64 (IntKind.wrap .i64 (y9 + 1))) (by kernel_rfl) (vt_Screen_tab_l1_ok _ ?_ k_ y7 y8 (IntKind.wrap .i64 (y9 + 1)) _ _ hM)))))
        · intro z47 z48 z49 b51 h50 hM
          refine blockE_h (blockE_n (thenE_n (cwp_region ?_)))
          refine oS [(21, .int .i64 z48), (22, .int .i64 (IntKind.wrap .i64 (z48 - 1))), (1, .int .i64 (IntKind.wrap .i64 (z48 - 1)))] rfl ?_
          refine owp_nil ?_
          exact lwp_at 0 (.pointer (some z47)) (by kernel_rfl) (lwp_at 1 (.int .i64 (IntKind.wrap .i64 (z48 - 1))) (by kernel_rfl) (lwp_at 4 (.int .i64 z49) (by kernel_rfl) (ih z47 (IntKind.wrap .i64 (z48 - 1)) z49 _ _ hM)))
      replace hM := ifF hc17 hM
      refine cwp_exit (thenE_x ?_)
      exact q_at (Q := Q (.exit 0)) 0 (.pointer (some y7)) (by kernel_rfl) (q_at (Q := Q (.exit 0)) 4 (.int .i64 y9) (by kernel_rfl) (hK0 y7 y9 _ _ hM))
    refine oA 11 false (decide (0 < y8)) (by rw [decide_eq_false hc13]) ?_
    refine oA 12 false (decide (0 < y8)) (by rw [decide_eq_false hc13]) ?_
    replace hM := ifF hc13 hM
    refine oS [(13, undef), (14, undef), (15, undef), (16, undef), (17, undef), (18, undef), (19, undef), (20, .bool false)] rfl ?_
    refine oE ?_
    refine cwp_cond (t := false) (by kernel_rfl) (fun hx_ => ?_) (fun hx_ => ?_)
    all_goals first | (cases hx_; done) | skip
    refine cwp_exit (thenE_x ?_)
    exact q_at (Q := Q (.exit 0)) 0 (.pointer (some y7)) (by kernel_rfl) (q_at (Q := Q (.exit 0)) 4 (.int .i64 y9) (by kernel_rfl) (hK0 y7 y9 _ _ hM))
def vt_Screen_tab (a1 : Option Addr) (a2 : Int) (K : Heap → Prop) (h : Heap) : Prop :=
 nz a1 fun p3 =>
 ldI h .i64 (p3.add 9) fun x4 =>
 ∃ k67, vt_Screen_tab_l0
  (fun z59 z60 h61 =>
    ldI h61 .i64 (z59.add 10) fun x62 =>
    vt_Screen_to (some z59) z60 x62 (fun  h65 =>
        K h65) h61) k67 p3 a2 x4 h
theorem vt_Screen_tab_ok (a1 : Option Addr) (a2 : Int) (K : Heap → Prop) (h : Heap) (hM : vt_Screen_tab a1 a2 K h) : CallsH Tryd.prog 52 #[.pointer a1, .int .i64 a2] (fun v h' => v = .tuple #[] ∧ K h') h := by
 unfold vt_Screen_tab at hM
 refine callsH_intro (n := 52) Tryd.func52 rfl rfl (by kernel_rfl) ?_
 refine cR ?_
 refine oS [(5, .pointer a1)] rfl ?_
 obtain ⟨p3, rfl, hM⟩ := hM
 refine owp_rdG (.pointer (some p3)) rfl (by kernel_rfl) (by kernel_rfl) ?_
 refine oS [(7, .pointer (some (p3.add 9))), (8, .pointer (some (p3.add 9)))] rfl ?_
 obtain ⟨x4, hc5, hM⟩ := hM
 refine oL (.int .i64 x4) (p3.add 9) hc5 ?_
 refine oS [(4, .int .i64 x4)] rfl ?_
 refine oE (cwp_seq (cwp_block ?_))
 obtain ⟨k_, hM⟩ := hM
 refine cwp_loop k_ (lwp_of_part (fn := Tryd.f52) (p := [1, 0, 0, 0]) (by kernel_rfl) (lwp_at 0 (.pointer (some p3)) (by kernel_rfl) (lwp_at 1 (.int .i64 a2) (by kernel_rfl) (lwp_at 4 (.int .i64 x4) (by kernel_rfl) (vt_Screen_tab_l0_ok _ ?_ k_ p3 a2 x4 _ _ hM)))))
 · intro z59 z60 b66 h61 hM
   refine blockE_h (thenE_n (cwp_region ?_))
   refine oS [(44, .pointer (some z59)), (45, .int .i64 z60), (46, .pointer (some z59)), (47, .pointer (some z59)), (48, .pointer (some (z59.add 9))), (49, .pointer (some (z59.add 10)))] rfl ?_
   obtain ⟨x62, hc63, hM⟩ := hM
   refine oL (.int .i64 x62) (z59.add 10) hc63 ?_
   refine oG (hpCallE 51 #[.pointer (some z59), .int .i64 z60, .int .i64 x62] (by kernel_rfl) (vt_Screen_to_ok (some z59) z60 x62 _ h61 hM) ?_)
   clear hM
   rintro _ h65 ⟨rfl, hM⟩
   refine owp_nil ?_
   exact end_ (.tuple #[]) (by kernel_rfl) ⟨rfl, hM⟩
end Go.Proofs.YthjdnhhifjpidaaDoor.M
