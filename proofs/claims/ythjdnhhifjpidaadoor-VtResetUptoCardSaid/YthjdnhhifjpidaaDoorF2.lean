/-
  PRINTED BY A PROGRAM OF THIS CLAIM'S (gen.py): for each Go function a Lean function over memory, and the proof that the code comes to what it says.
-/
import Derived.Test.YthjdnhhifjpidaaDoorF1
import Derived.Test.YthjdnhhifjpidaaDoorProg
set_option linter.unusedVariables false
set_option linter.unusedSimpArgs false
set_option maxRecDepth 100000
set_option maxHeartbeats 1000000
namespace Go.Proofs.YthjdnhhifjpidaaDoor.M
open Go Go.Hp
/- (*mullion/vt.Screen).does -/
def vt_Screen_does_j0 (Kn : Heap → Prop) (y23 : Option Addr) (y24 : Int) (y25 : Bool) (h : Heap) : Prop :=
 if y25 = true then
  nz y23 fun p27 =>
  ldB h (p27.add 23) fun x28 =>
  if x28 = true then
   stN (p27.add 9) [.int .i64 0] 0 h fun h32 =>
   vt_Screen_feed (some p27) (fun  h33 =>
     Kn  h33) h32
  else
  vt_Screen_feed (some p27) (fun  h34 =>
    Kn  h34) h
 else
 if y24 = 13 then
  nz y23 fun p36 =>
  ldI h .i64 (p36.add 10) fun x37 =>
  vt_Screen_to (some p36) 0 x37 (fun  h40 =>
    Kn  h40) h
 else
 if y24 = 14 then
  nz y23 fun p42 =>
  stN (p42.add 17) [.bool true] 0 h fun h43 =>
  Kn  h43
 else
 if y24 = 15 then
  nz y23 fun p45 =>
  stN (p45.add 17) [.bool false] 0 h fun h46 =>
  Kn  h46
 else
 Kn  h
theorem vt_Screen_does_j0_ok {Q : Exit → Env → Heap → Prop} (Kn : Heap → Prop) (hKn : ∀  (b : Env) (h : Heap), Kn  h → Q .normal b h) (y23 : Option Addr) (y24 : Int) (y25 : Bool) (b : Env) (h : Heap) (hM : vt_Screen_does_j0 Kn y23 y24 y25 h) : cwp Tryd.prog (partC Tryd.f39 [1, 0, 1, 1, 1, 1, 1, 1, 1]) 68 Q (upd (upd (upd b 0 (.pointer y23)) 4 (.int .u8 y24)) 33 (.bool y25)) h := by
  unfold vt_Screen_does_j0 at hM
  refine cwp_part rfl ?_
  refine cwp_condB y25 (by kernel_rfl) (fun hc26 => ?_) (fun hc26 => ?_)
  · replace hM := ifT hc26 hM
    refine cwp_seq (cR ?_)
    refine oS [(37, .pointer y23)] rfl ?_
    obtain ⟨p27, rfl, hM⟩ := hM
    refine owp_rdG (.pointer (some p27)) rfl (by kernel_rfl) (by kernel_rfl) ?_
    refine oS [(39, .pointer (some (p27.add 23)))] rfl ?_
    obtain ⟨x28, hc29, hM⟩ := hM
    refine oL (.bool x28) (p27.add 23) hc29 ?_
    refine oE ?_
    refine cwp_condB x28 (by kernel_rfl) (fun hc31 => ?_) (fun hc31 => ?_)
    · replace hM := ifT hc31 hM
      refine cwp_region ?_
      refine oS [(41, .pointer (some p27)), (42, .pointer (some p27)), (43, .pointer (some (p27.add 9))), (44, .pointer (some (p27.add 9)))] rfl ?_
      refine oT (p27.add 9) [.int .i64 0] hM ?_
      clear hM
      intro h32 hM
      refine oE (cwp_region ?_)
      refine oS [(45, .pointer (some p27))] rfl ?_
      refine oG (hpCallE 46 #[.pointer (some p27)] (by kernel_rfl) (vt_Screen_feed_ok (some p27) _ h32 hM) ?_)
      clear hM
      rintro _ h33 ⟨rfl, hM⟩
      refine owp_nil ?_
      exact hKn  _ _ hM
    replace hM := ifF hc31 hM
    refine cwp_skip (thenE_n (cwp_region ?_))
    refine oS [(45, .pointer (some p27))] rfl ?_
    refine oG (hpCallE 46 #[.pointer (some p27)] (by kernel_rfl) (vt_Screen_feed_ok (some p27) _ h hM) ?_)
    clear hM
    rintro _ h34 ⟨rfl, hM⟩
    refine owp_nil ?_
    exact hKn  _ _ hM
  replace hM := ifF hc26 hM
  refine cR ?_
  refine oS [(48, .bool (decide (y24 = 13))), (47, .bool (decide (y24 = 13)))] rfl ?_
  refine oE ?_
  refine cwp_condD (y24 = 13) (by kernel_rfl) (fun hc35 => ?_) (fun hc35 => ?_)
  · replace hM := ifT hc35 hM
    refine cwp_region ?_
    refine oS [(49, .pointer y23), (50, .pointer y23)] rfl ?_
    obtain ⟨p36, rfl, hM⟩ := hM
    refine owp_rdG (.pointer (some p36)) rfl (by kernel_rfl) (by kernel_rfl) ?_
    refine oS [(52, .pointer (some (p36.add 9))), (53, .pointer (some (p36.add 10)))] rfl ?_
    obtain ⟨x37, hc38, hM⟩ := hM
    refine oL (.int .i64 x37) (p36.add 10) hc38 ?_
    refine oG (hpCallE 51 #[.pointer (some p36), .int .i64 0, .int .i64 x37] (by kernel_rfl) (vt_Screen_to_ok (some p36) 0 x37 _ h hM) ?_)
    clear hM
    rintro _ h40 ⟨rfl, hM⟩
    refine owp_nil ?_
    exact hKn  _ _ hM
  replace hM := ifF hc35 hM
  refine cR ?_
  refine oS [(57, .bool (decide (y24 = 14))), (56, .bool (decide (y24 = 14)))] rfl ?_
  refine oE ?_
  refine cwp_condD (y24 = 14) (by kernel_rfl) (fun hc41 => ?_) (fun hc41 => ?_)
  · replace hM := ifT hc41 hM
    refine cwp_region ?_
    refine oS [(58, .pointer y23)] rfl ?_
    obtain ⟨p42, rfl, hM⟩ := hM
    refine owp_rdG (.pointer (some p42)) rfl (by kernel_rfl) (by kernel_rfl) ?_
    refine oS [(60, .pointer (some (p42.add 9))), (61, .pointer (some (p42.add 17)))] rfl ?_
    refine oT (p42.add 17) [.bool true] hM ?_
    clear hM
    intro h43 hM
    refine owp_nil ?_
    exact hKn  _ _ hM
  replace hM := ifF hc41 hM
  refine cR ?_
  refine oS [(63, .bool (decide (y24 = 15))), (62, .bool (decide (y24 = 15)))] rfl ?_
  refine oE ?_
  refine cwp_condD (y24 = 15) (by kernel_rfl) (fun hc44 => ?_) (fun hc44 => ?_)
  · replace hM := ifT hc44 hM
    refine cwp_region ?_
    refine oS [(64, .pointer y23)] rfl ?_
    obtain ⟨p45, rfl, hM⟩ := hM
    refine owp_rdG (.pointer (some p45)) rfl (by kernel_rfl) (by kernel_rfl) ?_
    refine oS [(66, .pointer (some (p45.add 9))), (67, .pointer (some (p45.add 17)))] rfl ?_
    refine oT (p45.add 17) [.bool false] hM ?_
    clear hM
    intro h46 hM
    refine owp_nil ?_
    exact hKn  _ _ hM
  replace hM := ifF hc44 hM
  refine cwp_skip ?_
  exact hKn  _ _ hM
def vt_Screen_does (a1 : Option Addr) (a2 : Int) (K : Heap → Prop) (h : Heap) : Prop :=
 if a2 = 7 then
  nz a1 fun p4 =>
  ldI h .i64 (p4.add 29) fun x5 =>
  stN (p4.add 29) [.int .i64 (IntKind.wrap .i64 (x5 + 1))] 0 h fun h8 =>
  K h8
 else
 if a2 = 8 then
  nz a1 fun p10 =>
  ldI h .i64 (p10.add 9) fun x11 =>
  ldI h .i64 (p10.add 10) fun x15 =>
  vt_Screen_to (some p10) (IntKind.wrap .i64 (x11 - 1)) x15 (fun  h19 =>
    K h19) h
 else
 if a2 = 9 then
  vt_Screen_tab a1 1 (fun  h21 =>
    K h21) h
 else
 if a2 = 10 then
  vt_Screen_does_j0
   (fun  h47 =>
       K h47) a1 a2 (decide (a2 = 10)) h
 else
 if a2 = 11 then
  vt_Screen_does_j0
   (fun  h51 =>
       K h51) a1 a2 (decide (a2 = 11)) h
 else
 vt_Screen_does_j0
  (fun  h54 =>
      K h54) a1 a2 (decide (a2 = 12)) h
theorem vt_Screen_does_ok (a1 : Option Addr) (a2 : Int) (K : Heap → Prop) (h : Heap) (hM : vt_Screen_does a1 a2 K h) : CallsH Tryd.prog 39 #[.pointer a1, .int .u8 a2] (fun v h' => v = .tuple #[] ∧ K h') h := by
 unfold vt_Screen_does at hM
 refine callsH_intro (n := 68) Tryd.func39 rfl rfl (by kernel_rfl) ?_
 refine cR ?_
 refine oS [(4, .int .u8 a2)] rfl ?_
 refine oE (cwp_block (cR ?_))
 refine oS [(6, .bool (decide (a2 = 7))), (5, .bool (decide (a2 = 7)))] rfl ?_
 refine oE ?_
 refine cwp_condD (a2 = 7) (by kernel_rfl) (fun hc3 => ?_) (fun hc3 => ?_)
 · replace hM := ifT hc3 hM
   refine cwp_region ?_
   refine oS [(7, .pointer a1)] rfl ?_
   obtain ⟨p4, rfl, hM⟩ := hM
   refine owp_rdG (.pointer (some p4)) rfl (by kernel_rfl) (by kernel_rfl) ?_
   refine oS [(9, .pointer (some (p4.add 29)))] rfl ?_
   obtain ⟨x5, hc6, hM⟩ := hM
   refine oL (.int .i64 x5) (p4.add 29) hc6 ?_
   refine oS [(11, .int .i64 (IntKind.wrap .i64 (x5 + 1))), (12, .pointer (some p4)), (13, .pointer (some (p4.add 29)))] rfl ?_
   refine oT (p4.add 29) [.int .i64 (IntKind.wrap .i64 (x5 + 1))] hM ?_
   clear hM
   intro h8 hM
   refine owp_nil (blockE_n ?_)
   exact end_ (.tuple #[]) (by kernel_rfl) ⟨rfl, hM⟩
 replace hM := ifF hc3 hM
 refine cR ?_
 refine oS [(15, .bool (decide (a2 = 8))), (14, .bool (decide (a2 = 8)))] rfl ?_
 refine oE ?_
 refine cwp_condD (a2 = 8) (by kernel_rfl) (fun hc9 => ?_) (fun hc9 => ?_)
 · replace hM := ifT hc9 hM
   refine cwp_draw (by kernel_rfl) ?_
   refine kp 0 [12] (.pointer a1) ?_
   refine kp 1 [2, 3, 4, 5, 6, 12] (.pointer a1) ?_
   obtain ⟨p10, rfl, hM⟩ := hM
   refine kp 2 [3, 4, 5, 6, 12] (.pointer (some p10)) ?_
   refine kp 3 [4, 5, 6, 12] (.pointer (some (p10.add 9))) ?_
   refine kp 4 [5, 6, 12] (.pointer (some (p10.add 9))) ?_
   obtain ⟨x11, hc12, hM⟩ := hM
   refine kl 5 (.int .i64 x11) (p10.add 9) [6, 12] [12] hc12 ?_
   refine kp 6 [12] (.int .i64 (IntKind.wrap .i64 (x11 - 1))) ?_
   refine kp 7 [8, 9, 10, 11, 12] (.pointer (some p10)) ?_
   refine kp 8 [9, 10, 11, 12] (.pointer (some p10)) ?_
   refine kp 9 [10, 11, 12] (.pointer (some (p10.add 9))) ?_
   refine kp 10 [11, 12] (.pointer (some (p10.add 10))) ?_
   obtain ⟨x15, hc16, hM⟩ := hM
   refine kl 11 (.int .i64 x15) (p10.add 10) [12] [12] hc16 ?_
   refine k_eff (j := 12) (by kernel_rfl) rfl rfl (by kernel_rfl) (hpCallE 51 #[.pointer (some p10), .int .i64 (IntKind.wrap .i64 (x11 - 1)), .int .i64 x15] (by kernel_rfl) (vt_Screen_to_ok (some p10) (IntKind.wrap .i64 (x11 - 1)) x15 _ h hM) ?_)
   clear hM
   rintro _ h19 ⟨rfl, hM⟩
   refine ⟨trivial, ?_⟩
   refine k_done (by kernel_rfl) ?_
   refine blockE_n ?_
   exact end_ (.tuple #[]) (by kernel_rfl) ⟨rfl, hM⟩
 replace hM := ifF hc9 hM
 refine cR ?_
 refine oS [(30, .bool (decide (a2 = 9))), (29, .bool (decide (a2 = 9)))] rfl ?_
 refine oE ?_
 refine cwp_condD (a2 = 9) (by kernel_rfl) (fun hc20 => ?_) (fun hc20 => ?_)
 · replace hM := ifT hc20 hM
   refine cwp_region ?_
   refine oS [(31, .pointer a1)] rfl ?_
   refine oG (hpCallE 52 #[.pointer a1, .int .i64 1] (by kernel_rfl) (vt_Screen_tab_ok a1 1 _ h hM) ?_)
   clear hM
   rintro _ h21 ⟨rfl, hM⟩
   refine owp_nil (blockE_n ?_)
   exact end_ (.tuple #[]) (by kernel_rfl) ⟨rfl, hM⟩
 replace hM := ifF hc20 hM
 refine cwp_seq (cR ?_)
 refine oS [(34, .bool (decide (a2 = 10))), (33, .bool (decide (a2 = 10)))] rfl ?_
 refine oE ?_
 refine cwp_condD (a2 = 10) (by kernel_rfl) (fun hc22 => ?_) (fun hc22 => ?_)
 · replace hM := ifT hc22 hM
   refine cwp_skip (thenE_n ?_)
   refine cwp_of_part (fn := Tryd.f39) (p := [1, 0, 1, 1, 1, 1, 1, 1, 1]) (by kernel_rfl) (cwp_at 0 (.pointer a1) (by kernel_rfl) (cwp_at 4 (.int .u8 a2) (by kernel_rfl) (cwp_at 33 (.bool (decide (a2 = 10))) (by kernel_rfl) (vt_Screen_does_j0_ok _ ?_ a1 a2 (decide (a2 = 10)) _ _ hM))))
   · intro  b48 h47 hM
     refine blockE_n ?_
     exact end_ (.tuple #[]) (by kernel_rfl) ⟨rfl, hM⟩
 replace hM := ifF hc22 hM
 refine cR ?_
 refine oS [(35, .bool (decide (a2 = 11))), (33, .bool (decide (a2 = 11)))] rfl ?_
 refine oE ?_
 refine cwp_condD (a2 = 11) (by kernel_rfl) (fun hc50 => ?_) (fun hc50 => ?_)
 · replace hM := ifT hc50 hM
   refine cwp_skip (thenE_n ?_)
   refine cwp_of_part (fn := Tryd.f39) (p := [1, 0, 1, 1, 1, 1, 1, 1, 1]) (by kernel_rfl) (cwp_at 0 (.pointer a1) (by kernel_rfl) (cwp_at 4 (.int .u8 a2) (by kernel_rfl) (cwp_at 33 (.bool (decide (a2 = 11))) (by kernel_rfl) (vt_Screen_does_j0_ok _ ?_ a1 a2 (decide (a2 = 11)) _ _ hM))))
   · intro  b52 h51 hM
     refine blockE_n ?_
     exact end_ (.tuple #[]) (by kernel_rfl) ⟨rfl, hM⟩
 replace hM := ifF hc50 hM
 refine cwp_region ?_
 refine oS [(36, .bool (decide (a2 = 12))), (33, .bool (decide (a2 = 12)))] rfl ?_
 refine oE ?_
 refine cwp_of_part (fn := Tryd.f39) (p := [1, 0, 1, 1, 1, 1, 1, 1, 1]) (by kernel_rfl) (cwp_at 0 (.pointer a1) (by kernel_rfl) (cwp_at 4 (.int .u8 a2) (by kernel_rfl) (cwp_at 33 (.bool (decide (a2 = 12))) (by kernel_rfl) (vt_Screen_does_j0_ok _ ?_ a1 a2 (decide (a2 = 12)) _ _ hM))))
 · intro  b55 h54 hM
   refine blockE_n ?_
   exact end_ (.tuple #[]) (by kernel_rfl) ⟨rfl, hM⟩
/- (*mullion/vt.Screen).ground -/
def vt_Screen_ground_j0 (Kn : Heap → Prop) (y46 : Addr) (y47 : Int) (h : Heap) : Prop :=
 if y47 < 32 then
  vt_Screen_does (some y46) y47 (fun  h49 =>
    Kn  h49) h
 else
 if y47 < 127 then
  vt_Screen_write (some y46) (IntKind.wrap .i32 (y47)) (fun  h51 =>
    Kn  h51) h
 else
 if y47 = 127 then
  Kn  h
 else
 if ((decide (194 ≤ y47)) && (decide (y47 ≤ 244))) = true then
  stN (y46.add 34) [.int .u8 y47] 0 h fun h58 =>
  stN (y46.add 38) [.int .i64 1] 0 h58 fun h59 =>
  stN (y46.add 39) [.int .i64 2] 0 h59 fun h60 =>
  if 224 ≤ y47 then
   stN (y46.add 39) [.int .i64 3] 0 h60 fun h62 =>
   if 240 ≤ y47 then
    stN (y46.add 39) [.int .i64 4] 0 h62 fun h64 =>
    Kn  h64
   else
   Kn  h62
  else
  if 240 ≤ y47 then
   stN (y46.add 39) [.int .i64 4] 0 h60 fun h66 =>
   Kn  h66
  else
  Kn  h60
 else
 vt_Screen_write (some y46) 65533 (fun  h67 =>
   Kn  h67) h
theorem vt_Screen_ground_j0_ok {Q : Exit → Env → Heap → Prop} (Kn : Heap → Prop) (hKn : ∀  (b : Env) (h : Heap), Kn  h → Q .normal b h) (y46 : Addr) (y47 : Int) (b : Env) (h : Heap) (hM : vt_Screen_ground_j0 Kn y46 y47 h) : cwp Tryd.prog (partC Tryd.f29 [1]) 108 Q (upd (upd b 0 (.pointer (some y46))) 1 (.int .u8 y47)) h := by
  unfold vt_Screen_ground_j0 at hM
  refine cwp_part rfl ?_
  refine cwp_block (cR ?_)
  refine oS [(65, .int .u8 y47), (66, .bool (decide (y47 < 32))), (64, .bool (decide (y47 < 32)))] rfl ?_
  refine oE ?_
  refine cwp_condD (y47 < 32) (by kernel_rfl) (fun hc48 => ?_) (fun hc48 => ?_)
  · replace hM := ifT hc48 hM
    refine cwp_region ?_
    refine oS [(67, .pointer (some y46)), (68, .int .u8 y47)] rfl ?_
    refine oG (hpCallE 39 #[.pointer (some y46), .int .u8 y47] (by kernel_rfl) (vt_Screen_does_ok (some y46) y47 _ h hM) ?_)
    clear hM
    rintro _ h49 ⟨rfl, hM⟩
    refine owp_nil (blockE_n ?_)
    exact hKn  _ _ hM
  replace hM := ifF hc48 hM
  refine cR ?_
  refine oS [(71, .int .u8 y47), (72, .bool (decide (y47 < 127))), (70, .bool (decide (y47 < 127)))] rfl ?_
  refine oE ?_
  refine cwp_condD (y47 < 127) (by kernel_rfl) (fun hc50 => ?_) (fun hc50 => ?_)
  · replace hM := ifT hc50 hM
    refine cwp_region ?_
    refine oS [(73, .pointer (some y46)), (74, .int .u8 y47), (75, .int .i32 (IntKind.wrap .i32 (y47)))] rfl ?_
    refine oG (hpCallE 36 #[.pointer (some y46), .int .i32 (IntKind.wrap .i32 (y47))] (by kernel_rfl) (vt_Screen_write_ok (some y46) (IntKind.wrap .i32 (y47)) _ h hM) ?_)
    clear hM
    rintro _ h51 ⟨rfl, hM⟩
    refine owp_nil (blockE_n ?_)
    exact hKn  _ _ hM
  replace hM := ifF hc50 hM
  refine cR ?_
  refine oS [(78, .int .u8 y47), (79, .bool (decide (y47 = 127))), (77, .bool (decide (y47 = 127)))] rfl ?_
  refine oE ?_
  refine cwp_condD (y47 = 127) (by kernel_rfl) (fun hc52 => ?_) (fun hc52 => ?_)
  · replace hM := ifT hc52 hM
    refine cwp_skip (blockE_n ?_)
    exact hKn  _ _ hM
  replace hM := ifF hc52 hM
  refine cR ?_
  refine oS [(81, .int .u8 y47), (82, .bool (decide (194 ≤ y47))), (83, .bool (decide (194 ≤ y47)))] rfl ?_
  refine oB (decide (194 ≤ y47)) 3 [82, 83] (fun b_ => [(84, iteV b_ (.int .u8 y47 : Value) undef), (85, iteV b_ (.bool (decide (y47 ≤ 244)) : Value) undef), (86, .bool (b_ && (decide (y47 ≤ 244))))]) rfl (fun hb53 hq54 => oS [(84, .int .u8 y47), (85, .bool (decide (y47 ≤ 244))), (86, .bool (decide (y47 ≤ 244)))] rfl (hq54)) (fun hb55 hq56 => oS [(84, undef), (85, undef), (86, .bool false)] rfl (hq56)) ?_
  refine oS [(80, .bool ((decide (194 ≤ y47)) && (decide (y47 ≤ 244))))] rfl ?_
  refine oE ?_
  refine cwp_condB ((decide (194 ≤ y47)) && (decide (y47 ≤ 244))) (by kernel_rfl) (fun hc57 => ?_) (fun hc57 => ?_)
  · replace hM := ifT hc57 hM
    refine cR ?_
    refine oS [(87, .pointer (some y46)), (88, .int .u8 y47), (89, .pointer (some y46)), (90, .pointer (some (y46.add 34))), (91, .pointer (some (y46.add 34)))] rfl ?_
    refine oT (y46.add 34) [.int .u8 y47] hM ?_
    clear hM
    intro h58 hM
    refine oE (cR ?_)
    refine oS [(92, .pointer (some y46)), (93, .pointer (some y46)), (94, .pointer (some (y46.add 38)))] rfl ?_
    refine oT (y46.add 38) [.int .i64 1] hM ?_
    clear hM
    intro h59 hM
    refine oE (cR ?_)
    refine oS [(95, .pointer (some y46)), (96, .pointer (some y46)), (97, .pointer (some (y46.add 39)))] rfl ?_
    refine oT (y46.add 39) [.int .i64 2] hM ?_
    clear hM
    intro h60 hM
    refine oE (cwp_seq (cR ?_))
    refine oS [(98, .int .u8 y47), (99, .bool (decide (224 ≤ y47)))] rfl ?_
    refine oE ?_
    refine cwp_condD (224 ≤ y47) (by kernel_rfl) (fun hc61 => ?_) (fun hc61 => ?_)
    · replace hM := ifT hc61 hM
      refine cwp_region ?_
      refine oS [(100, .pointer (some y46)), (101, .pointer (some y46)), (102, .pointer (some (y46.add 39)))] rfl ?_
      refine oT (y46.add 39) [.int .i64 3] hM ?_
      clear hM
      intro h62 hM
      refine oE (cR ?_)
      refine oS [(103, .int .u8 y47), (104, .bool (decide (240 ≤ y47)))] rfl ?_
      refine oE ?_
      refine cwp_condD (240 ≤ y47) (by kernel_rfl) (fun hc63 => ?_) (fun hc63 => ?_)
      · replace hM := ifT hc63 hM
        refine cwp_region ?_
        refine oS [(105, .pointer (some y46)), (106, .pointer (some y46)), (107, .pointer (some (y46.add 39)))] rfl ?_
        refine oT (y46.add 39) [.int .i64 4] hM ?_
        clear hM
        intro h64 hM
        refine owp_nil (blockE_n ?_)
        exact hKn  _ _ hM
      replace hM := ifF hc63 hM
      refine cwp_skip (blockE_n ?_)
      exact hKn  _ _ hM
    replace hM := ifF hc61 hM
    refine cwp_skip (thenE_n (cR ?_))
    refine oS [(103, .int .u8 y47), (104, .bool (decide (240 ≤ y47)))] rfl ?_
    refine oE ?_
    refine cwp_condD (240 ≤ y47) (by kernel_rfl) (fun hc65 => ?_) (fun hc65 => ?_)
    · replace hM := ifT hc65 hM
      refine cwp_region ?_
      refine oS [(105, .pointer (some y46)), (106, .pointer (some y46)), (107, .pointer (some (y46.add 39)))] rfl ?_
      refine oT (y46.add 39) [.int .i64 4] hM ?_
      clear hM
      intro h66 hM
      refine owp_nil (blockE_n ?_)
      exact hKn  _ _ hM
    replace hM := ifF hc65 hM
    refine cwp_skip (blockE_n ?_)
    exact hKn  _ _ hM
  replace hM := ifF hc57 hM
  refine cwp_region ?_
  refine oS [(62, .pointer (some y46))] rfl ?_
  refine oG (hpCallE 36 #[.pointer (some y46), .int .i32 65533] (by kernel_rfl) (vt_Screen_write_ok (some y46) 65533 _ h hM) ?_)
  clear hM
  rintro _ h67 ⟨rfl, hM⟩
  refine owp_nil (blockE_n ?_)
  exact hKn  _ _ hM
def vt_Screen_ground (a1 : Option Addr) (a2 : Int) (K : Heap → Prop) (h : Heap) : Prop :=
 nz a1 fun p3 =>
 ldI h .i64 (p3.add 38) fun x4 =>
 if 0 < x4 then
  vt_Screen_goes (some p3) a2 (fun x9 h8 =>
   if x9 = true then
    ldI h8 .i64 (p3.add 38) fun x11 =>
    0 ≤ x11 ∧
    x11 < (4 : Int) ∧
    stN ((p3.add 34).add (x11.toNat * 1)) [.int .u8 a2] 0 h8 fun h17 =>
    ldI h17 .i64 (p3.add 38) fun x18 =>
    stN (p3.add 38) [.int .i64 (IntKind.wrap .i64 (x18 + 1))] 0 h17 fun h21 =>
    ldI h21 .i64 (p3.add 38) fun x22 =>
    ldI h21 .i64 (p3.add 39) fun x26 =>
    if x22 = x26 then
     stN (p3.add 38) [.int .i64 0] 0 h21 fun h31 =>
     ldI h31 .i64 (p3.add 39) fun x32 =>
     0 ≤ x32 ∧
     x32 ≤ (4 : Int) ∧
     unicode_utf8_DecodeRune (some (p3.add 34)) x32.toNat 4 (fun x39 x40 h38 =>
      vt_Width x39 (fun x42 h41 =>
       if 0 ≤ x42 then
        vt_Screen_write (some p3) x39 (fun  h44 =>
          K h44) h41
       else
         K h41) h38) h31
    else
    K h21
   else
   vt_Screen_broken (some p3) (fun  h45 =>
    vt_Screen_ground_j0
     (fun  h68 =>
           K h68) p3 a2 h45) h8) h
 else
 vt_Screen_ground_j0
  (fun  h71 =>
      K h71) p3 a2 h
theorem vt_Screen_ground_ok (a1 : Option Addr) (a2 : Int) (K : Heap → Prop) (h : Heap) (hM : vt_Screen_ground a1 a2 K h) : CallsH Tryd.prog 29 #[.pointer a1, .int .u8 a2] (fun v h' => v = .tuple #[] ∧ K h') h := by
 unfold vt_Screen_ground at hM
 refine callsH_intro (n := 108) Tryd.func29 rfl rfl (by kernel_rfl) ?_
 refine cwp_seq (cR ?_)
 refine oS [(6, .pointer a1)] rfl ?_
 obtain ⟨p3, rfl, hM⟩ := hM
 refine owp_rdG (.pointer (some p3)) rfl (by kernel_rfl) (by kernel_rfl) ?_
 refine oS [(8, .pointer (some (p3.add 38)))] rfl ?_
 obtain ⟨x4, hc5, hM⟩ := hM
 refine oL (.int .i64 x4) (p3.add 38) hc5 ?_
 refine oS [(10, .bool (decide (0 < x4)))] rfl ?_
 refine oE ?_
 refine cwp_condD (0 < x4) (by kernel_rfl) (fun hc7 => ?_) (fun hc7 => ?_)
 · replace hM := ifT hc7 hM
   refine cwp_seq (cR ?_)
   refine oS [(11, .pointer (some p3)), (12, .int .u8 a2)] rfl ?_
   refine oG (hpCallE 37 #[.pointer (some p3), .int .u8 a2] (by kernel_rfl) (vt_Screen_goes_ok (some p3) a2 _ h hM) ?_)
   clear hM
   rintro _ h8 ⟨x9, rfl, hM⟩
   refine oE ?_
   refine cwp_condB x9 (by kernel_rfl) (fun hc10 => ?_) (fun hc10 => ?_)
   · replace hM := ifT hc10 hM
     refine cwp_seq ?_
     refine cwp_draw (by kernel_rfl) ?_
     refine kp 0 [6, 7, 8, 9] (.pointer (some p3)) ?_
     refine kp 1 [2, 3, 4, 8, 9] (.pointer (some p3)) ?_
     refine kp 2 [3, 4, 8, 9] (.pointer (some p3)) ?_
     refine kp 3 [4, 8, 9] (.pointer (some (p3.add 38))) ?_
     obtain ⟨x11, hc12, hM⟩ := hM
     refine kl 4 (.int .i64 x11) (p3.add 38) [8, 9] [9] hc12 ?_
     refine kp 5 [8, 9] (.int .u8 a2) ?_
     refine kp 6 [7, 8, 9] (.pointer (some p3)) ?_
     refine kp 7 [8, 9] (.pointer (some (p3.add 34))) ?_
     obtain ⟨hc15, hM⟩ := hM
     obtain ⟨hc16, hM⟩ := hM
     refine k_pure (i := 8) [9] (.pointer (some ((p3.add 34).add (x11.toNat * 1)))) (by kernel_rfl) rfl rfl (by kernel_rfl) (fun h' => rd_ixA (P := Tryd.prog) (h := h') (t := 67) (el := 5) (sz := 1) (len := 4) (ad := (p3.add 34)) (k := .i64) (i := x11) (by kernel_rfl) (by kernel_rfl) hc15 hc16 (by kernel_rfl)) (by kernel_rfl) ?_
     refine k_effD (j := 9) (by kernel_rfl) rfl rfl (by kernel_rfl) (hpSt ((p3.add 34).add (x11.toNat * 1)) [.int .u8 a2] (fun _ => by kernel_rfl) (by kernel_rfl) hM ?_)
     clear hM
     intro h17 hM
     refine ⟨trivial, ?_⟩
     refine k_done (by kernel_rfl) ?_
     refine thenE_n (cwp_seq (cR ?_))
     refine oS [(23, .pointer (some p3)), (24, .pointer (some p3)), (25, .pointer (some (p3.add 38)))] rfl ?_
     obtain ⟨x18, hc19, hM⟩ := hM
     refine oL (.int .i64 x18) (p3.add 38) hc19 ?_
     refine oS [(27, .int .i64 (IntKind.wrap .i64 (x18 + 1))), (28, .pointer (some p3)), (29, .pointer (some (p3.add 38)))] rfl ?_
     refine oT (p3.add 38) [.int .i64 (IntKind.wrap .i64 (x18 + 1))] hM ?_
     clear hM
     intro h21 hM
     refine oE (cwp_seq ?_)
     refine cwp_draw (by kernel_rfl) ?_
     refine kp 0 [1, 2, 3, 8] (.pointer (some p3)) ?_
     refine kp 1 [2, 3, 8] (.pointer (some p3)) ?_
     refine kp 2 [3, 8] (.pointer (some (p3.add 38))) ?_
     obtain ⟨x22, hc23, hM⟩ := hM
     refine kl 3 (.int .i64 x22) (p3.add 38) [8] [] hc23 ?_
     refine kp 4 [5, 6, 7, 8] (.pointer (some p3)) ?_
     refine kp 5 [6, 7, 8] (.pointer (some p3)) ?_
     refine kp 6 [7, 8] (.pointer (some (p3.add 39))) ?_
     obtain ⟨x26, hc27, hM⟩ := hM
     refine kl 7 (.int .i64 x26) (p3.add 39) [8] [] hc27 ?_
     refine kp 8 [] (.bool (decide (x22 = x26))) ?_
     refine k_done (by kernel_rfl) ?_
     refine thenE_n ?_
     refine cwp_condD (x22 = x26) (by kernel_rfl) (fun hc30 => ?_) (fun hc30 => ?_)
     · replace hM := ifT hc30 hM
       refine cR ?_
       refine oS [(39, .pointer (some p3)), (40, .pointer (some p3)), (41, .pointer (some (p3.add 38)))] rfl ?_
       refine oT (p3.add 38) [.int .i64 0] hM ?_
       clear hM
       intro h31 hM
       refine oE (cwp_seq ?_)
       refine cwp_draw (by kernel_rfl) ?_
       refine kp 0 [1, 2, 7, 8, 9, 10, 11, 12, 13] (.pointer (some p3)) ?_
       refine kp 1 [2, 7, 8, 9, 10, 11, 12, 13] (.pointer (some p3)) ?_
       refine kp 2 [7, 8, 9, 10, 11, 12, 13] (.pointer (some (p3.add 34))) ?_
       refine kp 3 [4, 5, 6, 7, 8, 9, 10, 11, 12, 13] (.pointer (some p3)) ?_
       refine kp 4 [5, 6, 7, 8, 9, 10, 11, 12, 13] (.pointer (some p3)) ?_
       refine kp 5 [6, 7, 8, 9, 10, 11, 12, 13] (.pointer (some (p3.add 39))) ?_
       obtain ⟨x32, hc33, hM⟩ := hM
       refine kl 6 (.int .i64 x32) (p3.add 39) [7, 8, 9, 10, 11, 12, 13] [8] hc33 ?_
       obtain ⟨hc36, hM⟩ := hM
       obtain ⟨hc37, hM⟩ := hM
       refine k_pure (i := 7) [8, 9, 10, 11, 12, 13] (.slice (some (p3.add 34)) x32.toNat 4) (by kernel_rfl) rfl rfl (by kernel_rfl) (fun h' => rd_sAHi (P := Tryd.prog) (h := h') (t := 67) (el := 5) (sz := 1) (m := 4) (a := (p3.add 34)) (k := .i64) (i := x32) (by kernel_rfl) (by kernel_rfl) (by decide) hc36 hc37 (by kernel_rfl)) (by kernel_rfl) ?_
       refine k_eff (j := 8) (by kernel_rfl) rfl rfl (by kernel_rfl) (hpCallE 38 #[.slice (some (p3.add 34)) x32.toNat 4] (by kernel_rfl) (unicode_utf8_DecodeRune_ok (some (p3.add 34)) x32.toNat 4 _ h31 hM) ?_)
       clear hM
       rintro _ h38 ⟨x39, x40, rfl, hM⟩
       refine ⟨trivial, ?_⟩
       refine kp 9 [10, 11, 12, 13] (.tuple #[.int .i32 x39, .int .i64 x40]) ?_
       refine kp 10 [12, 13] (.int .i32 x39) ?_
       refine kp 11 [13] (.int .i64 x40) ?_
       refine kp 12 [13] (.int .i32 x39) ?_
       refine kp 13 [] (.int .i64 x40) ?_
       refine k_done (by kernel_rfl) ?_
       refine thenE_n (cR ?_)
       refine oS [(54, .int .i32 x39)] rfl ?_
       refine oG (hpCallE 6 #[.int .i32 x39] (by kernel_rfl) (vt_Width_ok x39 _ h38 hM) ?_)
       clear hM
       rintro _ h41 ⟨x42, rfl, hM⟩
       refine oS [(56, .bool (decide (0 ≤ x42)))] rfl ?_
       refine oE ?_
       refine cwp_condD (0 ≤ x42) (by kernel_rfl) (fun hc43 => ?_) (fun hc43 => ?_)
       · replace hM := ifT hc43 hM
         refine cwp_region ?_
         refine oS [(57, .pointer (some p3)), (58, .int .i32 x39)] rfl ?_
         refine oG (hpCallE 36 #[.pointer (some p3), .int .i32 x39] (by kernel_rfl) (vt_Screen_write_ok (some p3) x39 _ h41 hM) ?_)
         clear hM
         rintro _ h44 ⟨rfl, hM⟩
         refine oE (cwp_ret (thenE_r (thenE_r ?_)))
         exact ret_ (.tuple #[]) (by kernel_rfl) ⟨rfl, hM⟩
       replace hM := ifF hc43 hM
       refine cwp_skip (thenE_n (cwp_ret (thenE_r (thenE_r ?_))))
       exact ret_ (.tuple #[]) (by kernel_rfl) ⟨rfl, hM⟩
     replace hM := ifF hc30 hM
     refine cwp_skip (thenE_n (cwp_ret (thenE_r (thenE_r ?_))))
     exact ret_ (.tuple #[]) (by kernel_rfl) ⟨rfl, hM⟩
   replace hM := ifF hc10 hM
   refine cwp_skip (thenE_n (cwp_region ?_))
   refine oS [(60, .pointer (some p3))] rfl ?_
   refine oG (hpCallE 26 #[.pointer (some p3)] (by kernel_rfl) (vt_Screen_broken_ok (some p3) _ h8 hM) ?_)
   clear hM
   rintro _ h45 ⟨rfl, hM⟩
   refine oE ?_
   refine cwp_of_part (fn := Tryd.f29) (p := [1]) (by kernel_rfl) (cwp_at 0 (.pointer (some p3)) (by kernel_rfl) (cwp_at 1 (.int .u8 a2) (by kernel_rfl) (vt_Screen_ground_j0_ok _ ?_ p3 a2 _ _ hM)))
   · intro  b69 h68 hM
     exact end_ (.tuple #[]) (by kernel_rfl) ⟨rfl, hM⟩
 replace hM := ifF hc7 hM
 refine cwp_skip (thenE_n ?_)
 refine cwp_of_part (fn := Tryd.f29) (p := [1]) (by kernel_rfl) (cwp_at 0 (.pointer (some p3)) (by kernel_rfl) (cwp_at 1 (.int .u8 a2) (by kernel_rfl) (vt_Screen_ground_j0_ok _ ?_ p3 a2 _ _ hM)))
 · intro  b72 h71 hM
   exact end_ (.tuple #[]) (by kernel_rfl) ⟨rfl, hM⟩
/- (*mullion/vt.Screen).gather -/
def vt_Screen_gather (a1 : Option Addr) (a2 : Int) (K : Heap → Prop) (h : Heap) : Prop :=
 nz a1 fun p3 =>
 ldL h (p3.add 32) fun x4 x4n x4c =>
 if (x4n : Int) = 256 then
  stN (p3.add 33) [.bool true] 0 h fun h8 =>
  K h8
 else
 ldL h (p3.add 32) fun x9 x9n x9c =>
 gap h fun h13 =>
 appH h13 5 1 [.int .u8 0] x9 x9n x9c [.int .u8 a2] 1 fun s16 s16c h15 =>
 stN (p3.add 32) [.slice s16 (x9n + 1) s16c] 0 h15 fun h17 =>
 K h17
theorem vt_Screen_gather_ok (a1 : Option Addr) (a2 : Int) (K : Heap → Prop) (h : Heap) (hM : vt_Screen_gather a1 a2 K h) : CallsH Tryd.prog 40 #[.pointer a1, .int .u8 a2] (fun v h' => v = .tuple #[] ∧ K h') h := by
 unfold vt_Screen_gather at hM
 refine callsH_intro (n := 23) Tryd.func40 rfl rfl (by kernel_rfl) ?_
 refine cwp_seq (cR ?_)
 refine oS [(4, .pointer a1)] rfl ?_
 obtain ⟨p3, rfl, hM⟩ := hM
 refine owp_rdG (.pointer (some p3)) rfl (by kernel_rfl) (by kernel_rfl) ?_
 refine oS [(6, .pointer (some (p3.add 32)))] rfl ?_
 obtain ⟨x4, x4n, x4c, hc5, hM⟩ := hM
 refine oL (.slice x4 x4n x4c) (p3.add 32) hc5 ?_
 refine oS [(8, .int .i64 (x4n : Int)), (9, .bool (decide ((x4n : Int) = 256)))] rfl ?_
 refine oE ?_
 refine cwp_condD ((x4n : Int) = 256) (by kernel_rfl) (fun hc7 => ?_) (fun hc7 => ?_)
 · replace hM := ifT hc7 hM
   refine cR ?_
   refine oS [(10, .pointer (some p3)), (11, .pointer (some p3)), (12, .pointer (some (p3.add 33)))] rfl ?_
   refine oT (p3.add 33) [.bool true] hM ?_
   clear hM
   intro h8 hM
   refine oE (cwp_ret (thenE_r ?_))
   exact ret_ (.tuple #[]) (by kernel_rfl) ⟨rfl, hM⟩
 replace hM := ifF hc7 hM
 refine cwp_skip (thenE_n (cwp_region ?_))
 refine oS [(13, .pointer (some p3)), (14, .pointer (some p3)), (15, .pointer (some p3)), (16, .pointer (some (p3.add 32)))] rfl ?_
 obtain ⟨x9, x9n, x9c, hc10, hM⟩ := hM
 refine oL (.slice x9 x9n x9c) (p3.add 32) hc10 ?_
 refine oS [(18, .int .u8 a2)] rfl ?_
 refine oG (hpNewS #[.int .u8 a2] 5 1 (fun _ => by kernel_rfl) ?_)
 intro b12 h13 hN14
 replace hM := hM _ (New.ext hN14)
 refine oG (hpApp (t := 66) (ty := 66) (et := 5) (zv := .int .u8 0) (sz := 1) (by_ := 1) (base := x9) (n' := x9n) (c := x9c) (xb := (some ⟨b12, 0, none⟩)) (m := 1) (xc := 1) (new := [.int .u8 a2]) (fun _ => by kernel_rfl) (by kernel_rfl) (by kernel_rfl) [.int .u8 0] rfl rfl (by decide) rfl rfl ⟨Blk.cell (New.blk hN14) 0 (by kernel_rfl), trivial⟩ hM ?_)
 clear hM
 intro s16 s16c h15 hM
 refine oS [(21, .pointer (some p3)), (22, .pointer (some (p3.add 32)))] rfl ?_
 refine oT (p3.add 32) [.slice s16 (x9n + 1) s16c] hM ?_
 clear hM
 intro h17 hM
 refine owp_nil ?_
 exact end_ (.tuple #[]) (by kernel_rfl) ⟨rfl, hM⟩
/- mullion/vt.sheetOf -/
def vt_sheetOf_l0 (K0 : Nat → Nat → Heap → Prop) : Nat → Int → Nat → Nat → Nat → Int → Int → Heap → Prop
  | 0, _, _, _, _, _, _, _ => False
  | k + 1, y15, y16, y17, y18, y19, y20, h =>
  if y20 < y19 then
   ldL h ⟨y18, 0, none⟩ fun x22 x22n x22c =>
   ldI h .i64 ⟨y16, 0, none⟩ fun x26 =>
   ldI h .i64 ⟨y16, 1, none⟩ fun x28 =>
   ldI h .i64 ⟨y16, 2, none⟩ fun x30 =>
   vt_fresh y15 x26 x28 x30 (fun x39 x39n x39c h38 =>
    (cellH h38 ⟨y18, 0, none⟩ = some (.slice x22 x22n x22c)) ∧
    gap h38 fun h42 =>
    (cellH h42 ⟨y18, 0, none⟩ = some (.slice x22 x22n x22c)) ∧
    appH h42 72 24 [.slice none 0 0] x22 x22n x22c [.slice x39 x39n x39c] 1 fun s46 s46c h45 =>
    stN ⟨y18, 0, none⟩ [.slice s46 (x22n + 1) s46c] 0 h45 fun h47 =>
     vt_sheetOf_l0 K0 k y15 y16 y17 y18 y19 (IntKind.wrap .i64 (y20 + 1)) h47) h
  else
  K0 y17 y18 h
theorem vt_sheetOf_l0_ok {Q : Exit → Env → Heap → Prop} (K0 : Nat → Nat → Heap → Prop) (hK0 : ∀ (z52 : Nat) (z53 : Nat) (b : Env) (h : Heap), K0 z52 z53 h → Q (.exit 0) (upd (upd b 6 (.pointer (some ⟨z52, 0, none⟩))) 7 (.pointer (some ⟨z53, 0, none⟩))) h) : ∀ (k : Nat) (y15 : Int) (y16 : Nat) (y17 : Nat) (y18 : Nat) (y19 : Int) (y20 : Int) (b : Env) (h : Heap) (hM : vt_sheetOf_l0 K0 k y15 y16 y17 y18 y19 y20 h), lwp Tryd.prog (partC Tryd.f32 [1, 1, 0, 1, 0, 0]) 21 Q k (upd (upd (upd (upd (upd (upd b 0 (.int .i64 y15)) 5 (.pointer (some ⟨y16, 0, none⟩))) 6 (.pointer (some ⟨y17, 0, none⟩))) 7 (.pointer (some ⟨y18, 0, none⟩))) 8 (.int .i64 y19)) 9 (.int .i64 y20)) h := by
  intro k
  induction k with
  | zero => intro y15 y16 y17 y18 y19 y20 b h hM; exact (show False from hM).elim
  | succ k ih =>
    intro y15 y16 y17 y18 y19 y20 b h hM
    unfold vt_sheetOf_l0 at hM
    refine lwp_succ (cwp_part rfl ?_)
    refine cR ?_
    refine oS [(10, .bool (decide (y20 < y19)))] rfl ?_
    refine oE (cwp_seq ?_)
    refine cwp_condD (y20 < y19) (by kernel_rfl) (fun hc21 => ?_) (fun hc21 => ?_)
    · replace hM := ifT hc21 hM
      refine cwp_skip (thenE_n (cwp_seq (cwp_block ?_)))
      refine cwp_draw (by kernel_rfl) ?_
      refine kp 0 [1, 6, 7, 8] (.pointer (some ⟨y18, 0, none⟩)) ?_
      obtain ⟨x22, x22n, x22c, hc23, hM⟩ := hM
      refine kl 1 (.slice x22 x22n x22c) ⟨y18, 0, none⟩ [6, 7, 8] [6, 8] hc23 ?_
      refine kp 2 [4, 5, 6, 7, 8] (.int .i64 y15) ?_
      obtain ⟨x26, hc27, hM⟩ := hM
      obtain ⟨x28, hc29, hM⟩ := hM
      obtain ⟨x30, hc31, hM⟩ := hM
      refine k_load (i := 3) (.agg #[.int .i64 x26, .int .i64 x28, .int .i64 x30]) (fun h' => cellH h' ⟨y16, 0, none⟩ = some (.int .i64 x26) ∧ cellH h' ⟨y16, 1, none⟩ = some (.int .i64 x28) ∧ cellH h' ⟨y16, 2, none⟩ = some (.int .i64 x30) ∧ True) [4, 5, 6, 7, 8] [4, 5, 6, 8] (by kernel_rfl) (by kernel_rfl) rfl rfl (by kernel_rfl) (fun h' hS => Eq.trans (b := (cellH h' ⟨y16, 0, none⟩).bind fun v35 => (cellH h' ⟨y16, 1, none⟩).bind fun v36 => (cellH h' ⟨y16, 2, none⟩).bind fun v37 => some (.value (.agg #[v35, v36, v37]))) (by kernel_rfl) ((bindE hS.1 _).trans ((bindE hS.2.1 _).trans (bindE hS.2.2.1 _)))) ⟨hc27, hc29, hc31, trivial⟩ (by kernel_rfl) ?_
      refine k_eff (j := 4) (by kernel_rfl) rfl rfl (by kernel_rfl) (hpCallE 43 #[.int .i64 y15, .agg #[.int .i64 x26, .int .i64 x28, .int .i64 x30]] (by kernel_rfl) (vt_fresh_ok y15 x26 x28 x30 _ h hM) ?_)
      clear hM
      rintro _ h38 ⟨x39, x39n, x39c, rfl, hM⟩
      obtain ⟨hk40, hM⟩ := hM
      refine ⟨⟨⟨hk40, trivial⟩, trivial⟩, ?_⟩
      refine k_eff (j := 5) (by kernel_rfl) rfl rfl (by kernel_rfl) (hpNewS #[.slice x39 x39n x39c] 72 1 (fun _ => by kernel_rfl) ?_)
      intro b41 h42 hN43
      replace hM := hM _ (New.ext hN43)
      obtain ⟨hk44, hM⟩ := hM
      refine ⟨⟨⟨hk44, trivial⟩, trivial⟩, ?_⟩
      refine k_eff (j := 6) (by kernel_rfl) rfl rfl (by kernel_rfl) (hpApp (t := 57) (ty := 57) (et := 72) (zv := .slice none 0 0) (sz := 1) (by_ := 24) (base := x22) (n' := x22n) (c := x22c) (xb := (some ⟨b41, 0, none⟩)) (m := 1) (xc := 1) (new := [.slice x39 x39n x39c]) (fun _ => by kernel_rfl) (by kernel_rfl) (by kernel_rfl) [.slice none 0 0] rfl rfl (by decide) rfl rfl ⟨Blk.cell (New.blk hN43) 0 (by kernel_rfl), trivial⟩ hM ?_)
      clear hM
      intro s46 s46c h45 hM
      refine ⟨trivial, ?_⟩
      refine kp 7 [8] (.pointer (some ⟨y18, 0, none⟩)) ?_
      refine k_effD (j := 8) (by kernel_rfl) rfl rfl (by kernel_rfl) (hpSt ⟨y18, 0, none⟩ [.slice s46 (x22n + 1) s46c] (fun _ => by kernel_rfl) (by kernel_rfl) hM ?_)
      clear hM
      intro h47 hM
      refine ⟨trivial, ?_⟩
      refine k_done (by kernel_rfl) ?_
      refine blockE_n (thenE_n (cwp_region ?_))
      refine oS [(19, .int .i64 (IntKind.wrap .i64 (y20 + 1))), (9, .int .i64 (IntKind.wrap .i64 (y20 + 1)))] rfl ?_
      refine owp_nil ?_
      exact lwp_at 0 (.int .i64 y15) (by kernel_rfl) (lwp_at 5 (.pointer (some ⟨y16, 0, none⟩)) (by kernel_rfl) (lwp_at 6 (.pointer (some ⟨y17, 0, none⟩)) (by kernel_rfl) (lwp_at 7 (.pointer (some ⟨y18, 0, none⟩)) (by kernel_rfl) (lwp_at 8 (.int .i64 y19) (by kernel_rfl) (lwp_at 9 (.int .i64 (IntKind.wrap .i64 (y20 + 1))) (by kernel_rfl) (ih y15 y16 y17 y18 y19 (IntKind.wrap .i64 (y20 + 1)) _ _ hM))))))
    replace hM := ifF hc21 hM
    refine cwp_exit (thenE_x ?_)
    exact q_at (Q := Q (.exit 0)) 6 (.pointer (some ⟨y17, 0, none⟩)) (by kernel_rfl) (q_at (Q := Q (.exit 0)) 7 (.pointer (some ⟨y18, 0, none⟩)) (by kernel_rfl) (hK0 y17 y18 _ _ hM))
def vt_sheetOf (a1 : Int) (a2 : Int) (a3 : Int) (a4 : Int) (a5 : Int) (K : Option Addr → Nat → Nat → Option Addr → Heap → Prop) (h : Heap) : Prop :=
 newB h #[.int .i64 a3, .int .i64 a4, .int .i64 a5] 41 fun b6 h7 =>
 newB h7 #[.slice none 0 0, .pointer none] 60 fun b9 h10 =>
 newB h10 #[.slice none 0 0, .pointer none] 60 fun b12 h13 =>
 ∃ k71, vt_sheetOf_l0
  (fun z54 z55 h56 =>
    ldL h56 ⟨z55, 0, none⟩ fun x57 x57n x57c =>
    ldP h56 ⟨z55, 1, none⟩ fun x59 =>
    stN ⟨z54, 0, none⟩ [.slice x57 x57n x57c, .pointer x59] 0 h56 fun h63 =>
    ldL h63 ⟨z54, 0, none⟩ fun x64 x64n x64c =>
    ldP h63 ⟨z54, 1, none⟩ fun x66 =>
      K x64 x64n x64c x66 h63) k71 a1 b6 b9 b12 a2 0 h13
theorem vt_sheetOf_ok (a1 : Int) (a2 : Int) (a3 : Int) (a4 : Int) (a5 : Int) (K : Option Addr → Nat → Nat → Option Addr → Heap → Prop) (h : Heap) (hM : vt_sheetOf a1 a2 a3 a4 a5 K h) : CallsH Tryd.prog 32 #[.int .i64 a1, .int .i64 a2, .agg #[.int .i64 a3, .int .i64 a4, .int .i64 a5]] (fun v h' => ∃ (r72 : Option Addr) (r72n : Nat) (r72c : Nat) (r73 : Option Addr), v = .agg #[.slice r72 r72n r72c, .pointer r73] ∧ K r72 r72n r72c r73 h') h := by
 unfold vt_sheetOf at hM
 refine callsH_intro (n := 21) Tryd.func32 rfl rfl (by kernel_rfl) ?_
 refine cR ?_
 refine oG (hpNew #[.int .i64 a3, .int .i64 a4, .int .i64 a5] 41 (fun _ => by kernel_rfl) ?_)
 intro b6 h7 hN8
 replace hM := newB_of hN8 hM
 refine oG (hpNew #[.slice none 0 0, .pointer none] 60 (fun _ => by kernel_rfl) ?_)
 intro b9 h10 hN11
 replace hM := newB_of hN11 hM
 refine oE (cR ?_)
 refine oG (hpNew #[.slice none 0 0, .pointer none] 60 (fun _ => by kernel_rfl) ?_)
 intro b12 h13 hN14
 replace hM := newB_of hN14 hM
 refine oE (cwp_seq (cR ?_))
 refine oS [(8, .int .i64 a2), (9, .int .i64 0)] rfl ?_
 refine oE (cwp_block ?_)
 obtain ⟨k_, hM⟩ := hM
 refine cwp_loop k_ (lwp_of_part (fn := Tryd.f32) (p := [1, 1, 0, 1, 0, 0]) (by kernel_rfl) (lwp_at 0 (.int .i64 a1) (by kernel_rfl) (lwp_at 5 (.pointer (some ⟨b6, 0, none⟩)) (by kernel_rfl) (lwp_at 6 (.pointer (some ⟨b9, 0, none⟩)) (by kernel_rfl) (lwp_at 7 (.pointer (some ⟨b12, 0, none⟩)) (by kernel_rfl) (lwp_at 8 (.int .i64 a2) (by kernel_rfl) (lwp_at 9 (.int .i64 0) (by kernel_rfl) (vt_sheetOf_l0_ok _ ?_ k_ a1 b6 b9 b12 a2 0 _ _ hM))))))))
 · intro z54 z55 b70 h56 hM
   refine blockE_h (thenE_n (cR ?_))
   obtain ⟨x57, x57n, x57c, hc58, hM⟩ := hM
   obtain ⟨x59, hc60, hM⟩ := hM
   refine owp_rdG (.agg #[.slice x57 x57n x57c, .pointer x59]) rfl (by kernel_rfl) (Eq.trans (b := (cellH h56 ⟨z55, 0, none⟩).bind fun v61 => (cellH h56 ⟨z55, 1, none⟩).bind fun v62 => some (.value (.agg #[v61, v62]))) (by kernel_rfl) ((bindE hc58 _).trans (bindE hc60 _))) ?_
   refine oT ⟨z54, 0, none⟩ [.slice x57 x57n x57c, .pointer x59] hM ?_
   clear hM
   intro h63 hM
   refine oE (cwp_ret ?_)
   obtain ⟨x64, x64n, x64c, hc65, hM⟩ := hM
   obtain ⟨x66, hc67, hM⟩ := hM
   exact ret_ (.agg #[.slice x64 x64n x64c, .pointer x66]) (Eq.trans (b := (cellH h63 ⟨z54, 0, none⟩).bind fun v68 => (cellH h63 ⟨z54, 1, none⟩).bind fun v69 => some (.agg #[v68, v69])) (by kernel_rfl) ((bindE hc65 _).trans (bindE hc67 _))) ⟨_, _, _, _, rfl, hM⟩
/- (*mullion/vt.Screen).stops -/
def vt_Screen_stops_l0 (K0 : Heap → Prop) : Nat → Addr → Int → Heap → Prop
  | 0, _, _, _ => False
  | k + 1, y9, y10, h =>
  ldI h .i64 y9 fun x11 =>
  if y10 < x11 then
   ldL h (y9.add 21) fun x15 x15n x15c =>
   nz x15 fun p20 =>
   0 ≤ y10 ∧
   y10 < (x15n : Int) ∧
   stN (p20.add ((y10).toNat * 1)) [.bool true] 0 h fun h21 =>
   vt_Screen_stops_l0 K0 k y9 (IntKind.wrap .i64 (y10 + 8)) h21
  else
  K0  h
theorem vt_Screen_stops_l0_ok {Q : Exit → Env → Heap → Prop} (K0 : Heap → Prop) (hK0 : ∀  (b : Env) (h : Heap), K0  h → Q (.exit 0) b h) : ∀ (k : Nat) (y9 : Addr) (y10 : Int) (b : Env) (h : Heap) (hM : vt_Screen_stops_l0 K0 k y9 y10 h), lwp Tryd.prog (partC Tryd.f33 [1, 1, 0, 0]) 25 Q k (upd (upd b 0 (.pointer (some y9))) 2 (.int .i64 y10)) h := by
  intro k
  induction k with
  | zero => intro y9 y10 b h hM; exact (show False from hM).elim
  | succ k ih =>
    intro y9 y10 b h hM
    unfold vt_Screen_stops_l0 at hM
    refine lwp_succ (cwp_part rfl ?_)
    refine cwp_seq (cR ?_)
    refine oS [(11, .int .i64 y10), (12, .pointer (some y9)), (13, .pointer (some y9)), (14, .pointer (some y9))] rfl ?_
    obtain ⟨x11, hc12, hM⟩ := hM
    refine oL (.int .i64 x11) y9 hc12 ?_
    refine oS [(16, .bool (decide (y10 < x11)))] rfl ?_
    refine oE ?_
    refine cwp_condD (y10 < x11) (by kernel_rfl) (fun hc14 => ?_) (fun hc14 => ?_)
    · replace hM := ifT hc14 hM
      refine cwp_skip (thenE_n (cwp_seq (cwp_block (cwp_region ?_))))
      refine oS [(19, .pointer (some y9)), (20, .pointer (some y9)), (21, .pointer (some (y9.add 21)))] rfl ?_
      obtain ⟨x15, x15n, x15c, hc16, hM⟩ := hM
      refine oL (.slice x15 x15n x15c) (y9.add 21) hc16 ?_
      refine oS [(23, .int .i64 y10)] rfl ?_
      obtain ⟨p20, rfl, hM⟩ := hM
      obtain ⟨hc18, hM⟩ := hM
      obtain ⟨hc19, hM⟩ := hM
      refine owp_rdG (.pointer (some (p20.add ((y10).toNat * 1)))) rfl (by kernel_rfl) (rd_ixS (P := Tryd.prog) (h := h) (t := 64) (el := 4) (sz := 1) (ad := p20) (len := x15n) (c := x15c) (k := .i64) (i := y10) (by kernel_rfl) (by kernel_rfl) hc18 hc19 (by kernel_rfl)) ?_
      refine oT (p20.add ((y10).toNat * 1)) [.bool true] hM ?_
      clear hM
      intro h21 hM
      refine owp_nil (blockE_n (thenE_n (cwp_region ?_)))
      refine oS [(17, .int .i64 y10), (18, .int .i64 (IntKind.wrap .i64 (y10 + 8))), (2, .int .i64 (IntKind.wrap .i64 (y10 + 8)))] rfl ?_
      refine owp_nil ?_
      exact lwp_at 0 (.pointer (some y9)) (by kernel_rfl) (lwp_at 2 (.int .i64 (IntKind.wrap .i64 (y10 + 8))) (by kernel_rfl) (ih y9 (IntKind.wrap .i64 (y10 + 8)) _ _ hM))
    replace hM := ifF hc14 hM
    refine cwp_exit (thenE_x ?_)
    exact hK0  _ _ hM
def vt_Screen_stops (a1 : Option Addr) (K : Heap → Prop) (h : Heap) : Prop :=
 nz a1 fun p2 =>
 ldI h .i64 p2 fun x3 =>
 mkM h 4 1 [.bool false] x3 fun b6 h7 =>
 stN (p2.add 21) [.slice (some ⟨b6, 0, none⟩) x3.toNat x3.toNat] 0 h7 fun h8 =>
 ∃ k24, vt_Screen_stops_l0
  (fun  h22 =>
      K h22) k24 p2 8 h8
theorem vt_Screen_stops_ok (a1 : Option Addr) (K : Heap → Prop) (h : Heap) (hM : vt_Screen_stops a1 K h) : CallsH Tryd.prog 33 #[.pointer a1] (fun v h' => v = .tuple #[] ∧ K h') h := by
 unfold vt_Screen_stops at hM
 refine callsH_intro (n := 25) Tryd.func33 rfl rfl (by kernel_rfl) ?_
 refine cR ?_
 refine oS [(3, .pointer a1), (4, .pointer a1)] rfl ?_
 obtain ⟨p2, rfl, hM⟩ := hM
 refine owp_rdG (.pointer (some p2)) rfl (by kernel_rfl) (by kernel_rfl) ?_
 refine oS [(6, .pointer (some p2))] rfl ?_
 obtain ⟨x3, hc4, hM⟩ := hM
 refine oL (.int .i64 x3) p2 hc4 ?_
 refine oG (hpMk (t := 64) (et := 4) (zv := .bool false) (by_ := 1) (sz := 1) (x := x3) [.bool false] (fun _ => by kernel_rfl) (by kernel_rfl) (by kernel_rfl) rfl rfl (by decide) hM ?_)
 clear hM
 intro b6 h7 hM
 refine oS [(9, .pointer (some p2)), (10, .pointer (some (p2.add 21)))] rfl ?_
 refine oT (p2.add 21) [.slice (some ⟨b6, 0, none⟩) x3.toNat x3.toNat] hM ?_
 clear hM
 intro h8 hM
 refine oE (cR ?_)
 refine oS [(2, .int .i64 8)] rfl ?_
 refine oE (cwp_block ?_)
 obtain ⟨k_, hM⟩ := hM
 refine cwp_loop k_ (lwp_of_part (fn := Tryd.f33) (p := [1, 1, 0, 0]) (by kernel_rfl) (lwp_at 0 (.pointer (some p2)) (by kernel_rfl) (lwp_at 2 (.int .i64 8) (by kernel_rfl) (vt_Screen_stops_l0_ok _ ?_ k_ p2 8 _ _ hM))))
 · intro  b23 h22 hM
   refine blockE_h ?_
   exact end_ (.tuple #[]) (by kernel_rfl) ⟨rfl, hM⟩
/- (*mullion/vt.Screen).reset -/
def vt_Screen_reset (a1 : Option Addr) (K : Heap → Prop) (h : Heap) : Prop :=
 nz a1 fun p2 =>
 ldI h .i64 p2 fun x3 =>
 ldI h .i64 (p2.add 1) fun x7 =>
 ldI h .i64 (p2.add 2) fun x11 =>
 ldL h (p2.add 8) fun x15 x15n x15c =>
 ldI h .i64 (p2.add 29) fun x19 =>
 ldS h (p2.add 30) fun x23 =>
 ldI h .i64 (p2.add 1) fun x27 =>
 newB h #[.int .i64 x3, .int .i64 x7, .int .i64 x11, .slice none 0 0, .pointer none, .slice none 0 0, .pointer none, .bool false, .slice x15 x15n x15c, .int .i64 0, .int .i64 0, .int .i64 0, .int .i64 0, .int .i64 0, .bool false, .bool false, .bool false, .bool false, .bool false, .int .i64 0, .int .i64 (IntKind.wrap .i64 (x27 - 1)), .slice none 0 0, .bool false, .bool false, .bool true, .bool false, .bool false, .bool false, .string (⟨#[]⟩ : ByteArray), .int .i64 x19, .string x23, .int .i64 0, .slice none 0 0, .bool false, .int .u8 0, .int .u8 0, .int .u8 0, .int .u8 0, .int .i64 0, .int .i64 0, .int .i32 0] 69 fun b31 h32 =>
 ldI h32 .i64 ⟨b31, 0, none⟩ fun x34 =>
 ldI h32 .i64 ⟨b31, 1, none⟩ fun x36 =>
 ldI h32 .i64 ⟨b31, 2, none⟩ fun x38 =>
 ldL h32 ⟨b31, 3, none⟩ fun x40 x40n x40c =>
 ldP h32 ⟨b31, 4, none⟩ fun x42 =>
 ldL h32 ⟨b31, 5, none⟩ fun x44 x44n x44c =>
 ldP h32 ⟨b31, 6, none⟩ fun x46 =>
 ldB h32 ⟨b31, 7, none⟩ fun x48 =>
 ldL h32 ⟨b31, 8, none⟩ fun x50 x50n x50c =>
 ldI h32 .i64 ⟨b31, 9, none⟩ fun x52 =>
 ldI h32 .i64 ⟨b31, 10, none⟩ fun x54 =>
 ldI h32 .i64 ⟨b31, 11, none⟩ fun x56 =>
 ldI h32 .i64 ⟨b31, 12, none⟩ fun x58 =>
 ldI h32 .i64 ⟨b31, 13, none⟩ fun x60 =>
 ldB h32 ⟨b31, 14, none⟩ fun x62 =>
 ldB h32 ⟨b31, 15, none⟩ fun x64 =>
 ldB h32 ⟨b31, 16, none⟩ fun x66 =>
 ldB h32 ⟨b31, 17, none⟩ fun x68 =>
 ldB h32 ⟨b31, 18, none⟩ fun x70 =>
 ldI h32 .i64 ⟨b31, 19, none⟩ fun x72 =>
 ldI h32 .i64 ⟨b31, 20, none⟩ fun x74 =>
 ldL h32 ⟨b31, 21, none⟩ fun x76 x76n x76c =>
 ldB h32 ⟨b31, 22, none⟩ fun x78 =>
 ldB h32 ⟨b31, 23, none⟩ fun x80 =>
 ldB h32 ⟨b31, 24, none⟩ fun x82 =>
 ldB h32 ⟨b31, 25, none⟩ fun x84 =>
 ldB h32 ⟨b31, 26, none⟩ fun x86 =>
 ldB h32 ⟨b31, 27, none⟩ fun x88 =>
 ldS h32 ⟨b31, 28, none⟩ fun x90 =>
 ldI h32 .i64 ⟨b31, 29, none⟩ fun x92 =>
 ldS h32 ⟨b31, 30, none⟩ fun x94 =>
 ldI h32 .i64 ⟨b31, 31, none⟩ fun x96 =>
 ldL h32 ⟨b31, 32, none⟩ fun x98 x98n x98c =>
 ldB h32 ⟨b31, 33, none⟩ fun x100 =>
 ldI h32 .u8 ⟨b31, 34, none⟩ fun x102 =>
 ldI h32 .u8 ⟨b31, 35, none⟩ fun x104 =>
 ldI h32 .u8 ⟨b31, 36, none⟩ fun x106 =>
 ldI h32 .u8 ⟨b31, 37, none⟩ fun x108 =>
 ldI h32 .i64 ⟨b31, 38, none⟩ fun x110 =>
 ldI h32 .i64 ⟨b31, 39, none⟩ fun x112 =>
 ldI h32 .i32 ⟨b31, 40, none⟩ fun x114 =>
 stN p2 (.int .i64 x34 :: .int .i64 x36 :: .int .i64 x38 :: .slice x40 x40n x40c :: .pointer x42 :: .slice x44 x44n x44c :: .pointer x46 :: .bool x48 :: .slice x50 x50n x50c :: .int .i64 x52 :: .int .i64 x54 :: .int .i64 x56 :: .int .i64 x58 :: .int .i64 x60 :: .bool x62 :: .bool x64 :: .bool x66 :: .bool x68 :: .bool x70 :: .int .i64 x72 :: .int .i64 x74 :: .slice x76 x76n x76c :: .bool x78 :: .bool x80 :: .bool x82 :: .bool x84 :: .bool x86 :: .bool x88 :: .string x90 :: .int .i64 x92 :: .string x94 :: .int .i64 x96 :: .slice x98 x98n x98c :: .bool x100 :: .int .u8 x102 :: .int .u8 x104 :: .int .u8 x106 :: .int .u8 x108 :: .int .i64 x110 :: .int .i64 x112 :: .int .i32 x114 :: []) 0 h32 fun h116 =>
 ldI h116 .i64 p2 fun x117 =>
 ldI h116 .i64 (p2.add 1) fun x121 =>
 vt_sheetOf x117 x121 0 0 0 (fun x126 x126n x126c x127 h125 =>
  stN (p2.add 3) [.slice x126 x126n x126c, .pointer x127] 0 h125 fun h128 =>
  vt_Screen_stops (some p2) (fun  h129 =>
     K h129) h128) h116
theorem vt_Screen_reset_ok (a1 : Option Addr) (K : Heap → Prop) (h : Heap) (hM : vt_Screen_reset a1 K h) : CallsH Tryd.prog 24 #[.pointer a1] (fun v h' => v = .tuple #[] ∧ K h') h := by
 unfold vt_Screen_reset at hM
 refine callsH_intro (n := 54) Tryd.func24 rfl rfl (by kernel_rfl) ?_
 refine cwp_seq ?_
 refine cwp_draw (by kernel_rfl) ?_
 refine kp 0 [1, 2, 3, 29, 30, 31] (.pointer a1) ?_
 obtain ⟨p2, rfl, hM⟩ := hM
 refine kp 1 [2, 3, 29, 30, 31] (.pointer (some p2)) ?_
 refine kp 2 [3, 29, 30, 31] (.pointer (some p2)) ?_
 obtain ⟨x3, hc4, hM⟩ := hM
 refine kl 3 (.int .i64 x3) p2 [29, 30, 31] [30] hc4 ?_
 refine kp 4 [5, 6, 7, 29, 30, 31] (.pointer (some p2)) ?_
 refine kp 5 [6, 7, 29, 30, 31] (.pointer (some p2)) ?_
 refine kp 6 [7, 29, 30, 31] (.pointer (some (p2.add 1))) ?_
 obtain ⟨x7, hc8, hM⟩ := hM
 refine kl 7 (.int .i64 x7) (p2.add 1) [29, 30, 31] [30] hc8 ?_
 refine kp 8 [9, 10, 11, 29, 30, 31] (.pointer (some p2)) ?_
 refine kp 9 [10, 11, 29, 30, 31] (.pointer (some p2)) ?_
 refine kp 10 [11, 29, 30, 31] (.pointer (some (p2.add 2))) ?_
 obtain ⟨x11, hc12, hM⟩ := hM
 refine kl 11 (.int .i64 x11) (p2.add 2) [29, 30, 31] [30] hc12 ?_
 refine kp 12 [13, 14, 15, 29, 30, 31] (.pointer (some p2)) ?_
 refine kp 13 [14, 15, 29, 30, 31] (.pointer (some p2)) ?_
 refine kp 14 [15, 29, 30, 31] (.pointer (some (p2.add 8))) ?_
 obtain ⟨x15, x15n, x15c, hc16, hM⟩ := hM
 refine kl 15 (.slice x15 x15n x15c) (p2.add 8) [29, 30, 31] [30] hc16 ?_
 refine kp 16 [17, 18, 19, 29, 30, 31] (.pointer (some p2)) ?_
 refine kp 17 [18, 19, 29, 30, 31] (.pointer (some p2)) ?_
 refine kp 18 [19, 29, 30, 31] (.pointer (some (p2.add 29))) ?_
 obtain ⟨x19, hc20, hM⟩ := hM
 refine kl 19 (.int .i64 x19) (p2.add 29) [29, 30, 31] [30] hc20 ?_
 refine kp 20 [21, 22, 23, 29, 30, 31] (.pointer (some p2)) ?_
 refine kp 21 [22, 23, 29, 30, 31] (.pointer (some p2)) ?_
 refine kp 22 [23, 29, 30, 31] (.pointer (some (p2.add 30))) ?_
 obtain ⟨x23, hc24, hM⟩ := hM
 refine kl 23 (.string x23) (p2.add 30) [29, 30, 31] [30] hc24 ?_
 refine kp 24 [25, 26, 27, 28, 29, 30, 31] (.pointer (some p2)) ?_
 refine kp 25 [26, 27, 28, 29, 30, 31] (.pointer (some p2)) ?_
 refine kp 26 [27, 28, 29, 30, 31] (.pointer (some (p2.add 1))) ?_
 obtain ⟨x27, hc28, hM⟩ := hM
 refine kl 27 (.int .i64 x27) (p2.add 1) [28, 29, 30, 31] [30] hc28 ?_
 refine kp 28 [29, 30, 31] (.int .i64 (IntKind.wrap .i64 (x27 - 1))) ?_
 refine kp 29 [30, 31] (.agg #[.int .i64 x3, .int .i64 x7, .int .i64 x11, .slice none 0 0, .pointer none, .slice none 0 0, .pointer none, .bool false, .slice x15 x15n x15c, .int .i64 0, .int .i64 0, .int .i64 0, .int .i64 0, .int .i64 0, .bool false, .bool false, .bool false, .bool false, .bool false, .int .i64 0, .int .i64 (IntKind.wrap .i64 (x27 - 1)), .slice none 0 0, .bool false, .bool false, .bool true, .bool false, .bool false, .bool false, .string (⟨#[]⟩ : ByteArray), .int .i64 x19, .string x23, .int .i64 0, .slice none 0 0, .bool false, .int .u8 0, .int .u8 0, .int .u8 0, .int .u8 0, .int .i64 0, .int .i64 0, .int .i32 0]) ?_
 refine k_eff (j := 30) (by kernel_rfl) rfl rfl (by kernel_rfl) (hpNew #[.int .i64 x3, .int .i64 x7, .int .i64 x11, .slice none 0 0, .pointer none, .slice none 0 0, .pointer none, .bool false, .slice x15 x15n x15c, .int .i64 0, .int .i64 0, .int .i64 0, .int .i64 0, .int .i64 0, .bool false, .bool false, .bool false, .bool false, .bool false, .int .i64 0, .int .i64 (IntKind.wrap .i64 (x27 - 1)), .slice none 0 0, .bool false, .bool false, .bool true, .bool false, .bool false, .bool false, .string (⟨#[]⟩ : ByteArray), .int .i64 x19, .string x23, .int .i64 0, .slice none 0 0, .bool false, .int .u8 0, .int .u8 0, .int .u8 0, .int .u8 0, .int .i64 0, .int .i64 0, .int .i32 0] 69 (fun _ => by kernel_rfl) ?_)
 intro b31 h32 hN33
 replace hM := newB_of hN33 hM
 refine ⟨trivial, ?_⟩
 refine kp 31 [] (.pointer (some ⟨b31, 0, none⟩)) ?_
 refine k_done (by kernel_rfl) ?_
 refine thenE_n (cR ?_)
 refine oS [(34, .pointer (some p2)), (35, .pointer (some ⟨b31, 0, none⟩)), (36, .pointer (some ⟨b31, 0, none⟩))] rfl ?_
 obtain ⟨x34, hc35, hM⟩ := hM
 obtain ⟨x36, hc37, hM⟩ := hM
 obtain ⟨x38, hc39, hM⟩ := hM
 obtain ⟨x40, x40n, x40c, hc41, hM⟩ := hM
 obtain ⟨x42, hc43, hM⟩ := hM
 obtain ⟨x44, x44n, x44c, hc45, hM⟩ := hM
 obtain ⟨x46, hc47, hM⟩ := hM
 obtain ⟨x48, hc49, hM⟩ := hM
 obtain ⟨x50, x50n, x50c, hc51, hM⟩ := hM
 obtain ⟨x52, hc53, hM⟩ := hM
 obtain ⟨x54, hc55, hM⟩ := hM
 obtain ⟨x56, hc57, hM⟩ := hM
 obtain ⟨x58, hc59, hM⟩ := hM
 obtain ⟨x60, hc61, hM⟩ := hM
 obtain ⟨x62, hc63, hM⟩ := hM
 obtain ⟨x64, hc65, hM⟩ := hM
 obtain ⟨x66, hc67, hM⟩ := hM
 obtain ⟨x68, hc69, hM⟩ := hM
 obtain ⟨x70, hc71, hM⟩ := hM
 obtain ⟨x72, hc73, hM⟩ := hM
 obtain ⟨x74, hc75, hM⟩ := hM
 obtain ⟨x76, x76n, x76c, hc77, hM⟩ := hM
 obtain ⟨x78, hc79, hM⟩ := hM
 obtain ⟨x80, hc81, hM⟩ := hM
 obtain ⟨x82, hc83, hM⟩ := hM
 obtain ⟨x84, hc85, hM⟩ := hM
 obtain ⟨x86, hc87, hM⟩ := hM
 obtain ⟨x88, hc89, hM⟩ := hM
 obtain ⟨x90, hc91, hM⟩ := hM
 obtain ⟨x92, hc93, hM⟩ := hM
 obtain ⟨x94, hc95, hM⟩ := hM
 obtain ⟨x96, hc97, hM⟩ := hM
 obtain ⟨x98, x98n, x98c, hc99, hM⟩ := hM
 obtain ⟨x100, hc101, hM⟩ := hM
 obtain ⟨x102, hc103, hM⟩ := hM
 obtain ⟨x104, hc105, hM⟩ := hM
 obtain ⟨x106, hc107, hM⟩ := hM
 obtain ⟨x108, hc109, hM⟩ := hM
 obtain ⟨x110, hc111, hM⟩ := hM
 obtain ⟨x112, hc113, hM⟩ := hM
 obtain ⟨x114, hc115, hM⟩ := hM
 refine owp_rdG (.agg #[.int .i64 x34, .int .i64 x36, .int .i64 x38, .slice x40 x40n x40c, .pointer x42, .slice x44 x44n x44c, .pointer x46, .bool x48, .slice x50 x50n x50c, .int .i64 x52, .int .i64 x54, .int .i64 x56, .int .i64 x58, .int .i64 x60, .bool x62, .bool x64, .bool x66, .bool x68, .bool x70, .int .i64 x72, .int .i64 x74, .slice x76 x76n x76c, .bool x78, .bool x80, .bool x82, .bool x84, .bool x86, .bool x88, .string x90, .int .i64 x92, .string x94, .int .i64 x96, .slice x98 x98n x98c, .bool x100, .int .u8 x102, .int .u8 x104, .int .u8 x106, .int .u8 x108, .int .i64 x110, .int .i64 x112, .int .i32 x114]) rfl (by kernel_rfl) (rd_loadStr (P := Tryd.prog) (h := h32) (t := 69) (a := ⟨b31, 0, none⟩) (.int .i64 x34 :: .int .i64 x36 :: .int .i64 x38 :: .slice x40 x40n x40c :: .pointer x42 :: .slice x44 x44n x44c :: .pointer x46 :: .bool x48 :: .slice x50 x50n x50c :: .int .i64 x52 :: .int .i64 x54 :: .int .i64 x56 :: .int .i64 x58 :: .int .i64 x60 :: .bool x62 :: .bool x64 :: .bool x66 :: .bool x68 :: .bool x70 :: .int .i64 x72 :: .int .i64 x74 :: .slice x76 x76n x76c :: .bool x78 :: .bool x80 :: .bool x82 :: .bool x84 :: .bool x86 :: .bool x88 :: .string x90 :: .int .i64 x92 :: .string x94 :: .int .i64 x96 :: .slice x98 x98n x98c :: .bool x100 :: .int .u8 x102 :: .int .u8 x104 :: .int .u8 x106 :: .int .u8 x108 :: .int .i64 x110 :: .int .i64 x112 :: .int .i32 x114 :: []) Tryd.underlying69 (by kernel_rfl) (cN 0 hc35 (cN 1 hc37 (cN 2 hc39 (cN 3 hc41 (cN 4 hc43 (cN 5 hc45 (cN 6 hc47 (cN 7 hc49 (cN 8 hc51 (cN 9 hc53 (cN 10 hc55 (cN 11 hc57 (cN 12 hc59 (cN 13 hc61 (cN 14 hc63 (cN 15 hc65 (cN 16 hc67 (cN 17 hc69 (cN 18 hc71 (cN 19 hc73 (cN 20 hc75 (cN 21 hc77 (cN 22 hc79 (cN 23 hc81 (cN 24 hc83 (cN 25 hc85 (cN 26 hc87 (cN 27 hc89 (cN 28 hc91 (cN 29 hc93 (cN 30 hc95 (cN 31 hc97 (cN 32 hc99 (cN 33 hc101 (cN 34 hc103 (cN 35 hc105 (cN 36 hc107 (cN 37 hc109 (cN 38 hc111 (cN 39 hc113 (cN 40 hc115 trivial))))))))))))))))))))))))))))))))))))))))) (by kernel_rfl)) ?_
 refine oS [(38, .pointer (some p2))] rfl ?_
 refine oT p2 (.int .i64 x34 :: .int .i64 x36 :: .int .i64 x38 :: .slice x40 x40n x40c :: .pointer x42 :: .slice x44 x44n x44c :: .pointer x46 :: .bool x48 :: .slice x50 x50n x50c :: .int .i64 x52 :: .int .i64 x54 :: .int .i64 x56 :: .int .i64 x58 :: .int .i64 x60 :: .bool x62 :: .bool x64 :: .bool x66 :: .bool x68 :: .bool x70 :: .int .i64 x72 :: .int .i64 x74 :: .slice x76 x76n x76c :: .bool x78 :: .bool x80 :: .bool x82 :: .bool x84 :: .bool x86 :: .bool x88 :: .string x90 :: .int .i64 x92 :: .string x94 :: .int .i64 x96 :: .slice x98 x98n x98c :: .bool x100 :: .int .u8 x102 :: .int .u8 x104 :: .int .u8 x106 :: .int .u8 x108 :: .int .i64 x110 :: .int .i64 x112 :: .int .i32 x114 :: []) hM ?_
 clear hM
 intro h116 hM
 refine oE (cwp_seq ?_)
 refine cwp_draw (by kernel_rfl) ?_
 refine kp 0 [11, 12, 13] (.pointer (some p2)) ?_
 refine kp 1 [2, 3, 4, 10, 11, 12, 13] (.pointer (some p2)) ?_
 refine kp 2 [3, 4, 10, 11, 12, 13] (.pointer (some p2)) ?_
 refine kp 3 [4, 10, 11, 12, 13] (.pointer (some p2)) ?_
 obtain ⟨x117, hc118, hM⟩ := hM
 refine kl 4 (.int .i64 x117) p2 [10, 11, 12, 13] [10, 13] hc118 ?_
 refine kp 5 [6, 7, 8, 10, 11, 12, 13] (.pointer (some p2)) ?_
 refine kp 6 [7, 8, 10, 11, 12, 13] (.pointer (some p2)) ?_
 refine kp 7 [8, 10, 11, 12, 13] (.pointer (some (p2.add 1))) ?_
 obtain ⟨x121, hc122, hM⟩ := hM
 refine kl 8 (.int .i64 x121) (p2.add 1) [10, 11, 12, 13] [10, 13] hc122 ?_
 refine kp 9 [10, 11, 12, 13] (.agg #[.int .i64 0, .int .i64 0, .int .i64 0]) ?_
 refine k_eff (j := 10) (by kernel_rfl) rfl rfl (by kernel_rfl) (hpCallE 32 #[.int .i64 x117, .int .i64 x121, .agg #[.int .i64 0, .int .i64 0, .int .i64 0]] (by kernel_rfl) (vt_sheetOf_ok x117 x121 0 0 0 _ h116 hM) ?_)
 clear hM
 rintro _ h125 ⟨x126, x126n, x126c, x127, rfl, hM⟩
 refine ⟨trivial, ?_⟩
 refine kp 11 [12, 13] (.pointer (some p2)) ?_
 refine kp 12 [13] (.pointer (some (p2.add 3))) ?_
 refine k_effD (j := 13) (by kernel_rfl) rfl rfl (by kernel_rfl) (hpSt (p2.add 3) [.slice x126 x126n x126c, .pointer x127] (fun _ => by kernel_rfl) (by kernel_rfl) hM ?_)
 clear hM
 intro h128 hM
 refine ⟨trivial, ?_⟩
 refine k_done (by kernel_rfl) ?_
 refine thenE_n (cwp_region ?_)
 refine oS [(52, .pointer (some p2))] rfl ?_
 refine oG (hpCallE 33 #[.pointer (some p2)] (by kernel_rfl) (vt_Screen_stops_ok (some p2) _ h128 hM) ?_)
 clear hM
 rintro _ h129 ⟨rfl, hM⟩
 refine owp_nil ?_
 exact end_ (.tuple #[]) (by kernel_rfl) ⟨rfl, hM⟩
/- (*mullion/vt.Screen).keepCursor -/
def vt_Screen_keepCursor (a1 : Option Addr) (K : Heap → Prop) (h : Heap) : Prop :=
 nz a1 fun p2 =>
 ldI h .i64 (p2.add 9) fun x3 =>
 ldI h .i64 (p2.add 10) fun x5 =>
 ldI h .i64 (p2.add 11) fun x7 =>
 ldI h .i64 (p2.add 12) fun x9 =>
 ldI h .i64 (p2.add 13) fun x11 =>
 ldB h (p2.add 14) fun x13 =>
 ldB h (p2.add 15) fun x15 =>
 ldB h (p2.add 16) fun x17 =>
 ldB h (p2.add 17) fun x19 =>
 ldB h (p2.add 18) fun x21 =>
 newB h #[.int .i64 0, .int .i64 0, .int .i64 0, .int .i64 0, .int .i64 0, .bool false, .bool false, .bool false, .bool false, .bool false] 63 fun b23 h24 =>
 stN ⟨b23, 0, none⟩ [.int .i64 x3, .int .i64 x5, .int .i64 x7, .int .i64 x9, .int .i64 x11, .bool x13, .bool x15, .bool x17, .bool x19, .bool x21] 0 h24 fun h26 =>
 vt_Screen_shown (some p2) (fun x28 h27 =>
  nz x28 fun p29 =>
  stN (p29.add 1) [.pointer (some ⟨b23, 0, none⟩)] 0 h27 fun h30 =>
   K h30) h26
theorem vt_Screen_keepCursor_ok (a1 : Option Addr) (K : Heap → Prop) (h : Heap) (hM : vt_Screen_keepCursor a1 K h) : CallsH Tryd.prog 53 #[.pointer a1] (fun v h' => v = .tuple #[] ∧ K h') h := by
 unfold vt_Screen_keepCursor at hM
 refine callsH_intro (n := 11) Tryd.func53 rfl rfl (by kernel_rfl) ?_
 refine cR ?_
 refine oS [(3, .pointer a1)] rfl ?_
 obtain ⟨p2, rfl, hM⟩ := hM
 refine owp_rdG (.pointer (some p2)) rfl (by kernel_rfl) (by kernel_rfl) ?_
 refine oS [(5, .pointer (some (p2.add 9)))] rfl ?_
 obtain ⟨x3, hc4, hM⟩ := hM
 obtain ⟨x5, hc6, hM⟩ := hM
 obtain ⟨x7, hc8, hM⟩ := hM
 obtain ⟨x9, hc10, hM⟩ := hM
 obtain ⟨x11, hc12, hM⟩ := hM
 obtain ⟨x13, hc14, hM⟩ := hM
 obtain ⟨x15, hc16, hM⟩ := hM
 obtain ⟨x17, hc18, hM⟩ := hM
 obtain ⟨x19, hc20, hM⟩ := hM
 obtain ⟨x21, hc22, hM⟩ := hM
 refine owp_rdG (.agg #[.int .i64 x3, .int .i64 x5, .int .i64 x7, .int .i64 x9, .int .i64 x11, .bool x13, .bool x15, .bool x17, .bool x19, .bool x21]) rfl (by kernel_rfl) (rd_loadStr (P := Tryd.prog) (h := h) (t := 63) (a := (p2.add 9)) (.int .i64 x3 :: .int .i64 x5 :: .int .i64 x7 :: .int .i64 x9 :: .int .i64 x11 :: .bool x13 :: .bool x15 :: .bool x17 :: .bool x19 :: .bool x21 :: []) Tryd.underlying63 (by kernel_rfl) (cN 0 hc4 (cN 1 hc6 (cN 2 hc8 (cN 3 hc10 (cN 4 hc12 (cN 5 hc14 (cN 6 hc16 (cN 7 hc18 (cN 8 hc20 (cN 9 hc22 trivial)))))))))) (by kernel_rfl)) ?_
 refine oG (hpNew #[.int .i64 0, .int .i64 0, .int .i64 0, .int .i64 0, .int .i64 0, .bool false, .bool false, .bool false, .bool false, .bool false] 63 (fun _ => by kernel_rfl) ?_)
 intro b23 h24 hN25
 replace hM := newB_of hN25 hM
 refine oT ⟨b23, 0, none⟩ [.int .i64 x3, .int .i64 x5, .int .i64 x7, .int .i64 x9, .int .i64 x11, .bool x13, .bool x15, .bool x17, .bool x19, .bool x21] hM ?_
 clear hM
 intro h26 hM
 refine oE (cwp_region ?_)
 refine oS [(7, .pointer (some p2))] rfl ?_
 refine oG (hpCallE 22 #[.pointer (some p2)] (by kernel_rfl) (vt_Screen_shown_ok (some p2) _ h26 hM) ?_)
 clear hM
 rintro _ h27 ⟨x28, rfl, hM⟩
 obtain ⟨p29, rfl, hM⟩ := hM
 refine owp_rdG (.pointer (some p29)) rfl (by kernel_rfl) (by kernel_rfl) ?_
 refine oS [(10, .pointer (some (p29.add 1)))] rfl ?_
 refine oT (p29.add 1) [.pointer (some ⟨b23, 0, none⟩)] hM ?_
 clear hM
 intro h30 hM
 refine owp_nil ?_
 exact end_ (.tuple #[]) (by kernel_rfl) ⟨rfl, hM⟩
/- (*mullion/vt.Screen).backCursor -/
def vt_Screen_backCursor (a1 : Option Addr) (K : Heap → Prop) (h : Heap) : Prop :=
 vt_Screen_shown a1 (fun x3 h2 =>
  nz x3 fun p4 =>
  ldP h2 (p4.add 1) fun x5 =>
  if (!x5.isNone) = true then
   nz x5 fun p9 =>
   ldI h2 .i64 p9 fun x10 =>
   ldI h2 .i64 (p9.add 1) fun x12 =>
   ldI h2 .i64 (p9.add 2) fun x14 =>
   ldI h2 .i64 (p9.add 3) fun x16 =>
   ldI h2 .i64 (p9.add 4) fun x18 =>
   ldB h2 (p9.add 5) fun x20 =>
   ldB h2 (p9.add 6) fun x22 =>
   ldB h2 (p9.add 7) fun x24 =>
   ldB h2 (p9.add 8) fun x26 =>
   ldB h2 (p9.add 9) fun x28 =>
   nz a1 fun p30 =>
   stN (p30.add 9) [.int .i64 x10, .int .i64 x12, .int .i64 x14, .int .i64 x16, .int .i64 x18, .bool x20, .bool x22, .bool x24, .bool x26, .bool x28] 0 h2 fun h31 =>
   K h31
  else
  nz a1 fun p32 =>
  stN (p32.add 9) [.int .i64 0, .int .i64 0, .int .i64 0, .int .i64 0, .int .i64 0, .bool false, .bool false, .bool false, .bool false, .bool false] 0 h2 fun h33 =>
   K h33) h
theorem vt_Screen_backCursor_ok (a1 : Option Addr) (K : Heap → Prop) (h : Heap) (hM : vt_Screen_backCursor a1 K h) : CallsH Tryd.prog 54 #[.pointer a1] (fun v h' => v = .tuple #[] ∧ K h') h := by
 unfold vt_Screen_backCursor at hM
 refine callsH_intro (n := 20) Tryd.func54 rfl rfl (by kernel_rfl) ?_
 refine cR ?_
 refine oS [(3, .pointer a1)] rfl ?_
 refine oG (hpCallE 22 #[.pointer a1] (by kernel_rfl) (vt_Screen_shown_ok a1 _ h hM) ?_)
 clear hM
 rintro _ h2 ⟨x3, rfl, hM⟩
 obtain ⟨p4, rfl, hM⟩ := hM
 refine owp_rdG (.pointer (some p4)) rfl (by kernel_rfl) (by kernel_rfl) ?_
 refine oS [(6, .pointer (some (p4.add 1)))] rfl ?_
 obtain ⟨x5, hc6, hM⟩ := hM
 refine oL (.pointer x5) (p4.add 1) hc6 ?_
 refine oS [(2, .pointer x5)] rfl ?_
 refine oE (cR ?_)
 refine oS [(8, .pointer x5)] rfl ?_
 refine owp_rdG (.bool (!x5.isNone)) rfl (by kernel_rfl) (rd_neNil (P := Tryd.prog) (h := h2) (t := 58) (el := 63) (by kernel_rfl) (by kernel_rfl)) ?_
 refine oE ?_
 refine cwp_condB (!x5.isNone) (by kernel_rfl) (fun hc8 => ?_) (fun hc8 => ?_)
 · replace hM := ifT hc8 hM
   refine cwp_region ?_
   refine oS [(10, .pointer a1), (11, .pointer x5)] rfl ?_
   obtain ⟨p9, rfl, hM⟩ := hM
   refine owp_rdG (.pointer (some p9)) rfl (by kernel_rfl) (by kernel_rfl) ?_
   obtain ⟨x10, hc11, hM⟩ := hM
   obtain ⟨x12, hc13, hM⟩ := hM
   obtain ⟨x14, hc15, hM⟩ := hM
   obtain ⟨x16, hc17, hM⟩ := hM
   obtain ⟨x18, hc19, hM⟩ := hM
   obtain ⟨x20, hc21, hM⟩ := hM
   obtain ⟨x22, hc23, hM⟩ := hM
   obtain ⟨x24, hc25, hM⟩ := hM
   obtain ⟨x26, hc27, hM⟩ := hM
   obtain ⟨x28, hc29, hM⟩ := hM
   refine owp_rdG (.agg #[.int .i64 x10, .int .i64 x12, .int .i64 x14, .int .i64 x16, .int .i64 x18, .bool x20, .bool x22, .bool x24, .bool x26, .bool x28]) rfl (by kernel_rfl) (rd_loadStr (P := Tryd.prog) (h := h2) (t := 63) (a := p9) (.int .i64 x10 :: .int .i64 x12 :: .int .i64 x14 :: .int .i64 x16 :: .int .i64 x18 :: .bool x20 :: .bool x22 :: .bool x24 :: .bool x26 :: .bool x28 :: []) Tryd.underlying63 (by kernel_rfl) (cN 0 hc11 (cN 1 hc13 (cN 2 hc15 (cN 3 hc17 (cN 4 hc19 (cN 5 hc21 (cN 6 hc23 (cN 7 hc25 (cN 8 hc27 (cN 9 hc29 trivial)))))))))) (by kernel_rfl)) ?_
   obtain ⟨p30, rfl, hM⟩ := hM
   refine owp_rdG (.pointer (some p30)) rfl (by kernel_rfl) (by kernel_rfl) ?_
   refine oS [(15, .pointer (some (p30.add 9)))] rfl ?_
   refine oT (p30.add 9) [.int .i64 x10, .int .i64 x12, .int .i64 x14, .int .i64 x16, .int .i64 x18, .bool x20, .bool x22, .bool x24, .bool x26, .bool x28] hM ?_
   clear hM
   intro h31 hM
   refine owp_nil ?_
   exact end_ (.tuple #[]) (by kernel_rfl) ⟨rfl, hM⟩
 replace hM := ifF hc8 hM
 refine cwp_region ?_
 refine oS [(16, .pointer a1), (17, .agg #[.int .i64 0, .int .i64 0, .int .i64 0, .int .i64 0, .int .i64 0, .bool false, .bool false, .bool false, .bool false, .bool false])] rfl ?_
 obtain ⟨p32, rfl, hM⟩ := hM
 refine owp_rdG (.pointer (some p32)) rfl (by kernel_rfl) (by kernel_rfl) ?_
 refine oS [(19, .pointer (some (p32.add 9)))] rfl ?_
 refine oT (p32.add 9) [.int .i64 0, .int .i64 0, .int .i64 0, .int .i64 0, .int .i64 0, .bool false, .bool false, .bool false, .bool false, .bool false] hM ?_
 clear hM
 intro h33 hM
 refine owp_nil ?_
 exact end_ (.tuple #[]) (by kernel_rfl) ⟨rfl, hM⟩
/- (*mullion/vt.Screen).down -/
def vt_Screen_down_l0 (K0 : Heap → Prop) : Nat → Option Addr → Int → Int → Option Addr → Nat → Nat → Int → Int → Heap → Prop
  | 0, _, _, _, _, _, _, _, _, _ => False
  | k + 1, y11, y12, y13, y14, y14n, y14c, y15, y16, h =>
  if y16 < y15 then
   0 ≤ (IntKind.wrap .i64 (y13 + 1)) ∧
   (IntKind.wrap .i64 (y13 + 1)) ≤ (y14c : Int) ∧
   0 ≤ (IntKind.wrap .i64 (y12 + 1)) ∧
   (IntKind.wrap .i64 (y12 + 1)) ≤ (IntKind.wrap .i64 (y13 + 1)) ∧
   0 ≤ y13 ∧
   y13 ≤ (y14c : Int) ∧
   0 ≤ y12 ∧
   y12 ≤ y13 ∧
   cpM h 1 (cutA y14 y14c (IntKind.wrap .i64 (y12 + 1)).toNat 1) ((IntKind.wrap .i64 (y13 + 1)).toNat - (IntKind.wrap .i64 (y12 + 1)).toNat) (cutA y14 y14c y12.toNat 1) (y13.toNat - y12.toNat) fun h26 =>
   nz y11 fun p27 =>
   ldI h26 .i64 p27 fun x28 =>
   vt_Screen_erased (some p27) (fun x33 x34 x35 x36 x37 h32 =>
    (cellH h32 p27 = some (.int .i64 x28)) ∧
    vt_fresh x28 x35 x36 x37 (fun x40 x40n x40c h39 =>
     nz y14 fun p43 =>
     0 ≤ y12 ∧
     y12 < (y14n : Int) ∧
     stN (p43.add ((y12).toNat * 1)) [.slice x40 x40n x40c] 0 h39 fun h44 =>
       vt_Screen_down_l0 K0 k (some p27) y12 y13 (some p43) y14n y14c y15 (IntKind.wrap .i64 (y16 + 1)) h44) h32) h26
  else
  K0  h
theorem vt_Screen_down_l0_ok {Q : Exit → Env → Heap → Prop} (K0 : Heap → Prop) (hK0 : ∀  (b : Env) (h : Heap), K0  h → Q (.exit 0) b h) : ∀ (k : Nat) (y11 : Option Addr) (y12 : Int) (y13 : Int) (y14 : Option Addr) (y14n : Nat) (y14c : Nat) (y15 : Int) (y16 : Int) (b : Env) (h : Heap) (hM : vt_Screen_down_l0 K0 k y11 y12 y13 y14 y14n y14c y15 y16 h), lwp Tryd.prog (partC Tryd.f55 [1, 1, 0, 0]) 45 Q k (upd (upd (upd (upd (upd (upd b 0 (.pointer y11)) 1 (.int .i64 y12)) 2 (.int .i64 y13)) 8 (.slice y14 y14n y14c)) 19 (.int .i64 y15)) 20 (.int .i64 y16)) h := by
  intro k
  induction k with
  | zero => intro y11 y12 y13 y14 y14n y14c y15 y16 b h hM; exact (show False from hM).elim
  | succ k ih =>
    intro y11 y12 y13 y14 y14n y14c y15 y16 b h hM
    unfold vt_Screen_down_l0 at hM
    refine lwp_succ (cwp_part rfl ?_)
    refine cR ?_
    refine oS [(21, .bool (decide (y16 < y15)))] rfl ?_
    refine oE (cwp_seq ?_)
    refine cwp_condD (y16 < y15) (by kernel_rfl) (fun hc17 => ?_) (fun hc17 => ?_)
    · replace hM := ifT hc17 hM
      refine cwp_skip (thenE_n (cwp_seq (cwp_block (cwp_seq ?_))))
      refine cwp_draw (by kernel_rfl) ?_
      refine kp 0 [5, 10] (.slice y14 y14n y14c) ?_
      refine kp 1 [2, 5, 10] (.int .i64 y12) ?_
      refine kp 2 [5, 10] (.int .i64 (IntKind.wrap .i64 (y12 + 1))) ?_
      refine kp 3 [4, 5, 10] (.int .i64 y13) ?_
      refine kp 4 [5, 10] (.int .i64 (IntKind.wrap .i64 (y13 + 1))) ?_
      obtain ⟨hc18, hM⟩ := hM
      obtain ⟨hc19, hM⟩ := hM
      obtain ⟨hc20, hM⟩ := hM
      obtain ⟨hc21, hM⟩ := hM
      refine k_pure (i := 5) [10] (.slice (cutA y14 y14c (IntKind.wrap .i64 (y12 + 1)).toNat 1) ((IntKind.wrap .i64 (y13 + 1)).toNat - (IntKind.wrap .i64 (y12 + 1)).toNat) (y14c - (IntKind.wrap .i64 (y12 + 1)).toNat)) (by kernel_rfl) rfl rfl (by kernel_rfl) (fun h' => rd_sSLH (P := Tryd.prog) (h := h') (t := 57) (el := 72) (sz := 1) (a := y14) (n := y14n) (c := y14c) (k := .i64) (k' := .i64) (i := (IntKind.wrap .i64 (y12 + 1))) (j := (IntKind.wrap .i64 (y13 + 1))) (by kernel_rfl) (by kernel_rfl) hc18 hc19 hc20 hc21 (by kernel_rfl)) (by kernel_rfl) ?_
      refine kp 6 [9, 10] (.slice y14 y14n y14c) ?_
      refine kp 7 [9, 10] (.int .i64 y12) ?_
      refine kp 8 [9, 10] (.int .i64 y13) ?_
      obtain ⟨hc22, hM⟩ := hM
      obtain ⟨hc23, hM⟩ := hM
      obtain ⟨hc24, hM⟩ := hM
      obtain ⟨hc25, hM⟩ := hM
      refine k_pure (i := 9) [10] (.slice (cutA y14 y14c y12.toNat 1) (y13.toNat - y12.toNat) (y14c - y12.toNat)) (by kernel_rfl) rfl rfl (by kernel_rfl) (fun h' => rd_sSLH (P := Tryd.prog) (h := h') (t := 57) (el := 72) (sz := 1) (a := y14) (n := y14n) (c := y14c) (k := .i64) (k' := .i64) (i := y12) (j := y13) (by kernel_rfl) (by kernel_rfl) hc22 hc23 hc24 hc25 (by kernel_rfl)) (by kernel_rfl) ?_
      refine k_eff (j := 10) (by kernel_rfl) rfl rfl (by kernel_rfl) (hpCp (t := 57) (t2 := 57) (ty := 3) (et := 72) (sz := 1) (d := (cutA y14 y14c (IntKind.wrap .i64 (y12 + 1)).toNat 1)) (dn := ((IntKind.wrap .i64 (y13 + 1)).toNat - (IntKind.wrap .i64 (y12 + 1)).toNat)) (dc := (y14c - (IntKind.wrap .i64 (y12 + 1)).toNat)) (s := (cutA y14 y14c y12.toNat 1)) (sn := (y13.toNat - y12.toNat)) (sc := (y14c - y12.toNat)) (fun _ => by kernel_rfl) (by kernel_rfl) (by kernel_rfl) hM ?_)
      clear hM
      intro h26 hM
      refine ⟨trivial, ?_⟩
      refine k_done (by kernel_rfl) ?_
      refine thenE_n ?_
      refine cwp_draw (by kernel_rfl) ?_
      refine kp 0 [10, 11] (.slice y14 y14n y14c) ?_
      refine kp 1 [10, 11] (.int .i64 y12) ?_
      refine kp 2 [3, 4, 5, 9, 10, 11] (.pointer y11) ?_
      obtain ⟨p27, rfl, hM⟩ := hM
      refine kp 3 [4, 5, 9, 10, 11] (.pointer (some p27)) ?_
      refine kp 4 [5, 9, 10, 11] (.pointer (some p27)) ?_
      obtain ⟨x28, hc29, hM⟩ := hM
      refine kl 5 (.int .i64 x28) p27 [9, 10, 11] [9, 11] hc29 ?_
      refine kp 6 [7, 8, 9, 10, 11] (.pointer (some p27)) ?_
      refine k_eff (j := 7) (by kernel_rfl) rfl rfl (by kernel_rfl) (hpCallE 63 #[.pointer (some p27)] (by kernel_rfl) (vt_Screen_erased_ok (some p27) _ h26 hM) ?_)
      clear hM
      rintro _ h32 ⟨x33, x34, x35, x36, x37, rfl, hM⟩
      obtain ⟨hk38, hM⟩ := hM
      refine ⟨⟨⟨hk38, trivial⟩, trivial⟩, ?_⟩
      refine kp 8 [9, 10, 11] (.agg #[.int .i64 x35, .int .i64 x36, .int .i64 x37]) ?_
      refine k_eff (j := 9) (by kernel_rfl) rfl rfl (by kernel_rfl) (hpCallE 43 #[.int .i64 x28, .agg #[.int .i64 x35, .int .i64 x36, .int .i64 x37]] (by kernel_rfl) (vt_fresh_ok x28 x35 x36 x37 _ h32 hM) ?_)
      clear hM
      rintro _ h39 ⟨x40, x40n, x40c, rfl, hM⟩
      refine ⟨trivial, ?_⟩
      obtain ⟨p43, rfl, hM⟩ := hM
      obtain ⟨hc41, hM⟩ := hM
      obtain ⟨hc42, hM⟩ := hM
      refine k_pure (i := 10) [11] (.pointer (some (p43.add ((y12).toNat * 1)))) (by kernel_rfl) rfl rfl (by kernel_rfl) (fun h' => rd_ixS (P := Tryd.prog) (h := h') (t := 57) (el := 72) (sz := 1) (ad := p43) (len := y14n) (c := y14c) (k := .i64) (i := y12) (by kernel_rfl) (by kernel_rfl) hc41 hc42 (by kernel_rfl)) (by kernel_rfl) ?_
      refine k_effD (j := 11) (by kernel_rfl) rfl rfl (by kernel_rfl) (hpSt (p43.add ((y12).toNat * 1)) [.slice x40 x40n x40c] (fun _ => by kernel_rfl) (by kernel_rfl) hM ?_)
      clear hM
      intro h44 hM
      refine ⟨trivial, ?_⟩
      refine k_done (by kernel_rfl) ?_
      refine blockE_n (thenE_n (cwp_region ?_))
      refine oS [(44, .int .i64 (IntKind.wrap .i64 (y16 + 1))), (20, .int .i64 (IntKind.wrap .i64 (y16 + 1)))] rfl ?_
      refine owp_nil ?_
      exact lwp_at 0 (.pointer (some p27)) (by kernel_rfl) (lwp_at 1 (.int .i64 y12) (by kernel_rfl) (lwp_at 2 (.int .i64 y13) (by kernel_rfl) (lwp_at 8 (.slice (some p43) y14n y14c) (by kernel_rfl) (lwp_at 19 (.int .i64 y15) (by kernel_rfl) (lwp_at 20 (.int .i64 (IntKind.wrap .i64 (y16 + 1))) (by kernel_rfl) (ih (some p27) y12 y13 (some p43) y14n y14c y15 (IntKind.wrap .i64 (y16 + 1)) _ _ hM))))))
    replace hM := ifF hc17 hM
    refine cwp_exit (thenE_x ?_)
    exact hK0  _ _ hM
def vt_Screen_down (a1 : Option Addr) (a2 : Int) (a3 : Int) (a4 : Int) (K : Heap → Prop) (h : Heap) : Prop :=
 vt_Screen_shown a1 (fun x6 h5 =>
  nz x6 fun p7 =>
  ldL h5 p7 fun x8 x8n x8c =>
  ∃ k47, vt_Screen_down_l0
   (fun  h45 =>
        K h45) k47 a1 a2 a3 x8 x8n x8c (imin a4 (IntKind.wrap .i64 ((IntKind.wrap .i64 (a3 - a2)) + 1))) 0 h5) h
theorem vt_Screen_down_ok (a1 : Option Addr) (a2 : Int) (a3 : Int) (a4 : Int) (K : Heap → Prop) (h : Heap) (hM : vt_Screen_down a1 a2 a3 a4 K h) : CallsH Tryd.prog 55 #[.pointer a1, .int .i64 a2, .int .i64 a3, .int .i64 a4] (fun v h' => v = .tuple #[] ∧ K h') h := by
 unfold vt_Screen_down at hM
 refine callsH_intro (n := 45) Tryd.func55 rfl rfl (by kernel_rfl) ?_
 refine cR ?_
 refine oS [(9, .pointer a1)] rfl ?_
 refine oG (hpCallE 22 #[.pointer a1] (by kernel_rfl) (vt_Screen_shown_ok a1 _ h hM) ?_)
 clear hM
 rintro _ h5 ⟨x6, rfl, hM⟩
 obtain ⟨p7, rfl, hM⟩ := hM
 refine owp_rdG (.pointer (some p7)) rfl (by kernel_rfl) (by kernel_rfl) ?_
 refine oS [(12, .pointer (some p7))] rfl ?_
 obtain ⟨x8, x8n, x8c, hc9, hM⟩ := hM
 refine oL (.slice x8 x8n x8c) p7 hc9 ?_
 refine oS [(8, .slice x8 x8n x8c)] rfl ?_
 refine oE (cR ?_)
 refine oS [(14, .int .i64 a4), (15, .int .i64 a3), (16, .int .i64 a2), (17, .int .i64 (IntKind.wrap .i64 (a3 - a2))), (18, .int .i64 (IntKind.wrap .i64 ((IntKind.wrap .i64 (a3 - a2)) + 1))), (19, .int .i64 (imin a4 (IntKind.wrap .i64 ((IntKind.wrap .i64 (a3 - a2)) + 1)))), (20, .int .i64 0)] rfl ?_
 refine oE (cwp_block ?_)
 obtain ⟨k_, hM⟩ := hM
 refine cwp_loop k_ (lwp_of_part (fn := Tryd.f55) (p := [1, 1, 0, 0]) (by kernel_rfl) (lwp_at 0 (.pointer a1) (by kernel_rfl) (lwp_at 1 (.int .i64 a2) (by kernel_rfl) (lwp_at 2 (.int .i64 a3) (by kernel_rfl) (lwp_at 8 (.slice x8 x8n x8c) (by kernel_rfl) (lwp_at 19 (.int .i64 (imin a4 (IntKind.wrap .i64 ((IntKind.wrap .i64 (a3 - a2)) + 1)))) (by kernel_rfl) (lwp_at 20 (.int .i64 0) (by kernel_rfl) (vt_Screen_down_l0_ok _ ?_ k_ a1 a2 a3 x8 x8n x8c (imin a4 (IntKind.wrap .i64 ((IntKind.wrap .i64 (a3 - a2)) + 1))) 0 _ _ hM))))))))
 · intro  b46 h45 hM
   refine blockE_h ?_
   exact end_ (.tuple #[]) (by kernel_rfl) ⟨rfl, hM⟩
/- (*mullion/vt.Screen).escaped -/
def vt_Screen_escaped_j0 (Kn : Heap → Prop) (Kr : Heap → Prop) (y19 : Addr) (y20 : Int) (h : Heap) : Prop :=
 ldL h (y19.add 32) fun x21 x21n x21c =>
 if 0 < (x21n : Int) then
  Kr  h
 else
 if y20 = 55 then
  vt_Screen_keepCursor (some y19) (fun  h26 =>
    Kn  h26) h
 else
 if y20 = 56 then
  vt_Screen_backCursor (some y19) (fun  h28 =>
    Kn  h28) h
 else
 if y20 = 69 then
  stN (y19.add 9) [.int .i64 0] 0 h fun h30 =>
  vt_Screen_feed (some y19) (fun  h31 =>
    Kn  h31) h30
 else
 if y20 = 68 then
  vt_Screen_feed (some y19) (fun  h33 =>
    Kn  h33) h
 else
 if y20 = 77 then
  ldI h .i64 (y19.add 10) fun x35 =>
  ldI h .i64 (y19.add 19) fun x39 =>
  if x35 = x39 then
   ldI h .i64 (y19.add 19) fun x44 =>
   ldI h .i64 (y19.add 20) fun x48 =>
   vt_Screen_down (some y19) x44 x48 1 (fun  h52 =>
    stN (y19.add 18) [.bool false] 0 h52 fun h53 =>
     Kn  h53) h
  else
  ldI h .i64 (y19.add 9) fun x54 =>
  ldI h .i64 (y19.add 10) fun x58 =>
  vt_Screen_to (some y19) x54 (IntKind.wrap .i64 (x58 - 1)) (fun  h62 =>
    Kn  h62) h
 else
 if y20 = 72 then
  ldL h (y19.add 21) fun x64 x64n x64c =>
  ldI h .i64 (y19.add 9) fun x68 =>
  nz x64 fun p74 =>
  0 ≤ x68 ∧
  x68 < (x64n : Int) ∧
  stN (p74.add ((x68).toNat * 1)) [.bool true] 0 h fun h75 =>
  Kn  h75
 else
 if y20 = 99 then
  vt_Screen_reset (some y19) (fun  h77 =>
    Kn  h77) h
 else
 Kn  h
theorem vt_Screen_escaped_j0_ok {Q : Exit → Env → Heap → Prop} (Kn : Heap → Prop) (hKn : ∀  (b : Env) (h : Heap), Kn  h → Q .normal b h) (Kr : Heap → Prop) (hKr : ∀  (b : Env) (h : Heap), Kr  h → Q .ret b h) (y19 : Addr) (y20 : Int) (b : Env) (h : Heap) (hM : vt_Screen_escaped_j0 Kn Kr y19 y20 h) : cwp Tryd.prog (partC Tryd.f41 [1]) 169 Q (upd (upd b 0 (.pointer (some y19))) 1 (.int .u8 y20)) h := by
  unfold vt_Screen_escaped_j0 at hM
  refine cwp_part rfl ?_
  refine cwp_seq (cR ?_)
  refine oS [(89, .pointer (some y19)), (90, .pointer (some y19)), (91, .pointer (some (y19.add 32)))] rfl ?_
  obtain ⟨x21, x21n, x21c, hc22, hM⟩ := hM
  refine oL (.slice x21 x21n x21c) (y19.add 32) hc22 ?_
  refine oS [(93, .int .i64 (x21n : Int)), (94, .bool (decide (0 < (x21n : Int))))] rfl ?_
  refine oE ?_
  refine cwp_condD (0 < (x21n : Int)) (by kernel_rfl) (fun hc24 => ?_) (fun hc24 => ?_)
  · replace hM := ifT hc24 hM
    refine cwp_ret (thenE_r ?_)
    exact hKr  _ _ hM
  replace hM := ifF hc24 hM
  refine cwp_skip (thenE_n (cR ?_))
  refine oS [(95, .int .u8 y20)] rfl ?_
  refine oE (cwp_block (cwp_seq (cwp_block (cwp_seq (cwp_block (cwp_seq (cwp_block (cwp_seq (cwp_block (cwp_seq (cwp_block (cwp_seq (cwp_block (cwp_seq (cwp_block (cwp_seq (cwp_seq (cR ?_))))))))))))))))))
  refine oS [(97, .bool (decide (y20 = 55))), (96, .bool (decide (y20 = 55)))] rfl ?_
  refine oE ?_
  refine cwp_condD (y20 = 55) (by kernel_rfl) (fun hc25 => ?_) (fun hc25 => ?_)
  · replace hM := ifT hc25 hM
    refine cwp_exit (thenE_x (thenE_x (blockE_h (thenE_n (cR ?_)))))
    refine oS [(110, .pointer (some y19))] rfl ?_
    refine oG (hpCallE 53 #[.pointer (some y19)] (by kernel_rfl) (vt_Screen_keepCursor_ok (some y19) _ h hM) ?_)
    clear hM
    rintro _ h26 ⟨rfl, hM⟩
    refine oE (cwp_exit (blockE_x rfl (thenE_x (blockE_x rfl (thenE_x (blockE_x rfl (thenE_x (blockE_x rfl (thenE_x (blockE_x rfl (thenE_x (blockE_x rfl (thenE_x (blockE_h ?_))))))))))))))
    exact hKn  _ _ hM
  replace hM := ifF hc25 hM
  refine cwp_skip (thenE_n (cwp_seq (cR ?_)))
  refine oS [(99, .bool (decide (y20 = 56))), (98, .bool (decide (y20 = 56)))] rfl ?_
  refine oE ?_
  refine cwp_condD (y20 = 56) (by kernel_rfl) (fun hc27 => ?_) (fun hc27 => ?_)
  · replace hM := ifT hc27 hM
    refine cwp_exit (thenE_x (thenE_x (blockE_x rfl (thenE_x (blockE_h (thenE_n (cR ?_)))))))
    refine oS [(112, .pointer (some y19))] rfl ?_
    refine oG (hpCallE 54 #[.pointer (some y19)] (by kernel_rfl) (vt_Screen_backCursor_ok (some y19) _ h hM) ?_)
    clear hM
    rintro _ h28 ⟨rfl, hM⟩
    refine oE (cwp_exit (blockE_x rfl (thenE_x (blockE_x rfl (thenE_x (blockE_x rfl (thenE_x (blockE_x rfl (thenE_x (blockE_x rfl (thenE_x (blockE_h ?_))))))))))))
    exact hKn  _ _ hM
  replace hM := ifF hc27 hM
  refine cwp_skip (thenE_n (cwp_seq (cR ?_)))
  refine oS [(101, .bool (decide (y20 = 69))), (100, .bool (decide (y20 = 69)))] rfl ?_
  refine oE ?_
  refine cwp_condD (y20 = 69) (by kernel_rfl) (fun hc29 => ?_) (fun hc29 => ?_)
  · replace hM := ifT hc29 hM
    refine cwp_exit (thenE_x (thenE_x (blockE_x rfl (thenE_x (blockE_x rfl (thenE_x (blockE_h (thenE_n (cwp_region ?_)))))))))
    refine oS [(114, .pointer (some y19)), (115, .pointer (some y19)), (116, .pointer (some (y19.add 9))), (117, .pointer (some (y19.add 9)))] rfl ?_
    refine oT (y19.add 9) [.int .i64 0] hM ?_
    clear hM
    intro h30 hM
    refine owp_nil (blockE_n (thenE_n (cR ?_)))
    refine oS [(118, .pointer (some y19))] rfl ?_
    refine oG (hpCallE 46 #[.pointer (some y19)] (by kernel_rfl) (vt_Screen_feed_ok (some y19) _ h30 hM) ?_)
    clear hM
    rintro _ h31 ⟨rfl, hM⟩
    refine oE (cwp_exit (blockE_x rfl (thenE_x (blockE_x rfl (thenE_x (blockE_x rfl (thenE_x (blockE_h ?_))))))))
    exact hKn  _ _ hM
  replace hM := ifF hc29 hM
  refine cwp_skip (thenE_n (cwp_seq (cR ?_)))
  refine oS [(103, .bool (decide (y20 = 68))), (102, .bool (decide (y20 = 68)))] rfl ?_
  refine oE ?_
  refine cwp_condD (y20 = 68) (by kernel_rfl) (fun hc32 => ?_) (fun hc32 => ?_)
  · replace hM := ifT hc32 hM
    refine cwp_exit (thenE_x (thenE_x (blockE_x rfl (thenE_x (blockE_x rfl (thenE_x (blockE_x rfl (thenE_x (blockE_h (thenE_n (cR ?_)))))))))))
    refine oS [(118, .pointer (some y19))] rfl ?_
    refine oG (hpCallE 46 #[.pointer (some y19)] (by kernel_rfl) (vt_Screen_feed_ok (some y19) _ h hM) ?_)
    clear hM
    rintro _ h33 ⟨rfl, hM⟩
    refine oE (cwp_exit (blockE_x rfl (thenE_x (blockE_x rfl (thenE_x (blockE_x rfl (thenE_x (blockE_h ?_))))))))
    exact hKn  _ _ hM
  replace hM := ifF hc32 hM
  refine cwp_skip (thenE_n (cwp_seq (cR ?_)))
  refine oS [(105, .bool (decide (y20 = 77))), (104, .bool (decide (y20 = 77)))] rfl ?_
  refine oE ?_
  refine cwp_condD (y20 = 77) (by kernel_rfl) (fun hc34 => ?_) (fun hc34 => ?_)
  · replace hM := ifT hc34 hM
    refine cwp_exit (thenE_x (thenE_x (blockE_x rfl (thenE_x (blockE_x rfl (thenE_x (blockE_x rfl (thenE_x (blockE_x rfl (thenE_x (blockE_h (thenE_n (cwp_seq (cwp_seq ?_))))))))))))))
    refine cwp_draw (by kernel_rfl) ?_
    refine kp 0 [1, 2, 3, 4, 9] (.pointer (some y19)) ?_
    refine kp 1 [2, 3, 4, 9] (.pointer (some y19)) ?_
    refine kp 2 [3, 4, 9] (.pointer (some (y19.add 9))) ?_
    refine kp 3 [4, 9] (.pointer (some (y19.add 10))) ?_
    obtain ⟨x35, hc36, hM⟩ := hM
    refine kl 4 (.int .i64 x35) (y19.add 10) [9] [] hc36 ?_
    refine kp 5 [6, 7, 8, 9] (.pointer (some y19)) ?_
    refine kp 6 [7, 8, 9] (.pointer (some y19)) ?_
    refine kp 7 [8, 9] (.pointer (some (y19.add 19))) ?_
    obtain ⟨x39, hc40, hM⟩ := hM
    refine kl 8 (.int .i64 x39) (y19.add 19) [9] [] hc40 ?_
    refine kp 9 [] (.bool (decide (x35 = x39))) ?_
    refine k_done (by kernel_rfl) ?_
    refine thenE_n ?_
    refine cwp_condD (x35 = x39) (by kernel_rfl) (fun hc43 => ?_) (fun hc43 => ?_)
    · replace hM := ifT hc43 hM
      refine cwp_seq ?_
      refine cwp_draw (by kernel_rfl) ?_
      refine kp 0 [9] (.pointer (some y19)) ?_
      refine kp 1 [2, 3, 4, 9] (.pointer (some y19)) ?_
      refine kp 2 [3, 4, 9] (.pointer (some y19)) ?_
      refine kp 3 [4, 9] (.pointer (some (y19.add 19))) ?_
      obtain ⟨x44, hc45, hM⟩ := hM
      refine kl 4 (.int .i64 x44) (y19.add 19) [9] [9] hc45 ?_
      refine kp 5 [6, 7, 8, 9] (.pointer (some y19)) ?_
      refine kp 6 [7, 8, 9] (.pointer (some y19)) ?_
      refine kp 7 [8, 9] (.pointer (some (y19.add 20))) ?_
      obtain ⟨x48, hc49, hM⟩ := hM
      refine kl 8 (.int .i64 x48) (y19.add 20) [9] [9] hc49 ?_
      refine k_eff (j := 9) (by kernel_rfl) rfl rfl (by kernel_rfl) (hpCallE 55 #[.pointer (some y19), .int .i64 x44, .int .i64 x48, .int .i64 1] (by kernel_rfl) (vt_Screen_down_ok (some y19) x44 x48 1 _ h hM) ?_)
      clear hM
      rintro _ h52 ⟨rfl, hM⟩
      refine ⟨trivial, ?_⟩
      refine k_done (by kernel_rfl) ?_
      refine thenE_n (cwp_region ?_)
      refine oS [(140, .pointer (some y19)), (141, .pointer (some y19)), (142, .pointer (some (y19.add 9))), (143, .pointer (some (y19.add 18)))] rfl ?_
      refine oT (y19.add 18) [.bool false] hM ?_
      clear hM
      intro h53 hM
      refine oE (cwp_exit (blockE_x rfl (thenE_x (blockE_x rfl (thenE_x (blockE_h ?_))))))
      exact hKn  _ _ hM
    replace hM := ifF hc43 hM
    refine cwp_draw (by kernel_rfl) ?_
    refine kp 0 [12] (.pointer (some y19)) ?_
    refine kp 1 [2, 3, 4, 5, 12] (.pointer (some y19)) ?_
    refine kp 2 [3, 4, 5, 12] (.pointer (some y19)) ?_
    refine kp 3 [4, 5, 12] (.pointer (some (y19.add 9))) ?_
    refine kp 4 [5, 12] (.pointer (some (y19.add 9))) ?_
    obtain ⟨x54, hc55, hM⟩ := hM
    refine kl 5 (.int .i64 x54) (y19.add 9) [12] [12] hc55 ?_
    refine kp 6 [7, 8, 9, 10, 11, 12] (.pointer (some y19)) ?_
    refine kp 7 [8, 9, 10, 11, 12] (.pointer (some y19)) ?_
    refine kp 8 [9, 10, 11, 12] (.pointer (some (y19.add 9))) ?_
    refine kp 9 [10, 11, 12] (.pointer (some (y19.add 10))) ?_
    obtain ⟨x58, hc59, hM⟩ := hM
    refine kl 10 (.int .i64 x58) (y19.add 10) [11, 12] [12] hc59 ?_
    refine kp 11 [12] (.int .i64 (IntKind.wrap .i64 (x58 - 1))) ?_
    refine k_eff (j := 12) (by kernel_rfl) rfl rfl (by kernel_rfl) (hpCallE 51 #[.pointer (some y19), .int .i64 x54, .int .i64 (IntKind.wrap .i64 (x58 - 1))] (by kernel_rfl) (vt_Screen_to_ok (some y19) x54 (IntKind.wrap .i64 (x58 - 1)) _ h hM) ?_)
    clear hM
    rintro _ h62 ⟨rfl, hM⟩
    refine ⟨trivial, ?_⟩
    refine k_done (by kernel_rfl) ?_
    refine thenE_n (cwp_exit (blockE_x rfl (thenE_x (blockE_x rfl (thenE_x (blockE_h ?_))))))
    exact hKn  _ _ hM
  replace hM := ifF hc34 hM
  refine cwp_skip (thenE_n (cwp_seq (cR ?_)))
  refine oS [(107, .bool (decide (y20 = 72))), (106, .bool (decide (y20 = 72)))] rfl ?_
  refine oE ?_
  refine cwp_condD (y20 = 72) (by kernel_rfl) (fun hc63 => ?_) (fun hc63 => ?_)
  · replace hM := ifT hc63 hM
    refine cwp_exit (thenE_x (thenE_x (blockE_x rfl (thenE_x (blockE_x rfl (thenE_x (blockE_x rfl (thenE_x (blockE_x rfl (thenE_x (blockE_x rfl (thenE_x (blockE_h (thenE_n (cwp_seq ?_)))))))))))))))
    refine cwp_draw (by kernel_rfl) ?_
    refine kp 0 [1, 2, 3, 9, 10] (.pointer (some y19)) ?_
    refine kp 1 [2, 3, 9, 10] (.pointer (some y19)) ?_
    refine kp 2 [3, 9, 10] (.pointer (some (y19.add 21))) ?_
    obtain ⟨x64, x64n, x64c, hc65, hM⟩ := hM
    refine kl 3 (.slice x64 x64n x64c) (y19.add 21) [9, 10] [10] hc65 ?_
    refine kp 4 [5, 6, 7, 8, 9, 10] (.pointer (some y19)) ?_
    refine kp 5 [6, 7, 8, 9, 10] (.pointer (some y19)) ?_
    refine kp 6 [7, 8, 9, 10] (.pointer (some (y19.add 9))) ?_
    refine kp 7 [8, 9, 10] (.pointer (some (y19.add 9))) ?_
    obtain ⟨x68, hc69, hM⟩ := hM
    refine kl 8 (.int .i64 x68) (y19.add 9) [9, 10] [10] hc69 ?_
    obtain ⟨p74, rfl, hM⟩ := hM
    obtain ⟨hc72, hM⟩ := hM
    obtain ⟨hc73, hM⟩ := hM
    refine k_pure (i := 9) [10] (.pointer (some (p74.add ((x68).toNat * 1)))) (by kernel_rfl) rfl rfl (by kernel_rfl) (fun h' => rd_ixS (P := Tryd.prog) (h := h') (t := 64) (el := 4) (sz := 1) (ad := p74) (len := x64n) (c := x64c) (k := .i64) (i := x68) (by kernel_rfl) (by kernel_rfl) hc72 hc73 (by kernel_rfl)) (by kernel_rfl) ?_
    refine k_effD (j := 10) (by kernel_rfl) rfl rfl (by kernel_rfl) (hpSt (p74.add ((x68).toNat * 1)) [.bool true] (fun _ => by kernel_rfl) (by kernel_rfl) hM ?_)
    clear hM
    intro h75 hM
    refine ⟨trivial, ?_⟩
    refine k_done (by kernel_rfl) ?_
    refine thenE_n (cwp_exit (blockE_x rfl (thenE_x (blockE_h ?_))))
    exact hKn  _ _ hM
  replace hM := ifF hc63 hM
  refine cwp_skip (thenE_n (cR ?_))
  refine oS [(109, .bool (decide (y20 = 99))), (108, .bool (decide (y20 = 99)))] rfl ?_
  refine oE ?_
  refine cwp_condD (y20 = 99) (by kernel_rfl) (fun hc76 => ?_) (fun hc76 => ?_)
  · replace hM := ifT hc76 hM
    refine cwp_exit (thenE_x (blockE_x rfl (thenE_x (blockE_x rfl (thenE_x (blockE_x rfl (thenE_x (blockE_x rfl (thenE_x (blockE_x rfl (thenE_x (blockE_x rfl (thenE_x (blockE_h (thenE_n (cR ?_))))))))))))))))
    refine oS [(167, .pointer (some y19))] rfl ?_
    refine oG (hpCallE 24 #[.pointer (some y19)] (by kernel_rfl) (vt_Screen_reset_ok (some y19) _ h hM) ?_)
    clear hM
    rintro _ h77 ⟨rfl, hM⟩
    refine oE (cwp_exit (blockE_h ?_))
    exact hKn  _ _ hM
  replace hM := ifF hc76 hM
  refine cwp_skip (thenE_n (cwp_exit (blockE_x rfl (thenE_x (blockE_x rfl (thenE_x (blockE_x rfl (thenE_x (blockE_x rfl (thenE_x (blockE_x rfl (thenE_x (blockE_x rfl (thenE_x (blockE_x rfl (thenE_x (blockE_h ?_)))))))))))))))))
  exact hKn  _ _ hM
def vt_Screen_escaped_l2 (K3 : Addr → Int → Option Addr → Nat → Nat → Int → Int → Heap → Prop) : Nat → Addr → Int → Option Addr → Nat → Nat → Option Addr → Nat → Nat → Int → Int → Int → Int → Heap → Prop
  | 0, _, _, _, _, _, _, _, _, _, _, _, _, _ => False
  | k + 1, y131, y132, y133, y133n, y133c, y134, y134n, y134c, y135, y136, y137, y138, h =>
  if y138 < y137 then
   nz y133 fun p142 =>
   0 ≤ y138 ∧
   y138 < (y133n : Int) ∧
   stN (p142.add ((y138).toNat * 5)) [.string (⟨#[69]⟩ : ByteArray), .int .i64 1, .int .i64 0, .int .i64 0, .int .i64 0] 0 h fun h143 =>
   vt_Screen_escaped_l2 K3 k y131 y132 (some p142) y133n y133c y134 y134n y134c y135 y136 y137 (IntKind.wrap .i64 (y138 + 1)) h143
  else
  K3 y131 y132 y134 y134n y134c y135 y136 h
theorem vt_Screen_escaped_l2_ok {Q : Exit → Env → Heap → Prop} (K3 : Addr → Int → Option Addr → Nat → Nat → Int → Int → Heap → Prop) (hK3 : ∀ (z154 : Addr) (z155 : Int) (z156 : Option Addr) (z156n : Nat) (z156c : Nat) (z157 : Int) (z158 : Int) (b : Env) (h : Heap), K3 z154 z155 z156 z156n z156c z157 z158 h → Q (.exit 3) (upd (upd (upd (upd (upd b 0 (.pointer (some z154))) 1 (.int .u8 z155)) 59 (.slice z156 z156n z156c)) 60 (.int .i64 z157)) 61 (.int .i64 z158)) h) : ∀ (k : Nat) (y131 : Addr) (y132 : Int) (y133 : Option Addr) (y133n : Nat) (y133c : Nat) (y134 : Option Addr) (y134n : Nat) (y134c : Nat) (y135 : Int) (y136 : Int) (y137 : Int) (y138 : Int) (b : Env) (h : Heap) (hM : vt_Screen_escaped_l2 K3 k y131 y132 y133 y133n y133c y134 y134n y134c y135 y136 y137 y138 h), lwp Tryd.prog (partC Tryd.f41 [0, 1, 0, 0, 1, 1, 1, 1, 1, 0, 0, 1, 0, 0, 1, 1, 0, 0, 1, 1, 0, 0]) 169 Q k (upd (upd (upd (upd (upd (upd (upd (upd b 0 (.pointer (some y131))) 1 (.int .u8 y132)) 5 (.slice y133 y133n y133c)) 59 (.slice y134 y134n y134c)) 60 (.int .i64 y135)) 61 (.int .i64 y136)) 66 (.int .i64 y137)) 67 (.int .i64 y138)) h := by
  intro k
  induction k with
  | zero => intro y131 y132 y133 y133n y133c y134 y134n y134c y135 y136 y137 y138 b h hM; exact (show False from hM).elim
  | succ k ih =>
    intro y131 y132 y133 y133n y133c y134 y134n y134c y135 y136 y137 y138 b h hM
    unfold vt_Screen_escaped_l2 at hM
    refine lwp_succ (cwp_part rfl ?_)
    refine cR ?_
    refine oS [(68, .bool (decide (y138 < y137)))] rfl ?_
    refine oE (cwp_seq ?_)
    refine cwp_condD (y138 < y137) (by kernel_rfl) (fun hc139 => ?_) (fun hc139 => ?_)
    · replace hM := ifT hc139 hM
      refine cwp_skip (thenE_n (cwp_seq (cwp_block (cR ?_))))
      refine oS [(69, .int .i64 y138), (6, .int .i64 y138)] rfl ?_
      refine oE (cwp_region ?_)
      refine oS [(70, .slice y133 y133n y133c), (71, .int .i64 y138), (72, .agg #[.string (⟨#[69]⟩ : ByteArray), .int .i64 1, .int .i64 0, .int .i64 0, .int .i64 0])] rfl ?_
      obtain ⟨p142, rfl, hM⟩ := hM
      obtain ⟨hc140, hM⟩ := hM
      obtain ⟨hc141, hM⟩ := hM
      refine owp_rdG (.pointer (some (p142.add ((y138).toNat * 5)))) rfl (by kernel_rfl) (rd_ixS (P := Tryd.prog) (h := h) (t := 72) (el := 43) (sz := 5) (ad := p142) (len := y133n) (c := y133c) (k := .i64) (i := y138) (by kernel_rfl) (by kernel_rfl) hc140 hc141 (by kernel_rfl)) ?_
      refine oT (p142.add ((y138).toNat * 5)) [.string (⟨#[69]⟩ : ByteArray), .int .i64 1, .int .i64 0, .int .i64 0, .int .i64 0] hM ?_
      clear hM
      intro h143 hM
      refine owp_nil (blockE_n (thenE_n (cwp_region ?_)))
      refine oS [(74, .int .i64 (IntKind.wrap .i64 (y138 + 1))), (67, .int .i64 (IntKind.wrap .i64 (y138 + 1)))] rfl ?_
      refine owp_nil ?_
      exact lwp_at 0 (.pointer (some y131)) (by kernel_rfl) (lwp_at 1 (.int .u8 y132) (by kernel_rfl) (lwp_at 5 (.slice (some p142) y133n y133c) (by kernel_rfl) (lwp_at 59 (.slice y134 y134n y134c) (by kernel_rfl) (lwp_at 60 (.int .i64 y135) (by kernel_rfl) (lwp_at 61 (.int .i64 y136) (by kernel_rfl) (lwp_at 66 (.int .i64 y137) (by kernel_rfl) (lwp_at 67 (.int .i64 (IntKind.wrap .i64 (y138 + 1))) (by kernel_rfl) (ih y131 y132 (some p142) y133n y133c y134 y134n y134c y135 y136 y137 (IntKind.wrap .i64 (y138 + 1)) _ _ hM))))))))
    replace hM := ifF hc139 hM
    refine cwp_exit (thenE_x ?_)
    exact q_at (Q := Q (.exit 3)) 0 (.pointer (some y131)) (by kernel_rfl) (q_at (Q := Q (.exit 3)) 1 (.int .u8 y132) (by kernel_rfl) (q_at (Q := Q (.exit 3)) 59 (.slice y134 y134n y134c) (by kernel_rfl) (q_at (Q := Q (.exit 3)) 60 (.int .i64 y135) (by kernel_rfl) (q_at (Q := Q (.exit 3)) 61 (.int .i64 y136) (by kernel_rfl) (hK3 y131 y132 y134 y134n y134c y135 y136 _ _ hM)))))
def vt_Screen_escaped_l1 (K1 : Addr → Int → Heap → Prop) : Nat → Addr → Int → Option Addr → Nat → Nat → Int → Int → Heap → Prop
  | 0, _, _, _, _, _, _, _, _ => False
  | k + 1, y119, y120, y121, y121n, y121c, y122, y123, h =>
  if y123 < y122 then
   nz y121 fun p127 =>
   0 ≤ y123 ∧
   y123 < (y121n : Int) ∧
   ldL h (p127.add ((y123).toNat * 1)) fun x128 x128n x128c =>
   ∃ k166, vt_Screen_escaped_l2
    (fun z159 z160 z161 z161n z161c z162 z163 h164 =>
        vt_Screen_escaped_l1 K1 k z159 z160 z161 z161n z161c z162 (IntKind.wrap .i64 (z163 + 1)) h164) k166 y119 y120 x128 x128n x128c (some p127) y121n y121c y122 y123 (x128n : Int) 0 h
  else
  K1 y119 y120 h
theorem vt_Screen_escaped_l1_ok {Q : Exit → Env → Heap → Prop} (K1 : Addr → Int → Heap → Prop) (hK1 : ∀ (z171 : Addr) (z172 : Int) (b : Env) (h : Heap), K1 z171 z172 h → Q (.exit 1) (upd (upd b 0 (.pointer (some z171))) 1 (.int .u8 z172)) h) : ∀ (k : Nat) (y119 : Addr) (y120 : Int) (y121 : Option Addr) (y121n : Nat) (y121c : Nat) (y122 : Int) (y123 : Int) (b : Env) (h : Heap) (hM : vt_Screen_escaped_l1 K1 k y119 y120 y121 y121n y121c y122 y123 h), lwp Tryd.prog (partC Tryd.f41 [0, 1, 0, 0, 1, 1, 1, 1, 1, 0, 0, 1, 0, 0]) 169 Q k (upd (upd (upd (upd (upd b 0 (.pointer (some y119))) 1 (.int .u8 y120)) 59 (.slice y121 y121n y121c)) 60 (.int .i64 y122)) 61 (.int .i64 y123)) h := by
  intro k
  induction k with
  | zero => intro y119 y120 y121 y121n y121c y122 y123 b h hM; exact (show False from hM).elim
  | succ k ih =>
    intro y119 y120 y121 y121n y121c y122 y123 b h hM
    unfold vt_Screen_escaped_l1 at hM
    refine lwp_succ (cwp_part rfl ?_)
    refine cR ?_
    refine oS [(62, .bool (decide (y123 < y122)))] rfl ?_
    refine oE (cwp_seq ?_)
    refine cwp_condD (y123 < y122) (by kernel_rfl) (fun hc124 => ?_) (fun hc124 => ?_)
    · replace hM := ifT hc124 hM
      refine cwp_skip (thenE_n (cwp_seq (cwp_block (cR ?_))))
      obtain ⟨p127, rfl, hM⟩ := hM
      obtain ⟨hc125, hM⟩ := hM
      obtain ⟨hc126, hM⟩ := hM
      refine owp_rdG (.pointer (some (p127.add ((y123).toNat * 1)))) rfl (by kernel_rfl) (rd_ixS (P := Tryd.prog) (h := h) (t := 57) (el := 72) (sz := 1) (ad := p127) (len := y121n) (c := y121c) (k := .i64) (i := y123) (by kernel_rfl) (by kernel_rfl) hc125 hc126 (by kernel_rfl)) ?_
      obtain ⟨x128, x128n, x128c, hc129, hM⟩ := hM
      refine oL (.slice x128 x128n x128c) (p127.add ((y123).toNat * 1)) hc129 ?_
      refine oS [(5, .slice x128 x128n x128c)] rfl ?_
      refine oE (cR ?_)
      refine oS [(65, .slice x128 x128n x128c), (66, .int .i64 (x128n : Int)), (67, .int .i64 0)] rfl ?_
      refine oE (cwp_block ?_)
      obtain ⟨k_, hM⟩ := hM
      refine cwp_loop k_ (lwp_of_part (fn := Tryd.f41) (p := [0, 1, 0, 0, 1, 1, 1, 1, 1, 0, 0, 1, 0, 0, 1, 1, 0, 0, 1, 1, 0, 0]) (by kernel_rfl) (lwp_at 0 (.pointer (some y119)) (by kernel_rfl) (lwp_at 1 (.int .u8 y120) (by kernel_rfl) (lwp_at 5 (.slice x128 x128n x128c) (by kernel_rfl) (lwp_at 59 (.slice (some p127) y121n y121c) (by kernel_rfl) (lwp_at 60 (.int .i64 y122) (by kernel_rfl) (lwp_at 61 (.int .i64 y123) (by kernel_rfl) (lwp_at 66 (.int .i64 (x128n : Int)) (by kernel_rfl) (lwp_at 67 (.int .i64 0) (by kernel_rfl) (vt_Screen_escaped_l2_ok _ ?_ k_ y119 y120 x128 x128n x128c (some p127) y121n y121c y122 y123 (x128n : Int) 0 _ _ hM))))))))))
      · intro z159 z160 z161 z161n z161c z162 z163 b165 h164 hM
        refine blockE_h (blockE_n (thenE_n (cwp_region ?_)))
        refine oS [(75, .int .i64 (IntKind.wrap .i64 (z163 + 1))), (61, .int .i64 (IntKind.wrap .i64 (z163 + 1)))] rfl ?_
        refine owp_nil ?_
        exact lwp_at 0 (.pointer (some z159)) (by kernel_rfl) (lwp_at 1 (.int .u8 z160) (by kernel_rfl) (lwp_at 59 (.slice z161 z161n z161c) (by kernel_rfl) (lwp_at 60 (.int .i64 z162) (by kernel_rfl) (lwp_at 61 (.int .i64 (IntKind.wrap .i64 (z163 + 1))) (by kernel_rfl) (ih z159 z160 z161 z161n z161c z162 (IntKind.wrap .i64 (z163 + 1)) _ _ hM)))))
    replace hM := ifF hc124 hM
    refine cwp_exit (thenE_x ?_)
    exact q_at (Q := Q (.exit 1)) 0 (.pointer (some y119)) (by kernel_rfl) (q_at (Q := Q (.exit 1)) 1 (.int .u8 y120) (by kernel_rfl) (hK1 y119 y120 _ _ hM))
def vt_Screen_escaped (a1 : Option Addr) (a2 : Int) (K : Heap → Prop) (h : Heap) : Prop :=
 nz a1 fun p3 =>
 ldL h (p3.add 32) fun x4 x4n x4c =>
 if (x4n : Int) = 1 then
  ldL h (p3.add 32) fun x8 x8n x8c =>
  nz x8 fun p13 =>
  0 ≤ (0 : Int) ∧
  (0 : Int) < (x8n : Int) ∧
  ldI h .u8 (p13.add (((0 : Int)).toNat * 1)) fun x14 =>
  if x14 = 40 then
   stN (p3.add 15) [.bool (decide (a2 = 48))] 0 h fun h18 =>
   vt_Screen_escaped_j0
    (fun  h78 =>
        K h78)
    (fun  h80 =>
        K h80) p3 a2 h18
  else
  ldL h (p3.add 32) fun x83 x83n x83c =>
  nz x83 fun p88 =>
  0 ≤ (0 : Int) ∧
  (0 : Int) < (x83n : Int) ∧
  ldI h .u8 (p88.add (((0 : Int)).toNat * 1)) fun x89 =>
  if x89 = 41 then
   stN (p3.add 16) [.bool (decide (a2 = 48))] 0 h fun h93 =>
   vt_Screen_escaped_j0
    (fun  h94 =>
        K h94)
    (fun  h96 =>
        K h96) p3 a2 h93
  else
  ldL h (p3.add 32) fun x99 x99n x99c =>
  nz x99 fun p104 =>
  0 ≤ (0 : Int) ∧
  (0 : Int) < (x99n : Int) ∧
  ldI h .u8 (p104.add (((0 : Int)).toNat * 1)) fun x105 =>
  if ((decide (x105 = 35)) && (decide (a2 = 56))) = true then
   vt_Screen_shown (some p3) (fun x114 h113 =>
    nz x114 fun p115 =>
    ldL h113 p115 fun x116 x116n x116c =>
    ∃ k188, vt_Screen_escaped_l1
     (fun z173 z174 h175 =>
       ldI h175 .i64 (z173.add 1) fun x176 =>
       stN (z173.add 19) [.int .i64 0] 0 h175 fun h179 =>
       stN (z173.add 20) [.int .i64 (IntKind.wrap .i64 (x176 - 1))] 0 h179 fun h180 =>
       vt_Screen_to (some z173) 0 0 (fun  h181 =>
        vt_Screen_escaped_j0
         (fun  h182 =>
             K h182)
         (fun  h184 =>
                 K h184) z173 z174 h181) h180) k188 p3 a2 x116 x116n x116c (x116n : Int) 0 h113) h
  else
  vt_Screen_escaped_j0
   (fun  h189 =>
       K h189)
   (fun  h191 =>
       K h191) p3 a2 h
 else
 vt_Screen_escaped_j0
  (fun  h194 =>
      K h194)
  (fun  h196 =>
      K h196) p3 a2 h
theorem vt_Screen_escaped_ok (a1 : Option Addr) (a2 : Int) (K : Heap → Prop) (h : Heap) (hM : vt_Screen_escaped a1 a2 K h) : CallsH Tryd.prog 41 #[.pointer a1, .int .u8 a2] (fun v h' => v = .tuple #[] ∧ K h') h := by
 unfold vt_Screen_escaped at hM
 refine callsH_intro (n := 169) Tryd.func41 rfl rfl (by kernel_rfl) ?_
 refine cwp_seq (cR ?_)
 refine oS [(7, .pointer a1)] rfl ?_
 obtain ⟨p3, rfl, hM⟩ := hM
 refine owp_rdG (.pointer (some p3)) rfl (by kernel_rfl) (by kernel_rfl) ?_
 refine oS [(9, .pointer (some (p3.add 32)))] rfl ?_
 obtain ⟨x4, x4n, x4c, hc5, hM⟩ := hM
 refine oL (.slice x4 x4n x4c) (p3.add 32) hc5 ?_
 refine oS [(11, .int .i64 (x4n : Int)), (12, .bool (decide ((x4n : Int) = 1)))] rfl ?_
 refine oE ?_
 refine cwp_condD ((x4n : Int) = 1) (by kernel_rfl) (fun hc7 => ?_) (fun hc7 => ?_)
 · replace hM := ifT hc7 hM
   refine cwp_block (cR ?_)
   refine oS [(14, .pointer (some p3)), (15, .pointer (some p3)), (16, .pointer (some (p3.add 32)))] rfl ?_
   obtain ⟨x8, x8n, x8c, hc9, hM⟩ := hM
   refine oL (.slice x8 x8n x8c) (p3.add 32) hc9 ?_
   obtain ⟨p13, rfl, hM⟩ := hM
   obtain ⟨hc11, hM⟩ := hM
   obtain ⟨hc12, hM⟩ := hM
   refine owp_rdG (.pointer (some (p13.add (((0 : Int)).toNat * 1)))) rfl (by kernel_rfl) (rd_ixS (P := Tryd.prog) (h := h) (t := 66) (el := 5) (sz := 1) (ad := p13) (len := x8n) (c := x8c) (k := .i64) (i := 0) (by kernel_rfl) (by kernel_rfl) hc11 hc12 (by kernel_rfl)) ?_
   obtain ⟨x14, hc15, hM⟩ := hM
   refine oL (.int .u8 x14) (p13.add (((0 : Int)).toNat * 1)) hc15 ?_
   refine oS [(20, .bool (decide (x14 = 40))), (13, .bool (decide (x14 = 40)))] rfl ?_
   refine oE ?_
   refine cwp_condD (x14 = 40) (by kernel_rfl) (fun hc17 => ?_) (fun hc17 => ?_)
   · replace hM := ifT hc17 hM
     refine cwp_region ?_
     refine oS [(21, .pointer (some p3)), (22, .int .u8 a2), (23, .bool (decide (a2 = 48))), (24, .pointer (some p3)), (25, .pointer (some (p3.add 9))), (26, .pointer (some (p3.add 15))), (27, .pointer (some (p3.add 15)))] rfl ?_
     refine oT (p3.add 15) [.bool (decide (a2 = 48))] hM ?_
     clear hM
     intro h18 hM
     refine owp_nil (blockE_n (thenE_n ?_))
     refine cwp_of_part (fn := Tryd.f41) (p := [1]) (by kernel_rfl) (cwp_at 0 (.pointer (some p3)) (by kernel_rfl) (cwp_at 1 (.int .u8 a2) (by kernel_rfl) (vt_Screen_escaped_j0_ok _ ?_ _ ?_ p3 a2 _ _ hM)))
     · intro  b79 h78 hM
       exact end_ (.tuple #[]) (by kernel_rfl) ⟨rfl, hM⟩
     · intro  b81 h80 hM
       exact ret_ (.tuple #[]) (by kernel_rfl) ⟨rfl, hM⟩
   replace hM := ifF hc17 hM
   refine cR ?_
   refine oS [(29, .pointer (some p3)), (30, .pointer (some p3)), (31, .pointer (some (p3.add 32)))] rfl ?_
   obtain ⟨x83, x83n, x83c, hc84, hM⟩ := hM
   refine oL (.slice x83 x83n x83c) (p3.add 32) hc84 ?_
   obtain ⟨p88, rfl, hM⟩ := hM
   obtain ⟨hc86, hM⟩ := hM
   obtain ⟨hc87, hM⟩ := hM
   refine owp_rdG (.pointer (some (p88.add (((0 : Int)).toNat * 1)))) rfl (by kernel_rfl) (rd_ixS (P := Tryd.prog) (h := h) (t := 66) (el := 5) (sz := 1) (ad := p88) (len := x83n) (c := x83c) (k := .i64) (i := 0) (by kernel_rfl) (by kernel_rfl) hc86 hc87 (by kernel_rfl)) ?_
   obtain ⟨x89, hc90, hM⟩ := hM
   refine oL (.int .u8 x89) (p88.add (((0 : Int)).toNat * 1)) hc90 ?_
   refine oS [(35, .bool (decide (x89 = 41))), (28, .bool (decide (x89 = 41)))] rfl ?_
   refine oE ?_
   refine cwp_condD (x89 = 41) (by kernel_rfl) (fun hc92 => ?_) (fun hc92 => ?_)
   · replace hM := ifT hc92 hM
     refine cwp_region ?_
     refine oS [(36, .pointer (some p3)), (37, .int .u8 a2), (38, .bool (decide (a2 = 48))), (39, .pointer (some p3)), (40, .pointer (some (p3.add 9))), (41, .pointer (some (p3.add 15))), (42, .pointer (some (p3.add 16)))] rfl ?_
     refine oT (p3.add 16) [.bool (decide (a2 = 48))] hM ?_
     clear hM
     intro h93 hM
     refine owp_nil (blockE_n (thenE_n ?_))
     refine cwp_of_part (fn := Tryd.f41) (p := [1]) (by kernel_rfl) (cwp_at 0 (.pointer (some p3)) (by kernel_rfl) (cwp_at 1 (.int .u8 a2) (by kernel_rfl) (vt_Screen_escaped_j0_ok _ ?_ _ ?_ p3 a2 _ _ hM)))
     · intro  b95 h94 hM
       exact end_ (.tuple #[]) (by kernel_rfl) ⟨rfl, hM⟩
     · intro  b97 h96 hM
       exact ret_ (.tuple #[]) (by kernel_rfl) ⟨rfl, hM⟩
   replace hM := ifF hc92 hM
   refine cR ?_
   refine oS [(44, .pointer (some p3)), (45, .pointer (some p3)), (46, .pointer (some (p3.add 32)))] rfl ?_
   obtain ⟨x99, x99n, x99c, hc100, hM⟩ := hM
   refine oL (.slice x99 x99n x99c) (p3.add 32) hc100 ?_
   obtain ⟨p104, rfl, hM⟩ := hM
   obtain ⟨hc102, hM⟩ := hM
   obtain ⟨hc103, hM⟩ := hM
   refine owp_rdG (.pointer (some (p104.add (((0 : Int)).toNat * 1)))) rfl (by kernel_rfl) (rd_ixS (P := Tryd.prog) (h := h) (t := 66) (el := 5) (sz := 1) (ad := p104) (len := x99n) (c := x99c) (k := .i64) (i := 0) (by kernel_rfl) (by kernel_rfl) hc102 hc103 (by kernel_rfl)) ?_
   obtain ⟨x105, hc106, hM⟩ := hM
   refine oL (.int .u8 x105) (p104.add (((0 : Int)).toNat * 1)) hc106 ?_
   refine oS [(50, .bool (decide (x105 = 35))), (51, .bool (decide (x105 = 35)))] rfl ?_
   refine oB (decide (x105 = 35)) 3 [50, 51] (fun b_ => [(52, iteV b_ (.int .u8 a2 : Value) undef), (53, iteV b_ (.bool (decide (a2 = 56)) : Value) undef), (54, .bool (b_ && (decide (a2 = 56))))]) rfl (fun hb108 hq109 => oS [(52, .int .u8 a2), (53, .bool (decide (a2 = 56))), (54, .bool (decide (a2 = 56)))] rfl (hq109)) (fun hb110 hq111 => oS [(52, undef), (53, undef), (54, .bool false)] rfl (hq111)) ?_
   refine oS [(43, .bool ((decide (x105 = 35)) && (decide (a2 = 56))))] rfl ?_
   refine oE ?_
   refine cwp_condB ((decide (x105 = 35)) && (decide (a2 = 56))) (by kernel_rfl) (fun hc112 => ?_) (fun hc112 => ?_)
   · replace hM := ifT hc112 hM
     refine cwp_seq (cR ?_)
     refine oS [(55, .pointer (some p3))] rfl ?_
     refine oG (hpCallE 22 #[.pointer (some p3)] (by kernel_rfl) (vt_Screen_shown_ok (some p3) _ h hM) ?_)
     clear hM
     rintro _ h113 ⟨x114, rfl, hM⟩
     obtain ⟨p115, rfl, hM⟩ := hM
     refine owp_rdG (.pointer (some p115)) rfl (by kernel_rfl) (by kernel_rfl) ?_
     refine oS [(58, .pointer (some p115))] rfl ?_
     obtain ⟨x116, x116n, x116c, hc117, hM⟩ := hM
     refine oL (.slice x116 x116n x116c) p115 hc117 ?_
     refine oS [(60, .int .i64 (x116n : Int)), (61, .int .i64 0)] rfl ?_
     refine oE (cwp_block ?_)
     obtain ⟨k_, hM⟩ := hM
     refine cwp_loop k_ (lwp_of_part (fn := Tryd.f41) (p := [0, 1, 0, 0, 1, 1, 1, 1, 1, 0, 0, 1, 0, 0]) (by kernel_rfl) (lwp_at 0 (.pointer (some p3)) (by kernel_rfl) (lwp_at 1 (.int .u8 a2) (by kernel_rfl) (lwp_at 59 (.slice x116 x116n x116c) (by kernel_rfl) (lwp_at 60 (.int .i64 (x116n : Int)) (by kernel_rfl) (lwp_at 61 (.int .i64 0) (by kernel_rfl) (vt_Screen_escaped_l1_ok _ ?_ k_ p3 a2 x116 x116n x116c (x116n : Int) 0 _ _ hM)))))))
     · intro z173 z174 b187 h175 hM
       refine blockE_h (thenE_n (cR ?_))
       refine oS [(76, .pointer (some z173)), (77, .pointer (some z173)), (78, .pointer (some z173)), (79, .pointer (some z173)), (80, .pointer (some (z173.add 1)))] rfl ?_
       obtain ⟨x176, hc177, hM⟩ := hM
       refine oL (.int .i64 x176) (z173.add 1) hc177 ?_
       refine oS [(82, .int .i64 (IntKind.wrap .i64 (x176 - 1))), (83, .pointer (some z173)), (84, .pointer (some (z173.add 19)))] rfl ?_
       refine oT (z173.add 19) [.int .i64 0] hM ?_
       clear hM
       intro h179 hM
       refine oS [(85, .pointer (some z173)), (86, .pointer (some (z173.add 20)))] rfl ?_
       refine oT (z173.add 20) [.int .i64 (IntKind.wrap .i64 (x176 - 1))] hM ?_
       clear hM
       intro h180 hM
       refine oE (cwp_region ?_)
       refine oS [(87, .pointer (some z173))] rfl ?_
       refine oG (hpCallE 51 #[.pointer (some z173), .int .i64 0, .int .i64 0] (by kernel_rfl) (vt_Screen_to_ok (some z173) 0 0 _ h180 hM) ?_)
       clear hM
       rintro _ h181 ⟨rfl, hM⟩
       refine owp_nil (blockE_n (thenE_n ?_))
       refine cwp_of_part (fn := Tryd.f41) (p := [1]) (by kernel_rfl) (cwp_at 0 (.pointer (some z173)) (by kernel_rfl) (cwp_at 1 (.int .u8 z174) (by kernel_rfl) (vt_Screen_escaped_j0_ok _ ?_ _ ?_ z173 z174 _ _ hM)))
       · intro  b183 h182 hM
         exact end_ (.tuple #[]) (by kernel_rfl) ⟨rfl, hM⟩
       · intro  b185 h184 hM
         exact ret_ (.tuple #[]) (by kernel_rfl) ⟨rfl, hM⟩
   replace hM := ifF hc112 hM
   refine cwp_skip (blockE_n (thenE_n ?_))
   refine cwp_of_part (fn := Tryd.f41) (p := [1]) (by kernel_rfl) (cwp_at 0 (.pointer (some p3)) (by kernel_rfl) (cwp_at 1 (.int .u8 a2) (by kernel_rfl) (vt_Screen_escaped_j0_ok _ ?_ _ ?_ p3 a2 _ _ hM)))
   · intro  b190 h189 hM
     exact end_ (.tuple #[]) (by kernel_rfl) ⟨rfl, hM⟩
   · intro  b192 h191 hM
     exact ret_ (.tuple #[]) (by kernel_rfl) ⟨rfl, hM⟩
 replace hM := ifF hc7 hM
 refine cwp_skip (thenE_n ?_)
 refine cwp_of_part (fn := Tryd.f41) (p := [1]) (by kernel_rfl) (cwp_at 0 (.pointer (some p3)) (by kernel_rfl) (cwp_at 1 (.int .u8 a2) (by kernel_rfl) (vt_Screen_escaped_j0_ok _ ?_ _ ?_ p3 a2 _ _ hM)))
 · intro  b195 h194 hM
   exact end_ (.tuple #[]) (by kernel_rfl) ⟨rfl, hM⟩
 · intro  b197 h196 hM
   exact ret_ (.tuple #[]) (by kernel_rfl) ⟨rfl, hM⟩
/- (*mullion/vt.Screen).escape -/
def vt_Screen_escape (a1 : Option Addr) (a2 : Int) (K : Heap → Prop) (h : Heap) : Prop :=
 nz a1 fun p3 =>
 ldL h (p3.add 32) fun x4 x4n x4c =>
 if ((decide ((x4n : Int) = 0)) && (decide (a2 = 91))) = true then
  vt_Screen_begin (some p3) 2 (fun  h12 =>
    K h12) h
 else
 if ((decide ((x4n : Int) = 0)) && (decide (a2 = 93))) = true then
  vt_Screen_begin (some p3) 3 (fun  h18 =>
    K h18) h
 else
 if ((decide ((x4n : Int) = 0)) && ((((decide (a2 = 80)) || (decide (a2 = 88))) || (decide (a2 = 94))) || (decide (a2 = 95)))) = true then
  stN (p3.add 31) [.int .i64 4] 0 h fun h36 =>
  K h36
 else
 if a2 < 32 then
  vt_Screen_does (some p3) a2 (fun  h38 =>
    K h38) h
 else
 if a2 < 48 then
  vt_Screen_gather (some p3) a2 (fun  h40 =>
    K h40) h
 else
 if a2 < 127 then
  stN (p3.add 31) [.int .i64 0] 0 h fun h42 =>
  ldB h42 (p3.add 33) fun x43 =>
  if (!x43) = true then
   vt_Screen_escaped (some p3) a2 (fun  h47 =>
     K h47) h42
  else
  K h42
 else
 if 128 ≤ a2 then
  stN (p3.add 31) [.int .i64 0] 0 h fun h49 =>
  vt_Screen_ground (some p3) a2 (fun  h50 =>
    K h50) h49
 else
 K h
theorem vt_Screen_escape_ok (a1 : Option Addr) (a2 : Int) (K : Heap → Prop) (h : Heap) (hM : vt_Screen_escape a1 a2 K h) : CallsH Tryd.prog 30 #[.pointer a1, .int .u8 a2] (fun v h' => v = .tuple #[] ∧ K h') h := by
 unfold vt_Screen_escape at hM
 refine callsH_intro (n := 83) Tryd.func30 rfl rfl (by kernel_rfl) ?_
 refine cR ?_
 refine oS [(5, .pointer a1)] rfl ?_
 obtain ⟨p3, rfl, hM⟩ := hM
 refine owp_rdG (.pointer (some p3)) rfl (by kernel_rfl) (by kernel_rfl) ?_
 refine oS [(7, .pointer (some (p3.add 32)))] rfl ?_
 obtain ⟨x4, x4n, x4c, hc5, hM⟩ := hM
 refine oL (.slice x4 x4n x4c) (p3.add 32) hc5 ?_
 refine oS [(9, .int .i64 (x4n : Int)), (10, .bool (decide ((x4n : Int) = 0))), (4, .bool (decide ((x4n : Int) = 0)))] rfl ?_
 refine oE (cwp_block (cR ?_))
 refine oS [(12, .bool (decide ((x4n : Int) = 0))), (13, .bool (decide ((x4n : Int) = 0)))] rfl ?_
 refine oB (decide ((x4n : Int) = 0)) 3 [10, 4, 12, 13] (fun b_ => [(14, iteV b_ (.int .u8 a2 : Value) undef), (15, iteV b_ (.bool (decide (a2 = 91)) : Value) undef), (16, .bool (b_ && (decide (a2 = 91))))]) rfl (fun hb7 hq8 => oS [(14, .int .u8 a2), (15, .bool (decide (a2 = 91))), (16, .bool (decide (a2 = 91)))] rfl (hq8)) (fun hb9 hq10 => oS [(14, undef), (15, undef), (16, .bool false)] rfl (hq10)) ?_
 refine oS [(11, .bool ((decide ((x4n : Int) = 0)) && (decide (a2 = 91))))] rfl ?_
 refine oE ?_
 refine cwp_condB ((decide ((x4n : Int) = 0)) && (decide (a2 = 91))) (by kernel_rfl) (fun hc11 => ?_) (fun hc11 => ?_)
 · replace hM := ifT hc11 hM
   refine cwp_region ?_
   refine oS [(17, .pointer (some p3))] rfl ?_
   refine oG (hpCallE 28 #[.pointer (some p3), .int .i64 2] (by kernel_rfl) (vt_Screen_begin_ok (some p3) 2 _ h hM) ?_)
   clear hM
   rintro _ h12 ⟨rfl, hM⟩
   refine owp_nil (blockE_n ?_)
   exact end_ (.tuple #[]) (by kernel_rfl) ⟨rfl, hM⟩
 replace hM := ifF hc11 hM
 refine cR ?_
 refine oS [(20, .bool (decide ((x4n : Int) = 0))), (21, .bool (decide ((x4n : Int) = 0)))] rfl ?_
 refine oB (decide ((x4n : Int) = 0)) 3 [10, 4, 12, 13, 20, 21] (fun b_ => [(22, iteV b_ (.int .u8 a2 : Value) undef), (23, iteV b_ (.bool (decide (a2 = 93)) : Value) undef), (24, .bool (b_ && (decide (a2 = 93))))]) rfl (fun hb13 hq14 => oS [(22, .int .u8 a2), (23, .bool (decide (a2 = 93))), (24, .bool (decide (a2 = 93)))] rfl (hq14)) (fun hb15 hq16 => oS [(22, undef), (23, undef), (24, .bool false)] rfl (hq16)) ?_
 refine oS [(19, .bool ((decide ((x4n : Int) = 0)) && (decide (a2 = 93))))] rfl ?_
 refine oE ?_
 refine cwp_condB ((decide ((x4n : Int) = 0)) && (decide (a2 = 93))) (by kernel_rfl) (fun hc17 => ?_) (fun hc17 => ?_)
 · replace hM := ifT hc17 hM
   refine cwp_region ?_
   refine oS [(25, .pointer (some p3))] rfl ?_
   refine oG (hpCallE 28 #[.pointer (some p3), .int .i64 3] (by kernel_rfl) (vt_Screen_begin_ok (some p3) 3 _ h hM) ?_)
   clear hM
   rintro _ h18 ⟨rfl, hM⟩
   refine owp_nil (blockE_n ?_)
   exact end_ (.tuple #[]) (by kernel_rfl) ⟨rfl, hM⟩
 replace hM := ifF hc17 hM
 refine cR ?_
 refine oS [(28, .bool (decide ((x4n : Int) = 0))), (29, .bool (decide ((x4n : Int) = 0)))] rfl ?_
 refine oB (decide ((x4n : Int) = 0)) 15 [10, 4, 12, 13, 20, 21, 28, 29] (fun b_ => [(30, iteV b_ (.int .u8 a2 : Value) undef), (31, iteV b_ (.bool (decide (a2 = 80)) : Value) undef), (32, iteV b_ (.bool (decide (a2 = 80)) : Value) undef), (33, iteV b_ (iteV (decide (a2 = 80)) undef (.int .u8 a2 : Value)) undef), (34, iteV b_ (iteV (decide (a2 = 80)) undef (.bool (decide (a2 = 88)) : Value)) undef), (35, iteV b_ (.bool ((decide (a2 = 80)) || (decide (a2 = 88))) : Value) undef), (36, iteV b_ (.bool ((decide (a2 = 80)) || (decide (a2 = 88))) : Value) undef), (37, iteV b_ (iteV ((decide (a2 = 80)) || (decide (a2 = 88))) undef (.int .u8 a2 : Value)) undef), (38, iteV b_ (iteV ((decide (a2 = 80)) || (decide (a2 = 88))) undef (.bool (decide (a2 = 94)) : Value)) undef), (39, iteV b_ (.bool (((decide (a2 = 80)) || (decide (a2 = 88))) || (decide (a2 = 94))) : Value) undef), (40, iteV b_ (.bool (((decide (a2 = 80)) || (decide (a2 = 88))) || (decide (a2 = 94))) : Value) undef), (41, iteV b_ (iteV (((decide (a2 = 80)) || (decide (a2 = 88))) || (decide (a2 = 94))) undef (.int .u8 a2 : Value)) undef), (42, iteV b_ (iteV (((decide (a2 = 80)) || (decide (a2 = 88))) || (decide (a2 = 94))) undef (.bool (decide (a2 = 95)) : Value)) undef), (43, iteV b_ (.bool ((((decide (a2 = 80)) || (decide (a2 = 88))) || (decide (a2 = 94))) || (decide (a2 = 95))) : Value) undef), (44, .bool (b_ && ((((decide (a2 = 80)) || (decide (a2 = 88))) || (decide (a2 = 94))) || (decide (a2 = 95)))))]) rfl (fun hb31 hq32 => oS [(30, .int .u8 a2), (31, .bool (decide (a2 = 80))), (32, .bool (decide (a2 = 80)))] rfl (oB (decide (a2 = 80)) 3 [31, 32] (fun b_ => [(33, iteV b_ undef (.int .u8 a2 : Value)), (34, iteV b_ undef (.bool (decide (a2 = 88)) : Value)), (35, .bool (b_ || (decide (a2 = 88))))]) rfl (fun hb19 hq20 => oS [(33, undef), (34, undef), (35, .bool true)] rfl (hq20)) (fun hb21 hq22 => oS [(33, .int .u8 a2), (34, .bool (decide (a2 = 88))), (35, .bool (decide (a2 = 88)))] rfl (hq22)) (oS [(36, .bool ((decide (a2 = 80)) || (decide (a2 = 88))))] rfl (oB ((decide (a2 = 80)) || (decide (a2 = 88))) 3 [35, 36] (fun b_ => [(37, iteV b_ undef (.int .u8 a2 : Value)), (38, iteV b_ undef (.bool (decide (a2 = 94)) : Value)), (39, .bool (b_ || (decide (a2 = 94))))]) rfl (fun hb23 hq24 => oS [(37, undef), (38, undef), (39, .bool true)] rfl (hq24)) (fun hb25 hq26 => oS [(37, .int .u8 a2), (38, .bool (decide (a2 = 94))), (39, .bool (decide (a2 = 94)))] rfl (hq26)) (oS [(40, .bool (((decide (a2 = 80)) || (decide (a2 = 88))) || (decide (a2 = 94))))] rfl (oB (((decide (a2 = 80)) || (decide (a2 = 88))) || (decide (a2 = 94))) 3 [39, 40] (fun b_ => [(41, iteV b_ undef (.int .u8 a2 : Value)), (42, iteV b_ undef (.bool (decide (a2 = 95)) : Value)), (43, .bool (b_ || (decide (a2 = 95))))]) rfl (fun hb27 hq28 => oS [(41, undef), (42, undef), (43, .bool true)] rfl (hq28)) (fun hb29 hq30 => oS [(41, .int .u8 a2), (42, .bool (decide (a2 = 95))), (43, .bool (decide (a2 = 95)))] rfl (hq30)) (oS [(44, .bool ((((decide (a2 = 80)) || (decide (a2 = 88))) || (decide (a2 = 94))) || (decide (a2 = 95))))] rfl (hq32)))))))) (fun hb33 hq34 => oS [(30, undef), (31, undef), (32, undef), (33, undef), (34, undef), (35, undef), (36, undef), (37, undef), (38, undef), (39, undef), (40, undef), (41, undef), (42, undef), (43, undef), (44, .bool false)] rfl (hq34)) ?_
 refine oS [(27, .bool ((decide ((x4n : Int) = 0)) && ((((decide (a2 = 80)) || (decide (a2 = 88))) || (decide (a2 = 94))) || (decide (a2 = 95)))))] rfl ?_
 refine oE ?_
 refine cwp_condB ((decide ((x4n : Int) = 0)) && ((((decide (a2 = 80)) || (decide (a2 = 88))) || (decide (a2 = 94))) || (decide (a2 = 95)))) (by kernel_rfl) (fun hc35 => ?_) (fun hc35 => ?_)
 · replace hM := ifT hc35 hM
   refine cwp_region ?_
   refine oS [(45, .pointer (some p3)), (46, .pointer (some p3)), (47, .pointer (some (p3.add 31)))] rfl ?_
   refine oT (p3.add 31) [.int .i64 4] hM ?_
   clear hM
   intro h36 hM
   refine owp_nil (blockE_n ?_)
   exact end_ (.tuple #[]) (by kernel_rfl) ⟨rfl, hM⟩
 replace hM := ifF hc35 hM
 refine cR ?_
 refine oS [(49, .int .u8 a2), (50, .bool (decide (a2 < 32))), (48, .bool (decide (a2 < 32)))] rfl ?_
 refine oE ?_
 refine cwp_condD (a2 < 32) (by kernel_rfl) (fun hc37 => ?_) (fun hc37 => ?_)
 · replace hM := ifT hc37 hM
   refine cwp_region ?_
   refine oS [(51, .pointer (some p3)), (52, .int .u8 a2)] rfl ?_
   refine oG (hpCallE 39 #[.pointer (some p3), .int .u8 a2] (by kernel_rfl) (vt_Screen_does_ok (some p3) a2 _ h hM) ?_)
   clear hM
   rintro _ h38 ⟨rfl, hM⟩
   refine owp_nil (blockE_n ?_)
   exact end_ (.tuple #[]) (by kernel_rfl) ⟨rfl, hM⟩
 replace hM := ifF hc37 hM
 refine cR ?_
 refine oS [(55, .int .u8 a2), (56, .bool (decide (a2 < 48))), (54, .bool (decide (a2 < 48)))] rfl ?_
 refine oE ?_
 refine cwp_condD (a2 < 48) (by kernel_rfl) (fun hc39 => ?_) (fun hc39 => ?_)
 · replace hM := ifT hc39 hM
   refine cwp_region ?_
   refine oS [(57, .pointer (some p3)), (58, .int .u8 a2)] rfl ?_
   refine oG (hpCallE 40 #[.pointer (some p3), .int .u8 a2] (by kernel_rfl) (vt_Screen_gather_ok (some p3) a2 _ h hM) ?_)
   clear hM
   rintro _ h40 ⟨rfl, hM⟩
   refine owp_nil (blockE_n ?_)
   exact end_ (.tuple #[]) (by kernel_rfl) ⟨rfl, hM⟩
 replace hM := ifF hc39 hM
 refine cR ?_
 refine oS [(61, .int .u8 a2), (62, .bool (decide (a2 < 127))), (60, .bool (decide (a2 < 127)))] rfl ?_
 refine oE ?_
 refine cwp_condD (a2 < 127) (by kernel_rfl) (fun hc41 => ?_) (fun hc41 => ?_)
 · replace hM := ifT hc41 hM
   refine cR ?_
   refine oS [(63, .pointer (some p3)), (64, .pointer (some p3)), (65, .pointer (some (p3.add 31)))] rfl ?_
   refine oT (p3.add 31) [.int .i64 0] hM ?_
   clear hM
   intro h42 hM
   refine oE (cR ?_)
   refine oS [(66, .pointer (some p3)), (67, .pointer (some p3)), (68, .pointer (some (p3.add 33)))] rfl ?_
   obtain ⟨x43, hc44, hM⟩ := hM
   refine oL (.bool x43) (p3.add 33) hc44 ?_
   refine oS [(70, .bool (!x43))] rfl ?_
   refine oE ?_
   refine cwp_condB (!x43) (by kernel_rfl) (fun hc46 => ?_) (fun hc46 => ?_)
   · replace hM := ifT hc46 hM
     refine cwp_region ?_
     refine oS [(71, .pointer (some p3)), (72, .int .u8 a2)] rfl ?_
     refine oG (hpCallE 41 #[.pointer (some p3), .int .u8 a2] (by kernel_rfl) (vt_Screen_escaped_ok (some p3) a2 _ h42 hM) ?_)
     clear hM
     rintro _ h47 ⟨rfl, hM⟩
     refine owp_nil (blockE_n ?_)
     exact end_ (.tuple #[]) (by kernel_rfl) ⟨rfl, hM⟩
   replace hM := ifF hc46 hM
   refine cwp_skip (blockE_n ?_)
   exact end_ (.tuple #[]) (by kernel_rfl) ⟨rfl, hM⟩
 replace hM := ifF hc41 hM
 refine cR ?_
 refine oS [(75, .int .u8 a2), (76, .bool (decide (128 ≤ a2))), (74, .bool (decide (128 ≤ a2)))] rfl ?_
 refine oE ?_
 refine cwp_condD (128 ≤ a2) (by kernel_rfl) (fun hc48 => ?_) (fun hc48 => ?_)
 · replace hM := ifT hc48 hM
   refine cR ?_
   refine oS [(77, .pointer (some p3)), (78, .pointer (some p3)), (79, .pointer (some (p3.add 31)))] rfl ?_
   refine oT (p3.add 31) [.int .i64 0] hM ?_
   clear hM
   intro h49 hM
   refine oE (cwp_region ?_)
   refine oS [(80, .pointer (some p3)), (81, .int .u8 a2)] rfl ?_
   refine oG (hpCallE 29 #[.pointer (some p3), .int .u8 a2] (by kernel_rfl) (vt_Screen_ground_ok (some p3) a2 _ h49 hM) ?_)
   clear hM
   rintro _ h50 ⟨rfl, hM⟩
   refine owp_nil (blockE_n ?_)
   exact end_ (.tuple #[]) (by kernel_rfl) ⟨rfl, hM⟩
 replace hM := ifF hc48 hM
 refine cwp_skip (blockE_n ?_)
 exact end_ (.tuple #[]) (by kernel_rfl) ⟨rfl, hM⟩
/- (*mullion/vt.Screen).numbers -/
def vt_Screen_numbers_l1 (K0 : Option Addr → Nat → Nat → Int → Int → Heap → Prop) : Nat → Option Addr → Nat → Nat → Int → Int → Heap → Prop
  | 0, _, _, _, _, _, _ => False
  | k + 1, y36, y36n, y36c, y37, y38, h =>
  if y38 < (y36n : Int) then
   nz y36 fun p45 =>
   0 ≤ y38 ∧
   y38 < (y36n : Int) ∧
   ldI h .u8 (p45.add ((y38).toNat * 1)) fun x46 =>
   if 48 ≤ x46 then
    0 ≤ y38 ∧
    y38 < (y36n : Int) ∧
    ldI h .u8 (p45.add ((y38).toNat * 1)) fun x57 =>
    if x57 ≤ 59 then
     vt_Screen_numbers_l1 K0 k (some p45) y36n y36c y37 (IntKind.wrap .i64 (y38 + 1)) h
    else
    K0 (some p45) y36n y36c y37 y38 h
   else
   K0 (some p45) y36n y36c y37 y38 h
  else
  K0 y36 y36n y36c y37 y38 h
theorem vt_Screen_numbers_l1_ok {Q : Exit → Env → Heap → Prop} (K0 : Option Addr → Nat → Nat → Int → Int → Heap → Prop) (hK0 : ∀ (z67 : Option Addr) (z67n : Nat) (z67c : Nat) (z68 : Int) (z69 : Int) (b : Env) (h : Heap), K0 z67 z67n z67c z68 z69 h → Q (.exit 0) (upd (upd (upd b 6 (.slice z67 z67n z67c)) 7 (.int .u8 z68)) 8 (.int .i64 z69)) h) : ∀ (k : Nat) (y36 : Option Addr) (y36n : Nat) (y36c : Nat) (y37 : Int) (y38 : Int) (b : Env) (h : Heap) (hM : vt_Screen_numbers_l1 K0 k y36 y36n y36c y37 y38 h), lwp Tryd.prog (partC Tryd.f56 [1, 1, 1, 1, 1, 0, 0, 0]) 116 Q k (upd (upd (upd b 6 (.slice y36 y36n y36c)) 7 (.int .u8 y37)) 8 (.int .i64 y38)) h := by
  intro k
  induction k with
  | zero => intro y36 y36n y36c y37 y38 b h hM; exact (show False from hM).elim
  | succ k ih =>
    intro y36 y36n y36c y37 y38 b h hM
    unfold vt_Screen_numbers_l1 at hM
    refine lwp_succ (cwp_part rfl ?_)
    refine cwp_seq (cR ?_)
    refine oS [(38, .int .i64 y38), (39, .slice y36 y36n y36c), (40, .int .i64 (y36n : Int)), (41, .bool (decide (y38 < (y36n : Int)))), (42, .bool (decide (y38 < (y36n : Int))))] rfl ?_
    by_cases hc42 : y38 < (y36n : Int)
    · refine oA 41 true (decide (y38 < (y36n : Int))) (by rw [decide_eq_true hc42]) ?_
      refine oA 42 true (decide (y38 < (y36n : Int))) (by rw [decide_eq_true hc42]) ?_
      replace hM := ifT hc42 hM
      refine oS [(43, .slice y36 y36n y36c), (44, .int .i64 y38)] rfl ?_
      obtain ⟨p45, rfl, hM⟩ := hM
      obtain ⟨hc43, hM⟩ := hM
      obtain ⟨hc44, hM⟩ := hM
      refine owp_rdG (.pointer (some (p45.add ((y38).toNat * 1)))) rfl (by kernel_rfl) (rd_ixS (P := Tryd.prog) (h := h) (t := 66) (el := 5) (sz := 1) (ad := p45) (len := y36n) (c := y36c) (k := .i64) (i := y38) (by kernel_rfl) (by kernel_rfl) hc43 hc44 (by kernel_rfl)) ?_
      obtain ⟨x46, hc47, hM⟩ := hM
      refine oL (.int .u8 x46) (p45.add ((y38).toNat * 1)) hc47 ?_
      refine oS [(47, .bool (decide (48 ≤ x46))), (48, .bool (decide (48 ≤ x46))), (49, .bool (decide (48 ≤ x46)))] rfl ?_
      by_cases hc54 : 48 ≤ x46
      · refine oA 47 true (decide (48 ≤ x46)) (by rw [decide_eq_true hc54]) ?_
        refine oA 48 true (decide (48 ≤ x46)) (by rw [decide_eq_true hc54]) ?_
        refine oA 49 true (decide (48 ≤ x46)) (by rw [decide_eq_true hc54]) ?_
        replace hM := ifT hc54 hM
        refine oS [(50, .slice (some p45) y36n y36c), (51, .int .i64 y38)] rfl ?_
        obtain ⟨hc55, hM⟩ := hM
        obtain ⟨hc56, hM⟩ := hM
        refine owp_rdG (.pointer (some (p45.add ((y38).toNat * 1)))) rfl (by kernel_rfl) (rd_ixS (P := Tryd.prog) (h := h) (t := 66) (el := 5) (sz := 1) (ad := p45) (len := y36n) (c := y36c) (k := .i64) (i := y38) (by kernel_rfl) (by kernel_rfl) hc55 hc56 (by kernel_rfl)) ?_
        obtain ⟨x57, hc58, hM⟩ := hM
        refine oL (.int .u8 x57) (p45.add ((y38).toNat * 1)) hc58 ?_
        refine oS [(54, .bool (decide (x57 ≤ 59))), (55, .bool (decide (x57 ≤ 59)))] rfl ?_
        refine oE ?_
        refine cwp_condD (x57 ≤ 59) (by kernel_rfl) (fun hc60 => ?_) (fun hc60 => ?_)
        · replace hM := ifT hc60 hM
          refine cwp_skip (thenE_n (cwp_block (cwp_region ?_)))
          refine oS [(56, .int .i64 y38), (57, .int .i64 (IntKind.wrap .i64 (y38 + 1))), (8, .int .i64 (IntKind.wrap .i64 (y38 + 1)))] rfl ?_
          refine owp_nil (blockE_n ?_)
          exact lwp_at 6 (.slice (some p45) y36n y36c) (by kernel_rfl) (lwp_at 7 (.int .u8 y37) (by kernel_rfl) (lwp_at 8 (.int .i64 (IntKind.wrap .i64 (y38 + 1))) (by kernel_rfl) (ih (some p45) y36n y36c y37 (IntKind.wrap .i64 (y38 + 1)) _ _ hM)))
        replace hM := ifF hc60 hM
        refine cwp_exit (thenE_x ?_)
        exact q_at (Q := Q (.exit 0)) 6 (.slice (some p45) y36n y36c) (by kernel_rfl) (q_at (Q := Q (.exit 0)) 7 (.int .u8 y37) (by kernel_rfl) (q_at (Q := Q (.exit 0)) 8 (.int .i64 y38) (by kernel_rfl) (hK0 (some p45) y36n y36c y37 y38 _ _ hM)))
      refine oA 47 false (decide (48 ≤ x46)) (by rw [decide_eq_false hc54]) ?_
      refine oA 48 false (decide (48 ≤ x46)) (by rw [decide_eq_false hc54]) ?_
      refine oA 49 false (decide (48 ≤ x46)) (by rw [decide_eq_false hc54]) ?_
      replace hM := ifF hc54 hM
      refine oS [(50, undef), (51, undef), (52, undef), (53, undef), (54, undef), (55, .bool false)] rfl ?_
      refine oE ?_
      refine cwp_cond (t := false) (by kernel_rfl) (fun hx_ => ?_) (fun hx_ => ?_)
      all_goals first | (cases hx_; done) | skip
      refine cwp_exit (thenE_x ?_)
      exact q_at (Q := Q (.exit 0)) 6 (.slice (some p45) y36n y36c) (by kernel_rfl) (q_at (Q := Q (.exit 0)) 7 (.int .u8 y37) (by kernel_rfl) (q_at (Q := Q (.exit 0)) 8 (.int .i64 y38) (by kernel_rfl) (hK0 (some p45) y36n y36c y37 y38 _ _ hM)))
    refine oA 41 false (decide (y38 < (y36n : Int))) (by rw [decide_eq_false hc42]) ?_
    refine oA 42 false (decide (y38 < (y36n : Int))) (by rw [decide_eq_false hc42]) ?_
    replace hM := ifF hc42 hM
    refine oS [(43, undef), (44, undef), (45, undef), (46, undef), (47, undef), (48, .bool false), (49, .bool false), (50, undef), (51, undef), (52, undef), (53, undef), (54, undef), (55, .bool false)] rfl ?_
    refine oE ?_
    refine cwp_cond (t := false) (by kernel_rfl) (fun hx_ => ?_) (fun hx_ => ?_)
    all_goals first | (cases hx_; done) | skip
    refine cwp_exit (thenE_x ?_)
    exact q_at (Q := Q (.exit 0)) 6 (.slice y36 y36n y36c) (by kernel_rfl) (q_at (Q := Q (.exit 0)) 7 (.int .u8 y37) (by kernel_rfl) (q_at (Q := Q (.exit 0)) 8 (.int .i64 y38) (by kernel_rfl) (hK0 y36 y36n y36c y37 y38 _ _ hM)))
def vt_Screen_numbers_l2 (K2 : Option Addr → Nat → Nat → Int → Int → ByteArray → Heap → Prop) (Kr : Int → Option Addr → Nat → Nat → ByteArray → Bool → Heap → Prop) : Nat → Option Addr → Nat → Nat → Int → Int → ByteArray → Int → Int → Heap → Prop
  | 0, _, _, _, _, _, _, _, _, _ => False
  | k + 1, y78, y78n, y78c, y79, y80, y81, y82, y83, h =>
  if y83 < y82 then
   0 ≤ y83 ∧
   y83 < (y81.size : Int) ∧
   if 48 ≤ (byteAt y81 y83) then
    Kr 0 none 0 0 (⟨#[]⟩ : ByteArray) false h
   else
   vt_Screen_numbers_l2 K2 Kr k y78 y78n y78c y79 y80 y81 y82 (IntKind.wrap .i64 (y83 + 1)) h
  else
  K2 y78 y78n y78c y79 y80 y81 h
theorem vt_Screen_numbers_l2_ok {Q : Exit → Env → Heap → Prop} (K2 : Option Addr → Nat → Nat → Int → Int → ByteArray → Heap → Prop) (hK2 : ∀ (z100 : Option Addr) (z100n : Nat) (z100c : Nat) (z101 : Int) (z102 : Int) (z103 : ByteArray) (b : Env) (h : Heap), K2 z100 z100n z100c z101 z102 z103 h → Q (.exit 2) (upd (upd (upd (upd b 6 (.slice z100 z100n z100c)) 7 (.int .u8 z101)) 8 (.int .i64 z102)) 9 (.string z103)) h) (Kr : Int → Option Addr → Nat → Nat → ByteArray → Bool → Heap → Prop) (hKr : ∀ (z108 : Int) (z109 : Option Addr) (z109n : Nat) (z109c : Nat) (z110 : ByteArray) (z111 : Bool) (b : Env) (h : Heap), Kr z108 z109 z109n z109c z110 z111 h → Q .ret (upd (upd (upd (upd b 2 (.int .u8 z108)) 3 (.slice z109 z109n z109c)) 4 (.string z110)) 5 (.bool z111)) h) : ∀ (k : Nat) (y78 : Option Addr) (y78n : Nat) (y78c : Nat) (y79 : Int) (y80 : Int) (y81 : ByteArray) (y82 : Int) (y83 : Int) (b : Env) (h : Heap) (hM : vt_Screen_numbers_l2 K2 Kr k y78 y78n y78c y79 y80 y81 y82 y83 h), lwp Tryd.prog (partC Tryd.f56 [1, 1, 1, 1, 1, 1, 1, 0, 1, 0, 0]) 116 Q k (upd (upd (upd (upd (upd (upd b 6 (.slice y78 y78n y78c)) 7 (.int .u8 y79)) 8 (.int .i64 y80)) 9 (.string y81)) 63 (.int .i64 y82)) 64 (.int .i64 y83)) h := by
  intro k
  induction k with
  | zero => intro y78 y78n y78c y79 y80 y81 y82 y83 b h hM; exact (show False from hM).elim
  | succ k ih =>
    intro y78 y78n y78c y79 y80 y81 y82 y83 b h hM
    unfold vt_Screen_numbers_l2 at hM
    refine lwp_succ (cwp_part rfl ?_)
    refine cR ?_
    refine oS [(65, .bool (decide (y83 < y82)))] rfl ?_
    refine oE (cwp_seq ?_)
    refine cwp_condD (y83 < y82) (by kernel_rfl) (fun hc84 => ?_) (fun hc84 => ?_)
    · replace hM := ifT hc84 hM
      refine cwp_skip (thenE_n (cwp_seq (cwp_block (cR ?_))))
      refine oS [(66, .int .i64 y83), (10, .int .i64 y83)] rfl ?_
      refine oE (cR ?_)
      refine oS [(67, .string y81), (68, .int .i64 y83)] rfl ?_
      obtain ⟨hc85, hM⟩ := hM
      obtain ⟨hc86, hM⟩ := hM
      refine owp_rdG (.int .u8 (byteAt y81 y83)) rfl (by kernel_rfl) (rd_ixStr (P := Tryd.prog) (h := h) (t := 9) (s := y81) (k := .i64) (i := y83) (by kernel_rfl) hc85 hc86 (by kernel_rfl)) ?_
      refine oS [(70, .bool (decide (48 ≤ (byteAt y81 y83))))] rfl ?_
      refine oE ?_
      refine cwp_condD (48 ≤ (byteAt y81 y83)) (by kernel_rfl) (fun hc87 => ?_) (fun hc87 => ?_)
      · replace hM := ifT hc87 hM
        refine cR ?_
        refine oS [(2, .int .u8 0), (3, .slice none 0 0), (4, .string (⟨#[]⟩ : ByteArray)), (5, .bool false)] rfl ?_
        refine oE (cwp_ret (blockE_r (thenE_r ?_)))
        exact q_at (Q := Q .ret) 2 (.int .u8 0) (by kernel_rfl) (q_at (Q := Q .ret) 3 (.slice none 0 0) (by kernel_rfl) (q_at (Q := Q .ret) 4 (.string (⟨#[]⟩ : ByteArray)) (by kernel_rfl) (q_at (Q := Q .ret) 5 (.bool false) (by kernel_rfl) (hKr 0 none 0 0 (⟨#[]⟩ : ByteArray) false _ _ hM))))
      replace hM := ifF hc87 hM
      refine cwp_skip (blockE_n (thenE_n (cwp_region ?_)))
      refine oS [(71, .int .i64 (IntKind.wrap .i64 (y83 + 1))), (64, .int .i64 (IntKind.wrap .i64 (y83 + 1)))] rfl ?_
      refine owp_nil ?_
      exact lwp_at 6 (.slice y78 y78n y78c) (by kernel_rfl) (lwp_at 7 (.int .u8 y79) (by kernel_rfl) (lwp_at 8 (.int .i64 y80) (by kernel_rfl) (lwp_at 9 (.string y81) (by kernel_rfl) (lwp_at 63 (.int .i64 y82) (by kernel_rfl) (lwp_at 64 (.int .i64 (IntKind.wrap .i64 (y83 + 1))) (by kernel_rfl) (ih y78 y78n y78c y79 y80 y81 y82 (IntKind.wrap .i64 (y83 + 1)) _ _ hM))))))
    replace hM := ifF hc84 hM
    refine cwp_exit (thenE_x ?_)
    exact q_at (Q := Q (.exit 2)) 6 (.slice y78 y78n y78c) (by kernel_rfl) (q_at (Q := Q (.exit 2)) 7 (.int .u8 y79) (by kernel_rfl) (q_at (Q := Q (.exit 2)) 8 (.int .i64 y80) (by kernel_rfl) (q_at (Q := Q (.exit 2)) 9 (.string y81) (by kernel_rfl) (hK2 y78 y78n y78c y79 y80 y81 _ _ hM))))
def vt_Screen_numbers_l3 (K4 : Int → Int → ByteArray → Option Addr → Nat → Nat → Int → Heap → Prop) : Nat → Option Addr → Nat → Nat → Int → Int → ByteArray → Option Addr → Nat → Nat → Int → Int → Heap → Prop
  | 0, _, _, _, _, _, _, _, _, _, _, _, _ => False
  | k + 1, y117, y117n, y117c, y118, y119, y120, y121, y121n, y121c, y122, y123, h =>
  if y123 < y119 then
   nz y117 fun p127 =>
   0 ≤ y123 ∧
   y123 < (y117n : Int) ∧
   ldI h .u8 (p127.add ((y123).toNat * 1)) fun x128 =>
   if x128 = 59 then
    gap h fun h138 =>
    appH h138 3 8 [.int .i64 0] y121 y121n y121c [.int .i64 y122] 1 fun s141 s141c h140 =>
    vt_Screen_numbers_l3 K4 k (some p127) y117n y117c y118 y119 y120 s141 (y121n + 1) s141c (-1) (IntKind.wrap .i64 (y123 + 1)) h140
   else
   0 ≤ y123 ∧
   y123 < (y117n : Int) ∧
   ldI h .u8 (p127.add ((y123).toNat * 1)) fun x144 =>
   if x144 = 58 then
    gap h fun h149 =>
    appH h149 3 8 [.int .i64 0] y121 y121n y121c [.int .i64 y122] 1 fun s152 s152c h151 =>
    vt_Screen_numbers_l3 K4 k (some p127) y117n y117c y118 y119 y120 s152 (y121n + 1) s152c (-1) (IntKind.wrap .i64 (y123 + 1)) h151
   else
   0 ≤ y123 ∧
   y123 < (y117n : Int) ∧
   ldI h .u8 (p127.add ((y123).toNat * 1)) fun x155 =>
   vt_Screen_numbers_l3 K4 k (some p127) y117n y117c y118 y119 y120 y121 y121n y121c (imin 9999 (IntKind.wrap .i64 ((IntKind.wrap .i64 ((imax y122 0) * 10)) + (IntKind.wrap .i64 (IntKind.wrap .u8 (x155 - 48)))))) (IntKind.wrap .i64 (y123 + 1)) h
  else
  K4 y118 y119 y120 y121 y121n y121c y122 h
theorem vt_Screen_numbers_l3_ok {Q : Exit → Env → Heap → Prop} (K4 : Int → Int → ByteArray → Option Addr → Nat → Nat → Int → Heap → Prop) (hK4 : ∀ (z168 : Int) (z169 : Int) (z170 : ByteArray) (z171 : Option Addr) (z171n : Nat) (z171c : Nat) (z172 : Int) (b : Env) (h : Heap), K4 z168 z169 z170 z171 z171n z171c z172 h → Q (.exit 4) (upd (upd (upd (upd (upd b 7 (.int .u8 z168)) 8 (.int .i64 z169)) 9 (.string z170)) 11 (.slice z171 z171n z171c)) 12 (.int .i64 z172)) h) : ∀ (k : Nat) (y117 : Option Addr) (y117n : Nat) (y117c : Nat) (y118 : Int) (y119 : Int) (y120 : ByteArray) (y121 : Option Addr) (y121n : Nat) (y121c : Nat) (y122 : Int) (y123 : Int) (b : Env) (h : Heap) (hM : vt_Screen_numbers_l3 K4 k y117 y117n y117c y118 y119 y120 y121 y121n y121c y122 y123 h), lwp Tryd.prog (partC Tryd.f56 [1, 1, 1, 1, 1, 1, 1, 1, 1, 1, 0, 1, 0, 0]) 116 Q k (upd (upd (upd (upd (upd (upd (upd b 6 (.slice y117 y117n y117c)) 7 (.int .u8 y118)) 8 (.int .i64 y119)) 9 (.string y120)) 11 (.slice y121 y121n y121c)) 12 (.int .i64 y122)) 13 (.int .i64 y123)) h := by
  intro k
  induction k with
  | zero => intro y117 y117n y117c y118 y119 y120 y121 y121n y121c y122 y123 b h hM; exact (show False from hM).elim
  | succ k ih =>
    intro y117 y117n y117c y118 y119 y120 y121 y121n y121c y122 y123 b h hM
    unfold vt_Screen_numbers_l3 at hM
    refine lwp_succ (cwp_part rfl ?_)
    refine cwp_seq (cR ?_)
    refine oS [(72, .int .i64 y123), (73, .int .i64 y119), (74, .bool (decide (y123 < y119)))] rfl ?_
    refine oE ?_
    refine cwp_condD (y123 < y119) (by kernel_rfl) (fun hc124 => ?_) (fun hc124 => ?_)
    · replace hM := ifT hc124 hM
      refine cwp_skip (thenE_n (cwp_seq (cwp_block (cwp_seq (cR ?_)))))
      refine oS [(77, .slice y117 y117n y117c), (78, .int .i64 y123)] rfl ?_
      obtain ⟨p127, rfl, hM⟩ := hM
      obtain ⟨hc125, hM⟩ := hM
      obtain ⟨hc126, hM⟩ := hM
      refine owp_rdG (.pointer (some (p127.add ((y123).toNat * 1)))) rfl (by kernel_rfl) (rd_ixS (P := Tryd.prog) (h := h) (t := 66) (el := 5) (sz := 1) (ad := p127) (len := y117n) (c := y117c) (k := .i64) (i := y123) (by kernel_rfl) (by kernel_rfl) hc125 hc126 (by kernel_rfl)) ?_
      obtain ⟨x128, hc129, hM⟩ := hM
      refine oL (.int .u8 x128) (p127.add ((y123).toNat * 1)) hc129 ?_
      refine oS [(81, .bool (decide (x128 = 59))), (82, .bool (decide (x128 = 59)))] rfl ?_
      by_cases hc136 : x128 = 59
      · refine oA 81 true (decide (x128 = 59)) (by rw [decide_eq_true hc136]) ?_
        refine oA 82 true (decide (x128 = 59)) (by rw [decide_eq_true hc136]) ?_
        replace hM := ifT hc136 hM
        refine oS [(83, undef), (84, undef), (85, undef), (86, undef), (87, undef), (88, .bool true)] rfl ?_
        refine oE ?_
        refine cwp_cond (t := true) (by kernel_rfl) (fun hx_ => ?_) (fun hx_ => ?_)
        all_goals first | (cases hx_; done) | skip
        refine cR ?_
        refine oS [(89, .slice y121 y121n y121c), (90, .int .i64 y122)] rfl ?_
        refine oG (hpNewS #[.int .i64 y122] 3 1 (fun _ => by kernel_rfl) ?_)
        intro b137 h138 hN139
        replace hM := hM _ (New.ext hN139)
        refine oG (hpApp (t := 95) (ty := 95) (et := 3) (zv := .int .i64 0) (sz := 1) (by_ := 8) (base := y121) (n' := y121n) (c := y121c) (xb := (some ⟨b137, 0, none⟩)) (m := 1) (xc := 1) (new := [.int .i64 y122]) (fun _ => by kernel_rfl) (by kernel_rfl) (by kernel_rfl) [.int .i64 0] rfl rfl (by decide) rfl rfl ⟨Blk.cell (New.blk hN139) 0 (by kernel_rfl), trivial⟩ hM ?_)
        clear hM
        intro s141 s141c h140 hM
        refine oS [(11, .slice s141 (y121n + 1) s141c)] rfl ?_
        refine oE (cR ?_)
        refine oS [(12, .int .i64 (-1))] rfl ?_
        refine oE (cwp_exit (thenE_x (blockE_h (thenE_n (cwp_region ?_)))))
        refine oS [(75, .int .i64 y123), (76, .int .i64 (IntKind.wrap .i64 (y123 + 1))), (13, .int .i64 (IntKind.wrap .i64 (y123 + 1)))] rfl ?_
        refine owp_nil ?_
        exact lwp_at 6 (.slice (some p127) y117n y117c) (by kernel_rfl) (lwp_at 7 (.int .u8 y118) (by kernel_rfl) (lwp_at 8 (.int .i64 y119) (by kernel_rfl) (lwp_at 9 (.string y120) (by kernel_rfl) (lwp_at 11 (.slice s141 (y121n + 1) s141c) (by kernel_rfl) (lwp_at 12 (.int .i64 (-1)) (by kernel_rfl) (lwp_at 13 (.int .i64 (IntKind.wrap .i64 (y123 + 1))) (by kernel_rfl) (ih (some p127) y117n y117c y118 y119 y120 s141 (y121n + 1) s141c (-1) (IntKind.wrap .i64 (y123 + 1)) _ _ hM)))))))
      refine oA 81 false (decide (x128 = 59)) (by rw [decide_eq_false hc136]) ?_
      refine oA 82 false (decide (x128 = 59)) (by rw [decide_eq_false hc136]) ?_
      replace hM := ifF hc136 hM
      refine oS [(83, .slice (some p127) y117n y117c), (84, .int .i64 y123)] rfl ?_
      obtain ⟨hc142, hM⟩ := hM
      obtain ⟨hc143, hM⟩ := hM
      refine owp_rdG (.pointer (some (p127.add ((y123).toNat * 1)))) rfl (by kernel_rfl) (rd_ixS (P := Tryd.prog) (h := h) (t := 66) (el := 5) (sz := 1) (ad := p127) (len := y117n) (c := y117c) (k := .i64) (i := y123) (by kernel_rfl) (by kernel_rfl) hc142 hc143 (by kernel_rfl)) ?_
      obtain ⟨x144, hc145, hM⟩ := hM
      refine oL (.int .u8 x144) (p127.add ((y123).toNat * 1)) hc145 ?_
      refine oS [(87, .bool (decide (x144 = 58))), (88, .bool (decide (x144 = 58)))] rfl ?_
      refine oE ?_
      refine cwp_condD (x144 = 58) (by kernel_rfl) (fun hc147 => ?_) (fun hc147 => ?_)
      · replace hM := ifT hc147 hM
        refine cR ?_
        refine oS [(89, .slice y121 y121n y121c), (90, .int .i64 y122)] rfl ?_
        refine oG (hpNewS #[.int .i64 y122] 3 1 (fun _ => by kernel_rfl) ?_)
        intro b148 h149 hN150
        replace hM := hM _ (New.ext hN150)
        refine oG (hpApp (t := 95) (ty := 95) (et := 3) (zv := .int .i64 0) (sz := 1) (by_ := 8) (base := y121) (n' := y121n) (c := y121c) (xb := (some ⟨b148, 0, none⟩)) (m := 1) (xc := 1) (new := [.int .i64 y122]) (fun _ => by kernel_rfl) (by kernel_rfl) (by kernel_rfl) [.int .i64 0] rfl rfl (by decide) rfl rfl ⟨Blk.cell (New.blk hN150) 0 (by kernel_rfl), trivial⟩ hM ?_)
        clear hM
        intro s152 s152c h151 hM
        refine oS [(11, .slice s152 (y121n + 1) s152c)] rfl ?_
        refine oE (cR ?_)
        refine oS [(12, .int .i64 (-1))] rfl ?_
        refine oE (cwp_exit (thenE_x (blockE_h (thenE_n (cwp_region ?_)))))
        refine oS [(75, .int .i64 y123), (76, .int .i64 (IntKind.wrap .i64 (y123 + 1))), (13, .int .i64 (IntKind.wrap .i64 (y123 + 1)))] rfl ?_
        refine owp_nil ?_
        exact lwp_at 6 (.slice (some p127) y117n y117c) (by kernel_rfl) (lwp_at 7 (.int .u8 y118) (by kernel_rfl) (lwp_at 8 (.int .i64 y119) (by kernel_rfl) (lwp_at 9 (.string y120) (by kernel_rfl) (lwp_at 11 (.slice s152 (y121n + 1) s152c) (by kernel_rfl) (lwp_at 12 (.int .i64 (-1)) (by kernel_rfl) (lwp_at 13 (.int .i64 (IntKind.wrap .i64 (y123 + 1))) (by kernel_rfl) (ih (some p127) y117n y117c y118 y119 y120 s152 (y121n + 1) s152c (-1) (IntKind.wrap .i64 (y123 + 1)) _ _ hM)))))))
      replace hM := ifF hc147 hM
      refine cwp_skip (thenE_n (cwp_region ?_))
      refine oS [(93, .int .i64 y122), (94, .int .i64 (imax y122 0)), (95, .int .i64 (IntKind.wrap .i64 ((imax y122 0) * 10))), (96, .slice (some p127) y117n y117c), (97, .int .i64 y123)] rfl ?_
      obtain ⟨hc153, hM⟩ := hM
      obtain ⟨hc154, hM⟩ := hM
      refine owp_rdG (.pointer (some (p127.add ((y123).toNat * 1)))) rfl (by kernel_rfl) (rd_ixS (P := Tryd.prog) (h := h) (t := 66) (el := 5) (sz := 1) (ad := p127) (len := y117n) (c := y117c) (k := .i64) (i := y123) (by kernel_rfl) (by kernel_rfl) hc153 hc154 (by kernel_rfl)) ?_
      obtain ⟨x155, hc156, hM⟩ := hM
      refine oL (.int .u8 x155) (p127.add ((y123).toNat * 1)) hc156 ?_
      refine oS [(100, .int .u8 (IntKind.wrap .u8 (x155 - 48))), (101, .int .i64 (IntKind.wrap .i64 (IntKind.wrap .u8 (x155 - 48)))), (102, .int .i64 (IntKind.wrap .i64 ((IntKind.wrap .i64 ((imax y122 0) * 10)) + (IntKind.wrap .i64 (IntKind.wrap .u8 (x155 - 48)))))), (103, .int .i64 (imin 9999 (IntKind.wrap .i64 ((IntKind.wrap .i64 ((imax y122 0) * 10)) + (IntKind.wrap .i64 (IntKind.wrap .u8 (x155 - 48))))))), (12, .int .i64 (imin 9999 (IntKind.wrap .i64 ((IntKind.wrap .i64 ((imax y122 0) * 10)) + (IntKind.wrap .i64 (IntKind.wrap .u8 (x155 - 48)))))))] rfl ?_
      refine owp_nil (blockE_n (thenE_n (cwp_region ?_)))
      refine oS [(75, .int .i64 y123), (76, .int .i64 (IntKind.wrap .i64 (y123 + 1))), (13, .int .i64 (IntKind.wrap .i64 (y123 + 1)))] rfl ?_
      refine owp_nil ?_
      exact lwp_at 6 (.slice (some p127) y117n y117c) (by kernel_rfl) (lwp_at 7 (.int .u8 y118) (by kernel_rfl) (lwp_at 8 (.int .i64 y119) (by kernel_rfl) (lwp_at 9 (.string y120) (by kernel_rfl) (lwp_at 11 (.slice y121 y121n y121c) (by kernel_rfl) (lwp_at 12 (.int .i64 (imin 9999 (IntKind.wrap .i64 ((IntKind.wrap .i64 ((imax y122 0) * 10)) + (IntKind.wrap .i64 (IntKind.wrap .u8 (x155 - 48))))))) (by kernel_rfl) (lwp_at 13 (.int .i64 (IntKind.wrap .i64 (y123 + 1))) (by kernel_rfl) (ih (some p127) y117n y117c y118 y119 y120 y121 y121n y121c (imin 9999 (IntKind.wrap .i64 ((IntKind.wrap .i64 ((imax y122 0) * 10)) + (IntKind.wrap .i64 (IntKind.wrap .u8 (x155 - 48)))))) (IntKind.wrap .i64 (y123 + 1)) _ _ hM)))))))
    replace hM := ifF hc124 hM
    refine cwp_exit (thenE_x ?_)
    exact q_at (Q := Q (.exit 4)) 7 (.int .u8 y118) (by kernel_rfl) (q_at (Q := Q (.exit 4)) 8 (.int .i64 y119) (by kernel_rfl) (q_at (Q := Q (.exit 4)) 9 (.string y120) (by kernel_rfl) (q_at (Q := Q (.exit 4)) 11 (.slice y121 y121n y121c) (by kernel_rfl) (q_at (Q := Q (.exit 4)) 12 (.int .i64 y122) (by kernel_rfl) (hK4 y118 y119 y120 y121 y121n y121c y122 _ _ hM)))))
def vt_Screen_numbers_j4 (Kr : Int → Option Addr → Nat → Nat → ByteArray → Bool → Heap → Prop) (y185 : Int) (y186 : ByteArray) (y187 : Option Addr) (y187n : Nat) (y187c : Nat) (h : Heap) : Prop :=
 Kr y185 y187 y187n y187c y186 (decide ((y187n : Int) ≤ 16)) h
theorem vt_Screen_numbers_j4_ok {Q : Exit → Env → Heap → Prop} (Kr : Int → Option Addr → Nat → Nat → ByteArray → Bool → Heap → Prop) (hKr : ∀ (z196 : Int) (z197 : Option Addr) (z197n : Nat) (z197c : Nat) (z198 : ByteArray) (z199 : Bool) (b : Env) (h : Heap), Kr z196 z197 z197n z197c z198 z199 h → Q .ret (upd (upd (upd (upd b 2 (.int .u8 z196)) 3 (.slice z197 z197n z197c)) 4 (.string z198)) 5 (.bool z199)) h) (y185 : Int) (y186 : ByteArray) (y187 : Option Addr) (y187n : Nat) (y187c : Nat) (b : Env) (h : Heap) (hM : vt_Screen_numbers_j4 Kr y185 y186 y187 y187n y187c h) : cwp Tryd.prog (partC Tryd.f56 [1, 1, 1, 1, 1, 1, 1, 1, 1, 1, 1, 1]) 116 Q (upd (upd (upd b 7 (.int .u8 y185)) 9 (.string y186)) 11 (.slice y187 y187n y187c)) h := by
  unfold vt_Screen_numbers_j4 at hM
  refine cwp_part rfl ?_
  refine cR ?_
  refine oS [(110, .int .u8 y185), (111, .slice y187 y187n y187c), (112, .string y186), (113, .slice y187 y187n y187c), (114, .int .i64 (y187n : Int)), (115, .bool (decide ((y187n : Int) ≤ 16))), (2, .int .u8 y185), (3, .slice y187 y187n y187c), (4, .string y186), (5, .bool (decide ((y187n : Int) ≤ 16)))] rfl ?_
  refine oE (cwp_ret ?_)
  exact q_at (Q := Q .ret) 2 (.int .u8 y185) (by kernel_rfl) (q_at (Q := Q .ret) 3 (.slice y187 y187n y187c) (by kernel_rfl) (q_at (Q := Q .ret) 4 (.string y186) (by kernel_rfl) (q_at (Q := Q .ret) 5 (.bool (decide ((y187n : Int) ≤ 16))) (by kernel_rfl) (hKr y185 y187 y187n y187c y186 (decide ((y187n : Int) ≤ 16)) _ _ hM))))
def vt_Screen_numbers_j0 (Kr : Int → Option Addr → Nat → Nat → ByteArray → Bool → Heap → Prop) (y34 : Option Addr) (y34n : Nat) (y34c : Nat) (y35 : Int) (h : Heap) : Prop :=
 ∃ k229, vt_Screen_numbers_l1
  (fun z70 z70n z70c z71 z72 h73 =>
    0 ≤ z72 ∧
    z72 ≤ (z70n : Int) ∧
    bytM h73 (cutA z70 z70c z72.toNat 1) (z70n - z72.toNat) fun x76 =>
    ∃ k227, vt_Screen_numbers_l2
     (fun z112 z112n z112c z113 z114 z115 h116 =>
       ∃ k219, vt_Screen_numbers_l3
        (fun z173 z174 z175 z176 z176n z176c z177 h178 =>
          if 0 < z174 then
           gap h178 fun h181 =>
           appH h181 3 8 [.int .i64 0] z176 z176n z176c [.int .i64 z177] 1 fun s184 s184c h183 =>
           vt_Screen_numbers_j4
            (fun z200 z201 z201n z201c z202 z203 h204 =>
                Kr z200 z201 z201n z201c z202 z203 h204) z173 z175 s184 (z176n + 1) s184c h183
          else
          vt_Screen_numbers_j4
           (fun z211 z212 z212n z212c z213 z214 h215 =>
                   Kr z211 z212 z212n z212c z213 z214 h215) z173 z175 z176 z176n z176c h178) k219 z112 z112n z112c z113 z114 z115 none 0 0 (-1) 0 h116)
     (fun z221 z222 z222n z222c z223 z224 h225 =>
           Kr z221 z222 z222n z222c z223 z224 h225) k227 z70 z70n z70c z71 z72 x76 (x76.size : Int) 0 h73) k229 y34 y34n y34c y35 0 h
theorem vt_Screen_numbers_j0_ok {Q : Exit → Env → Heap → Prop} (Kr : Int → Option Addr → Nat → Nat → ByteArray → Bool → Heap → Prop) (hKr : ∀ (z234 : Int) (z235 : Option Addr) (z235n : Nat) (z235c : Nat) (z236 : ByteArray) (z237 : Bool) (b : Env) (h : Heap), Kr z234 z235 z235n z235c z236 z237 h → Q .ret (upd (upd (upd (upd b 2 (.int .u8 z234)) 3 (.slice z235 z235n z235c)) 4 (.string z236)) 5 (.bool z237)) h) (y34 : Option Addr) (y34n : Nat) (y34c : Nat) (y35 : Int) (b : Env) (h : Heap) (hM : vt_Screen_numbers_j0 Kr y34 y34n y34c y35 h) : cwp Tryd.prog (partC Tryd.f56 [1, 1, 1, 1]) 116 Q (upd (upd b 6 (.slice y34 y34n y34c)) 7 (.int .u8 y35)) h := by
  unfold vt_Screen_numbers_j0 at hM
  refine cwp_part rfl ?_
  refine cR ?_
  refine oS [(8, .int .i64 0)] rfl ?_
  refine oE (cwp_seq (cwp_block ?_))
  obtain ⟨k_, hM⟩ := hM
  refine cwp_loop k_ (lwp_of_part (fn := Tryd.f56) (p := [1, 1, 1, 1, 1, 0, 0, 0]) (by kernel_rfl) (lwp_at 6 (.slice y34 y34n y34c) (by kernel_rfl) (lwp_at 7 (.int .u8 y35) (by kernel_rfl) (lwp_at 8 (.int .i64 0) (by kernel_rfl) (vt_Screen_numbers_l1_ok _ ?_ k_ y34 y34n y34c y35 0 _ _ hM)))))
  · intro z70 z70n z70c z71 z72 b228 h73 hM
    refine blockE_h (thenE_n (cR ?_))
    refine oS [(58, .slice z70 z70n z70c), (59, .int .i64 z72)] rfl ?_
    obtain ⟨hc74, hM⟩ := hM
    obtain ⟨hc75, hM⟩ := hM
    refine owp_rdG (.slice (cutA z70 z70c z72.toNat 1) (z70n - z72.toNat) (z70c - z72.toNat)) rfl (by kernel_rfl) (rd_sSLo (P := Tryd.prog) (h := h73) (t := 66) (el := 5) (sz := 1) (a := z70) (n := z70n) (c := z70c) (k := .i64) (i := z72) (by kernel_rfl) (by kernel_rfl) hc74 hc75 (by kernel_rfl)) ?_
    obtain ⟨x76, hx77, hM⟩ := hM
    refine owp_rdG (.string x76) rfl (by kernel_rfl) (rd_bytS (P := Tryd.prog) (h := h73) (a := (cutA z70 z70c z72.toNat 1)) (n := (z70n - z72.toNat)) (c := (z70c - z72.toNat)) hx77 (by kernel_rfl)) ?_
    refine oS [(9, .string x76)] rfl ?_
    refine oE (cwp_seq (cR ?_))
    refine oS [(62, .string x76), (63, .int .i64 (x76.size : Int)), (64, .int .i64 0)] rfl ?_
    refine oE (cwp_block ?_)
    obtain ⟨k_, hM⟩ := hM
    refine cwp_loop k_ (lwp_of_part (fn := Tryd.f56) (p := [1, 1, 1, 1, 1, 1, 1, 0, 1, 0, 0]) (by kernel_rfl) (lwp_at 6 (.slice z70 z70n z70c) (by kernel_rfl) (lwp_at 7 (.int .u8 z71) (by kernel_rfl) (lwp_at 8 (.int .i64 z72) (by kernel_rfl) (lwp_at 9 (.string x76) (by kernel_rfl) (lwp_at 63 (.int .i64 (x76.size : Int)) (by kernel_rfl) (lwp_at 64 (.int .i64 0) (by kernel_rfl) (vt_Screen_numbers_l2_ok _ ?_ _ ?_ k_ z70 z70n z70c z71 z72 x76 (x76.size : Int) 0 _ _ hM))))))))
    · intro z112 z112n z112c z113 z114 z115 b220 h116 hM
      refine blockE_h (thenE_n (cR ?_))
      refine oS [(11, .slice none 0 0)] rfl ?_
      refine oE (cR ?_)
      refine oS [(12, .int .i64 (-1))] rfl ?_
      refine oE (cwp_seq (cR ?_))
      refine oS [(13, .int .i64 0)] rfl ?_
      refine oE (cwp_block ?_)
      obtain ⟨k_, hM⟩ := hM
      refine cwp_loop k_ (lwp_of_part (fn := Tryd.f56) (p := [1, 1, 1, 1, 1, 1, 1, 1, 1, 1, 0, 1, 0, 0]) (by kernel_rfl) (lwp_at 6 (.slice z112 z112n z112c) (by kernel_rfl) (lwp_at 7 (.int .u8 z113) (by kernel_rfl) (lwp_at 8 (.int .i64 z114) (by kernel_rfl) (lwp_at 9 (.string z115) (by kernel_rfl) (lwp_at 11 (.slice none 0 0) (by kernel_rfl) (lwp_at 12 (.int .i64 (-1)) (by kernel_rfl) (lwp_at 13 (.int .i64 0) (by kernel_rfl) (vt_Screen_numbers_l3_ok _ ?_ k_ z112 z112n z112c z113 z114 z115 none 0 0 (-1) 0 _ _ hM)))))))))
      · intro z173 z174 z175 z176 z176n z176c z177 b218 h178 hM
        refine blockE_h (thenE_n (cwp_seq (cR ?_)))
        refine oS [(104, .int .i64 z174), (105, .bool (decide (0 < z174)))] rfl ?_
        refine oE ?_
        refine cwp_condD (0 < z174) (by kernel_rfl) (fun hc179 => ?_) (fun hc179 => ?_)
        · replace hM := ifT hc179 hM
          refine cwp_region ?_
          refine oS [(106, .slice z176 z176n z176c), (107, .int .i64 z177)] rfl ?_
          refine oG (hpNewS #[.int .i64 z177] 3 1 (fun _ => by kernel_rfl) ?_)
          intro b180 h181 hN182
          replace hM := hM _ (New.ext hN182)
          refine oG (hpApp (t := 95) (ty := 95) (et := 3) (zv := .int .i64 0) (sz := 1) (by_ := 8) (base := z176) (n' := z176n) (c := z176c) (xb := (some ⟨b180, 0, none⟩)) (m := 1) (xc := 1) (new := [.int .i64 z177]) (fun _ => by kernel_rfl) (by kernel_rfl) (by kernel_rfl) [.int .i64 0] rfl rfl (by decide) rfl rfl ⟨Blk.cell (New.blk hN182) 0 (by kernel_rfl), trivial⟩ hM ?_)
          clear hM
          intro s184 s184c h183 hM
          refine oS [(11, .slice s184 (z176n + 1) s184c)] rfl ?_
          refine oE ?_
          refine cwp_of_part (fn := Tryd.f56) (p := [1, 1, 1, 1, 1, 1, 1, 1, 1, 1, 1, 1]) (by kernel_rfl) (cwp_at 7 (.int .u8 z173) (by kernel_rfl) (cwp_at 9 (.string z175) (by kernel_rfl) (cwp_at 11 (.slice s184 (z176n + 1) s184c) (by kernel_rfl) (vt_Screen_numbers_j4_ok _ ?_ z173 z175 s184 (z176n + 1) s184c _ _ hM))))
          · intro z200 z201 z201n z201c z202 z203 b209 h204 hM
            exact q_at (Q := Q .ret) 2 (.int .u8 z200) (by kernel_rfl) (q_at (Q := Q .ret) 3 (.slice z201 z201n z201c) (by kernel_rfl) (q_at (Q := Q .ret) 4 (.string z202) (by kernel_rfl) (q_at (Q := Q .ret) 5 (.bool z203) (by kernel_rfl) (hKr z200 z201 z201n z201c z202 z203 _ _ hM))))
        replace hM := ifF hc179 hM
        refine cwp_skip (thenE_n ?_)
        refine cwp_of_part (fn := Tryd.f56) (p := [1, 1, 1, 1, 1, 1, 1, 1, 1, 1, 1, 1]) (by kernel_rfl) (cwp_at 7 (.int .u8 z173) (by kernel_rfl) (cwp_at 9 (.string z175) (by kernel_rfl) (cwp_at 11 (.slice z176 z176n z176c) (by kernel_rfl) (vt_Screen_numbers_j4_ok _ ?_ z173 z175 z176 z176n z176c _ _ hM))))
        · intro z211 z212 z212n z212c z213 z214 b216 h215 hM
          exact q_at (Q := Q .ret) 2 (.int .u8 z211) (by kernel_rfl) (q_at (Q := Q .ret) 3 (.slice z212 z212n z212c) (by kernel_rfl) (q_at (Q := Q .ret) 4 (.string z213) (by kernel_rfl) (q_at (Q := Q .ret) 5 (.bool z214) (by kernel_rfl) (hKr z211 z212 z212n z212c z213 z214 _ _ hM))))
    · intro z221 z222 z222n z222c z223 z224 b226 h225 hM
      refine blockE_r (thenE_r ?_)
      exact q_at (Q := Q .ret) 2 (.int .u8 z221) (by kernel_rfl) (q_at (Q := Q .ret) 3 (.slice z222 z222n z222c) (by kernel_rfl) (q_at (Q := Q .ret) 4 (.string z223) (by kernel_rfl) (q_at (Q := Q .ret) 5 (.bool z224) (by kernel_rfl) (hKr z221 z222 z222n z222c z223 z224 _ _ hM))))
def vt_Screen_numbers (a1 : Option Addr) (K : Int → Option Addr → Nat → Nat → ByteArray → Bool → Heap → Prop) (h : Heap) : Prop :=
 nz a1 fun p2 =>
 ldL h (p2.add 32) fun x3 x3n x3c =>
 if 0 < (x3n : Int) then
  nz x3 fun p12 =>
  0 ≤ (0 : Int) ∧
  (0 : Int) < (x3n : Int) ∧
  ldI h .u8 (p12.add (((0 : Int)).toNat * 1)) fun x13 =>
  if 60 ≤ x13 then
   0 ≤ (0 : Int) ∧
   (0 : Int) < (x3n : Int) ∧
   ldI h .u8 (p12.add (((0 : Int)).toNat * 1)) fun x24 =>
   if x24 ≤ 63 then
    0 ≤ (0 : Int) ∧
    (0 : Int) < (x3n : Int) ∧
    ldI h .u8 (p12.add (((0 : Int)).toNat * 1)) fun x30 =>
    (1 : Int) ≤ (x3n : Int) ∧
    vt_Screen_numbers_j0
     (fun z238 z239 z239n z239c z240 z241 h242 =>
         K z238 z239 z239n z239c z240 z241 h242) (cutA (some p12) x3c (1 : Int).toNat 1) (x3n - (1 : Int).toNat) (x3c - (1 : Int).toNat) x30 h
   else
   vt_Screen_numbers_j0
    (fun z245 z246 z246n z246c z247 z248 h249 =>
        K z245 z246 z246n z246c z247 z248 h249) (some p12) x3n x3c 0 h
  else
  vt_Screen_numbers_j0
   (fun z252 z253 z253n z253c z254 z255 h256 =>
       K z252 z253 z253n z253c z254 z255 h256) (some p12) x3n x3c 0 h
 else
 vt_Screen_numbers_j0
  (fun z259 z260 z260n z260c z261 z262 h263 =>
      K z259 z260 z260n z260c z261 z262 h263) x3 x3n x3c 0 h
theorem vt_Screen_numbers_ok (a1 : Option Addr) (K : Int → Option Addr → Nat → Nat → ByteArray → Bool → Heap → Prop) (h : Heap) (hM : vt_Screen_numbers a1 K h) : CallsH Tryd.prog 56 #[.pointer a1] (fun v h' => ∃ (r266 : Int) (r267 : Option Addr) (r267n : Nat) (r267c : Nat) (r268 : ByteArray) (r269 : Bool), v = .tuple #[.int .u8 r266, .slice r267 r267n r267c, .string r268, .bool r269] ∧ K r266 r267 r267n r267c r268 r269 h') h := by
 unfold vt_Screen_numbers at hM
 refine callsH_intro (n := 116) Tryd.func56 rfl rfl (by kernel_rfl) ?_
 refine cR ?_
 refine oS [(2, .int .u8 0), (3, .slice none 0 0), (4, .string (⟨#[]⟩ : ByteArray)), (5, .bool false)] rfl ?_
 refine oE (cR ?_)
 refine oS [(14, .pointer a1)] rfl ?_
 obtain ⟨p2, rfl, hM⟩ := hM
 refine owp_rdG (.pointer (some p2)) rfl (by kernel_rfl) (by kernel_rfl) ?_
 refine oS [(16, .pointer (some (p2.add 32)))] rfl ?_
 obtain ⟨x3, x3n, x3c, hc4, hM⟩ := hM
 refine oL (.slice x3 x3n x3c) (p2.add 32) hc4 ?_
 refine oS [(6, .slice x3 x3n x3c)] rfl ?_
 refine oE (cR ?_)
 refine oS [(7, .int .u8 0)] rfl ?_
 refine oE (cwp_seq (cR ?_))
 refine oS [(18, .slice x3 x3n x3c), (19, .int .i64 (x3n : Int)), (20, .bool (decide (0 < (x3n : Int)))), (21, .bool (decide (0 < (x3n : Int))))] rfl ?_
 by_cases hc9 : 0 < (x3n : Int)
 · refine oA 20 true (decide (0 < (x3n : Int))) (by rw [decide_eq_true hc9]) ?_
   refine oA 21 true (decide (0 < (x3n : Int))) (by rw [decide_eq_true hc9]) ?_
   replace hM := ifT hc9 hM
   refine oS [(22, .slice x3 x3n x3c)] rfl ?_
   obtain ⟨p12, rfl, hM⟩ := hM
   obtain ⟨hc10, hM⟩ := hM
   obtain ⟨hc11, hM⟩ := hM
   refine owp_rdG (.pointer (some (p12.add (((0 : Int)).toNat * 1)))) rfl (by kernel_rfl) (rd_ixS (P := Tryd.prog) (h := h) (t := 66) (el := 5) (sz := 1) (ad := p12) (len := x3n) (c := x3c) (k := .i64) (i := 0) (by kernel_rfl) (by kernel_rfl) hc10 hc11 (by kernel_rfl)) ?_
   obtain ⟨x13, hc14, hM⟩ := hM
   refine oL (.int .u8 x13) (p12.add (((0 : Int)).toNat * 1)) hc14 ?_
   refine oS [(25, .bool (decide (60 ≤ x13))), (26, .bool (decide (60 ≤ x13))), (27, .bool (decide (60 ≤ x13)))] rfl ?_
   by_cases hc21 : 60 ≤ x13
   · refine oA 25 true (decide (60 ≤ x13)) (by rw [decide_eq_true hc21]) ?_
     refine oA 26 true (decide (60 ≤ x13)) (by rw [decide_eq_true hc21]) ?_
     refine oA 27 true (decide (60 ≤ x13)) (by rw [decide_eq_true hc21]) ?_
     replace hM := ifT hc21 hM
     refine oS [(28, .slice (some p12) x3n x3c)] rfl ?_
     obtain ⟨hc22, hM⟩ := hM
     obtain ⟨hc23, hM⟩ := hM
     refine owp_rdG (.pointer (some (p12.add (((0 : Int)).toNat * 1)))) rfl (by kernel_rfl) (rd_ixS (P := Tryd.prog) (h := h) (t := 66) (el := 5) (sz := 1) (ad := p12) (len := x3n) (c := x3c) (k := .i64) (i := 0) (by kernel_rfl) (by kernel_rfl) hc22 hc23 (by kernel_rfl)) ?_
     obtain ⟨x24, hc25, hM⟩ := hM
     refine oL (.int .u8 x24) (p12.add (((0 : Int)).toNat * 1)) hc25 ?_
     refine oS [(31, .bool (decide (x24 ≤ 63))), (32, .bool (decide (x24 ≤ 63)))] rfl ?_
     refine oE ?_
     refine cwp_condD (x24 ≤ 63) (by kernel_rfl) (fun hc27 => ?_) (fun hc27 => ?_)
     · replace hM := ifT hc27 hM
       refine cR ?_
       refine oS [(33, .slice (some p12) x3n x3c)] rfl ?_
       obtain ⟨hc28, hM⟩ := hM
       obtain ⟨hc29, hM⟩ := hM
       refine owp_rdG (.pointer (some (p12.add (((0 : Int)).toNat * 1)))) rfl (by kernel_rfl) (rd_ixS (P := Tryd.prog) (h := h) (t := 66) (el := 5) (sz := 1) (ad := p12) (len := x3n) (c := x3c) (k := .i64) (i := 0) (by kernel_rfl) (by kernel_rfl) hc28 hc29 (by kernel_rfl)) ?_
       obtain ⟨x30, hc31, hM⟩ := hM
       refine oL (.int .u8 x30) (p12.add (((0 : Int)).toNat * 1)) hc31 ?_
       refine oS [(7, .int .u8 x30)] rfl ?_
       refine oE (cwp_region ?_)
       refine oS [(36, .slice (some p12) x3n x3c)] rfl ?_
       obtain ⟨hc33, hM⟩ := hM
       refine owp_rdG (.slice (cutA (some p12) x3c (1 : Int).toNat 1) (x3n - (1 : Int).toNat) (x3c - (1 : Int).toNat)) rfl (by kernel_rfl) (rd_sSLo (P := Tryd.prog) (h := h) (t := 66) (el := 5) (sz := 1) (a := (some p12)) (n := x3n) (c := x3c) (k := .i64) (i := (1 : Int)) (by kernel_rfl) (by kernel_rfl) (by decide) hc33 (by kernel_rfl)) ?_
       refine oS [(6, .slice (cutA (some p12) x3c (1 : Int).toNat 1) (x3n - (1 : Int).toNat) (x3c - (1 : Int).toNat))] rfl ?_
       refine oE ?_
       refine cwp_of_part (fn := Tryd.f56) (p := [1, 1, 1, 1]) (by kernel_rfl) (cwp_at 6 (.slice (cutA (some p12) x3c (1 : Int).toNat 1) (x3n - (1 : Int).toNat) (x3c - (1 : Int).toNat)) (by kernel_rfl) (cwp_at 7 (.int .u8 x30) (by kernel_rfl) (vt_Screen_numbers_j0_ok _ ?_ (cutA (some p12) x3c (1 : Int).toNat 1) (x3n - (1 : Int).toNat) (x3c - (1 : Int).toNat) x30 _ _ hM)))
       · intro z238 z239 z239n z239c z240 z241 b243 h242 hM
         exact ret_ (.tuple #[.int .u8 z238, .slice z239 z239n z239c, .string z240, .bool z241]) (by kernel_rfl) ⟨_, _, _, _, _, _, rfl, hM⟩
     replace hM := ifF hc27 hM
     refine cwp_skip (thenE_n ?_)
     refine cwp_of_part (fn := Tryd.f56) (p := [1, 1, 1, 1]) (by kernel_rfl) (cwp_at 6 (.slice (some p12) x3n x3c) (by kernel_rfl) (cwp_at 7 (.int .u8 0) (by kernel_rfl) (vt_Screen_numbers_j0_ok _ ?_ (some p12) x3n x3c 0 _ _ hM)))
     · intro z245 z246 z246n z246c z247 z248 b250 h249 hM
       exact ret_ (.tuple #[.int .u8 z245, .slice z246 z246n z246c, .string z247, .bool z248]) (by kernel_rfl) ⟨_, _, _, _, _, _, rfl, hM⟩
   refine oA 25 false (decide (60 ≤ x13)) (by rw [decide_eq_false hc21]) ?_
   refine oA 26 false (decide (60 ≤ x13)) (by rw [decide_eq_false hc21]) ?_
   refine oA 27 false (decide (60 ≤ x13)) (by rw [decide_eq_false hc21]) ?_
   replace hM := ifF hc21 hM
   refine oS [(28, undef), (29, undef), (30, undef), (31, undef), (32, .bool false)] rfl ?_
   refine oE ?_
   refine cwp_cond (t := false) (by kernel_rfl) (fun hx_ => ?_) (fun hx_ => ?_)
   all_goals first | (cases hx_; done) | skip
   refine cwp_skip (thenE_n ?_)
   refine cwp_of_part (fn := Tryd.f56) (p := [1, 1, 1, 1]) (by kernel_rfl) (cwp_at 6 (.slice (some p12) x3n x3c) (by kernel_rfl) (cwp_at 7 (.int .u8 0) (by kernel_rfl) (vt_Screen_numbers_j0_ok _ ?_ (some p12) x3n x3c 0 _ _ hM)))
   · intro z252 z253 z253n z253c z254 z255 b257 h256 hM
     exact ret_ (.tuple #[.int .u8 z252, .slice z253 z253n z253c, .string z254, .bool z255]) (by kernel_rfl) ⟨_, _, _, _, _, _, rfl, hM⟩
 refine oA 20 false (decide (0 < (x3n : Int))) (by rw [decide_eq_false hc9]) ?_
 refine oA 21 false (decide (0 < (x3n : Int))) (by rw [decide_eq_false hc9]) ?_
 replace hM := ifF hc9 hM
 refine oS [(22, undef), (23, undef), (24, undef), (25, undef), (26, .bool false), (27, .bool false), (28, undef), (29, undef), (30, undef), (31, undef), (32, .bool false)] rfl ?_
 refine oE ?_
 refine cwp_cond (t := false) (by kernel_rfl) (fun hx_ => ?_) (fun hx_ => ?_)
 all_goals first | (cases hx_; done) | skip
 refine cwp_skip (thenE_n ?_)
 refine cwp_of_part (fn := Tryd.f56) (p := [1, 1, 1, 1]) (by kernel_rfl) (cwp_at 6 (.slice x3 x3n x3c) (by kernel_rfl) (cwp_at 7 (.int .u8 0) (by kernel_rfl) (vt_Screen_numbers_j0_ok _ ?_ x3 x3n x3c 0 _ _ hM)))
 · intro z259 z260 z260n z260c z261 z262 b264 h263 hM
   exact ret_ (.tuple #[.int .u8 z259, .slice z260 z260n z260c, .string z261, .bool z262]) (by kernel_rfl) ⟨_, _, _, _, _, _, rfl, hM⟩
/- (*mullion/vt.Screen).home -/
def vt_Screen_home (a1 : Option Addr) (a2 : Int) (a3 : Int) (K : Heap → Prop) (h : Heap) : Prop :=
 nz a1 fun p4 =>
 ldB h (p4.add 14) fun x5 =>
 if x5 = true then
  ldI h .i64 (p4.add 19) fun x9 =>
  ldI h .i64 (p4.add 20) fun x13 =>
  vt_Screen_to (some p4) (IntKind.wrap .i64 (a3 - 1)) (imin (IntKind.wrap .i64 ((IntKind.wrap .i64 (a2 - 1)) + x9)) x13) (fun  h17 =>
    K h17) h
 else
 vt_Screen_to (some p4) (IntKind.wrap .i64 (a3 - 1)) (IntKind.wrap .i64 (a2 - 1)) (fun  h18 =>
   K h18) h
theorem vt_Screen_home_ok (a1 : Option Addr) (a2 : Int) (a3 : Int) (K : Heap → Prop) (h : Heap) (hM : vt_Screen_home a1 a2 a3 K h) : CallsH Tryd.prog 64 #[.pointer a1, .int .i64 a2, .int .i64 a3] (fun v h' => v = .tuple #[] ∧ K h') h := by
 unfold vt_Screen_home at hM
 refine callsH_intro (n := 29) Tryd.func64 rfl rfl (by kernel_rfl) ?_
 refine cR ?_
 refine oS [(6, .int .i64 a2), (7, .int .i64 (IntKind.wrap .i64 (a2 - 1))), (1, .int .i64 (IntKind.wrap .i64 (a2 - 1)))] rfl ?_
 refine oE (cwp_seq (cR ?_))
 refine oS [(8, .pointer a1)] rfl ?_
 obtain ⟨p4, rfl, hM⟩ := hM
 refine owp_rdG (.pointer (some p4)) rfl (by kernel_rfl) (by kernel_rfl) ?_
 refine oS [(10, .pointer (some (p4.add 9))), (11, .pointer (some (p4.add 14)))] rfl ?_
 obtain ⟨x5, hc6, hM⟩ := hM
 refine oL (.bool x5) (p4.add 14) hc6 ?_
 refine oE ?_
 refine cwp_condB x5 (by kernel_rfl) (fun hc8 => ?_) (fun hc8 => ?_)
 · replace hM := ifT hc8 hM
   refine cwp_draw (by kernel_rfl) ?_
   refine kp 0 [5, 10, 11] (.int .i64 (IntKind.wrap .i64 (a2 - 1))) ?_
   refine kp 1 [2, 3, 4, 5, 10, 11] (.pointer (some p4)) ?_
   refine kp 2 [3, 4, 5, 10, 11] (.pointer (some p4)) ?_
   refine kp 3 [4, 5, 10, 11] (.pointer (some (p4.add 19))) ?_
   obtain ⟨x9, hc10, hM⟩ := hM
   refine kl 4 (.int .i64 x9) (p4.add 19) [5, 10, 11] [] hc10 ?_
   refine kp 5 [10, 11] (.int .i64 (IntKind.wrap .i64 ((IntKind.wrap .i64 (a2 - 1)) + x9))) ?_
   refine kp 6 [7, 8, 9, 10, 11] (.pointer (some p4)) ?_
   refine kp 7 [8, 9, 10, 11] (.pointer (some p4)) ?_
   refine kp 8 [9, 10, 11] (.pointer (some (p4.add 20))) ?_
   obtain ⟨x13, hc14, hM⟩ := hM
   refine kl 9 (.int .i64 x13) (p4.add 20) [10, 11] [] hc14 ?_
   refine kp 10 [11] (.int .i64 (imin (IntKind.wrap .i64 ((IntKind.wrap .i64 (a2 - 1)) + x9)) x13)) ?_
   refine kp 11 [] (.int .i64 (imin (IntKind.wrap .i64 ((IntKind.wrap .i64 (a2 - 1)) + x9)) x13)) ?_
   refine k_done (by kernel_rfl) ?_
   refine thenE_n (cwp_region ?_)
   refine oS [(24, .pointer (some p4)), (25, .int .i64 a3), (26, .int .i64 (IntKind.wrap .i64 (a3 - 1))), (27, .int .i64 (imin (IntKind.wrap .i64 ((IntKind.wrap .i64 (a2 - 1)) + x9)) x13))] rfl ?_
   refine oG (hpCallE 51 #[.pointer (some p4), .int .i64 (IntKind.wrap .i64 (a3 - 1)), .int .i64 (imin (IntKind.wrap .i64 ((IntKind.wrap .i64 (a2 - 1)) + x9)) x13)] (by kernel_rfl) (vt_Screen_to_ok (some p4) (IntKind.wrap .i64 (a3 - 1)) (imin (IntKind.wrap .i64 ((IntKind.wrap .i64 (a2 - 1)) + x9)) x13) _ h hM) ?_)
   clear hM
   rintro _ h17 ⟨rfl, hM⟩
   refine owp_nil ?_
   exact end_ (.tuple #[]) (by kernel_rfl) ⟨rfl, hM⟩
 replace hM := ifF hc8 hM
 refine cwp_skip (thenE_n (cwp_region ?_))
 refine oS [(24, .pointer (some p4)), (25, .int .i64 a3), (26, .int .i64 (IntKind.wrap .i64 (a3 - 1))), (27, .int .i64 (IntKind.wrap .i64 (a2 - 1)))] rfl ?_
 refine oG (hpCallE 51 #[.pointer (some p4), .int .i64 (IntKind.wrap .i64 (a3 - 1)), .int .i64 (IntKind.wrap .i64 (a2 - 1))] (by kernel_rfl) (vt_Screen_to_ok (some p4) (IntKind.wrap .i64 (a3 - 1)) (IntKind.wrap .i64 (a2 - 1)) _ h hM) ?_)
 clear hM
 rintro _ h18 ⟨rfl, hM⟩
 refine owp_nil ?_
 exact end_ (.tuple #[]) (by kernel_rfl) ⟨rfl, hM⟩
/- (*mullion/vt.Screen).swap -/
def vt_Screen_swap (a1 : Option Addr) (a2 : Bool) (K : Heap → Prop) (h : Heap) : Prop :=
 nz a1 fun p3 =>
 ldB h (p3.add 7) fun x4 =>
 if (a2 == x4) = true then
  K h
 else
 stN (p3.add 7) [.bool a2] 0 h fun h8 =>
 stN (p3.add 5) [.slice none 0 0, .pointer none] 0 h8 fun h9 =>
 if a2 = true then
  ldI h9 .i64 p3 fun x11 =>
  ldI h9 .i64 (p3.add 1) fun x15 =>
  vt_Screen_erased (some p3) (fun x20 x21 x22 x23 x24 h19 =>
   (cellH h19 (p3.add 1) = some (.int .i64 x15) ∧ cellH h19 p3 = some (.int .i64 x11)) ∧
   vt_sheetOf x11 x15 x22 x23 x24 (fun x28 x28n x28c x29 h27 =>
    stN (p3.add 5) [.slice x28 x28n x28c, .pointer x29] 0 h27 fun h30 =>
    stN (p3.add 18) [.bool false] 0 h30 fun h31 =>
      K h31) h19) h9
 else
 stN (p3.add 18) [.bool false] 0 h9 fun h32 =>
 K h32
theorem vt_Screen_swap_ok (a1 : Option Addr) (a2 : Bool) (K : Heap → Prop) (h : Heap) (hM : vt_Screen_swap a1 a2 K h) : CallsH Tryd.prog 65 #[.pointer a1, .bool a2] (fun v h' => v = .tuple #[] ∧ K h') h := by
 unfold vt_Screen_swap at hM
 refine callsH_intro (n := 38) Tryd.func65 rfl rfl (by kernel_rfl) ?_
 refine cwp_seq (cR ?_)
 refine oS [(4, .bool a2), (5, .pointer a1)] rfl ?_
 obtain ⟨p3, rfl, hM⟩ := hM
 refine owp_rdG (.pointer (some p3)) rfl (by kernel_rfl) (by kernel_rfl) ?_
 refine oS [(7, .pointer (some (p3.add 7)))] rfl ?_
 obtain ⟨x4, hc5, hM⟩ := hM
 refine oL (.bool x4) (p3.add 7) hc5 ?_
 refine oS [(9, .bool (a2 == x4))] rfl ?_
 refine oE ?_
 refine cwp_condB (a2 == x4) (by kernel_rfl) (fun hc7 => ?_) (fun hc7 => ?_)
 · replace hM := ifT hc7 hM
   refine cwp_ret (thenE_r ?_)
   exact ret_ (.tuple #[]) (by kernel_rfl) ⟨rfl, hM⟩
 replace hM := ifF hc7 hM
 refine cwp_skip (thenE_n (cR ?_))
 refine oS [(10, .pointer (some p3)), (11, .bool a2), (12, .pointer (some p3)), (13, .pointer (some (p3.add 7)))] rfl ?_
 refine oT (p3.add 7) [.bool a2] hM ?_
 clear hM
 intro h8 hM
 refine oE (cR ?_)
 refine oS [(14, .pointer (some p3)), (15, .agg #[.slice none 0 0, .pointer none]), (16, .pointer (some p3)), (17, .pointer (some (p3.add 5)))] rfl ?_
 refine oT (p3.add 5) [.slice none 0 0, .pointer none] hM ?_
 clear hM
 intro h9 hM
 refine oE (cwp_seq (cR ?_))
 refine oS [(18, .bool a2)] rfl ?_
 refine oE ?_
 refine cwp_condB a2 (by kernel_rfl) (fun hc10 => ?_) (fun hc10 => ?_)
 · replace hM := ifT hc10 hM
   refine cwp_draw (by kernel_rfl) ?_
   refine kp 0 [13, 14, 15] (.pointer (some p3)) ?_
   refine kp 1 [2, 3, 4, 12, 13, 14, 15] (.pointer (some p3)) ?_
   refine kp 2 [3, 4, 12, 13, 14, 15] (.pointer (some p3)) ?_
   refine kp 3 [4, 12, 13, 14, 15] (.pointer (some p3)) ?_
   obtain ⟨x11, hc12, hM⟩ := hM
   refine kl 4 (.int .i64 x11) p3 [12, 13, 14, 15] [12, 15] hc12 ?_
   refine kp 5 [6, 7, 8, 12, 13, 14, 15] (.pointer (some p3)) ?_
   refine kp 6 [7, 8, 12, 13, 14, 15] (.pointer (some p3)) ?_
   refine kp 7 [8, 12, 13, 14, 15] (.pointer (some (p3.add 1))) ?_
   obtain ⟨x15, hc16, hM⟩ := hM
   refine kl 8 (.int .i64 x15) (p3.add 1) [12, 13, 14, 15] [12, 15] hc16 ?_
   refine kp 9 [10, 11, 12, 13, 14, 15] (.pointer (some p3)) ?_
   refine k_eff (j := 10) (by kernel_rfl) rfl rfl (by kernel_rfl) (hpCallE 63 #[.pointer (some p3)] (by kernel_rfl) (vt_Screen_erased_ok (some p3) _ h9 hM) ?_)
   clear hM
   rintro _ h19 ⟨x20, x21, x22, x23, x24, rfl, hM⟩
   obtain ⟨⟨hk25, hk26⟩, hM⟩ := hM
   refine ⟨⟨⟨hk25, trivial⟩, ⟨hk26, trivial⟩, trivial⟩, ?_⟩
   refine kp 11 [12, 13, 14, 15] (.agg #[.int .i64 x22, .int .i64 x23, .int .i64 x24]) ?_
   refine k_eff (j := 12) (by kernel_rfl) rfl rfl (by kernel_rfl) (hpCallE 32 #[.int .i64 x11, .int .i64 x15, .agg #[.int .i64 x22, .int .i64 x23, .int .i64 x24]] (by kernel_rfl) (vt_sheetOf_ok x11 x15 x22 x23 x24 _ h19 hM) ?_)
   clear hM
   rintro _ h27 ⟨x28, x28n, x28c, x29, rfl, hM⟩
   refine ⟨trivial, ?_⟩
   refine kp 13 [14, 15] (.pointer (some p3)) ?_
   refine kp 14 [15] (.pointer (some (p3.add 5))) ?_
   refine k_effD (j := 15) (by kernel_rfl) rfl rfl (by kernel_rfl) (hpSt (p3.add 5) [.slice x28 x28n x28c, .pointer x29] (fun _ => by kernel_rfl) (by kernel_rfl) hM ?_)
   clear hM
   intro h30 hM
   refine ⟨trivial, ?_⟩
   refine k_done (by kernel_rfl) ?_
   refine thenE_n (cwp_region ?_)
   refine oS [(34, .pointer (some p3)), (35, .pointer (some p3)), (36, .pointer (some (p3.add 9))), (37, .pointer (some (p3.add 18)))] rfl ?_
   refine oT (p3.add 18) [.bool false] hM ?_
   clear hM
   intro h31 hM
   refine owp_nil ?_
   exact end_ (.tuple #[]) (by kernel_rfl) ⟨rfl, hM⟩
 replace hM := ifF hc10 hM
 refine cwp_skip (thenE_n (cwp_region ?_))
 refine oS [(34, .pointer (some p3)), (35, .pointer (some p3)), (36, .pointer (some (p3.add 9))), (37, .pointer (some (p3.add 18)))] rfl ?_
 refine oT (p3.add 18) [.bool false] hM ?_
 clear hM
 intro h32 hM
 refine owp_nil ?_
 exact end_ (.tuple #[]) (by kernel_rfl) ⟨rfl, hM⟩
/- (*mullion/vt.Screen).private -/
def vt_Screen_private_j0 (Kn : Heap → Prop) (y29 : Option Addr) (y30 : Bool) (y31 : Int) (y32 : Bool) (h : Heap) : Prop :=
 if y32 = true then
  vt_Screen_swap y29 y30 (fun  h34 =>
    Kn  h34) h
 else
 if y31 = 1048 then
  if y30 = true then
   vt_Screen_keepCursor y29 (fun  h37 =>
     Kn  h37) h
  else
  vt_Screen_backCursor y29 (fun  h38 =>
    Kn  h38) h
 else
 if y31 = 1049 then
  if y30 = true then
   nz y29 fun p42 =>
   ldB h (p42.add 7) fun x43 =>
   if (!x43) = true then
    vt_Screen_keepCursor (some p42) (fun  h47 =>
     vt_Screen_swap (some p42) true (fun  h48 =>
        Kn  h48) h47) h
   else
   Kn  h
  else
  nz y29 fun p49 =>
  ldB h (p49.add 7) fun x50 =>
  if x50 = true then
   vt_Screen_swap (some p49) false (fun  h54 =>
    vt_Screen_backCursor (some p49) (fun  h55 =>
       Kn  h55) h54) h
  else
  Kn  h
 else
 Kn  h
theorem vt_Screen_private_j0_ok {Q : Exit → Env → Heap → Prop} (Kn : Heap → Prop) (hKn : ∀  (b : Env) (h : Heap), Kn  h → Q .normal b h) (y29 : Option Addr) (y30 : Bool) (y31 : Int) (y32 : Bool) (b : Env) (h : Heap) (hM : vt_Screen_private_j0 Kn y29 y30 y31 y32 h) : cwp Tryd.prog (partC Tryd.f57 [1, 0, 1, 1, 1, 1, 1, 1, 1, 1, 1, 1, 1]) 94 Q (upd (upd (upd (upd b 0 (.pointer y29)) 2 (.bool y30)) 6 (.int .i64 y31)) 53 (.bool y32)) h := by
  unfold vt_Screen_private_j0 at hM
  refine cwp_part rfl ?_
  refine cwp_condB y32 (by kernel_rfl) (fun hc33 => ?_) (fun hc33 => ?_)
  · replace hM := ifT hc33 hM
    refine cwp_region ?_
    refine oS [(56, .pointer y29), (57, .bool y30)] rfl ?_
    refine oG (hpCallE 65 #[.pointer y29, .bool y30] (by kernel_rfl) (vt_Screen_swap_ok y29 y30 _ h hM) ?_)
    clear hM
    rintro _ h34 ⟨rfl, hM⟩
    refine owp_nil ?_
    exact hKn  _ _ hM
  replace hM := ifF hc33 hM
  refine cR ?_
  refine oS [(60, .bool (decide (y31 = 1048))), (59, .bool (decide (y31 = 1048)))] rfl ?_
  refine oE ?_
  refine cwp_condD (y31 = 1048) (by kernel_rfl) (fun hc35 => ?_) (fun hc35 => ?_)
  · replace hM := ifT hc35 hM
    refine cR ?_
    refine oS [(61, .bool y30)] rfl ?_
    refine oE ?_
    refine cwp_condB y30 (by kernel_rfl) (fun hc36 => ?_) (fun hc36 => ?_)
    · replace hM := ifT hc36 hM
      refine cwp_region ?_
      refine oS [(62, .pointer y29)] rfl ?_
      refine oG (hpCallE 53 #[.pointer y29] (by kernel_rfl) (vt_Screen_keepCursor_ok y29 _ h hM) ?_)
      clear hM
      rintro _ h37 ⟨rfl, hM⟩
      refine owp_nil ?_
      exact hKn  _ _ hM
    replace hM := ifF hc36 hM
    refine cwp_region ?_
    refine oS [(64, .pointer y29)] rfl ?_
    refine oG (hpCallE 54 #[.pointer y29] (by kernel_rfl) (vt_Screen_backCursor_ok y29 _ h hM) ?_)
    clear hM
    rintro _ h38 ⟨rfl, hM⟩
    refine owp_nil ?_
    exact hKn  _ _ hM
  replace hM := ifF hc35 hM
  refine cR ?_
  refine oS [(67, .bool (decide (y31 = 1049))), (66, .bool (decide (y31 = 1049)))] rfl ?_
  refine oE ?_
  refine cwp_condD (y31 = 1049) (by kernel_rfl) (fun hc39 => ?_) (fun hc39 => ?_)
  · replace hM := ifT hc39 hM
    refine cwp_block (cR ?_)
    refine oS [(69, .bool y30), (70, .bool y30)] rfl ?_
    by_cases hc41 : y30 = true
    · refine oA 2 true y30 (by rw [hc41]) ?_
      refine oA 69 true y30 (by rw [hc41]) ?_
      refine oA 70 true y30 (by rw [hc41]) ?_
      replace hM := ifT hc41 hM
      refine oS [(71, .pointer y29)] rfl ?_
      obtain ⟨p42, rfl, hM⟩ := hM
      refine owp_rdG (.pointer (some p42)) rfl (by kernel_rfl) (by kernel_rfl) ?_
      refine oS [(73, .pointer (some (p42.add 7)))] rfl ?_
      obtain ⟨x43, hc44, hM⟩ := hM
      refine oL (.bool x43) (p42.add 7) hc44 ?_
      refine oS [(75, .bool (!x43)), (76, .bool (!x43)), (68, .bool (!x43))] rfl ?_
      refine oE ?_
      refine cwp_condB (!x43) (by kernel_rfl) (fun hc46 => ?_) (fun hc46 => ?_)
      · replace hM := ifT hc46 hM
        refine cR ?_
        refine oS [(77, .pointer (some p42))] rfl ?_
        refine oG (hpCallE 53 #[.pointer (some p42)] (by kernel_rfl) (vt_Screen_keepCursor_ok (some p42) _ h hM) ?_)
        clear hM
        rintro _ h47 ⟨rfl, hM⟩
        refine oE (cwp_region ?_)
        refine oS [(79, .pointer (some p42))] rfl ?_
        refine oG (hpCallE 65 #[.pointer (some p42), .bool true] (by kernel_rfl) (vt_Screen_swap_ok (some p42) true _ h47 hM) ?_)
        clear hM
        rintro _ h48 ⟨rfl, hM⟩
        refine owp_nil (blockE_n ?_)
        exact hKn  _ _ hM
      replace hM := ifF hc46 hM
      refine cR ?_
      refine oS [(82, .bool true), (83, .bool false), (84, .bool false), (85, undef), (86, undef), (87, undef), (88, undef), (89, .bool false), (81, .bool false)] rfl ?_
      refine oE ?_
      refine cwp_cond (t := false) (by kernel_rfl) (fun hx_ => ?_) (fun hx_ => ?_)
      all_goals first | (cases hx_; done) | skip
      refine cwp_skip (blockE_n ?_)
      exact hKn  _ _ hM
    refine oA 2 false y30 (by rw [Bool.eq_false_iff.2 hc41]) ?_
    refine oA 69 false y30 (by rw [Bool.eq_false_iff.2 hc41]) ?_
    refine oA 70 false y30 (by rw [Bool.eq_false_iff.2 hc41]) ?_
    replace hM := ifF hc41 hM
    refine oS [(71, undef), (72, undef), (73, undef), (74, undef), (75, undef), (76, .bool false), (68, .bool false)] rfl ?_
    refine oE ?_
    refine cwp_cond (t := false) (by kernel_rfl) (fun hx_ => ?_) (fun hx_ => ?_)
    all_goals first | (cases hx_; done) | skip
    refine cR ?_
    refine oS [(82, .bool false), (83, .bool true), (84, .bool true), (85, .pointer y29)] rfl ?_
    obtain ⟨p49, rfl, hM⟩ := hM
    refine owp_rdG (.pointer (some p49)) rfl (by kernel_rfl) (by kernel_rfl) ?_
    refine oS [(87, .pointer (some (p49.add 7)))] rfl ?_
    obtain ⟨x50, hc51, hM⟩ := hM
    refine oL (.bool x50) (p49.add 7) hc51 ?_
    refine oS [(89, .bool x50), (81, .bool x50)] rfl ?_
    refine oE ?_
    refine cwp_condB x50 (by kernel_rfl) (fun hc53 => ?_) (fun hc53 => ?_)
    · replace hM := ifT hc53 hM
      refine cR ?_
      refine oS [(90, .pointer (some p49))] rfl ?_
      refine oG (hpCallE 65 #[.pointer (some p49), .bool false] (by kernel_rfl) (vt_Screen_swap_ok (some p49) false _ h hM) ?_)
      clear hM
      rintro _ h54 ⟨rfl, hM⟩
      refine oE (cwp_region ?_)
      refine oS [(92, .pointer (some p49))] rfl ?_
      refine oG (hpCallE 54 #[.pointer (some p49)] (by kernel_rfl) (vt_Screen_backCursor_ok (some p49) _ h54 hM) ?_)
      clear hM
      rintro _ h55 ⟨rfl, hM⟩
      refine owp_nil (blockE_n ?_)
      exact hKn  _ _ hM
    replace hM := ifF hc53 hM
    refine cwp_skip (blockE_n ?_)
    exact hKn  _ _ hM
  replace hM := ifF hc39 hM
  refine cwp_skip ?_
  exact hKn  _ _ hM
def vt_Screen_private (a1 : Option Addr) (a2 : Int) (a3 : Bool) (K : Heap → Prop) (h : Heap) : Prop :=
 if a2 = 1 then
  nz a1 fun p5 =>
  stN (p5.add 25) [.bool a3] 0 h fun h6 =>
  K h6
 else
 if a2 = 2004 then
  nz a1 fun p8 =>
  stN (p8.add 26) [.bool a3] 0 h fun h9 =>
  K h9
 else
 if a2 = 6 then
  nz a1 fun p11 =>
  stN (p11.add 14) [.bool a3] 0 h fun h12 =>
  vt_Screen_home (some p11) 1 1 (fun  h13 =>
    K h13) h12
 else
 if a2 = 7 then
  nz a1 fun p15 =>
  stN (p15.add 24) [.bool a3] 0 h fun h16 =>
  ldB h16 (p15.add 18) fun x17 =>
  stN (p15.add 18) [.bool (x17 && a3)] 0 h16 fun h24 =>
  K h24
 else
 if a2 = 25 then
  nz a1 fun p26 =>
  stN (p26.add 27) [.bool (!a3)] 0 h fun h27 =>
  K h27
 else
 if a2 = 47 then
  vt_Screen_private_j0
   (fun  h56 =>
       K h56) a1 a3 a2 (decide (a2 = 47)) h
 else
 vt_Screen_private_j0
  (fun  h59 =>
      K h59) a1 a3 a2 (decide (a2 = 1047)) h
theorem vt_Screen_private_ok (a1 : Option Addr) (a2 : Int) (a3 : Bool) (K : Heap → Prop) (h : Heap) (hM : vt_Screen_private a1 a2 a3 K h) : CallsH Tryd.prog 57 #[.pointer a1, .int .i64 a2, .bool a3] (fun v h' => v = .tuple #[] ∧ K h') h := by
 unfold vt_Screen_private at hM
 refine callsH_intro (n := 94) Tryd.func57 rfl rfl (by kernel_rfl) ?_
 refine cR ?_
 refine oS [(6, .int .i64 a2)] rfl ?_
 refine oE (cwp_block (cR ?_))
 refine oS [(8, .bool (decide (a2 = 1))), (7, .bool (decide (a2 = 1)))] rfl ?_
 refine oE ?_
 refine cwp_condD (a2 = 1) (by kernel_rfl) (fun hc4 => ?_) (fun hc4 => ?_)
 · replace hM := ifT hc4 hM
   refine cwp_region ?_
   refine oS [(9, .pointer a1), (10, .bool a3)] rfl ?_
   obtain ⟨p5, rfl, hM⟩ := hM
   refine owp_rdG (.pointer (some p5)) rfl (by kernel_rfl) (by kernel_rfl) ?_
   refine oS [(12, .pointer (some (p5.add 25)))] rfl ?_
   refine oT (p5.add 25) [.bool a3] hM ?_
   clear hM
   intro h6 hM
   refine owp_nil (blockE_n ?_)
   exact end_ (.tuple #[]) (by kernel_rfl) ⟨rfl, hM⟩
 replace hM := ifF hc4 hM
 refine cR ?_
 refine oS [(14, .bool (decide (a2 = 2004))), (13, .bool (decide (a2 = 2004)))] rfl ?_
 refine oE ?_
 refine cwp_condD (a2 = 2004) (by kernel_rfl) (fun hc7 => ?_) (fun hc7 => ?_)
 · replace hM := ifT hc7 hM
   refine cwp_region ?_
   refine oS [(15, .pointer a1), (16, .bool a3)] rfl ?_
   obtain ⟨p8, rfl, hM⟩ := hM
   refine owp_rdG (.pointer (some p8)) rfl (by kernel_rfl) (by kernel_rfl) ?_
   refine oS [(18, .pointer (some (p8.add 26)))] rfl ?_
   refine oT (p8.add 26) [.bool a3] hM ?_
   clear hM
   intro h9 hM
   refine owp_nil (blockE_n ?_)
   exact end_ (.tuple #[]) (by kernel_rfl) ⟨rfl, hM⟩
 replace hM := ifF hc7 hM
 refine cR ?_
 refine oS [(20, .bool (decide (a2 = 6))), (19, .bool (decide (a2 = 6)))] rfl ?_
 refine oE ?_
 refine cwp_condD (a2 = 6) (by kernel_rfl) (fun hc10 => ?_) (fun hc10 => ?_)
 · replace hM := ifT hc10 hM
   refine cR ?_
   refine oS [(21, .pointer a1), (22, .bool a3)] rfl ?_
   obtain ⟨p11, rfl, hM⟩ := hM
   refine owp_rdG (.pointer (some p11)) rfl (by kernel_rfl) (by kernel_rfl) ?_
   refine oS [(24, .pointer (some (p11.add 9))), (25, .pointer (some (p11.add 14)))] rfl ?_
   refine oT (p11.add 14) [.bool a3] hM ?_
   clear hM
   intro h12 hM
   refine oE (cwp_region ?_)
   refine oS [(26, .pointer (some p11))] rfl ?_
   refine oG (hpCallE 64 #[.pointer (some p11), .int .i64 1, .int .i64 1] (by kernel_rfl) (vt_Screen_home_ok (some p11) 1 1 _ h12 hM) ?_)
   clear hM
   rintro _ h13 ⟨rfl, hM⟩
   refine owp_nil (blockE_n ?_)
   exact end_ (.tuple #[]) (by kernel_rfl) ⟨rfl, hM⟩
 replace hM := ifF hc10 hM
 refine cR ?_
 refine oS [(29, .bool (decide (a2 = 7))), (28, .bool (decide (a2 = 7)))] rfl ?_
 refine oE ?_
 refine cwp_condD (a2 = 7) (by kernel_rfl) (fun hc14 => ?_) (fun hc14 => ?_)
 · replace hM := ifT hc14 hM
   refine cR ?_
   refine oS [(30, .pointer a1), (31, .bool a3)] rfl ?_
   obtain ⟨p15, rfl, hM⟩ := hM
   refine owp_rdG (.pointer (some p15)) rfl (by kernel_rfl) (by kernel_rfl) ?_
   refine oS [(33, .pointer (some (p15.add 24)))] rfl ?_
   refine oT (p15.add 24) [.bool a3] hM ?_
   clear hM
   intro h16 hM
   refine oE (cwp_region ?_)
   refine oS [(34, .pointer (some p15)), (35, .pointer (some p15)), (36, .pointer (some p15)), (37, .pointer (some (p15.add 9))), (38, .pointer (some (p15.add 18)))] rfl ?_
   obtain ⟨x17, hc18, hM⟩ := hM
   refine oL (.bool x17) (p15.add 18) hc18 ?_
   refine oS [(40, .bool x17)] rfl ?_
   refine oB (x17) 2 [39, 40] (fun b_ => [(41, iteV b_ (.bool a3 : Value) undef), (42, .bool (b_ && a3))]) rfl (fun hb20 hq21 => oS [(41, .bool a3), (42, .bool a3)] rfl (hq21)) (fun hb22 hq23 => oS [(41, undef), (42, .bool false)] rfl (hq23)) ?_
   refine oS [(43, .pointer (some p15)), (44, .pointer (some (p15.add 9))), (45, .pointer (some (p15.add 18)))] rfl ?_
   refine oT (p15.add 18) [.bool (x17 && a3)] hM ?_
   clear hM
   intro h24 hM
   refine owp_nil (blockE_n ?_)
   exact end_ (.tuple #[]) (by kernel_rfl) ⟨rfl, hM⟩
 replace hM := ifF hc14 hM
 refine cR ?_
 refine oS [(47, .bool (decide (a2 = 25))), (46, .bool (decide (a2 = 25)))] rfl ?_
 refine oE ?_
 refine cwp_condD (a2 = 25) (by kernel_rfl) (fun hc25 => ?_) (fun hc25 => ?_)
 · replace hM := ifT hc25 hM
   refine cwp_region ?_
   refine oS [(48, .pointer a1), (49, .bool a3), (50, .bool (!a3))] rfl ?_
   obtain ⟨p26, rfl, hM⟩ := hM
   refine owp_rdG (.pointer (some p26)) rfl (by kernel_rfl) (by kernel_rfl) ?_
   refine oS [(52, .pointer (some (p26.add 27)))] rfl ?_
   refine oT (p26.add 27) [.bool (!a3)] hM ?_
   clear hM
   intro h27 hM
   refine owp_nil (blockE_n ?_)
   exact end_ (.tuple #[]) (by kernel_rfl) ⟨rfl, hM⟩
 replace hM := ifF hc25 hM
 refine cwp_seq (cR ?_)
 refine oS [(54, .bool (decide (a2 = 47))), (53, .bool (decide (a2 = 47)))] rfl ?_
 refine oE ?_
 refine cwp_condD (a2 = 47) (by kernel_rfl) (fun hc28 => ?_) (fun hc28 => ?_)
 · replace hM := ifT hc28 hM
   refine cwp_skip (thenE_n ?_)
   refine cwp_of_part (fn := Tryd.f57) (p := [1, 0, 1, 1, 1, 1, 1, 1, 1, 1, 1, 1, 1]) (by kernel_rfl) (cwp_at 0 (.pointer a1) (by kernel_rfl) (cwp_at 2 (.bool a3) (by kernel_rfl) (cwp_at 6 (.int .i64 a2) (by kernel_rfl) (cwp_at 53 (.bool (decide (a2 = 47))) (by kernel_rfl) (vt_Screen_private_j0_ok _ ?_ a1 a3 a2 (decide (a2 = 47)) _ _ hM)))))
   · intro  b57 h56 hM
     refine blockE_n ?_
     exact end_ (.tuple #[]) (by kernel_rfl) ⟨rfl, hM⟩
 replace hM := ifF hc28 hM
 refine cwp_region ?_
 refine oS [(55, .bool (decide (a2 = 1047))), (53, .bool (decide (a2 = 1047)))] rfl ?_
 refine oE ?_
 refine cwp_of_part (fn := Tryd.f57) (p := [1, 0, 1, 1, 1, 1, 1, 1, 1, 1, 1, 1, 1]) (by kernel_rfl) (cwp_at 0 (.pointer a1) (by kernel_rfl) (cwp_at 2 (.bool a3) (by kernel_rfl) (cwp_at 6 (.int .i64 a2) (by kernel_rfl) (cwp_at 53 (.bool (decide (a2 = 1047))) (by kernel_rfl) (vt_Screen_private_j0_ok _ ?_ a1 a3 a2 (decide (a2 = 1047)) _ _ hM)))))
 · intro  b60 h59 hM
   refine blockE_n ?_
   exact end_ (.tuple #[]) (by kernel_rfl) ⟨rfl, hM⟩
/- (*mullion/vt.Screen).soft -/
def vt_Screen_soft (a1 : Option Addr) (K : Heap → Prop) (h : Heap) : Prop :=
 nz a1 fun p2 =>
 stN (p2.add 22) [.bool false] 0 h fun h3 =>
 stN (p2.add 14) [.bool false] 0 h3 fun h4 =>
 stN (p2.add 23) [.bool false] 0 h4 fun h5 =>
 stN (p2.add 25) [.bool false] 0 h5 fun h6 =>
 stN (p2.add 24) [.bool true] 0 h6 fun h7 =>
 stN (p2.add 27) [.bool false] 0 h7 fun h8 =>
 ldI h8 .i64 (p2.add 1) fun x9 =>
 stN (p2.add 19) [.int .i64 0] 0 h8 fun h12 =>
 stN (p2.add 20) [.int .i64 (IntKind.wrap .i64 (x9 - 1))] 0 h12 fun h13 =>
 stN (p2.add 11) [.int .i64 0, .int .i64 0, .int .i64 0] 0 h13 fun h14 =>
 stN (p2.add 15) [.bool false, .bool false] 0 h14 fun h15 =>
 stN (p2.add 17) [.bool false] 0 h15 fun h16 =>
 vt_Screen_shown (some p2) (fun x18 h17 =>
  nz x18 fun p19 =>
  stN (p19.add 1) [.pointer none] 0 h17 fun h20 =>
  stN (p2.add 18) [.bool false] 0 h20 fun h21 =>
   K h21) h16
theorem vt_Screen_soft_ok (a1 : Option Addr) (K : Heap → Prop) (h : Heap) (hM : vt_Screen_soft a1 K h) : CallsH Tryd.prog 58 #[.pointer a1] (fun v h' => v = .tuple #[] ∧ K h') h := by
 unfold vt_Screen_soft at hM
 refine callsH_intro (n := 54) Tryd.func58 rfl rfl (by kernel_rfl) ?_
 refine cR ?_
 refine oS [(2, .pointer a1), (3, .pointer a1), (4, .pointer a1), (5, .pointer a1), (6, .pointer a1), (7, .pointer a1)] rfl ?_
 obtain ⟨p2, rfl, hM⟩ := hM
 refine owp_rdG (.pointer (some p2)) rfl (by kernel_rfl) (by kernel_rfl) ?_
 refine oS [(9, .pointer (some (p2.add 22)))] rfl ?_
 refine oT (p2.add 22) [.bool false] hM ?_
 clear hM
 intro h3 hM
 refine oS [(10, .pointer (some p2)), (11, .pointer (some (p2.add 9))), (12, .pointer (some (p2.add 14)))] rfl ?_
 refine oT (p2.add 14) [.bool false] hM ?_
 clear hM
 intro h4 hM
 refine oS [(13, .pointer (some p2)), (14, .pointer (some (p2.add 23)))] rfl ?_
 refine oT (p2.add 23) [.bool false] hM ?_
 clear hM
 intro h5 hM
 refine oS [(15, .pointer (some p2)), (16, .pointer (some (p2.add 25)))] rfl ?_
 refine oT (p2.add 25) [.bool false] hM ?_
 clear hM
 intro h6 hM
 refine oS [(17, .pointer (some p2)), (18, .pointer (some (p2.add 24)))] rfl ?_
 refine oT (p2.add 24) [.bool true] hM ?_
 clear hM
 intro h7 hM
 refine oS [(19, .pointer (some p2)), (20, .pointer (some (p2.add 27)))] rfl ?_
 refine oT (p2.add 27) [.bool false] hM ?_
 clear hM
 intro h8 hM
 refine oE (cR ?_)
 refine oS [(21, .pointer (some p2)), (22, .pointer (some p2)), (23, .pointer (some p2)), (24, .pointer (some p2)), (25, .pointer (some (p2.add 1)))] rfl ?_
 obtain ⟨x9, hc10, hM⟩ := hM
 refine oL (.int .i64 x9) (p2.add 1) hc10 ?_
 refine oS [(27, .int .i64 (IntKind.wrap .i64 (x9 - 1))), (28, .pointer (some p2)), (29, .pointer (some (p2.add 19)))] rfl ?_
 refine oT (p2.add 19) [.int .i64 0] hM ?_
 clear hM
 intro h12 hM
 refine oS [(30, .pointer (some p2)), (31, .pointer (some (p2.add 20)))] rfl ?_
 refine oT (p2.add 20) [.int .i64 (IntKind.wrap .i64 (x9 - 1))] hM ?_
 clear hM
 intro h13 hM
 refine oE (cR ?_)
 refine oS [(32, .pointer (some p2)), (33, .agg #[.int .i64 0, .int .i64 0, .int .i64 0]), (34, .pointer (some p2)), (35, .pointer (some (p2.add 9))), (36, .pointer (some (p2.add 11)))] rfl ?_
 refine oT (p2.add 11) [.int .i64 0, .int .i64 0, .int .i64 0] hM ?_
 clear hM
 intro h14 hM
 refine oE (cR ?_)
 refine oS [(37, .pointer (some p2)), (38, .pointer (some p2)), (39, .agg #[.bool false, .bool false]), (40, .pointer (some p2)), (41, .pointer (some (p2.add 9))), (42, .pointer (some (p2.add 15)))] rfl ?_
 refine oT (p2.add 15) [.bool false, .bool false] hM ?_
 clear hM
 intro h15 hM
 refine oS [(43, .pointer (some p2)), (44, .pointer (some (p2.add 9))), (45, .pointer (some (p2.add 17)))] rfl ?_
 refine oT (p2.add 17) [.bool false] hM ?_
 clear hM
 intro h16 hM
 refine oE (cR ?_)
 refine oS [(46, .pointer (some p2))] rfl ?_
 refine oG (hpCallE 22 #[.pointer (some p2)] (by kernel_rfl) (vt_Screen_shown_ok (some p2) _ h16 hM) ?_)
 clear hM
 rintro _ h17 ⟨x18, rfl, hM⟩
 obtain ⟨p19, rfl, hM⟩ := hM
 refine owp_rdG (.pointer (some p19)) rfl (by kernel_rfl) (by kernel_rfl) ?_
 refine oS [(49, .pointer (some (p19.add 1)))] rfl ?_
 refine oT (p19.add 1) [.pointer none] hM ?_
 clear hM
 intro h20 hM
 refine oE (cwp_region ?_)
 refine oS [(50, .pointer (some p2)), (51, .pointer (some p2)), (52, .pointer (some (p2.add 9))), (53, .pointer (some (p2.add 18)))] rfl ?_
 refine oT (p2.add 18) [.bool false] hM ?_
 clear hM
 intro h21 hM
 refine owp_nil ?_
 exact end_ (.tuple #[]) (by kernel_rfl) ⟨rfl, hM⟩
/- mullion/vt.at -/
def vt_at (a1 : Option Addr) (a1n : Nat) (a1c : Nat) (a2 : Int) (a3 : Int) (K : Int → Heap → Prop) (h : Heap) : Prop :=
 if a2 < (a1n : Int) then
  nz a1 fun p10 =>
  0 ≤ a2 ∧
  a2 < (a1n : Int) ∧
  ldI h .i64 (p10.add ((a2).toNat * 1)) fun x11 =>
  if 0 ≤ x11 then
   0 ≤ a2 ∧
   a2 < (a1n : Int) ∧
   ldI h .i64 (p10.add ((a2).toNat * 1)) fun x17 =>
   K x17 h
  else
  K a3 h
 else
 K a3 h
theorem vt_at_ok (a1 : Option Addr) (a1n : Nat) (a1c : Nat) (a2 : Int) (a3 : Int) (K : Int → Heap → Prop) (h : Heap) (hM : vt_at a1 a1n a1c a2 a3 K h) : CallsH Tryd.prog 66 #[.slice a1 a1n a1c, .int .i64 a2, .int .i64 a3] (fun v h' => ∃ (r20 : Int), v = .int .i64 r20 ∧ K r20 h') h := by
 unfold vt_at at hM
 refine callsH_intro (n := 23) Tryd.func66 rfl rfl (by kernel_rfl) ?_
 refine cR ?_
 refine oS [(6, .int .i64 0)] rfl ?_
 refine oE (cwp_seq (cR ?_))
 refine oS [(7, .int .i64 a2), (8, .slice a1 a1n a1c), (9, .int .i64 (a1n : Int)), (10, .bool (decide (a2 < (a1n : Int)))), (11, .bool (decide (a2 < (a1n : Int))))] rfl ?_
 by_cases hc7 : a2 < (a1n : Int)
 · refine oA 10 true (decide (a2 < (a1n : Int))) (by rw [decide_eq_true hc7]) ?_
   refine oA 11 true (decide (a2 < (a1n : Int))) (by rw [decide_eq_true hc7]) ?_
   replace hM := ifT hc7 hM
   refine oS [(12, .slice a1 a1n a1c), (13, .int .i64 a2)] rfl ?_
   obtain ⟨p10, rfl, hM⟩ := hM
   obtain ⟨hc8, hM⟩ := hM
   obtain ⟨hc9, hM⟩ := hM
   refine owp_rdG (.pointer (some (p10.add ((a2).toNat * 1)))) rfl (by kernel_rfl) (rd_ixS (P := Tryd.prog) (h := h) (t := 95) (el := 3) (sz := 1) (ad := p10) (len := a1n) (c := a1c) (k := .i64) (i := a2) (by kernel_rfl) (by kernel_rfl) hc8 hc9 (by kernel_rfl)) ?_
   obtain ⟨x11, hc12, hM⟩ := hM
   refine oL (.int .i64 x11) (p10.add ((a2).toNat * 1)) hc12 ?_
   refine oS [(16, .bool (decide (0 ≤ x11))), (17, .bool (decide (0 ≤ x11)))] rfl ?_
   refine oE ?_
   refine cwp_condD (0 ≤ x11) (by kernel_rfl) (fun hc14 => ?_) (fun hc14 => ?_)
   · replace hM := ifT hc14 hM
     refine cR ?_
     refine oS [(18, .slice (some p10) a1n a1c), (19, .int .i64 a2)] rfl ?_
     obtain ⟨hc15, hM⟩ := hM
     obtain ⟨hc16, hM⟩ := hM
     refine owp_rdG (.pointer (some (p10.add ((a2).toNat * 1)))) rfl (by kernel_rfl) (rd_ixS (P := Tryd.prog) (h := h) (t := 95) (el := 3) (sz := 1) (ad := p10) (len := a1n) (c := a1c) (k := .i64) (i := a2) (by kernel_rfl) (by kernel_rfl) hc15 hc16 (by kernel_rfl)) ?_
     obtain ⟨x17, hc18, hM⟩ := hM
     refine oL (.int .i64 x17) (p10.add ((a2).toNat * 1)) hc18 ?_
     refine oS [(6, .int .i64 x17)] rfl ?_
     refine oE (cwp_ret (thenE_r ?_))
     exact ret_ (.int .i64 x17) (by kernel_rfl) ⟨_, rfl, hM⟩
   replace hM := ifF hc14 hM
   refine cwp_skip (thenE_n (cR ?_))
   refine oS [(22, .int .i64 a3), (6, .int .i64 a3)] rfl ?_
   refine oE (cwp_ret ?_)
   exact ret_ (.int .i64 a3) (by kernel_rfl) ⟨_, rfl, hM⟩
 refine oA 10 false (decide (a2 < (a1n : Int))) (by rw [decide_eq_false hc7]) ?_
 refine oA 11 false (decide (a2 < (a1n : Int))) (by rw [decide_eq_false hc7]) ?_
 replace hM := ifF hc7 hM
 refine oS [(12, undef), (13, undef), (14, undef), (15, undef), (16, undef), (17, .bool false)] rfl ?_
 refine oE ?_
 refine cwp_cond (t := false) (by kernel_rfl) (fun hx_ => ?_) (fun hx_ => ?_)
 all_goals first | (cases hx_; done) | skip
 refine cwp_skip (thenE_n (cR ?_))
 refine oS [(22, .int .i64 a3), (6, .int .i64 a3)] rfl ?_
 refine oE (cwp_ret ?_)
 exact ret_ (.int .i64 a3) (by kernel_rfl) ⟨_, rfl, hM⟩
/- (*mullion/vt.Screen).rowsUp -/
def vt_Screen_rowsUp_j0 (Kn : Heap → Prop) (y16 : Addr) (y17 : Int) (y18 : Int) (h : Heap) : Prop :=
 ldI h .i64 (y16.add 9) fun x19 =>
 ldI h .i64 (y16.add 10) fun x23 =>
 vt_Screen_to (some y16) x19 (imax y18 (IntKind.wrap .i64 (x23 - y17))) (fun  h27 =>
   Kn  h27) h
theorem vt_Screen_rowsUp_j0_ok {Q : Exit → Env → Heap → Prop} (Kn : Heap → Prop) (hKn : ∀  (b : Env) (h : Heap), Kn  h → Q .normal b h) (y16 : Addr) (y17 : Int) (y18 : Int) (b : Env) (h : Heap) (hM : vt_Screen_rowsUp_j0 Kn y16 y17 y18 h) : cwp Tryd.prog (partC Tryd.f67 [1, 1]) 35 Q (upd (upd (upd b 0 (.pointer (some y16))) 1 (.int .i64 y17)) 4 (.int .i64 y18)) h := by
  unfold vt_Screen_rowsUp_j0 at hM
  refine cwp_part rfl ?_
  refine cwp_draw (by kernel_rfl) ?_
  refine kp 0 [15] (.pointer (some y16)) ?_
  refine kp 1 [2, 3, 4, 5, 15] (.pointer (some y16)) ?_
  refine kp 2 [3, 4, 5, 15] (.pointer (some y16)) ?_
  refine kp 3 [4, 5, 15] (.pointer (some (y16.add 9))) ?_
  refine kp 4 [5, 15] (.pointer (some (y16.add 9))) ?_
  obtain ⟨x19, hc20, hM⟩ := hM
  refine kl 5 (.int .i64 x19) (y16.add 9) [15] [15] hc20 ?_
  refine kp 6 [14, 15] (.int .i64 y18) ?_
  refine kp 7 [8, 9, 10, 11, 13, 14, 15] (.pointer (some y16)) ?_
  refine kp 8 [9, 10, 11, 13, 14, 15] (.pointer (some y16)) ?_
  refine kp 9 [10, 11, 13, 14, 15] (.pointer (some (y16.add 9))) ?_
  refine kp 10 [11, 13, 14, 15] (.pointer (some (y16.add 10))) ?_
  obtain ⟨x23, hc24, hM⟩ := hM
  refine kl 11 (.int .i64 x23) (y16.add 10) [13, 14, 15] [15] hc24 ?_
  refine kp 12 [13, 14, 15] (.int .i64 y17) ?_
  refine kp 13 [14, 15] (.int .i64 (IntKind.wrap .i64 (x23 - y17))) ?_
  refine kp 14 [15] (.int .i64 (imax y18 (IntKind.wrap .i64 (x23 - y17)))) ?_
  refine k_eff (j := 15) (by kernel_rfl) rfl rfl (by kernel_rfl) (hpCallE 51 #[.pointer (some y16), .int .i64 x19, .int .i64 (imax y18 (IntKind.wrap .i64 (x23 - y17)))] (by kernel_rfl) (vt_Screen_to_ok (some y16) x19 (imax y18 (IntKind.wrap .i64 (x23 - y17))) _ h hM) ?_)
  clear hM
  rintro _ h27 ⟨rfl, hM⟩
  refine ⟨trivial, ?_⟩
  refine k_done (by kernel_rfl) ?_
  exact hKn  _ _ hM
def vt_Screen_rowsUp (a1 : Option Addr) (a2 : Int) (K : Heap → Prop) (h : Heap) : Prop :=
 nz a1 fun p3 =>
 ldI h .i64 (p3.add 10) fun x4 =>
 ldI h .i64 (p3.add 19) fun x8 =>
 if x8 ≤ x4 then
  ldI h .i64 (p3.add 19) fun x13 =>
  vt_Screen_rowsUp_j0
   (fun  h28 =>
       K h28) p3 a2 x13 h
 else
 vt_Screen_rowsUp_j0
  (fun  h31 =>
      K h31) p3 a2 0 h
theorem vt_Screen_rowsUp_ok (a1 : Option Addr) (a2 : Int) (K : Heap → Prop) (h : Heap) (hM : vt_Screen_rowsUp a1 a2 K h) : CallsH Tryd.prog 67 #[.pointer a1, .int .i64 a2] (fun v h' => v = .tuple #[] ∧ K h') h := by
 unfold vt_Screen_rowsUp at hM
 refine callsH_intro (n := 35) Tryd.func67 rfl rfl (by kernel_rfl) ?_
 refine cR ?_
 refine oS [(4, .int .i64 0)] rfl ?_
 refine oE (cwp_seq (cwp_seq ?_))
 refine cwp_draw (by kernel_rfl) ?_
 refine kp 0 [1, 2, 3, 4, 9] (.pointer a1) ?_
 obtain ⟨p3, rfl, hM⟩ := hM
 refine kp 1 [2, 3, 4, 9] (.pointer (some p3)) ?_
 refine kp 2 [3, 4, 9] (.pointer (some (p3.add 9))) ?_
 refine kp 3 [4, 9] (.pointer (some (p3.add 10))) ?_
 obtain ⟨x4, hc5, hM⟩ := hM
 refine kl 4 (.int .i64 x4) (p3.add 10) [9] [] hc5 ?_
 refine kp 5 [6, 7, 8, 9] (.pointer (some p3)) ?_
 refine kp 6 [7, 8, 9] (.pointer (some p3)) ?_
 refine kp 7 [8, 9] (.pointer (some (p3.add 19))) ?_
 obtain ⟨x8, hc9, hM⟩ := hM
 refine kl 8 (.int .i64 x8) (p3.add 19) [9] [] hc9 ?_
 refine kp 9 [] (.bool (decide (x8 ≤ x4))) ?_
 refine k_done (by kernel_rfl) ?_
 refine thenE_n ?_
 refine cwp_condD (x8 ≤ x4) (by kernel_rfl) (fun hc12 => ?_) (fun hc12 => ?_)
 · replace hM := ifT hc12 hM
   refine cwp_region ?_
   refine oS [(15, .pointer (some p3)), (16, .pointer (some p3)), (17, .pointer (some (p3.add 19)))] rfl ?_
   obtain ⟨x13, hc14, hM⟩ := hM
   refine oL (.int .i64 x13) (p3.add 19) hc14 ?_
   refine oS [(4, .int .i64 x13)] rfl ?_
   refine oE ?_
   refine cwp_of_part (fn := Tryd.f67) (p := [1, 1]) (by kernel_rfl) (cwp_at 0 (.pointer (some p3)) (by kernel_rfl) (cwp_at 1 (.int .i64 a2) (by kernel_rfl) (cwp_at 4 (.int .i64 x13) (by kernel_rfl) (vt_Screen_rowsUp_j0_ok _ ?_ p3 a2 x13 _ _ hM))))
   · intro  b29 h28 hM
     exact end_ (.tuple #[]) (by kernel_rfl) ⟨rfl, hM⟩
 replace hM := ifF hc12 hM
 refine cwp_skip (thenE_n ?_)
 refine cwp_of_part (fn := Tryd.f67) (p := [1, 1]) (by kernel_rfl) (cwp_at 0 (.pointer (some p3)) (by kernel_rfl) (cwp_at 1 (.int .i64 a2) (by kernel_rfl) (cwp_at 4 (.int .i64 0) (by kernel_rfl) (vt_Screen_rowsUp_j0_ok _ ?_ p3 a2 0 _ _ hM))))
 · intro  b32 h31 hM
   exact end_ (.tuple #[]) (by kernel_rfl) ⟨rfl, hM⟩
end Go.Proofs.YthjdnhhifjpidaaDoor.M
