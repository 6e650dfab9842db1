/-
  PRINTED BY A PROGRAM OF THIS CLAIM'S (gen.py): for each Go function a Lean function over memory, and the proof that the code comes to what it says.
-/
import Derived.Test.YthjdnhhifjpidaaDoorF3
import Derived.Test.YthjdnhhifjpidaaDoorProg
set_option linter.unusedVariables false
set_option linter.unusedSimpArgs false
set_option maxRecDepth 100000
set_option maxHeartbeats 1000000
namespace Go.Proofs.YthjdnhhifjpidaaDoor.M
open Go Go.Hp
abbrev lit2 : ByteArray := ⟨#[0, 1, 2, 2, 3, 3, 3, 3, 4, 4, 4, 4, 4, 4, 4, 4, 5, 5, 5, 5, 5, 5, 5, 5, 5, 5, 5, 5, 5, 5, 5, 5, 6, 6, 6, 6, 6, 6, 6, 6, 6, 6, 6, 6, 6, 6, 6, 6, 6, 6, 6, 6, 6, 6, 6, 6, 6, 6, 6, 6, 6, 6, 6, 6, 7, 7, 7, 7, 7, 7, 7, 7, 7, 7, 7, 7, 7, 7, 7, 7, 7, 7, 7, 7, 7, 7, 7, 7, 7, 7, 7, 7, 7, 7, 7, 7, 7, 7, 7, 7, 7, 7, 7, 7, 7, 7, 7, 7, 7, 7, 7, 7, 7, 7, 7, 7, 7, 7, 7, 7, 7, 7, 7, 7, 7, 7, 7, 7, 8, 8, 8, 8, 8, 8, 8, 8, 8, 8, 8, 8, 8, 8, 8, 8, 8, 8, 8, 8, 8, 8, 8, 8, 8, 8, 8, 8, 8, 8, 8, 8, 8, 8, 8, 8, 8, 8, 8, 8, 8, 8, 8, 8, 8, 8, 8, 8, 8, 8, 8, 8, 8, 8, 8, 8, 8, 8, 8, 8, 8, 8, 8, 8, 8, 8, 8, 8, 8, 8, 8, 8, 8, 8, 8, 8, 8, 8, 8, 8, 8, 8, 8, 8, 8, 8, 8, 8, 8, 8, 8, 8, 8, 8, 8, 8, 8, 8, 8, 8, 8, 8, 8, 8, 8, 8, 8, 8, 8, 8, 8, 8, 8, 8, 8, 8, 8, 8, 8, 8, 8, 8, 8, 8, 8, 8, 8, 8]⟩
/- math/bits.Len64 -/
def math_bits_Len64 (a1 : Int) : Option (Int) :=
 if 4294967296 ≤ a1 then
  if 65536 ≤ (Int.fdiv a1 (2 ^ 32)) then
   if 256 ≤ (Int.fdiv (Int.fdiv a1 (2 ^ 32)) (2 ^ 16)) then
    if 0 ≤ (IntKind.wrap .u8 (Int.fdiv (Int.fdiv (Int.fdiv a1 (2 ^ 32)) (2 ^ 16)) (2 ^ 8))) then
     if (IntKind.wrap .u8 (Int.fdiv (Int.fdiv (Int.fdiv a1 (2 ^ 32)) (2 ^ 16)) (2 ^ 8))) < (lit2.size : Int) then
      some (IntKind.wrap .i64 ((IntKind.wrap .i64 ((IntKind.wrap .i64 (32 + 16)) + 8)) + (IntKind.wrap .i64 (byteAt lit2 (IntKind.wrap .u8 (Int.fdiv (Int.fdiv (Int.fdiv a1 (2 ^ 32)) (2 ^ 16)) (2 ^ 8)))))))
     else none
    else none
   else
   if 0 ≤ (IntKind.wrap .u8 (Int.fdiv (Int.fdiv a1 (2 ^ 32)) (2 ^ 16))) then
    if (IntKind.wrap .u8 (Int.fdiv (Int.fdiv a1 (2 ^ 32)) (2 ^ 16))) < (lit2.size : Int) then
     some (IntKind.wrap .i64 ((IntKind.wrap .i64 (32 + 16)) + (IntKind.wrap .i64 (byteAt lit2 (IntKind.wrap .u8 (Int.fdiv (Int.fdiv a1 (2 ^ 32)) (2 ^ 16)))))))
    else none
   else none
  else
  if 256 ≤ (Int.fdiv a1 (2 ^ 32)) then
   if 0 ≤ (IntKind.wrap .u8 (Int.fdiv (Int.fdiv a1 (2 ^ 32)) (2 ^ 8))) then
    if (IntKind.wrap .u8 (Int.fdiv (Int.fdiv a1 (2 ^ 32)) (2 ^ 8))) < (lit2.size : Int) then
     some (IntKind.wrap .i64 ((IntKind.wrap .i64 (32 + 8)) + (IntKind.wrap .i64 (byteAt lit2 (IntKind.wrap .u8 (Int.fdiv (Int.fdiv a1 (2 ^ 32)) (2 ^ 8)))))))
    else none
   else none
  else
  if 0 ≤ (IntKind.wrap .u8 (Int.fdiv a1 (2 ^ 32))) then
   if (IntKind.wrap .u8 (Int.fdiv a1 (2 ^ 32))) < (lit2.size : Int) then
    some (IntKind.wrap .i64 (32 + (IntKind.wrap .i64 (byteAt lit2 (IntKind.wrap .u8 (Int.fdiv a1 (2 ^ 32)))))))
   else none
  else none
 else
 if 65536 ≤ a1 then
  if 256 ≤ (Int.fdiv a1 (2 ^ 16)) then
   if 0 ≤ (IntKind.wrap .u8 (Int.fdiv (Int.fdiv a1 (2 ^ 16)) (2 ^ 8))) then
    if (IntKind.wrap .u8 (Int.fdiv (Int.fdiv a1 (2 ^ 16)) (2 ^ 8))) < (lit2.size : Int) then
     some (IntKind.wrap .i64 ((IntKind.wrap .i64 ((IntKind.wrap .i64 (0 + 16)) + 8)) + (IntKind.wrap .i64 (byteAt lit2 (IntKind.wrap .u8 (Int.fdiv (Int.fdiv a1 (2 ^ 16)) (2 ^ 8)))))))
    else none
   else none
  else
  if 0 ≤ (IntKind.wrap .u8 (Int.fdiv a1 (2 ^ 16))) then
   if (IntKind.wrap .u8 (Int.fdiv a1 (2 ^ 16))) < (lit2.size : Int) then
    some (IntKind.wrap .i64 ((IntKind.wrap .i64 (0 + 16)) + (IntKind.wrap .i64 (byteAt lit2 (IntKind.wrap .u8 (Int.fdiv a1 (2 ^ 16)))))))
   else none
  else none
 else
 if 256 ≤ a1 then
  if 0 ≤ (IntKind.wrap .u8 (Int.fdiv a1 (2 ^ 8))) then
   if (IntKind.wrap .u8 (Int.fdiv a1 (2 ^ 8))) < (lit2.size : Int) then
    some (IntKind.wrap .i64 ((IntKind.wrap .i64 (0 + 8)) + (IntKind.wrap .i64 (byteAt lit2 (IntKind.wrap .u8 (Int.fdiv a1 (2 ^ 8)))))))
   else none
  else none
 else
 if 0 ≤ (IntKind.wrap .u8 (a1)) then
  if (IntKind.wrap .u8 (a1)) < (lit2.size : Int) then
   some (IntKind.wrap .i64 (0 + (IntKind.wrap .i64 (byteAt lit2 (IntKind.wrap .u8 (a1))))))
  else none
 else none
theorem math_bits_Len64_ok (a1 : Int) (r : Int) (h : Heap) (hM : math_bits_Len64 a1 = some r) : CallsH Tryd.prog 88 #[.int .u64 a1] (fun v h' => v = .int .i64 r ∧ Ext h h') h := by
 unfold math_bits_Len64 at hM
 refine callsH_intro (n := 25) Tryd.func88 rfl rfl (by kernel_rfl) ?_
 refine cR ?_
 refine oS [(2, .int .i64 0)] rfl ?_
 refine oE (cwp_seq (cR ?_))
 refine oS [(3, .int .u64 a1), (4, .bool (decide (4294967296 ≤ a1)))] rfl ?_
 refine oE ?_
 refine cwp_condD (4294967296 ≤ a1) (by kernel_rfl) (fun hc2 => ?_) (fun hc2 => ?_)
 · replace hM := ifTo hc2 hM
   refine cR ?_
   refine oS [(5, .int .u64 a1), (6, .int .u64 (Int.fdiv a1 (2 ^ 32))), (0, .int .u64 (Int.fdiv a1 (2 ^ 32)))] rfl ?_
   refine oE (cwp_region ?_)
   refine oS [(2, .int .i64 32)] rfl ?_
   refine oE (cwp_seq (cR ?_))
   refine oS [(7, .int .u64 (Int.fdiv a1 (2 ^ 32))), (8, .bool (decide (65536 ≤ (Int.fdiv a1 (2 ^ 32)))))] rfl ?_
   refine oE ?_
   refine cwp_condD (65536 ≤ (Int.fdiv a1 (2 ^ 32))) (by kernel_rfl) (fun hc3 => ?_) (fun hc3 => ?_)
   · replace hM := ifTo hc3 hM
     refine cR ?_
     refine oS [(9, .int .u64 (Int.fdiv a1 (2 ^ 32))), (10, .int .u64 (Int.fdiv (Int.fdiv a1 (2 ^ 32)) (2 ^ 16))), (0, .int .u64 (Int.fdiv (Int.fdiv a1 (2 ^ 32)) (2 ^ 16)))] rfl ?_
     refine oE (cwp_region ?_)
     refine oS [(11, .int .i64 32), (12, .int .i64 (IntKind.wrap .i64 (32 + 16))), (2, .int .i64 (IntKind.wrap .i64 (32 + 16)))] rfl ?_
     refine oE (cwp_seq (cR ?_))
     refine oS [(13, .int .u64 (Int.fdiv (Int.fdiv a1 (2 ^ 32)) (2 ^ 16))), (14, .bool (decide (256 ≤ (Int.fdiv (Int.fdiv a1 (2 ^ 32)) (2 ^ 16)))))] rfl ?_
     refine oE ?_
     refine cwp_condD (256 ≤ (Int.fdiv (Int.fdiv a1 (2 ^ 32)) (2 ^ 16))) (by kernel_rfl) (fun hc4 => ?_) (fun hc4 => ?_)
     · replace hM := ifTo hc4 hM
       refine cR ?_
       refine oS [(15, .int .u64 (Int.fdiv (Int.fdiv a1 (2 ^ 32)) (2 ^ 16))), (16, .int .u64 (Int.fdiv (Int.fdiv (Int.fdiv a1 (2 ^ 32)) (2 ^ 16)) (2 ^ 8))), (0, .int .u64 (Int.fdiv (Int.fdiv (Int.fdiv a1 (2 ^ 32)) (2 ^ 16)) (2 ^ 8)))] rfl ?_
       refine oE (cwp_region ?_)
       refine oS [(17, .int .i64 (IntKind.wrap .i64 (32 + 16))), (18, .int .i64 (IntKind.wrap .i64 ((IntKind.wrap .i64 (32 + 16)) + 8))), (2, .int .i64 (IntKind.wrap .i64 ((IntKind.wrap .i64 (32 + 16)) + 8)))] rfl ?_
       refine oE (cR ?_)
       refine oS [(19, .int .i64 (IntKind.wrap .i64 ((IntKind.wrap .i64 (32 + 16)) + 8))), (20, .int .u64 (Int.fdiv (Int.fdiv (Int.fdiv a1 (2 ^ 32)) (2 ^ 16)) (2 ^ 8))), (21, .int .u8 (IntKind.wrap .u8 (Int.fdiv (Int.fdiv (Int.fdiv a1 (2 ^ 32)) (2 ^ 16)) (2 ^ 8))))] rfl ?_
       have hc5 : 0 ≤ (IntKind.wrap .u8 (Int.fdiv (Int.fdiv (Int.fdiv a1 (2 ^ 32)) (2 ^ 16)) (2 ^ 8))) := ofIteO hM
       replace hM := ifTo hc5 hM
       have hc6 : (IntKind.wrap .u8 (Int.fdiv (Int.fdiv (Int.fdiv a1 (2 ^ 32)) (2 ^ 16)) (2 ^ 8))) < (lit2.size : Int) := ofIteO hM
       replace hM := ifTo hc6 hM
       refine owp_rdG (.int .u8 (byteAt lit2 (IntKind.wrap .u8 (Int.fdiv (Int.fdiv (Int.fdiv a1 (2 ^ 32)) (2 ^ 16)) (2 ^ 8))))) rfl (by kernel_rfl) (rd_ixStr (P := Tryd.prog) (h := h) (t := 9) (s := lit2) (k := .u8) (i := (IntKind.wrap .u8 (Int.fdiv (Int.fdiv (Int.fdiv a1 (2 ^ 32)) (2 ^ 16)) (2 ^ 8)))) (by kernel_rfl) hc5 hc6 (by kernel_rfl)) ?_
       refine oS [(23, .int .i64 (IntKind.wrap .i64 (byteAt lit2 (IntKind.wrap .u8 (Int.fdiv (Int.fdiv (Int.fdiv a1 (2 ^ 32)) (2 ^ 16)) (2 ^ 8)))))), (24, .int .i64 (IntKind.wrap .i64 ((IntKind.wrap .i64 ((IntKind.wrap .i64 (32 + 16)) + 8)) + (IntKind.wrap .i64 (byteAt lit2 (IntKind.wrap .u8 (Int.fdiv (Int.fdiv (Int.fdiv a1 (2 ^ 32)) (2 ^ 16)) (2 ^ 8)))))))), (2, .int .i64 (IntKind.wrap .i64 ((IntKind.wrap .i64 ((IntKind.wrap .i64 (32 + 16)) + 8)) + (IntKind.wrap .i64 (byteAt lit2 (IntKind.wrap .u8 (Int.fdiv (Int.fdiv (Int.fdiv a1 (2 ^ 32)) (2 ^ 16)) (2 ^ 8))))))))] rfl ?_
       refine oE (cwp_ret ?_)
       obtain rfl := Option.some.inj hM
       exact ret_ (.int .i64 (IntKind.wrap .i64 ((IntKind.wrap .i64 ((IntKind.wrap .i64 (32 + 16)) + 8)) + (IntKind.wrap .i64 (byteAt lit2 (IntKind.wrap .u8 (Int.fdiv (Int.fdiv (Int.fdiv a1 (2 ^ 32)) (2 ^ 16)) (2 ^ 8)))))))) (by kernel_rfl) ⟨rfl, Ext.refl _⟩
     replace hM := ifFo hc4 hM
     refine cwp_skip (thenE_n (cR ?_))
     refine oS [(19, .int .i64 (IntKind.wrap .i64 (32 + 16))), (20, .int .u64 (Int.fdiv (Int.fdiv a1 (2 ^ 32)) (2 ^ 16))), (21, .int .u8 (IntKind.wrap .u8 (Int.fdiv (Int.fdiv a1 (2 ^ 32)) (2 ^ 16))))] rfl ?_
     have hc7 : 0 ≤ (IntKind.wrap .u8 (Int.fdiv (Int.fdiv a1 (2 ^ 32)) (2 ^ 16))) := ofIteO hM
     replace hM := ifTo hc7 hM
     have hc8 : (IntKind.wrap .u8 (Int.fdiv (Int.fdiv a1 (2 ^ 32)) (2 ^ 16))) < (lit2.size : Int) := ofIteO hM
     replace hM := ifTo hc8 hM
     refine owp_rdG (.int .u8 (byteAt lit2 (IntKind.wrap .u8 (Int.fdiv (Int.fdiv a1 (2 ^ 32)) (2 ^ 16))))) rfl (by kernel_rfl) (rd_ixStr (P := Tryd.prog) (h := h) (t := 9) (s := lit2) (k := .u8) (i := (IntKind.wrap .u8 (Int.fdiv (Int.fdiv a1 (2 ^ 32)) (2 ^ 16)))) (by kernel_rfl) hc7 hc8 (by kernel_rfl)) ?_
     refine oS [(23, .int .i64 (IntKind.wrap .i64 (byteAt lit2 (IntKind.wrap .u8 (Int.fdiv (Int.fdiv a1 (2 ^ 32)) (2 ^ 16)))))), (24, .int .i64 (IntKind.wrap .i64 ((IntKind.wrap .i64 (32 + 16)) + (IntKind.wrap .i64 (byteAt lit2 (IntKind.wrap .u8 (Int.fdiv (Int.fdiv a1 (2 ^ 32)) (2 ^ 16)))))))), (2, .int .i64 (IntKind.wrap .i64 ((IntKind.wrap .i64 (32 + 16)) + (IntKind.wrap .i64 (byteAt lit2 (IntKind.wrap .u8 (Int.fdiv (Int.fdiv a1 (2 ^ 32)) (2 ^ 16))))))))] rfl ?_
     refine oE (cwp_ret ?_)
     obtain rfl := Option.some.inj hM
     exact ret_ (.int .i64 (IntKind.wrap .i64 ((IntKind.wrap .i64 (32 + 16)) + (IntKind.wrap .i64 (byteAt lit2 (IntKind.wrap .u8 (Int.fdiv (Int.fdiv a1 (2 ^ 32)) (2 ^ 16)))))))) (by kernel_rfl) ⟨rfl, Ext.refl _⟩
   replace hM := ifFo hc3 hM
   refine cwp_skip (thenE_n (cwp_seq (cR ?_)))
   refine oS [(13, .int .u64 (Int.fdiv a1 (2 ^ 32))), (14, .bool (decide (256 ≤ (Int.fdiv a1 (2 ^ 32)))))] rfl ?_
   refine oE ?_
   refine cwp_condD (256 ≤ (Int.fdiv a1 (2 ^ 32))) (by kernel_rfl) (fun hc9 => ?_) (fun hc9 => ?_)
   · replace hM := ifTo hc9 hM
     refine cR ?_
     refine oS [(15, .int .u64 (Int.fdiv a1 (2 ^ 32))), (16, .int .u64 (Int.fdiv (Int.fdiv a1 (2 ^ 32)) (2 ^ 8))), (0, .int .u64 (Int.fdiv (Int.fdiv a1 (2 ^ 32)) (2 ^ 8)))] rfl ?_
     refine oE (cwp_region ?_)
     refine oS [(17, .int .i64 32), (18, .int .i64 (IntKind.wrap .i64 (32 + 8))), (2, .int .i64 (IntKind.wrap .i64 (32 + 8)))] rfl ?_
     refine oE (cR ?_)
     refine oS [(19, .int .i64 (IntKind.wrap .i64 (32 + 8))), (20, .int .u64 (Int.fdiv (Int.fdiv a1 (2 ^ 32)) (2 ^ 8))), (21, .int .u8 (IntKind.wrap .u8 (Int.fdiv (Int.fdiv a1 (2 ^ 32)) (2 ^ 8))))] rfl ?_
     have hc10 : 0 ≤ (IntKind.wrap .u8 (Int.fdiv (Int.fdiv a1 (2 ^ 32)) (2 ^ 8))) := ofIteO hM
     replace hM := ifTo hc10 hM
     have hc11 : (IntKind.wrap .u8 (Int.fdiv (Int.fdiv a1 (2 ^ 32)) (2 ^ 8))) < (lit2.size : Int) := ofIteO hM
     replace hM := ifTo hc11 hM
     refine owp_rdG (.int .u8 (byteAt lit2 (IntKind.wrap .u8 (Int.fdiv (Int.fdiv a1 (2 ^ 32)) (2 ^ 8))))) rfl (by kernel_rfl) (rd_ixStr (P := Tryd.prog) (h := h) (t := 9) (s := lit2) (k := .u8) (i := (IntKind.wrap .u8 (Int.fdiv (Int.fdiv a1 (2 ^ 32)) (2 ^ 8)))) (by kernel_rfl) hc10 hc11 (by kernel_rfl)) ?_
     refine oS [(23, .int .i64 (IntKind.wrap .i64 (byteAt lit2 (IntKind.wrap .u8 (Int.fdiv (Int.fdiv a1 (2 ^ 32)) (2 ^ 8)))))), (24, .int .i64 (IntKind.wrap .i64 ((IntKind.wrap .i64 (32 + 8)) + (IntKind.wrap .i64 (byteAt lit2 (IntKind.wrap .u8 (Int.fdiv (Int.fdiv a1 (2 ^ 32)) (2 ^ 8)))))))), (2, .int .i64 (IntKind.wrap .i64 ((IntKind.wrap .i64 (32 + 8)) + (IntKind.wrap .i64 (byteAt lit2 (IntKind.wrap .u8 (Int.fdiv (Int.fdiv a1 (2 ^ 32)) (2 ^ 8))))))))] rfl ?_
     refine oE (cwp_ret ?_)
     obtain rfl := Option.some.inj hM
     exact ret_ (.int .i64 (IntKind.wrap .i64 ((IntKind.wrap .i64 (32 + 8)) + (IntKind.wrap .i64 (byteAt lit2 (IntKind.wrap .u8 (Int.fdiv (Int.fdiv a1 (2 ^ 32)) (2 ^ 8)))))))) (by kernel_rfl) ⟨rfl, Ext.refl _⟩
   replace hM := ifFo hc9 hM
   refine cwp_skip (thenE_n (cR ?_))
   refine oS [(19, .int .i64 32), (20, .int .u64 (Int.fdiv a1 (2 ^ 32))), (21, .int .u8 (IntKind.wrap .u8 (Int.fdiv a1 (2 ^ 32))))] rfl ?_
   have hc12 : 0 ≤ (IntKind.wrap .u8 (Int.fdiv a1 (2 ^ 32))) := ofIteO hM
   replace hM := ifTo hc12 hM
   have hc13 : (IntKind.wrap .u8 (Int.fdiv a1 (2 ^ 32))) < (lit2.size : Int) := ofIteO hM
   replace hM := ifTo hc13 hM
   refine owp_rdG (.int .u8 (byteAt lit2 (IntKind.wrap .u8 (Int.fdiv a1 (2 ^ 32))))) rfl (by kernel_rfl) (rd_ixStr (P := Tryd.prog) (h := h) (t := 9) (s := lit2) (k := .u8) (i := (IntKind.wrap .u8 (Int.fdiv a1 (2 ^ 32)))) (by kernel_rfl) hc12 hc13 (by kernel_rfl)) ?_
   refine oS [(23, .int .i64 (IntKind.wrap .i64 (byteAt lit2 (IntKind.wrap .u8 (Int.fdiv a1 (2 ^ 32)))))), (24, .int .i64 (IntKind.wrap .i64 (32 + (IntKind.wrap .i64 (byteAt lit2 (IntKind.wrap .u8 (Int.fdiv a1 (2 ^ 32)))))))), (2, .int .i64 (IntKind.wrap .i64 (32 + (IntKind.wrap .i64 (byteAt lit2 (IntKind.wrap .u8 (Int.fdiv a1 (2 ^ 32))))))))] rfl ?_
   refine oE (cwp_ret ?_)
   obtain rfl := Option.some.inj hM
   exact ret_ (.int .i64 (IntKind.wrap .i64 (32 + (IntKind.wrap .i64 (byteAt lit2 (IntKind.wrap .u8 (Int.fdiv a1 (2 ^ 32)))))))) (by kernel_rfl) ⟨rfl, Ext.refl _⟩
 replace hM := ifFo hc2 hM
 refine cwp_skip (thenE_n (cwp_seq (cR ?_)))
 refine oS [(7, .int .u64 a1), (8, .bool (decide (65536 ≤ a1)))] rfl ?_
 refine oE ?_
 refine cwp_condD (65536 ≤ a1) (by kernel_rfl) (fun hc14 => ?_) (fun hc14 => ?_)
 · replace hM := ifTo hc14 hM
   refine cR ?_
   refine oS [(9, .int .u64 a1), (10, .int .u64 (Int.fdiv a1 (2 ^ 16))), (0, .int .u64 (Int.fdiv a1 (2 ^ 16)))] rfl ?_
   refine oE (cwp_region ?_)
   refine oS [(11, .int .i64 0), (12, .int .i64 (IntKind.wrap .i64 (0 + 16))), (2, .int .i64 (IntKind.wrap .i64 (0 + 16)))] rfl ?_
   refine oE (cwp_seq (cR ?_))
   refine oS [(13, .int .u64 (Int.fdiv a1 (2 ^ 16))), (14, .bool (decide (256 ≤ (Int.fdiv a1 (2 ^ 16)))))] rfl ?_
   refine oE ?_
   refine cwp_condD (256 ≤ (Int.fdiv a1 (2 ^ 16))) (by kernel_rfl) (fun hc15 => ?_) (fun hc15 => ?_)
   · replace hM := ifTo hc15 hM
     refine cR ?_
     refine oS [(15, .int .u64 (Int.fdiv a1 (2 ^ 16))), (16, .int .u64 (Int.fdiv (Int.fdiv a1 (2 ^ 16)) (2 ^ 8))), (0, .int .u64 (Int.fdiv (Int.fdiv a1 (2 ^ 16)) (2 ^ 8)))] rfl ?_
     refine oE (cwp_region ?_)
     refine oS [(17, .int .i64 (IntKind.wrap .i64 (0 + 16))), (18, .int .i64 (IntKind.wrap .i64 ((IntKind.wrap .i64 (0 + 16)) + 8))), (2, .int .i64 (IntKind.wrap .i64 ((IntKind.wrap .i64 (0 + 16)) + 8)))] rfl ?_
     refine oE (cR ?_)
     refine oS [(19, .int .i64 (IntKind.wrap .i64 ((IntKind.wrap .i64 (0 + 16)) + 8))), (20, .int .u64 (Int.fdiv (Int.fdiv a1 (2 ^ 16)) (2 ^ 8))), (21, .int .u8 (IntKind.wrap .u8 (Int.fdiv (Int.fdiv a1 (2 ^ 16)) (2 ^ 8))))] rfl ?_
     have hc16 : 0 ≤ (IntKind.wrap .u8 (Int.fdiv (Int.fdiv a1 (2 ^ 16)) (2 ^ 8))) := ofIteO hM
     replace hM := ifTo hc16 hM
     have hc17 : (IntKind.wrap .u8 (Int.fdiv (Int.fdiv a1 (2 ^ 16)) (2 ^ 8))) < (lit2.size : Int) := ofIteO hM
     replace hM := ifTo hc17 hM
     refine owp_rdG (.int .u8 (byteAt lit2 (IntKind.wrap .u8 (Int.fdiv (Int.fdiv a1 (2 ^ 16)) (2 ^ 8))))) rfl (by kernel_rfl) (rd_ixStr (P := Tryd.prog) (h := h) (t := 9) (s := lit2) (k := .u8) (i := (IntKind.wrap .u8 (Int.fdiv (Int.fdiv a1 (2 ^ 16)) (2 ^ 8)))) (by kernel_rfl) hc16 hc17 (by kernel_rfl)) ?_
     refine oS [(23, .int .i64 (IntKind.wrap .i64 (byteAt lit2 (IntKind.wrap .u8 (Int.fdiv (Int.fdiv a1 (2 ^ 16)) (2 ^ 8)))))), (24, .int .i64 (IntKind.wrap .i64 ((IntKind.wrap .i64 ((IntKind.wrap .i64 (0 + 16)) + 8)) + (IntKind.wrap .i64 (byteAt lit2 (IntKind.wrap .u8 (Int.fdiv (Int.fdiv a1 (2 ^ 16)) (2 ^ 8)))))))), (2, .int .i64 (IntKind.wrap .i64 ((IntKind.wrap .i64 ((IntKind.wrap .i64 (0 + 16)) + 8)) + (IntKind.wrap .i64 (byteAt lit2 (IntKind.wrap .u8 (Int.fdiv (Int.fdiv a1 (2 ^ 16)) (2 ^ 8))))))))] rfl ?_
     refine oE (cwp_ret ?_)
     obtain rfl := Option.some.inj hM
     exact ret_ (.int .i64 (IntKind.wrap .i64 ((IntKind.wrap .i64 ((IntKind.wrap .i64 (0 + 16)) + 8)) + (IntKind.wrap .i64 (byteAt lit2 (IntKind.wrap .u8 (Int.fdiv (Int.fdiv a1 (2 ^ 16)) (2 ^ 8)))))))) (by kernel_rfl) ⟨rfl, Ext.refl _⟩
   replace hM := ifFo hc15 hM
   refine cwp_skip (thenE_n (cR ?_))
   refine oS [(19, .int .i64 (IntKind.wrap .i64 (0 + 16))), (20, .int .u64 (Int.fdiv a1 (2 ^ 16))), (21, .int .u8 (IntKind.wrap .u8 (Int.fdiv a1 (2 ^ 16))))] rfl ?_
   have hc18 : 0 ≤ (IntKind.wrap .u8 (Int.fdiv a1 (2 ^ 16))) := ofIteO hM
   replace hM := ifTo hc18 hM
   have hc19 : (IntKind.wrap .u8 (Int.fdiv a1 (2 ^ 16))) < (lit2.size : Int) := ofIteO hM
   replace hM := ifTo hc19 hM
   refine owp_rdG (.int .u8 (byteAt lit2 (IntKind.wrap .u8 (Int.fdiv a1 (2 ^ 16))))) rfl (by kernel_rfl) (rd_ixStr (P := Tryd.prog) (h := h) (t := 9) (s := lit2) (k := .u8) (i := (IntKind.wrap .u8 (Int.fdiv a1 (2 ^ 16)))) (by kernel_rfl) hc18 hc19 (by kernel_rfl)) ?_
   refine oS [(23, .int .i64 (IntKind.wrap .i64 (byteAt lit2 (IntKind.wrap .u8 (Int.fdiv a1 (2 ^ 16)))))), (24, .int .i64 (IntKind.wrap .i64 ((IntKind.wrap .i64 (0 + 16)) + (IntKind.wrap .i64 (byteAt lit2 (IntKind.wrap .u8 (Int.fdiv a1 (2 ^ 16)))))))), (2, .int .i64 (IntKind.wrap .i64 ((IntKind.wrap .i64 (0 + 16)) + (IntKind.wrap .i64 (byteAt lit2 (IntKind.wrap .u8 (Int.fdiv a1 (2 ^ 16))))))))] rfl ?_
   refine oE (cwp_ret ?_)
   obtain rfl := Option.some.inj hM
   exact ret_ (.int .i64 (IntKind.wrap .i64 ((IntKind.wrap .i64 (0 + 16)) + (IntKind.wrap .i64 (byteAt lit2 (IntKind.wrap .u8 (Int.fdiv a1 (2 ^ 16)))))))) (by kernel_rfl) ⟨rfl, Ext.refl _⟩
 replace hM := ifFo hc14 hM
 refine cwp_skip (thenE_n (cwp_seq (cR ?_)))
 refine oS [(13, .int .u64 a1), (14, .bool (decide (256 ≤ a1)))] rfl ?_
 refine oE ?_
 refine cwp_condD (256 ≤ a1) (by kernel_rfl) (fun hc20 => ?_) (fun hc20 => ?_)
 · replace hM := ifTo hc20 hM
   refine cR ?_
   refine oS [(15, .int .u64 a1), (16, .int .u64 (Int.fdiv a1 (2 ^ 8))), (0, .int .u64 (Int.fdiv a1 (2 ^ 8)))] rfl ?_
   refine oE (cwp_region ?_)
   refine oS [(17, .int .i64 0), (18, .int .i64 (IntKind.wrap .i64 (0 + 8))), (2, .int .i64 (IntKind.wrap .i64 (0 + 8)))] rfl ?_
   refine oE (cR ?_)
   refine oS [(19, .int .i64 (IntKind.wrap .i64 (0 + 8))), (20, .int .u64 (Int.fdiv a1 (2 ^ 8))), (21, .int .u8 (IntKind.wrap .u8 (Int.fdiv a1 (2 ^ 8))))] rfl ?_
   have hc21 : 0 ≤ (IntKind.wrap .u8 (Int.fdiv a1 (2 ^ 8))) := ofIteO hM
   replace hM := ifTo hc21 hM
   have hc22 : (IntKind.wrap .u8 (Int.fdiv a1 (2 ^ 8))) < (lit2.size : Int) := ofIteO hM
   replace hM := ifTo hc22 hM
   refine owp_rdG (.int .u8 (byteAt lit2 (IntKind.wrap .u8 (Int.fdiv a1 (2 ^ 8))))) rfl (by kernel_rfl) (rd_ixStr (P := Tryd.prog) (h := h) (t := 9) (s := lit2) (k := .u8) (i := (IntKind.wrap .u8 (Int.fdiv a1 (2 ^ 8)))) (by kernel_rfl) hc21 hc22 (by kernel_rfl)) ?_
   refine oS [(23, .int .i64 (IntKind.wrap .i64 (byteAt lit2 (IntKind.wrap .u8 (Int.fdiv a1 (2 ^ 8)))))), (24, .int .i64 (IntKind.wrap .i64 ((IntKind.wrap .i64 (0 + 8)) + (IntKind.wrap .i64 (byteAt lit2 (IntKind.wrap .u8 (Int.fdiv a1 (2 ^ 8)))))))), (2, .int .i64 (IntKind.wrap .i64 ((IntKind.wrap .i64 (0 + 8)) + (IntKind.wrap .i64 (byteAt lit2 (IntKind.wrap .u8 (Int.fdiv a1 (2 ^ 8))))))))] rfl ?_
   refine oE (cwp_ret ?_)
   obtain rfl := Option.some.inj hM
   exact ret_ (.int .i64 (IntKind.wrap .i64 ((IntKind.wrap .i64 (0 + 8)) + (IntKind.wrap .i64 (byteAt lit2 (IntKind.wrap .u8 (Int.fdiv a1 (2 ^ 8)))))))) (by kernel_rfl) ⟨rfl, Ext.refl _⟩
 replace hM := ifFo hc20 hM
 refine cwp_skip (thenE_n (cR ?_))
 refine oS [(19, .int .i64 0), (20, .int .u64 a1), (21, .int .u8 (IntKind.wrap .u8 (a1)))] rfl ?_
 have hc23 : 0 ≤ (IntKind.wrap .u8 (a1)) := ofIteO hM
 replace hM := ifTo hc23 hM
 have hc24 : (IntKind.wrap .u8 (a1)) < (lit2.size : Int) := ofIteO hM
 replace hM := ifTo hc24 hM
 refine owp_rdG (.int .u8 (byteAt lit2 (IntKind.wrap .u8 (a1)))) rfl (by kernel_rfl) (rd_ixStr (P := Tryd.prog) (h := h) (t := 9) (s := lit2) (k := .u8) (i := (IntKind.wrap .u8 (a1))) (by kernel_rfl) hc23 hc24 (by kernel_rfl)) ?_
 refine oS [(23, .int .i64 (IntKind.wrap .i64 (byteAt lit2 (IntKind.wrap .u8 (a1))))), (24, .int .i64 (IntKind.wrap .i64 (0 + (IntKind.wrap .i64 (byteAt lit2 (IntKind.wrap .u8 (a1))))))), (2, .int .i64 (IntKind.wrap .i64 (0 + (IntKind.wrap .i64 (byteAt lit2 (IntKind.wrap .u8 (a1)))))))] rfl ?_
 refine oE (cwp_ret ?_)
 obtain rfl := Option.some.inj hM
 exact ret_ (.int .i64 (IntKind.wrap .i64 (0 + (IntKind.wrap .i64 (byteAt lit2 (IntKind.wrap .u8 (a1))))))) (by kernel_rfl) ⟨rfl, Ext.refl _⟩
/- internal/strconv.bool2[int] -/
def internal_strconv_bool2_int (a1 : Bool) : Int :=
 if a1 = true then
  (1)
 else
 (0)
theorem internal_strconv_bool2_int_ok (a1 : Bool) (r : Int) (h : Heap) (hM : internal_strconv_bool2_int a1 = r) : CallsH Tryd.prog 89 #[.bool a1] (fun v h' => v = .int .i64 r ∧ Ext h h') h := by
 unfold internal_strconv_bool2_int at hM
 refine callsH_intro (n := 4) Tryd.func89 rfl rfl (by kernel_rfl) ?_
 refine cR ?_
 refine oS [(2, .int .i64 0)] rfl ?_
 refine oE (cwp_seq (cR ?_))
 refine oS [(3, .bool a1)] rfl ?_
 refine oE ?_
 refine cwp_condB a1 (by kernel_rfl) (fun hc2 => ?_) (fun hc2 => ?_)
 · replace hM := ifTo hc2 hM
   refine cR ?_
   refine oS [(2, .int .i64 1)] rfl ?_
   refine oE (cwp_ret (thenE_r ?_))
   subst hM
   exact ret_ (.int .i64 1) (by kernel_rfl) ⟨rfl, Ext.refl _⟩
 replace hM := ifFo hc2 hM
 refine cwp_skip (thenE_n (cR ?_))
 refine oS [(2, .int .i64 0)] rfl ?_
 refine oE (cwp_ret ?_)
 subst hM
 exact ret_ (.int .i64 0) (by kernel_rfl) ⟨rfl, Ext.refl _⟩
/- internal/strconv.numDigits -/
def internal_strconv_numDigits (a1 : Int) (K : Int → Heap → Prop) (h : Heap) : Prop :=
 ex (math_bits_Len64 a1) fun r4 =>
 0 ≤ (internal_strconv_log10Pow2 r4) ∧
 (internal_strconv_log10Pow2 r4) < (20 : Int) ∧
 gap h fun h6 =>
 ldI h6 .u64 ((⟨2, 0, none⟩ : Addr).add ((internal_strconv_log10Pow2 r4).toNat * 1)) fun x10 =>
 gap h6 fun h13 =>
 K (IntKind.wrap .i64 ((internal_strconv_log10Pow2 r4) + (internal_strconv_bool2_int (decide (x10 ≤ a1))))) h13
theorem internal_strconv_numDigits_ok (a1 : Int) (K : Int → Heap → Prop) (h : Heap) (hM : internal_strconv_numDigits a1 K h) : CallsH Tryd.prog 84 #[.int .u64 a1] (fun v h' => ∃ (r15 : Int), v = .int .i64 r15 ∧ K r15 h') h := by
 unfold internal_strconv_numDigits at hM
 refine callsH_intro (n := 15) Tryd.func84 rfl rfl (by kernel_rfl) ?_
 refine cR ?_
 refine oS [(2, .int .i64 0)] rfl ?_
 refine oE (cR ?_)
 refine oS [(4, .int .u64 a1)] rfl ?_
 obtain ⟨r4, hr5, hM⟩ := hM
 refine oG (hpCallP 88 #[.int .u64 a1] (.int .i64 r4) (by kernel_rfl) (math_bits_Len64_ok a1 r4 h hr5) ?_)
 intro h2 hx3
 refine oG (hpCallP 87 #[.int .i64 r4] (.int .i64 (internal_strconv_log10Pow2 r4)) (by kernel_rfl) (internal_strconv_log10Pow2_ok r4 _ h2 rfl) ?_)
 intro h6 hx7
 refine oS [(3, .int .i64 (internal_strconv_log10Pow2 r4))] rfl ?_
 refine oE (cR ?_)
 refine oS [(7, .int .i64 (internal_strconv_log10Pow2 r4)), (8, .int .u64 a1), (9, .int .i64 (internal_strconv_log10Pow2 r4))] rfl ?_
 obtain ⟨hc8, hM⟩ := hM
 obtain ⟨hc9, hM⟩ := hM
 refine owp_rdG (.pointer (some ((⟨2, 0, none⟩ : Addr).add ((internal_strconv_log10Pow2 r4).toNat * 1)))) rfl (by kernel_rfl) (rd_ixA (P := Tryd.prog) (h := h6) (t := 128) (el := 121) (sz := 1) (len := 20) (ad := ⟨2, 0, none⟩) (k := .i64) (i := (internal_strconv_log10Pow2 r4)) (by kernel_rfl) (by kernel_rfl) hc8 hc9 (by kernel_rfl)) ?_
 replace hM := hM _ (Ext.trans hx3 hx7)
 obtain ⟨x10, hc11, hM⟩ := hM
 refine oL (.int .u64 x10) ((⟨2, 0, none⟩ : Addr).add ((internal_strconv_log10Pow2 r4).toNat * 1)) hc11 ?_
 refine oS [(12, .bool (decide (x10 ≤ a1)))] rfl ?_
 refine oG (hpCallP 89 #[.bool (decide (x10 ≤ a1))] (.int .i64 (internal_strconv_bool2_int (decide (x10 ≤ a1)))) (by kernel_rfl) (internal_strconv_bool2_int_ok (decide (x10 ≤ a1)) _ h6 rfl) ?_)
 intro h13 hx14
 refine oS [(14, .int .i64 (IntKind.wrap .i64 ((internal_strconv_log10Pow2 r4) + (internal_strconv_bool2_int (decide (x10 ≤ a1)))))), (2, .int .i64 (IntKind.wrap .i64 ((internal_strconv_log10Pow2 r4) + (internal_strconv_bool2_int (decide (x10 ≤ a1))))))] rfl ?_
 refine oE (cwp_ret ?_)
 replace hM := hM _ hx14
 exact ret_ (.int .i64 (IntKind.wrap .i64 ((internal_strconv_log10Pow2 r4) + (internal_strconv_bool2_int (decide (x10 ≤ a1)))))) (by kernel_rfl) ⟨_, rfl, hM⟩
/- internal/strconv.formatBase10 -/
def internal_strconv_formatBase10_l0 (K0 : Option Addr → Nat → Nat → Int → Int → Heap → Prop) : Nat → Option Addr → Nat → Nat → Int → Int → Heap → Prop
  | 0, _, _, _, _, _, _ => False
  | k + 1, y3, y3n, y3c, y4, y5, h =>
  if 8 ≤ y5 then
   0 ≤ (IntKind.wrap .u32 ((IntKind.wrap .u32 ((Int.tmod (Int.tmod (IntKind.wrap .u32 (Int.tmod y4 100000000)) 10000) 100) * 2)) + 1)) ∧
   (IntKind.wrap .u32 ((IntKind.wrap .u32 ((Int.tmod (Int.tmod (IntKind.wrap .u32 (Int.tmod y4 100000000)) 10000) 100) * 2)) + 1)) < (lit1.size : Int) ∧
   0 ≤ (IntKind.wrap .u32 ((Int.tmod (Int.tmod (IntKind.wrap .u32 (Int.tmod y4 100000000)) 10000) 100) * 2)) ∧
   (IntKind.wrap .u32 ((Int.tmod (Int.tmod (IntKind.wrap .u32 (Int.tmod y4 100000000)) 10000) 100) * 2)) < (lit1.size : Int) ∧
   nz y3 fun p13 =>
   0 ≤ (IntKind.wrap .i64 (y5 - 1)) ∧
   (IntKind.wrap .i64 (y5 - 1)) < (y3n : Int) ∧
   stN (p13.add ((IntKind.wrap .i64 (y5 - 1)).toNat * 1)) [.int .u8 (byteAt lit1 (IntKind.wrap .u32 ((IntKind.wrap .u32 ((Int.tmod (Int.tmod (IntKind.wrap .u32 (Int.tmod y4 100000000)) 10000) 100) * 2)) + 1)))] 0 h fun h14 =>
   0 ≤ (IntKind.wrap .i64 (y5 - 2)) ∧
   (IntKind.wrap .i64 (y5 - 2)) < (y3n : Int) ∧
   stN (p13.add ((IntKind.wrap .i64 (y5 - 2)).toNat * 1)) [.int .u8 (byteAt lit1 (IntKind.wrap .u32 ((Int.tmod (Int.tmod (IntKind.wrap .u32 (Int.tmod y4 100000000)) 10000) 100) * 2)))] 0 h14 fun h17 =>
   0 ≤ (IntKind.wrap .u32 ((IntKind.wrap .u32 ((IntKind.wrap .u32 (Int.tdiv (Int.tmod (IntKind.wrap .u32 (Int.tmod y4 100000000)) 10000) 100)) * 2)) + 1)) ∧
   (IntKind.wrap .u32 ((IntKind.wrap .u32 ((IntKind.wrap .u32 (Int.tdiv (Int.tmod (IntKind.wrap .u32 (Int.tmod y4 100000000)) 10000) 100)) * 2)) + 1)) < (lit1.size : Int) ∧
   0 ≤ (IntKind.wrap .u32 ((IntKind.wrap .u32 (Int.tdiv (Int.tmod (IntKind.wrap .u32 (Int.tmod y4 100000000)) 10000) 100)) * 2)) ∧
   (IntKind.wrap .u32 ((IntKind.wrap .u32 (Int.tdiv (Int.tmod (IntKind.wrap .u32 (Int.tmod y4 100000000)) 10000) 100)) * 2)) < (lit1.size : Int) ∧
   0 ≤ (IntKind.wrap .i64 (y5 - 3)) ∧
   (IntKind.wrap .i64 (y5 - 3)) < (y3n : Int) ∧
   stN (p13.add ((IntKind.wrap .i64 (y5 - 3)).toNat * 1)) [.int .u8 (byteAt lit1 (IntKind.wrap .u32 ((IntKind.wrap .u32 ((IntKind.wrap .u32 (Int.tdiv (Int.tmod (IntKind.wrap .u32 (Int.tmod y4 100000000)) 10000) 100)) * 2)) + 1)))] 0 h17 fun h24 =>
   0 ≤ (IntKind.wrap .i64 (y5 - 4)) ∧
   (IntKind.wrap .i64 (y5 - 4)) < (y3n : Int) ∧
   stN (p13.add ((IntKind.wrap .i64 (y5 - 4)).toNat * 1)) [.int .u8 (byteAt lit1 (IntKind.wrap .u32 ((IntKind.wrap .u32 (Int.tdiv (Int.tmod (IntKind.wrap .u32 (Int.tmod y4 100000000)) 10000) 100)) * 2)))] 0 h24 fun h27 =>
   0 ≤ (IntKind.wrap .u32 ((IntKind.wrap .u32 ((Int.tmod (IntKind.wrap .u32 (Int.tdiv (IntKind.wrap .u32 (Int.tmod y4 100000000)) 10000)) 100) * 2)) + 1)) ∧
   (IntKind.wrap .u32 ((IntKind.wrap .u32 ((Int.tmod (IntKind.wrap .u32 (Int.tdiv (IntKind.wrap .u32 (Int.tmod y4 100000000)) 10000)) 100) * 2)) + 1)) < (lit1.size : Int) ∧
   0 ≤ (IntKind.wrap .u32 ((Int.tmod (IntKind.wrap .u32 (Int.tdiv (IntKind.wrap .u32 (Int.tmod y4 100000000)) 10000)) 100) * 2)) ∧
   (IntKind.wrap .u32 ((Int.tmod (IntKind.wrap .u32 (Int.tdiv (IntKind.wrap .u32 (Int.tmod y4 100000000)) 10000)) 100) * 2)) < (lit1.size : Int) ∧
   0 ≤ (IntKind.wrap .i64 (y5 - 5)) ∧
   (IntKind.wrap .i64 (y5 - 5)) < (y3n : Int) ∧
   stN (p13.add ((IntKind.wrap .i64 (y5 - 5)).toNat * 1)) [.int .u8 (byteAt lit1 (IntKind.wrap .u32 ((IntKind.wrap .u32 ((Int.tmod (IntKind.wrap .u32 (Int.tdiv (IntKind.wrap .u32 (Int.tmod y4 100000000)) 10000)) 100) * 2)) + 1)))] 0 h27 fun h34 =>
   0 ≤ (IntKind.wrap .i64 (y5 - 6)) ∧
   (IntKind.wrap .i64 (y5 - 6)) < (y3n : Int) ∧
   stN (p13.add ((IntKind.wrap .i64 (y5 - 6)).toNat * 1)) [.int .u8 (byteAt lit1 (IntKind.wrap .u32 ((Int.tmod (IntKind.wrap .u32 (Int.tdiv (IntKind.wrap .u32 (Int.tmod y4 100000000)) 10000)) 100) * 2)))] 0 h34 fun h37 =>
   0 ≤ (IntKind.wrap .u32 ((IntKind.wrap .u32 ((IntKind.wrap .u32 (Int.tdiv (IntKind.wrap .u32 (Int.tdiv (IntKind.wrap .u32 (Int.tmod y4 100000000)) 10000)) 100)) * 2)) + 1)) ∧
   (IntKind.wrap .u32 ((IntKind.wrap .u32 ((IntKind.wrap .u32 (Int.tdiv (IntKind.wrap .u32 (Int.tdiv (IntKind.wrap .u32 (Int.tmod y4 100000000)) 10000)) 100)) * 2)) + 1)) < (lit1.size : Int) ∧
   0 ≤ (IntKind.wrap .u32 ((IntKind.wrap .u32 (Int.tdiv (IntKind.wrap .u32 (Int.tdiv (IntKind.wrap .u32 (Int.tmod y4 100000000)) 10000)) 100)) * 2)) ∧
   (IntKind.wrap .u32 ((IntKind.wrap .u32 (Int.tdiv (IntKind.wrap .u32 (Int.tdiv (IntKind.wrap .u32 (Int.tmod y4 100000000)) 10000)) 100)) * 2)) < (lit1.size : Int) ∧
   0 ≤ (IntKind.wrap .i64 (y5 - 7)) ∧
   (IntKind.wrap .i64 (y5 - 7)) < (y3n : Int) ∧
   stN (p13.add ((IntKind.wrap .i64 (y5 - 7)).toNat * 1)) [.int .u8 (byteAt lit1 (IntKind.wrap .u32 ((IntKind.wrap .u32 ((IntKind.wrap .u32 (Int.tdiv (IntKind.wrap .u32 (Int.tdiv (IntKind.wrap .u32 (Int.tmod y4 100000000)) 10000)) 100)) * 2)) + 1)))] 0 h37 fun h44 =>
   0 ≤ (IntKind.wrap .i64 (y5 - 8)) ∧
   (IntKind.wrap .i64 (y5 - 8)) < (y3n : Int) ∧
   stN (p13.add ((IntKind.wrap .i64 (y5 - 8)).toNat * 1)) [.int .u8 (byteAt lit1 (IntKind.wrap .u32 ((IntKind.wrap .u32 (Int.tdiv (IntKind.wrap .u32 (Int.tdiv (IntKind.wrap .u32 (Int.tmod y4 100000000)) 10000)) 100)) * 2)))] 0 h44 fun h47 =>
   internal_strconv_formatBase10_l0 K0 k (some p13) y3n y3c (IntKind.wrap .u64 (Int.tdiv y4 100000000)) (IntKind.wrap .i64 (y5 - 8)) h47
  else
  K0 y3 y3n y3c y4 y5 h
theorem internal_strconv_formatBase10_l0_ok {Q : Exit → Env → Heap → Prop} (K0 : Option Addr → Nat → Nat → Int → Int → Heap → Prop) (hK0 : ∀ (z54 : Option Addr) (z54n : Nat) (z54c : Nat) (z55 : Int) (z56 : Int) (b : Env) (h : Heap), K0 z54 z54n z54c z55 z56 h → Q (.exit 0) (upd (upd (upd b 0 (.slice z54 z54n z54c)) 1 (.int .u64 z55)) 4 (.int .i64 z56)) h) : ∀ (k : Nat) (y3 : Option Addr) (y3n : Nat) (y3c : Nat) (y4 : Int) (y5 : Int) (b : Env) (h : Heap) (hM : internal_strconv_formatBase10_l0 K0 k y3 y3n y3c y4 y5 h), lwp Tryd.prog (partC Tryd.f85 [1, 0, 0, 0]) 167 Q k (upd (upd (upd b 0 (.slice y3 y3n y3c)) 1 (.int .u64 y4)) 4 (.int .i64 y5)) h := by
  intro k
  induction k with
  | zero => intro y3 y3n y3c y4 y5 b h hM; exact (show False from hM).elim
  | succ k ih =>
    intro y3 y3n y3c y4 y5 b h hM
    unfold internal_strconv_formatBase10_l0 at hM
    refine lwp_succ (cwp_part rfl ?_)
    refine cwp_seq (cR ?_)
    refine oS [(19, .int .i64 y5), (20, .bool (decide (8 ≤ y5)))] rfl ?_
    refine oE ?_
    refine cwp_condD (8 ≤ y5) (by kernel_rfl) (fun hc6 => ?_) (fun hc6 => ?_)
    · replace hM := ifT hc6 hM
      refine cwp_skip (thenE_n (cwp_block (cR ?_)))
      refine oS [(21, .int .u64 y4), (22, .int .u64 (Int.tmod y4 100000000)), (23, .int .u32 (IntKind.wrap .u32 (Int.tmod y4 100000000))), (5, .int .u32 (IntKind.wrap .u32 (Int.tmod y4 100000000)))] rfl ?_
      refine oE (cR ?_)
      refine oS [(24, .int .u64 y4), (25, .int .u64 (IntKind.wrap .u64 (Int.tdiv y4 100000000))), (1, .int .u64 (IntKind.wrap .u64 (Int.tdiv y4 100000000)))] rfl ?_
      refine oE (cR ?_)
      refine oS [(26, .int .u32 (IntKind.wrap .u32 (Int.tmod y4 100000000))), (27, .int .u32 (IntKind.wrap .u32 (Int.tdiv (IntKind.wrap .u32 (Int.tmod y4 100000000)) 10000))), (28, .int .u32 (IntKind.wrap .u32 (Int.tmod y4 100000000))), (29, .int .u32 (Int.tmod (IntKind.wrap .u32 (Int.tmod y4 100000000)) 10000)), (6, .int .u32 (IntKind.wrap .u32 (Int.tdiv (IntKind.wrap .u32 (Int.tmod y4 100000000)) 10000))), (7, .int .u32 (Int.tmod (IntKind.wrap .u32 (Int.tmod y4 100000000)) 10000))] rfl ?_
      refine oE (cR ?_)
      refine oS [(30, .int .u32 (Int.tmod (IntKind.wrap .u32 (Int.tmod y4 100000000)) 10000)), (31, .int .u32 (IntKind.wrap .u32 (Int.tdiv (Int.tmod (IntKind.wrap .u32 (Int.tmod y4 100000000)) 10000) 100))), (32, .int .u32 (IntKind.wrap .u32 ((IntKind.wrap .u32 (Int.tdiv (Int.tmod (IntKind.wrap .u32 (Int.tmod y4 100000000)) 10000) 100)) * 2))), (33, .int .u32 (Int.tmod (IntKind.wrap .u32 (Int.tmod y4 100000000)) 10000)), (34, .int .u32 (Int.tmod (Int.tmod (IntKind.wrap .u32 (Int.tmod y4 100000000)) 10000) 100)), (35, .int .u32 (IntKind.wrap .u32 ((Int.tmod (Int.tmod (IntKind.wrap .u32 (Int.tmod y4 100000000)) 10000) 100) * 2))), (8, .int .u32 (IntKind.wrap .u32 ((IntKind.wrap .u32 (Int.tdiv (Int.tmod (IntKind.wrap .u32 (Int.tmod y4 100000000)) 10000) 100)) * 2))), (9, .int .u32 (IntKind.wrap .u32 ((Int.tmod (Int.tmod (IntKind.wrap .u32 (Int.tmod y4 100000000)) 10000) 100) * 2)))] rfl ?_
      refine oE (cR ?_)
      refine oS [(36, .int .u32 (IntKind.wrap .u32 (Int.tdiv (IntKind.wrap .u32 (Int.tmod y4 100000000)) 10000))), (37, .int .u32 (IntKind.wrap .u32 (Int.tdiv (IntKind.wrap .u32 (Int.tdiv (IntKind.wrap .u32 (Int.tmod y4 100000000)) 10000)) 100))), (38, .int .u32 (IntKind.wrap .u32 ((IntKind.wrap .u32 (Int.tdiv (IntKind.wrap .u32 (Int.tdiv (IntKind.wrap .u32 (Int.tmod y4 100000000)) 10000)) 100)) * 2))), (39, .int .u32 (IntKind.wrap .u32 (Int.tdiv (IntKind.wrap .u32 (Int.tmod y4 100000000)) 10000))), (40, .int .u32 (Int.tmod (IntKind.wrap .u32 (Int.tdiv (IntKind.wrap .u32 (Int.tmod y4 100000000)) 10000)) 100)), (41, .int .u32 (IntKind.wrap .u32 ((Int.tmod (IntKind.wrap .u32 (Int.tdiv (IntKind.wrap .u32 (Int.tmod y4 100000000)) 10000)) 100) * 2))), (10, .int .u32 (IntKind.wrap .u32 ((IntKind.wrap .u32 (Int.tdiv (IntKind.wrap .u32 (Int.tdiv (IntKind.wrap .u32 (Int.tmod y4 100000000)) 10000)) 100)) * 2))), (11, .int .u32 (IntKind.wrap .u32 ((Int.tmod (IntKind.wrap .u32 (Int.tdiv (IntKind.wrap .u32 (Int.tmod y4 100000000)) 10000)) 100) * 2)))] rfl ?_
      refine oE (cwp_seq ?_)
      refine cwp_draw (by kernel_rfl) ?_
      refine kp 0 [11, 12, 13, 14] (.slice y3 y3n y3c) ?_
      refine kp 1 [2, 11, 12, 13, 14] (.int .i64 y5) ?_
      refine kp 2 [11, 12, 13, 14] (.int .i64 (IntKind.wrap .i64 (y5 - 1))) ?_
      refine kp 3 [13, 14] (.slice y3 y3n y3c) ?_
      refine kp 4 [5, 13, 14] (.int .i64 y5) ?_
      refine kp 5 [13, 14] (.int .i64 (IntKind.wrap .i64 (y5 - 2))) ?_
      refine kp 6 [7, 8, 11, 12, 13, 14] (.int .u32 (IntKind.wrap .u32 ((Int.tmod (Int.tmod (IntKind.wrap .u32 (Int.tmod y4 100000000)) 10000) 100) * 2))) ?_
      refine kp 7 [8, 11, 12, 13, 14] (.int .u32 (IntKind.wrap .u32 ((IntKind.wrap .u32 ((Int.tmod (Int.tmod (IntKind.wrap .u32 (Int.tmod y4 100000000)) 10000) 100) * 2)) + 1))) ?_
      obtain ⟨hc7, hM⟩ := hM
      obtain ⟨hc8, hM⟩ := hM
      refine k_pure (i := 8) [11, 12, 13, 14] (.int .u8 (byteAt lit1 (IntKind.wrap .u32 ((IntKind.wrap .u32 ((Int.tmod (Int.tmod (IntKind.wrap .u32 (Int.tmod y4 100000000)) 10000) 100) * 2)) + 1)))) (by kernel_rfl) rfl rfl (by kernel_rfl) (fun h' => rd_ixStr (P := Tryd.prog) (h := h') (t := 9) (s := lit1) (k := .u32) (i := (IntKind.wrap .u32 ((IntKind.wrap .u32 ((Int.tmod (Int.tmod (IntKind.wrap .u32 (Int.tmod y4 100000000)) 10000) 100) * 2)) + 1))) (by kernel_rfl) hc7 hc8 (by kernel_rfl)) (by kernel_rfl) ?_
      refine kp 9 [10, 13, 14] (.int .u32 (IntKind.wrap .u32 ((Int.tmod (Int.tmod (IntKind.wrap .u32 (Int.tmod y4 100000000)) 10000) 100) * 2))) ?_
      obtain ⟨hc9, hM⟩ := hM
      obtain ⟨hc10, hM⟩ := hM
      refine k_pure (i := 10) [13, 14] (.int .u8 (byteAt lit1 (IntKind.wrap .u32 ((Int.tmod (Int.tmod (IntKind.wrap .u32 (Int.tmod y4 100000000)) 10000) 100) * 2)))) (by kernel_rfl) rfl rfl (by kernel_rfl) (fun h' => rd_ixStr (P := Tryd.prog) (h := h') (t := 9) (s := lit1) (k := .u32) (i := (IntKind.wrap .u32 ((Int.tmod (Int.tmod (IntKind.wrap .u32 (Int.tmod y4 100000000)) 10000) 100) * 2))) (by kernel_rfl) hc9 hc10 (by kernel_rfl)) (by kernel_rfl) ?_
      obtain ⟨p13, rfl, hM⟩ := hM
      obtain ⟨hc11, hM⟩ := hM
      obtain ⟨hc12, hM⟩ := hM
      refine k_pure (i := 11) [12, 13, 14] (.pointer (some (p13.add ((IntKind.wrap .i64 (y5 - 1)).toNat * 1)))) (by kernel_rfl) rfl rfl (by kernel_rfl) (fun h' => rd_ixS (P := Tryd.prog) (h := h') (t := 66) (el := 5) (sz := 1) (ad := p13) (len := y3n) (c := y3c) (k := .i64) (i := (IntKind.wrap .i64 (y5 - 1))) (by kernel_rfl) (by kernel_rfl) hc11 hc12 (by kernel_rfl)) (by kernel_rfl) ?_
      refine k_effD (j := 12) (by kernel_rfl) rfl rfl (by kernel_rfl) (hpSt (p13.add ((IntKind.wrap .i64 (y5 - 1)).toNat * 1)) [.int .u8 (byteAt lit1 (IntKind.wrap .u32 ((IntKind.wrap .u32 ((Int.tmod (Int.tmod (IntKind.wrap .u32 (Int.tmod y4 100000000)) 10000) 100) * 2)) + 1)))] (fun _ => by kernel_rfl) (by kernel_rfl) hM ?_)
      clear hM
      intro h14 hM
      refine ⟨trivial, ?_⟩
      obtain ⟨hc15, hM⟩ := hM
      obtain ⟨hc16, hM⟩ := hM
      refine k_pure (i := 13) [14] (.pointer (some (p13.add ((IntKind.wrap .i64 (y5 - 2)).toNat * 1)))) (by kernel_rfl) rfl rfl (by kernel_rfl) (fun h' => rd_ixS (P := Tryd.prog) (h := h') (t := 66) (el := 5) (sz := 1) (ad := p13) (len := y3n) (c := y3c) (k := .i64) (i := (IntKind.wrap .i64 (y5 - 2))) (by kernel_rfl) (by kernel_rfl) hc15 hc16 (by kernel_rfl)) (by kernel_rfl) ?_
      refine k_effD (j := 14) (by kernel_rfl) rfl rfl (by kernel_rfl) (hpSt (p13.add ((IntKind.wrap .i64 (y5 - 2)).toNat * 1)) [.int .u8 (byteAt lit1 (IntKind.wrap .u32 ((Int.tmod (Int.tmod (IntKind.wrap .u32 (Int.tmod y4 100000000)) 10000) 100) * 2)))] (fun _ => by kernel_rfl) (by kernel_rfl) hM ?_)
      clear hM
      intro h17 hM
      refine ⟨trivial, ?_⟩
      refine k_done (by kernel_rfl) ?_
      refine thenE_n (cwp_seq ?_)
      refine cwp_draw (by kernel_rfl) ?_
      refine kp 0 [11, 12, 13, 14] (.slice (some p13) y3n y3c) ?_
      refine kp 1 [2, 11, 12, 13, 14] (.int .i64 y5) ?_
      refine kp 2 [11, 12, 13, 14] (.int .i64 (IntKind.wrap .i64 (y5 - 3))) ?_
      refine kp 3 [13, 14] (.slice (some p13) y3n y3c) ?_
      refine kp 4 [5, 13, 14] (.int .i64 y5) ?_
      refine kp 5 [13, 14] (.int .i64 (IntKind.wrap .i64 (y5 - 4))) ?_
      refine kp 6 [7, 8, 11, 12, 13, 14] (.int .u32 (IntKind.wrap .u32 ((IntKind.wrap .u32 (Int.tdiv (Int.tmod (IntKind.wrap .u32 (Int.tmod y4 100000000)) 10000) 100)) * 2))) ?_
      refine kp 7 [8, 11, 12, 13, 14] (.int .u32 (IntKind.wrap .u32 ((IntKind.wrap .u32 ((IntKind.wrap .u32 (Int.tdiv (Int.tmod (IntKind.wrap .u32 (Int.tmod y4 100000000)) 10000) 100)) * 2)) + 1))) ?_
      obtain ⟨hc18, hM⟩ := hM
      obtain ⟨hc19, hM⟩ := hM
      refine k_pure (i := 8) [11, 12, 13, 14] (.int .u8 (byteAt lit1 (IntKind.wrap .u32 ((IntKind.wrap .u32 ((IntKind.wrap .u32 (Int.tdiv (Int.tmod (IntKind.wrap .u32 (Int.tmod y4 100000000)) 10000) 100)) * 2)) + 1)))) (by kernel_rfl) rfl rfl (by kernel_rfl) (fun h' => rd_ixStr (P := Tryd.prog) (h := h') (t := 9) (s := lit1) (k := .u32) (i := (IntKind.wrap .u32 ((IntKind.wrap .u32 ((IntKind.wrap .u32 (Int.tdiv (Int.tmod (IntKind.wrap .u32 (Int.tmod y4 100000000)) 10000) 100)) * 2)) + 1))) (by kernel_rfl) hc18 hc19 (by kernel_rfl)) (by kernel_rfl) ?_
      refine kp 9 [10, 13, 14] (.int .u32 (IntKind.wrap .u32 ((IntKind.wrap .u32 (Int.tdiv (Int.tmod (IntKind.wrap .u32 (Int.tmod y4 100000000)) 10000) 100)) * 2))) ?_
      obtain ⟨hc20, hM⟩ := hM
      obtain ⟨hc21, hM⟩ := hM
      refine k_pure (i := 10) [13, 14] (.int .u8 (byteAt lit1 (IntKind.wrap .u32 ((IntKind.wrap .u32 (Int.tdiv (Int.tmod (IntKind.wrap .u32 (Int.tmod y4 100000000)) 10000) 100)) * 2)))) (by kernel_rfl) rfl rfl (by kernel_rfl) (fun h' => rd_ixStr (P := Tryd.prog) (h := h') (t := 9) (s := lit1) (k := .u32) (i := (IntKind.wrap .u32 ((IntKind.wrap .u32 (Int.tdiv (Int.tmod (IntKind.wrap .u32 (Int.tmod y4 100000000)) 10000) 100)) * 2))) (by kernel_rfl) hc20 hc21 (by kernel_rfl)) (by kernel_rfl) ?_
      obtain ⟨hc22, hM⟩ := hM
      obtain ⟨hc23, hM⟩ := hM
      refine k_pure (i := 11) [12, 13, 14] (.pointer (some (p13.add ((IntKind.wrap .i64 (y5 - 3)).toNat * 1)))) (by kernel_rfl) rfl rfl (by kernel_rfl) (fun h' => rd_ixS (P := Tryd.prog) (h := h') (t := 66) (el := 5) (sz := 1) (ad := p13) (len := y3n) (c := y3c) (k := .i64) (i := (IntKind.wrap .i64 (y5 - 3))) (by kernel_rfl) (by kernel_rfl) hc22 hc23 (by kernel_rfl)) (by kernel_rfl) ?_
      refine k_effD (j := 12) (by kernel_rfl) rfl rfl (by kernel_rfl) (hpSt (p13.add ((IntKind.wrap .i64 (y5 - 3)).toNat * 1)) [.int .u8 (byteAt lit1 (IntKind.wrap .u32 ((IntKind.wrap .u32 ((IntKind.wrap .u32 (Int.tdiv (Int.tmod (IntKind.wrap .u32 (Int.tmod y4 100000000)) 10000) 100)) * 2)) + 1)))] (fun _ => by kernel_rfl) (by kernel_rfl) hM ?_)
      clear hM
      intro h24 hM
      refine ⟨trivial, ?_⟩
      obtain ⟨hc25, hM⟩ := hM
      obtain ⟨hc26, hM⟩ := hM
      refine k_pure (i := 13) [14] (.pointer (some (p13.add ((IntKind.wrap .i64 (y5 - 4)).toNat * 1)))) (by kernel_rfl) rfl rfl (by kernel_rfl) (fun h' => rd_ixS (P := Tryd.prog) (h := h') (t := 66) (el := 5) (sz := 1) (ad := p13) (len := y3n) (c := y3c) (k := .i64) (i := (IntKind.wrap .i64 (y5 - 4))) (by kernel_rfl) (by kernel_rfl) hc25 hc26 (by kernel_rfl)) (by kernel_rfl) ?_
      refine k_effD (j := 14) (by kernel_rfl) rfl rfl (by kernel_rfl) (hpSt (p13.add ((IntKind.wrap .i64 (y5 - 4)).toNat * 1)) [.int .u8 (byteAt lit1 (IntKind.wrap .u32 ((IntKind.wrap .u32 (Int.tdiv (Int.tmod (IntKind.wrap .u32 (Int.tmod y4 100000000)) 10000) 100)) * 2)))] (fun _ => by kernel_rfl) (by kernel_rfl) hM ?_)
      clear hM
      intro h27 hM
      refine ⟨trivial, ?_⟩
      refine k_done (by kernel_rfl) ?_
      refine thenE_n (cwp_seq ?_)
      refine cwp_draw (by kernel_rfl) ?_
      refine kp 0 [11, 12, 13, 14] (.slice (some p13) y3n y3c) ?_
      refine kp 1 [2, 11, 12, 13, 14] (.int .i64 y5) ?_
      refine kp 2 [11, 12, 13, 14] (.int .i64 (IntKind.wrap .i64 (y5 - 5))) ?_
      refine kp 3 [13, 14] (.slice (some p13) y3n y3c) ?_
      refine kp 4 [5, 13, 14] (.int .i64 y5) ?_
      refine kp 5 [13, 14] (.int .i64 (IntKind.wrap .i64 (y5 - 6))) ?_
      refine kp 6 [7, 8, 11, 12, 13, 14] (.int .u32 (IntKind.wrap .u32 ((Int.tmod (IntKind.wrap .u32 (Int.tdiv (IntKind.wrap .u32 (Int.tmod y4 100000000)) 10000)) 100) * 2))) ?_
      refine kp 7 [8, 11, 12, 13, 14] (.int .u32 (IntKind.wrap .u32 ((IntKind.wrap .u32 ((Int.tmod (IntKind.wrap .u32 (Int.tdiv (IntKind.wrap .u32 (Int.tmod y4 100000000)) 10000)) 100) * 2)) + 1))) ?_
      obtain ⟨hc28, hM⟩ := hM
      obtain ⟨hc29, hM⟩ := hM
      refine k_pure (i := 8) [11, 12, 13, 14] (.int .u8 (byteAt lit1 (IntKind.wrap .u32 ((IntKind.wrap .u32 ((Int.tmod (IntKind.wrap .u32 (Int.tdiv (IntKind.wrap .u32 (Int.tmod y4 100000000)) 10000)) 100) * 2)) + 1)))) (by kernel_rfl) rfl rfl (by kernel_rfl) (fun h' => rd_ixStr (P := Tryd.prog) (h := h') (t := 9) (s := lit1) (k := .u32) (i := (IntKind.wrap .u32 ((IntKind.wrap .u32 ((Int.tmod (IntKind.wrap .u32 (Int.tdiv (IntKind.wrap .u32 (Int.tmod y4 100000000)) 10000)) 100) * 2)) + 1))) (by kernel_rfl) hc28 hc29 (by kernel_rfl)) (by kernel_rfl) ?_
      refine kp 9 [10, 13, 14] (.int .u32 (IntKind.wrap .u32 ((Int.tmod (IntKind.wrap .u32 (Int.tdiv (IntKind.wrap .u32 (Int.tmod y4 100000000)) 10000)) 100) * 2))) ?_
      obtain ⟨hc30, hM⟩ := hM
      obtain ⟨hc31, hM⟩ := hM
      refine k_pure (i := 10) [13, 14] (.int .u8 (byteAt lit1 (IntKind.wrap .u32 ((Int.tmod (IntKind.wrap .u32 (Int.tdiv (IntKind.wrap .u32 (Int.tmod y4 100000000)) 10000)) 100) * 2)))) (by kernel_rfl) rfl rfl (by kernel_rfl) (fun h' => rd_ixStr (P := Tryd.prog) (h := h') (t := 9) (s := lit1) (k := .u32) (i := (IntKind.wrap .u32 ((Int.tmod (IntKind.wrap .u32 (Int.tdiv (IntKind.wrap .u32 (Int.tmod y4 100000000)) 10000)) 100) * 2))) (by kernel_rfl) hc30 hc31 (by kernel_rfl)) (by kernel_rfl) ?_
      obtain ⟨hc32, hM⟩ := hM
      obtain ⟨hc33, hM⟩ := hM
      refine k_pure (i := 11) [12, 13, 14] (.pointer (some (p13.add ((IntKind.wrap .i64 (y5 - 5)).toNat * 1)))) (by kernel_rfl) rfl rfl (by kernel_rfl) (fun h' => rd_ixS (P := Tryd.prog) (h := h') (t := 66) (el := 5) (sz := 1) (ad := p13) (len := y3n) (c := y3c) (k := .i64) (i := (IntKind.wrap .i64 (y5 - 5))) (by kernel_rfl) (by kernel_rfl) hc32 hc33 (by kernel_rfl)) (by kernel_rfl) ?_
      refine k_effD (j := 12) (by kernel_rfl) rfl rfl (by kernel_rfl) (hpSt (p13.add ((IntKind.wrap .i64 (y5 - 5)).toNat * 1)) [.int .u8 (byteAt lit1 (IntKind.wrap .u32 ((IntKind.wrap .u32 ((Int.tmod (IntKind.wrap .u32 (Int.tdiv (IntKind.wrap .u32 (Int.tmod y4 100000000)) 10000)) 100) * 2)) + 1)))] (fun _ => by kernel_rfl) (by kernel_rfl) hM ?_)
      clear hM
      intro h34 hM
      refine ⟨trivial, ?_⟩
      obtain ⟨hc35, hM⟩ := hM
      obtain ⟨hc36, hM⟩ := hM
      refine k_pure (i := 13) [14] (.pointer (some (p13.add ((IntKind.wrap .i64 (y5 - 6)).toNat * 1)))) (by kernel_rfl) rfl rfl (by kernel_rfl) (fun h' => rd_ixS (P := Tryd.prog) (h := h') (t := 66) (el := 5) (sz := 1) (ad := p13) (len := y3n) (c := y3c) (k := .i64) (i := (IntKind.wrap .i64 (y5 - 6))) (by kernel_rfl) (by kernel_rfl) hc35 hc36 (by kernel_rfl)) (by kernel_rfl) ?_
      refine k_effD (j := 14) (by kernel_rfl) rfl rfl (by kernel_rfl) (hpSt (p13.add ((IntKind.wrap .i64 (y5 - 6)).toNat * 1)) [.int .u8 (byteAt lit1 (IntKind.wrap .u32 ((Int.tmod (IntKind.wrap .u32 (Int.tdiv (IntKind.wrap .u32 (Int.tmod y4 100000000)) 10000)) 100) * 2)))] (fun _ => by kernel_rfl) (by kernel_rfl) hM ?_)
      clear hM
      intro h37 hM
      refine ⟨trivial, ?_⟩
      refine k_done (by kernel_rfl) ?_
      refine thenE_n (cwp_seq ?_)
      refine cwp_draw (by kernel_rfl) ?_
      refine kp 0 [11, 12, 13, 14] (.slice (some p13) y3n y3c) ?_
      refine kp 1 [2, 11, 12, 13, 14] (.int .i64 y5) ?_
      refine kp 2 [11, 12, 13, 14] (.int .i64 (IntKind.wrap .i64 (y5 - 7))) ?_
      refine kp 3 [13, 14] (.slice (some p13) y3n y3c) ?_
      refine kp 4 [5, 13, 14] (.int .i64 y5) ?_
      refine kp 5 [13, 14] (.int .i64 (IntKind.wrap .i64 (y5 - 8))) ?_
      refine kp 6 [7, 8, 11, 12, 13, 14] (.int .u32 (IntKind.wrap .u32 ((IntKind.wrap .u32 (Int.tdiv (IntKind.wrap .u32 (Int.tdiv (IntKind.wrap .u32 (Int.tmod y4 100000000)) 10000)) 100)) * 2))) ?_
      refine kp 7 [8, 11, 12, 13, 14] (.int .u32 (IntKind.wrap .u32 ((IntKind.wrap .u32 ((IntKind.wrap .u32 (Int.tdiv (IntKind.wrap .u32 (Int.tdiv (IntKind.wrap .u32 (Int.tmod y4 100000000)) 10000)) 100)) * 2)) + 1))) ?_
      obtain ⟨hc38, hM⟩ := hM
      obtain ⟨hc39, hM⟩ := hM
      refine k_pure (i := 8) [11, 12, 13, 14] (.int .u8 (byteAt lit1 (IntKind.wrap .u32 ((IntKind.wrap .u32 ((IntKind.wrap .u32 (Int.tdiv (IntKind.wrap .u32 (Int.tdiv (IntKind.wrap .u32 (Int.tmod y4 100000000)) 10000)) 100)) * 2)) + 1)))) (by kernel_rfl) rfl rfl (by kernel_rfl) (fun h' => rd_ixStr (P := Tryd.prog) (h := h') (t := 9) (s := lit1) (k := .u32) (i := (IntKind.wrap .u32 ((IntKind.wrap .u32 ((IntKind.wrap .u32 (Int.tdiv (IntKind.wrap .u32 (Int.tdiv (IntKind.wrap .u32 (Int.tmod y4 100000000)) 10000)) 100)) * 2)) + 1))) (by kernel_rfl) hc38 hc39 (by kernel_rfl)) (by kernel_rfl) ?_
      refine kp 9 [10, 13, 14] (.int .u32 (IntKind.wrap .u32 ((IntKind.wrap .u32 (Int.tdiv (IntKind.wrap .u32 (Int.tdiv (IntKind.wrap .u32 (Int.tmod y4 100000000)) 10000)) 100)) * 2))) ?_
      obtain ⟨hc40, hM⟩ := hM
      obtain ⟨hc41, hM⟩ := hM
      refine k_pure (i := 10) [13, 14] (.int .u8 (byteAt lit1 (IntKind.wrap .u32 ((IntKind.wrap .u32 (Int.tdiv (IntKind.wrap .u32 (Int.tdiv (IntKind.wrap .u32 (Int.tmod y4 100000000)) 10000)) 100)) * 2)))) (by kernel_rfl) rfl rfl (by kernel_rfl) (fun h' => rd_ixStr (P := Tryd.prog) (h := h') (t := 9) (s := lit1) (k := .u32) (i := (IntKind.wrap .u32 ((IntKind.wrap .u32 (Int.tdiv (IntKind.wrap .u32 (Int.tdiv (IntKind.wrap .u32 (Int.tmod y4 100000000)) 10000)) 100)) * 2))) (by kernel_rfl) hc40 hc41 (by kernel_rfl)) (by kernel_rfl) ?_
      obtain ⟨hc42, hM⟩ := hM
      obtain ⟨hc43, hM⟩ := hM
      refine k_pure (i := 11) [12, 13, 14] (.pointer (some (p13.add ((IntKind.wrap .i64 (y5 - 7)).toNat * 1)))) (by kernel_rfl) rfl rfl (by kernel_rfl) (fun h' => rd_ixS (P := Tryd.prog) (h := h') (t := 66) (el := 5) (sz := 1) (ad := p13) (len := y3n) (c := y3c) (k := .i64) (i := (IntKind.wrap .i64 (y5 - 7))) (by kernel_rfl) (by kernel_rfl) hc42 hc43 (by kernel_rfl)) (by kernel_rfl) ?_
      refine k_effD (j := 12) (by kernel_rfl) rfl rfl (by kernel_rfl) (hpSt (p13.add ((IntKind.wrap .i64 (y5 - 7)).toNat * 1)) [.int .u8 (byteAt lit1 (IntKind.wrap .u32 ((IntKind.wrap .u32 ((IntKind.wrap .u32 (Int.tdiv (IntKind.wrap .u32 (Int.tdiv (IntKind.wrap .u32 (Int.tmod y4 100000000)) 10000)) 100)) * 2)) + 1)))] (fun _ => by kernel_rfl) (by kernel_rfl) hM ?_)
      clear hM
      intro h44 hM
      refine ⟨trivial, ?_⟩
      obtain ⟨hc45, hM⟩ := hM
      obtain ⟨hc46, hM⟩ := hM
      refine k_pure (i := 13) [14] (.pointer (some (p13.add ((IntKind.wrap .i64 (y5 - 8)).toNat * 1)))) (by kernel_rfl) rfl rfl (by kernel_rfl) (fun h' => rd_ixS (P := Tryd.prog) (h := h') (t := 66) (el := 5) (sz := 1) (ad := p13) (len := y3n) (c := y3c) (k := .i64) (i := (IntKind.wrap .i64 (y5 - 8))) (by kernel_rfl) (by kernel_rfl) hc45 hc46 (by kernel_rfl)) (by kernel_rfl) ?_
      refine k_effD (j := 14) (by kernel_rfl) rfl rfl (by kernel_rfl) (hpSt (p13.add ((IntKind.wrap .i64 (y5 - 8)).toNat * 1)) [.int .u8 (byteAt lit1 (IntKind.wrap .u32 ((IntKind.wrap .u32 (Int.tdiv (IntKind.wrap .u32 (Int.tdiv (IntKind.wrap .u32 (Int.tmod y4 100000000)) 10000)) 100)) * 2)))] (fun _ => by kernel_rfl) (by kernel_rfl) hM ?_)
      clear hM
      intro h47 hM
      refine ⟨trivial, ?_⟩
      refine k_done (by kernel_rfl) ?_
      refine thenE_n (cwp_region ?_)
      refine oS [(94, .int .i64 y5), (95, .int .i64 (IntKind.wrap .i64 (y5 - 8))), (4, .int .i64 (IntKind.wrap .i64 (y5 - 8)))] rfl ?_
      refine owp_nil (blockE_n ?_)
      exact lwp_at 0 (.slice (some p13) y3n y3c) (by kernel_rfl) (lwp_at 1 (.int .u64 (IntKind.wrap .u64 (Int.tdiv y4 100000000))) (by kernel_rfl) (lwp_at 4 (.int .i64 (IntKind.wrap .i64 (y5 - 8))) (by kernel_rfl) (ih (some p13) y3n y3c (IntKind.wrap .u64 (Int.tdiv y4 100000000)) (IntKind.wrap .i64 (y5 - 8)) _ _ hM)))
    replace hM := ifF hc6 hM
    refine cwp_exit (thenE_x ?_)
    exact q_at (Q := Q (.exit 0)) 0 (.slice y3 y3n y3c) (by kernel_rfl) (q_at (Q := Q (.exit 0)) 1 (.int .u64 y4) (by kernel_rfl) (q_at (Q := Q (.exit 0)) 4 (.int .i64 y5) (by kernel_rfl) (hK0 y3 y3n y3c y4 y5 _ _ hM)))
def internal_strconv_formatBase10_j2 (Kn : Heap → Prop) (y98 : Option Addr) (y98n : Nat) (y98c : Nat) (y99 : Int) (y100 : Int) (h : Heap) : Prop :=
 if 0 < y99 then
  nz y98 fun p104 =>
  0 ≤ (0 : Int) ∧
  (0 : Int) < (y98n : Int) ∧
  stN (p104.add (((0 : Int)).toNat * 1)) [.int .u8 (IntKind.wrap .u8 (IntKind.wrap .u32 (48 + y100)))] 0 h fun h105 =>
  Kn  h105
 else
 Kn  h
theorem internal_strconv_formatBase10_j2_ok {Q : Exit → Env → Heap → Prop} (Kn : Heap → Prop) (hKn : ∀  (b : Env) (h : Heap), Kn  h → Q .normal b h) (y98 : Option Addr) (y98n : Nat) (y98c : Nat) (y99 : Int) (y100 : Int) (b : Env) (h : Heap) (hM : internal_strconv_formatBase10_j2 Kn y98 y98n y98c y99 y100 h) : cwp Tryd.prog (partC Tryd.f85 [1, 1, 1, 1, 1]) 167 Q (upd (upd (upd b 0 (.slice y98 y98n y98c)) 4 (.int .i64 y99)) 12 (.int .u32 y100)) h := by
  unfold internal_strconv_formatBase10_j2 at hM
  refine cwp_part rfl ?_
  refine cR ?_
  refine oS [(160, .int .i64 y99), (161, .bool (decide (0 < y99)))] rfl ?_
  refine oE ?_
  refine cwp_condD (0 < y99) (by kernel_rfl) (fun hc101 => ?_) (fun hc101 => ?_)
  · replace hM := ifT hc101 hM
    refine cwp_region ?_
    refine oS [(162, .slice y98 y98n y98c), (163, .int .u32 y100), (164, .int .u32 (IntKind.wrap .u32 (48 + y100))), (165, .int .u8 (IntKind.wrap .u8 (IntKind.wrap .u32 (48 + y100))))] rfl ?_
    obtain ⟨p104, rfl, hM⟩ := hM
    obtain ⟨hc102, hM⟩ := hM
    obtain ⟨hc103, hM⟩ := hM
    refine owp_rdG (.pointer (some (p104.add (((0 : Int)).toNat * 1)))) rfl (by kernel_rfl) (rd_ixS (P := Tryd.prog) (h := h) (t := 66) (el := 5) (sz := 1) (ad := p104) (len := y98n) (c := y98c) (k := .i64) (i := 0) (by kernel_rfl) (by kernel_rfl) hc102 hc103 (by kernel_rfl)) ?_
    refine oT (p104.add (((0 : Int)).toNat * 1)) [.int .u8 (IntKind.wrap .u8 (IntKind.wrap .u32 (48 + y100)))] hM ?_
    clear hM
    intro h105 hM
    refine owp_nil ?_
    exact hKn  _ _ hM
  replace hM := ifF hc101 hM
  refine cwp_skip ?_
  exact hKn  _ _ hM
def internal_strconv_formatBase10_j1 (Kn : Heap → Prop) (y83 : Option Addr) (y83n : Nat) (y83c : Nat) (y84 : Int) (y85 : Int) (h : Heap) : Prop :=
 if 2 ≤ y84 then
  0 ≤ (IntKind.wrap .u32 ((IntKind.wrap .u32 ((Int.tmod y85 100) * 2)) + 1)) ∧
  (IntKind.wrap .u32 ((IntKind.wrap .u32 ((Int.tmod y85 100) * 2)) + 1)) < (lit1.size : Int) ∧
  0 ≤ (IntKind.wrap .u32 ((Int.tmod y85 100) * 2)) ∧
  (IntKind.wrap .u32 ((Int.tmod y85 100) * 2)) < (lit1.size : Int) ∧
  nz y83 fun p93 =>
  0 ≤ (IntKind.wrap .i64 (y84 - 1)) ∧
  (IntKind.wrap .i64 (y84 - 1)) < (y83n : Int) ∧
  stN (p93.add ((IntKind.wrap .i64 (y84 - 1)).toNat * 1)) [.int .u8 (byteAt lit1 (IntKind.wrap .u32 ((IntKind.wrap .u32 ((Int.tmod y85 100) * 2)) + 1)))] 0 h fun h94 =>
  0 ≤ (IntKind.wrap .i64 (y84 - 2)) ∧
  (IntKind.wrap .i64 (y84 - 2)) < (y83n : Int) ∧
  stN (p93.add ((IntKind.wrap .i64 (y84 - 2)).toNat * 1)) [.int .u8 (byteAt lit1 (IntKind.wrap .u32 ((Int.tmod y85 100) * 2)))] 0 h94 fun h97 =>
  internal_strconv_formatBase10_j2
   (fun  h106 =>
       Kn  h106) (some p93) y83n y83c (IntKind.wrap .i64 (y84 - 2)) (IntKind.wrap .u32 (Int.tdiv y85 100)) h97
 else
 internal_strconv_formatBase10_j2
  (fun  h109 =>
      Kn  h109) y83 y83n y83c y84 y85 h
theorem internal_strconv_formatBase10_j1_ok {Q : Exit → Env → Heap → Prop} (Kn : Heap → Prop) (hKn : ∀  (b : Env) (h : Heap), Kn  h → Q .normal b h) (y83 : Option Addr) (y83n : Nat) (y83c : Nat) (y84 : Int) (y85 : Int) (b : Env) (h : Heap) (hM : internal_strconv_formatBase10_j1 Kn y83 y83n y83c y84 y85 h) : cwp Tryd.prog (partC Tryd.f85 [1, 1, 1, 1]) 167 Q (upd (upd (upd b 0 (.slice y83 y83n y83c)) 4 (.int .i64 y84)) 12 (.int .u32 y85)) h := by
  unfold internal_strconv_formatBase10_j1 at hM
  refine cwp_part rfl ?_
  refine cwp_seq (cR ?_)
  refine oS [(138, .int .i64 y84), (139, .bool (decide (2 ≤ y84)))] rfl ?_
  refine oE ?_
  refine cwp_condD (2 ≤ y84) (by kernel_rfl) (fun hc86 => ?_) (fun hc86 => ?_)
  · replace hM := ifT hc86 hM
    refine cR ?_
    refine oS [(140, .int .u32 y85), (141, .int .u32 (Int.tmod y85 100)), (142, .int .u32 (IntKind.wrap .u32 ((Int.tmod y85 100) * 2))), (16, .int .u32 (IntKind.wrap .u32 ((Int.tmod y85 100) * 2)))] rfl ?_
    refine oE (cR ?_)
    refine oS [(143, .int .u32 y85), (144, .int .u32 (IntKind.wrap .u32 (Int.tdiv y85 100))), (12, .int .u32 (IntKind.wrap .u32 (Int.tdiv y85 100)))] rfl ?_
    refine oE (cwp_seq ?_)
    refine cwp_draw (by kernel_rfl) ?_
    refine kp 0 [11, 12, 13, 14] (.slice y83 y83n y83c) ?_
    refine kp 1 [2, 11, 12, 13, 14] (.int .i64 y84) ?_
    refine kp 2 [11, 12, 13, 14] (.int .i64 (IntKind.wrap .i64 (y84 - 1))) ?_
    refine kp 3 [13, 14] (.slice y83 y83n y83c) ?_
    refine kp 4 [5, 13, 14] (.int .i64 y84) ?_
    refine kp 5 [13, 14] (.int .i64 (IntKind.wrap .i64 (y84 - 2))) ?_
    refine kp 6 [7, 8, 11, 12, 13, 14] (.int .u32 (IntKind.wrap .u32 ((Int.tmod y85 100) * 2))) ?_
    refine kp 7 [8, 11, 12, 13, 14] (.int .u32 (IntKind.wrap .u32 ((IntKind.wrap .u32 ((Int.tmod y85 100) * 2)) + 1))) ?_
    obtain ⟨hc87, hM⟩ := hM
    obtain ⟨hc88, hM⟩ := hM
    refine k_pure (i := 8) [11, 12, 13, 14] (.int .u8 (byteAt lit1 (IntKind.wrap .u32 ((IntKind.wrap .u32 ((Int.tmod y85 100) * 2)) + 1)))) (by kernel_rfl) rfl rfl (by kernel_rfl) (fun h' => rd_ixStr (P := Tryd.prog) (h := h') (t := 9) (s := lit1) (k := .u32) (i := (IntKind.wrap .u32 ((IntKind.wrap .u32 ((Int.tmod y85 100) * 2)) + 1))) (by kernel_rfl) hc87 hc88 (by kernel_rfl)) (by kernel_rfl) ?_
    refine kp 9 [10, 13, 14] (.int .u32 (IntKind.wrap .u32 ((Int.tmod y85 100) * 2))) ?_
    obtain ⟨hc89, hM⟩ := hM
    obtain ⟨hc90, hM⟩ := hM
    refine k_pure (i := 10) [13, 14] (.int .u8 (byteAt lit1 (IntKind.wrap .u32 ((Int.tmod y85 100) * 2)))) (by kernel_rfl) rfl rfl (by kernel_rfl) (fun h' => rd_ixStr (P := Tryd.prog) (h := h') (t := 9) (s := lit1) (k := .u32) (i := (IntKind.wrap .u32 ((Int.tmod y85 100) * 2))) (by kernel_rfl) hc89 hc90 (by kernel_rfl)) (by kernel_rfl) ?_
    obtain ⟨p93, rfl, hM⟩ := hM
    obtain ⟨hc91, hM⟩ := hM
    obtain ⟨hc92, hM⟩ := hM
    refine k_pure (i := 11) [12, 13, 14] (.pointer (some (p93.add ((IntKind.wrap .i64 (y84 - 1)).toNat * 1)))) (by kernel_rfl) rfl rfl (by kernel_rfl) (fun h' => rd_ixS (P := Tryd.prog) (h := h') (t := 66) (el := 5) (sz := 1) (ad := p93) (len := y83n) (c := y83c) (k := .i64) (i := (IntKind.wrap .i64 (y84 - 1))) (by kernel_rfl) (by kernel_rfl) hc91 hc92 (by kernel_rfl)) (by kernel_rfl) ?_
    refine k_effD (j := 12) (by kernel_rfl) rfl rfl (by kernel_rfl) (hpSt (p93.add ((IntKind.wrap .i64 (y84 - 1)).toNat * 1)) [.int .u8 (byteAt lit1 (IntKind.wrap .u32 ((IntKind.wrap .u32 ((Int.tmod y85 100) * 2)) + 1)))] (fun _ => by kernel_rfl) (by kernel_rfl) hM ?_)
    clear hM
    intro h94 hM
    refine ⟨trivial, ?_⟩
    obtain ⟨hc95, hM⟩ := hM
    obtain ⟨hc96, hM⟩ := hM
    refine k_pure (i := 13) [14] (.pointer (some (p93.add ((IntKind.wrap .i64 (y84 - 2)).toNat * 1)))) (by kernel_rfl) rfl rfl (by kernel_rfl) (fun h' => rd_ixS (P := Tryd.prog) (h := h') (t := 66) (el := 5) (sz := 1) (ad := p93) (len := y83n) (c := y83c) (k := .i64) (i := (IntKind.wrap .i64 (y84 - 2))) (by kernel_rfl) (by kernel_rfl) hc95 hc96 (by kernel_rfl)) (by kernel_rfl) ?_
    refine k_effD (j := 14) (by kernel_rfl) rfl rfl (by kernel_rfl) (hpSt (p93.add ((IntKind.wrap .i64 (y84 - 2)).toNat * 1)) [.int .u8 (byteAt lit1 (IntKind.wrap .u32 ((Int.tmod y85 100) * 2)))] (fun _ => by kernel_rfl) (by kernel_rfl) hM ?_)
    clear hM
    intro h97 hM
    refine ⟨trivial, ?_⟩
    refine k_done (by kernel_rfl) ?_
    refine thenE_n (cwp_region ?_)
    refine oS [(158, .int .i64 y84), (159, .int .i64 (IntKind.wrap .i64 (y84 - 2))), (4, .int .i64 (IntKind.wrap .i64 (y84 - 2)))] rfl ?_
    refine oE ?_
    refine cwp_of_part (fn := Tryd.f85) (p := [1, 1, 1, 1, 1]) (by kernel_rfl) (cwp_at 0 (.slice (some p93) y83n y83c) (by kernel_rfl) (cwp_at 4 (.int .i64 (IntKind.wrap .i64 (y84 - 2))) (by kernel_rfl) (cwp_at 12 (.int .u32 (IntKind.wrap .u32 (Int.tdiv y85 100))) (by kernel_rfl) (internal_strconv_formatBase10_j2_ok _ ?_ (some p93) y83n y83c (IntKind.wrap .i64 (y84 - 2)) (IntKind.wrap .u32 (Int.tdiv y85 100)) _ _ hM))))
    · intro  b107 h106 hM
      exact hKn  _ _ hM
  replace hM := ifF hc86 hM
  refine cwp_skip (thenE_n ?_)
  refine cwp_of_part (fn := Tryd.f85) (p := [1, 1, 1, 1, 1]) (by kernel_rfl) (cwp_at 0 (.slice y83 y83n y83c) (by kernel_rfl) (cwp_at 4 (.int .i64 y84) (by kernel_rfl) (cwp_at 12 (.int .u32 y85) (by kernel_rfl) (internal_strconv_formatBase10_j2_ok _ ?_ y83 y83n y83c y84 y85 _ _ hM))))
  · intro  b110 h109 hM
    exact hKn  _ _ hM
def internal_strconv_formatBase10 (a1 : Option Addr) (a1n : Nat) (a1c : Nat) (a2 : Int) (K : Heap → Prop) (h : Heap) : Prop :=
 ∃ k119, internal_strconv_formatBase10_l0
  (fun z57 z57n z57c z58 z59 h60 =>
    if 4 ≤ z59 then
     0 ≤ (IntKind.wrap .u32 ((IntKind.wrap .u32 ((Int.tmod (Int.tmod (IntKind.wrap .u32 (z58)) 10000) 100) * 2)) + 1)) ∧
     (IntKind.wrap .u32 ((IntKind.wrap .u32 ((Int.tmod (Int.tmod (IntKind.wrap .u32 (z58)) 10000) 100) * 2)) + 1)) < (lit1.size : Int) ∧
     0 ≤ (IntKind.wrap .u32 ((Int.tmod (Int.tmod (IntKind.wrap .u32 (z58)) 10000) 100) * 2)) ∧
     (IntKind.wrap .u32 ((Int.tmod (Int.tmod (IntKind.wrap .u32 (z58)) 10000) 100) * 2)) < (lit1.size : Int) ∧
     nz z57 fun p68 =>
     0 ≤ (IntKind.wrap .i64 (z59 - 1)) ∧
     (IntKind.wrap .i64 (z59 - 1)) < (z57n : Int) ∧
     stN (p68.add ((IntKind.wrap .i64 (z59 - 1)).toNat * 1)) [.int .u8 (byteAt lit1 (IntKind.wrap .u32 ((IntKind.wrap .u32 ((Int.tmod (Int.tmod (IntKind.wrap .u32 (z58)) 10000) 100) * 2)) + 1)))] 0 h60 fun h69 =>
     0 ≤ (IntKind.wrap .i64 (z59 - 2)) ∧
     (IntKind.wrap .i64 (z59 - 2)) < (z57n : Int) ∧
     stN (p68.add ((IntKind.wrap .i64 (z59 - 2)).toNat * 1)) [.int .u8 (byteAt lit1 (IntKind.wrap .u32 ((Int.tmod (Int.tmod (IntKind.wrap .u32 (z58)) 10000) 100) * 2)))] 0 h69 fun h72 =>
     0 ≤ (IntKind.wrap .u32 ((IntKind.wrap .u32 ((IntKind.wrap .u32 (Int.tdiv (Int.tmod (IntKind.wrap .u32 (z58)) 10000) 100)) * 2)) + 1)) ∧
     (IntKind.wrap .u32 ((IntKind.wrap .u32 ((IntKind.wrap .u32 (Int.tdiv (Int.tmod (IntKind.wrap .u32 (z58)) 10000) 100)) * 2)) + 1)) < (lit1.size : Int) ∧
     0 ≤ (IntKind.wrap .u32 ((IntKind.wrap .u32 (Int.tdiv (Int.tmod (IntKind.wrap .u32 (z58)) 10000) 100)) * 2)) ∧
     (IntKind.wrap .u32 ((IntKind.wrap .u32 (Int.tdiv (Int.tmod (IntKind.wrap .u32 (z58)) 10000) 100)) * 2)) < (lit1.size : Int) ∧
     0 ≤ (IntKind.wrap .i64 (z59 - 3)) ∧
     (IntKind.wrap .i64 (z59 - 3)) < (z57n : Int) ∧
     stN (p68.add ((IntKind.wrap .i64 (z59 - 3)).toNat * 1)) [.int .u8 (byteAt lit1 (IntKind.wrap .u32 ((IntKind.wrap .u32 ((IntKind.wrap .u32 (Int.tdiv (Int.tmod (IntKind.wrap .u32 (z58)) 10000) 100)) * 2)) + 1)))] 0 h72 fun h79 =>
     0 ≤ (IntKind.wrap .i64 (z59 - 4)) ∧
     (IntKind.wrap .i64 (z59 - 4)) < (z57n : Int) ∧
     stN (p68.add ((IntKind.wrap .i64 (z59 - 4)).toNat * 1)) [.int .u8 (byteAt lit1 (IntKind.wrap .u32 ((IntKind.wrap .u32 (Int.tdiv (Int.tmod (IntKind.wrap .u32 (z58)) 10000) 100)) * 2)))] 0 h79 fun h82 =>
     internal_strconv_formatBase10_j1
      (fun  h112 =>
          K h112) (some p68) z57n z57c (IntKind.wrap .i64 (z59 - 4)) (IntKind.wrap .u32 (Int.tdiv (IntKind.wrap .u32 (z58)) 10000)) h82
    else
    internal_strconv_formatBase10_j1
     (fun  h115 =>
           K h115) z57 z57n z57c z59 (IntKind.wrap .u32 (z58)) h60) k119 a1 a1n a1c a2 (a1n : Int) h
theorem internal_strconv_formatBase10_ok (a1 : Option Addr) (a1n : Nat) (a1c : Nat) (a2 : Int) (K : Heap → Prop) (h : Heap) (hM : internal_strconv_formatBase10 a1 a1n a1c a2 K h) : CallsH Tryd.prog 85 #[.slice a1 a1n a1c, .int .u64 a2] (fun v h' => v = .tuple #[] ∧ K h') h := by
 unfold internal_strconv_formatBase10 at hM
 refine callsH_intro (n := 167) Tryd.func85 rfl rfl (by kernel_rfl) ?_
 refine cR ?_
 refine oS [(17, .slice a1 a1n a1c), (18, .int .i64 (a1n : Int)), (4, .int .i64 (a1n : Int))] rfl ?_
 refine oE (cwp_seq (cwp_block ?_))
 obtain ⟨k_, hM⟩ := hM
 refine cwp_loop k_ (lwp_of_part (fn := Tryd.f85) (p := [1, 0, 0, 0]) (by kernel_rfl) (lwp_at 0 (.slice a1 a1n a1c) (by kernel_rfl) (lwp_at 1 (.int .u64 a2) (by kernel_rfl) (lwp_at 4 (.int .i64 (a1n : Int)) (by kernel_rfl) (internal_strconv_formatBase10_l0_ok _ ?_ k_ a1 a1n a1c a2 (a1n : Int) _ _ hM)))))
 · intro z57 z57n z57c z58 z59 b118 h60 hM
   refine blockE_h (thenE_n (cR ?_))
   refine oS [(96, .int .u64 z58), (97, .int .u32 (IntKind.wrap .u32 (z58))), (12, .int .u32 (IntKind.wrap .u32 (z58)))] rfl ?_
   refine oE (cwp_seq (cR ?_))
   refine oS [(98, .int .i64 z59), (99, .bool (decide (4 ≤ z59)))] rfl ?_
   refine oE ?_
   refine cwp_condD (4 ≤ z59) (by kernel_rfl) (fun hc61 => ?_) (fun hc61 => ?_)
   · replace hM := ifT hc61 hM
     refine cR ?_
     refine oS [(100, .int .u32 (IntKind.wrap .u32 (z58))), (101, .int .u32 (Int.tmod (IntKind.wrap .u32 (z58)) 10000)), (13, .int .u32 (Int.tmod (IntKind.wrap .u32 (z58)) 10000))] rfl ?_
     refine oE (cR ?_)
     refine oS [(102, .int .u32 (IntKind.wrap .u32 (z58))), (103, .int .u32 (IntKind.wrap .u32 (Int.tdiv (IntKind.wrap .u32 (z58)) 10000))), (12, .int .u32 (IntKind.wrap .u32 (Int.tdiv (IntKind.wrap .u32 (z58)) 10000)))] rfl ?_
     refine oE (cR ?_)
     refine oS [(104, .int .u32 (Int.tmod (IntKind.wrap .u32 (z58)) 10000)), (105, .int .u32 (IntKind.wrap .u32 (Int.tdiv (Int.tmod (IntKind.wrap .u32 (z58)) 10000) 100))), (106, .int .u32 (IntKind.wrap .u32 ((IntKind.wrap .u32 (Int.tdiv (Int.tmod (IntKind.wrap .u32 (z58)) 10000) 100)) * 2))), (107, .int .u32 (Int.tmod (IntKind.wrap .u32 (z58)) 10000)), (108, .int .u32 (Int.tmod (Int.tmod (IntKind.wrap .u32 (z58)) 10000) 100)), (109, .int .u32 (IntKind.wrap .u32 ((Int.tmod (Int.tmod (IntKind.wrap .u32 (z58)) 10000) 100) * 2))), (14, .int .u32 (IntKind.wrap .u32 ((IntKind.wrap .u32 (Int.tdiv (Int.tmod (IntKind.wrap .u32 (z58)) 10000) 100)) * 2))), (15, .int .u32 (IntKind.wrap .u32 ((Int.tmod (Int.tmod (IntKind.wrap .u32 (z58)) 10000) 100) * 2)))] rfl ?_
     refine oE (cwp_seq ?_)
     refine cwp_draw (by kernel_rfl) ?_
     refine kp 0 [11, 12, 13, 14] (.slice z57 z57n z57c) ?_
     refine kp 1 [2, 11, 12, 13, 14] (.int .i64 z59) ?_
     refine kp 2 [11, 12, 13, 14] (.int .i64 (IntKind.wrap .i64 (z59 - 1))) ?_
     refine kp 3 [13, 14] (.slice z57 z57n z57c) ?_
     refine kp 4 [5, 13, 14] (.int .i64 z59) ?_
     refine kp 5 [13, 14] (.int .i64 (IntKind.wrap .i64 (z59 - 2))) ?_
     refine kp 6 [7, 8, 11, 12, 13, 14] (.int .u32 (IntKind.wrap .u32 ((Int.tmod (Int.tmod (IntKind.wrap .u32 (z58)) 10000) 100) * 2))) ?_
     refine kp 7 [8, 11, 12, 13, 14] (.int .u32 (IntKind.wrap .u32 ((IntKind.wrap .u32 ((Int.tmod (Int.tmod (IntKind.wrap .u32 (z58)) 10000) 100) * 2)) + 1))) ?_
     obtain ⟨hc62, hM⟩ := hM
     obtain ⟨hc63, hM⟩ := hM
     refine k_pure (i := 8) [11, 12, 13, 14] (.int .u8 (byteAt lit1 (IntKind.wrap .u32 ((IntKind.wrap .u32 ((Int.tmod (Int.tmod (IntKind.wrap .u32 (z58)) 10000) 100) * 2)) + 1)))) (by kernel_rfl) rfl rfl (by kernel_rfl) (fun h' => rd_ixStr (P := Tryd.prog) (h := h') (t := 9) (s := lit1) (k := .u32) (i := (IntKind.wrap .u32 ((IntKind.wrap .u32 ((Int.tmod (Int.tmod (IntKind.wrap .u32 (z58)) 10000) 100) * 2)) + 1))) (by kernel_rfl) hc62 hc63 (by kernel_rfl)) (by kernel_rfl) ?_
     refine kp 9 [10, 13, 14] (.int .u32 (IntKind.wrap .u32 ((Int.tmod (Int.tmod (IntKind.wrap .u32 (z58)) 10000) 100) * 2))) ?_
     obtain ⟨hc64, hM⟩ := hM
     obtain ⟨hc65, hM⟩ := hM
     refine k_pure (i := 10) [13, 14] (.int .u8 (byteAt lit1 (IntKind.wrap .u32 ((Int.tmod (Int.tmod (IntKind.wrap .u32 (z58)) 10000) 100) * 2)))) (by kernel_rfl) rfl rfl (by kernel_rfl) (fun h' => rd_ixStr (P := Tryd.prog) (h := h') (t := 9) (s := lit1) (k := .u32) (i := (IntKind.wrap .u32 ((Int.tmod (Int.tmod (IntKind.wrap .u32 (z58)) 10000) 100) * 2))) (by kernel_rfl) hc64 hc65 (by kernel_rfl)) (by kernel_rfl) ?_
     obtain ⟨p68, rfl, hM⟩ := hM
     obtain ⟨hc66, hM⟩ := hM
     obtain ⟨hc67, hM⟩ := hM
     refine k_pure (i := 11) [12, 13, 14] (.pointer (some (p68.add ((IntKind.wrap .i64 (z59 - 1)).toNat * 1)))) (by kernel_rfl) rfl rfl (by kernel_rfl) (fun h' => rd_ixS (P := Tryd.prog) (h := h') (t := 66) (el := 5) (sz := 1) (ad := p68) (len := z57n) (c := z57c) (k := .i64) (i := (IntKind.wrap .i64 (z59 - 1))) (by kernel_rfl) (by kernel_rfl) hc66 hc67 (by kernel_rfl)) (by kernel_rfl) ?_
     refine k_effD (j := 12) (by kernel_rfl) rfl rfl (by kernel_rfl) (hpSt (p68.add ((IntKind.wrap .i64 (z59 - 1)).toNat * 1)) [.int .u8 (byteAt lit1 (IntKind.wrap .u32 ((IntKind.wrap .u32 ((Int.tmod (Int.tmod (IntKind.wrap .u32 (z58)) 10000) 100) * 2)) + 1)))] (fun _ => by kernel_rfl) (by kernel_rfl) hM ?_)
     clear hM
     intro h69 hM
     refine ⟨trivial, ?_⟩
     obtain ⟨hc70, hM⟩ := hM
     obtain ⟨hc71, hM⟩ := hM
     refine k_pure (i := 13) [14] (.pointer (some (p68.add ((IntKind.wrap .i64 (z59 - 2)).toNat * 1)))) (by kernel_rfl) rfl rfl (by kernel_rfl) (fun h' => rd_ixS (P := Tryd.prog) (h := h') (t := 66) (el := 5) (sz := 1) (ad := p68) (len := z57n) (c := z57c) (k := .i64) (i := (IntKind.wrap .i64 (z59 - 2))) (by kernel_rfl) (by kernel_rfl) hc70 hc71 (by kernel_rfl)) (by kernel_rfl) ?_
     refine k_effD (j := 14) (by kernel_rfl) rfl rfl (by kernel_rfl) (hpSt (p68.add ((IntKind.wrap .i64 (z59 - 2)).toNat * 1)) [.int .u8 (byteAt lit1 (IntKind.wrap .u32 ((Int.tmod (Int.tmod (IntKind.wrap .u32 (z58)) 10000) 100) * 2)))] (fun _ => by kernel_rfl) (by kernel_rfl) hM ?_)
     clear hM
     intro h72 hM
     refine ⟨trivial, ?_⟩
     refine k_done (by kernel_rfl) ?_
     refine thenE_n (cwp_seq ?_)
     refine cwp_draw (by kernel_rfl) ?_
     refine kp 0 [11, 12, 13, 14] (.slice (some p68) z57n z57c) ?_
     refine kp 1 [2, 11, 12, 13, 14] (.int .i64 z59) ?_
     refine kp 2 [11, 12, 13, 14] (.int .i64 (IntKind.wrap .i64 (z59 - 3))) ?_
     refine kp 3 [13, 14] (.slice (some p68) z57n z57c) ?_
     refine kp 4 [5, 13, 14] (.int .i64 z59) ?_
     refine kp 5 [13, 14] (.int .i64 (IntKind.wrap .i64 (z59 - 4))) ?_
     refine kp 6 [7, 8, 11, 12, 13, 14] (.int .u32 (IntKind.wrap .u32 ((IntKind.wrap .u32 (Int.tdiv (Int.tmod (IntKind.wrap .u32 (z58)) 10000) 100)) * 2))) ?_
     refine kp 7 [8, 11, 12, 13, 14] (.int .u32 (IntKind.wrap .u32 ((IntKind.wrap .u32 ((IntKind.wrap .u32 (Int.tdiv (Int.tmod (IntKind.wrap .u32 (z58)) 10000) 100)) * 2)) + 1))) ?_
     obtain ⟨hc73, hM⟩ := hM
     obtain ⟨hc74, hM⟩ := hM
     refine k_pure (i := 8) [11, 12, 13, 14] (.int .u8 (byteAt lit1 (IntKind.wrap .u32 ((IntKind.wrap .u32 ((IntKind.wrap .u32 (Int.tdiv (Int.tmod (IntKind.wrap .u32 (z58)) 10000) 100)) * 2)) + 1)))) (by kernel_rfl) rfl rfl (by kernel_rfl) (fun h' => rd_ixStr (P := Tryd.prog) (h := h') (t := 9) (s := lit1) (k := .u32) (i := (IntKind.wrap .u32 ((IntKind.wrap .u32 ((IntKind.wrap .u32 (Int.tdiv (Int.tmod (IntKind.wrap .u32 (z58)) 10000) 100)) * 2)) + 1))) (by kernel_rfl) hc73 hc74 (by kernel_rfl)) (by kernel_rfl) ?_
     refine kp 9 [10, 13, 14] (.int .u32 (IntKind.wrap .u32 ((IntKind.wrap .u32 (Int.tdiv (Int.tmod (IntKind.wrap .u32 (z58)) 10000) 100)) * 2))) ?_
     obtain ⟨hc75, hM⟩ := hM
     obtain ⟨hc76, hM⟩ := hM
     refine k_pure (i := 10) [13, 14] (.int .u8 (byteAt lit1 (IntKind.wrap .u32 ((IntKind.wrap .u32 (Int.tdiv (Int.tmod (IntKind.wrap .u32 (z58)) 10000) 100)) * 2)))) (by kernel_rfl) rfl rfl (by kernel_rfl) (fun h' => rd_ixStr (P := Tryd.prog) (h := h') (t := 9) (s := lit1) (k := .u32) (i := (IntKind.wrap .u32 ((IntKind.wrap .u32 (Int.tdiv (Int.tmod (IntKind.wrap .u32 (z58)) 10000) 100)) * 2))) (by kernel_rfl) hc75 hc76 (by kernel_rfl)) (by kernel_rfl) ?_
     obtain ⟨hc77, hM⟩ := hM
     obtain ⟨hc78, hM⟩ := hM
     refine k_pure (i := 11) [12, 13, 14] (.pointer (some (p68.add ((IntKind.wrap .i64 (z59 - 3)).toNat * 1)))) (by kernel_rfl) rfl rfl (by kernel_rfl) (fun h' => rd_ixS (P := Tryd.prog) (h := h') (t := 66) (el := 5) (sz := 1) (ad := p68) (len := z57n) (c := z57c) (k := .i64) (i := (IntKind.wrap .i64 (z59 - 3))) (by kernel_rfl) (by kernel_rfl) hc77 hc78 (by kernel_rfl)) (by kernel_rfl) ?_
     refine k_effD (j := 12) (by kernel_rfl) rfl rfl (by kernel_rfl) (hpSt (p68.add ((IntKind.wrap .i64 (z59 - 3)).toNat * 1)) [.int .u8 (byteAt lit1 (IntKind.wrap .u32 ((IntKind.wrap .u32 ((IntKind.wrap .u32 (Int.tdiv (Int.tmod (IntKind.wrap .u32 (z58)) 10000) 100)) * 2)) + 1)))] (fun _ => by kernel_rfl) (by kernel_rfl) hM ?_)
     clear hM
     intro h79 hM
     refine ⟨trivial, ?_⟩
     obtain ⟨hc80, hM⟩ := hM
     obtain ⟨hc81, hM⟩ := hM
     refine k_pure (i := 13) [14] (.pointer (some (p68.add ((IntKind.wrap .i64 (z59 - 4)).toNat * 1)))) (by kernel_rfl) rfl rfl (by kernel_rfl) (fun h' => rd_ixS (P := Tryd.prog) (h := h') (t := 66) (el := 5) (sz := 1) (ad := p68) (len := z57n) (c := z57c) (k := .i64) (i := (IntKind.wrap .i64 (z59 - 4))) (by kernel_rfl) (by kernel_rfl) hc80 hc81 (by kernel_rfl)) (by kernel_rfl) ?_
     refine k_effD (j := 14) (by kernel_rfl) rfl rfl (by kernel_rfl) (hpSt (p68.add ((IntKind.wrap .i64 (z59 - 4)).toNat * 1)) [.int .u8 (byteAt lit1 (IntKind.wrap .u32 ((IntKind.wrap .u32 (Int.tdiv (Int.tmod (IntKind.wrap .u32 (z58)) 10000) 100)) * 2)))] (fun _ => by kernel_rfl) (by kernel_rfl) hM ?_)
     clear hM
     intro h82 hM
     refine ⟨trivial, ?_⟩
     refine k_done (by kernel_rfl) ?_
     refine thenE_n (cwp_region ?_)
     refine oS [(136, .int .i64 z59), (137, .int .i64 (IntKind.wrap .i64 (z59 - 4))), (4, .int .i64 (IntKind.wrap .i64 (z59 - 4)))] rfl ?_
     refine oE ?_
     refine cwp_of_part (fn := Tryd.f85) (p := [1, 1, 1, 1]) (by kernel_rfl) (cwp_at 0 (.slice (some p68) z57n z57c) (by kernel_rfl) (cwp_at 4 (.int .i64 (IntKind.wrap .i64 (z59 - 4))) (by kernel_rfl) (cwp_at 12 (.int .u32 (IntKind.wrap .u32 (Int.tdiv (IntKind.wrap .u32 (z58)) 10000))) (by kernel_rfl) (internal_strconv_formatBase10_j1_ok _ ?_ (some p68) z57n z57c (IntKind.wrap .i64 (z59 - 4)) (IntKind.wrap .u32 (Int.tdiv (IntKind.wrap .u32 (z58)) 10000)) _ _ hM))))
     · intro  b113 h112 hM
       exact end_ (.tuple #[]) (by kernel_rfl) ⟨rfl, hM⟩
   replace hM := ifF hc61 hM
   refine cwp_skip (thenE_n ?_)
   refine cwp_of_part (fn := Tryd.f85) (p := [1, 1, 1, 1]) (by kernel_rfl) (cwp_at 0 (.slice z57 z57n z57c) (by kernel_rfl) (cwp_at 4 (.int .i64 z59) (by kernel_rfl) (cwp_at 12 (.int .u32 (IntKind.wrap .u32 (z58))) (by kernel_rfl) (internal_strconv_formatBase10_j1_ok _ ?_ z57 z57n z57c z59 (IntKind.wrap .u32 (z58)) _ _ hM))))
   · intro  b116 h115 hM
     exact end_ (.tuple #[]) (by kernel_rfl) ⟨rfl, hM⟩
/- internal/strconv.FormatInt -/
def internal_strconv_FormatInt_j0 (Kr : ByteArray → Heap → Prop) (y17 : Int) (y18 : Nat) (y19 : Int) (h : Heap) : Prop :=
 internal_strconv_numDigits y19 (fun x21 h20 =>
  0 ≤ (IntKind.wrap .i64 (1 + x21)) ∧
  (IntKind.wrap .i64 (1 + x21)) ≤ (24 : Int) ∧
  (1 : Int) ≤ (IntKind.wrap .i64 (1 + x21)) ∧
  internal_strconv_formatBase10 (cutA (some ⟨y18, 0, none⟩) 24 (1 : Int).toNat 1) ((IntKind.wrap .i64 (1 + x21)).toNat - (1 : Int).toNat) (24 - (1 : Int).toNat) y19 (fun  h25 =>
   if y17 < 0 then
    stN ⟨y18, 0, none⟩ [.int .u8 45] 0 h25 fun h27 =>
    0 ≤ (IntKind.wrap .i64 (1 + x21)) ∧
    (IntKind.wrap .i64 (1 + x21)) ≤ (24 : Int) ∧
    bytM h27 (some ⟨y18, 0, none⟩) ((IntKind.wrap .i64 (1 + x21)).toNat) fun x30 =>
    Kr x30 h27
   else
   0 ≤ (IntKind.wrap .i64 (1 + x21)) ∧
   (IntKind.wrap .i64 (1 + x21)) ≤ (24 : Int) ∧
   (1 : Int) ≤ (IntKind.wrap .i64 (1 + x21)) ∧
   bytM h25 (cutA (some ⟨y18, 0, none⟩) 24 (1 : Int).toNat 1) ((IntKind.wrap .i64 (1 + x21)).toNat - (1 : Int).toNat) fun x36 =>
     Kr x36 h25) h20) h
theorem internal_strconv_FormatInt_j0_ok {Q : Exit → Env → Heap → Prop} (Kr : ByteArray → Heap → Prop) (hKr : ∀ (z39 : ByteArray) (b : Env) (h : Heap), Kr z39 h → Q .ret (upd b 4 (.string z39)) h) (y17 : Int) (y18 : Nat) (y19 : Int) (b : Env) (h : Heap) (hM : internal_strconv_FormatInt_j0 Kr y17 y18 y19 h) : cwp Tryd.prog (partC Tryd.f82 [1, 0, 1, 0, 1, 1, 1, 1]) 54 Q (upd (upd (upd b 0 (.int .i64 y17)) 5 (.pointer (some ⟨y18, 0, none⟩))) 6 (.int .u64 y19)) h := by
  unfold internal_strconv_FormatInt_j0 at hM
  refine cwp_part rfl ?_
  refine cR ?_
  refine oS [(26, .int .u64 y19)] rfl ?_
  refine oG (hpCallE 84 #[.int .u64 y19] (by kernel_rfl) (internal_strconv_numDigits_ok y19 _ h hM) ?_)
  clear hM
  rintro _ h20 ⟨x21, rfl, hM⟩
  refine oS [(7, .int .i64 x21)] rfl ?_
  refine oE (cR ?_)
  refine oS [(28, .int .i64 x21), (29, .int .i64 (IntKind.wrap .i64 (1 + x21)))] rfl ?_
  obtain ⟨hc22, hM⟩ := hM
  obtain ⟨hc23, hM⟩ := hM
  obtain ⟨hc24, hM⟩ := hM
  refine owp_rdG (.slice (cutA (some ⟨y18, 0, none⟩) 24 (1 : Int).toNat 1) ((IntKind.wrap .i64 (1 + x21)).toNat - (1 : Int).toNat) (24 - (1 : Int).toNat)) rfl (by kernel_rfl) (rd_sALH (P := Tryd.prog) (h := h20) (t := 120) (el := 5) (sz := 1) (m := 24) (a := ⟨y18, 0, none⟩) (k := .i64) (k' := .i64) (i := (1 : Int)) (j := (IntKind.wrap .i64 (1 + x21))) (by kernel_rfl) (by kernel_rfl) hc22 hc23 (by decide) hc24 (by kernel_rfl)) ?_
  refine oS [(31, .int .u64 y19)] rfl ?_
  refine oG (hpCallE 85 #[.slice (cutA (some ⟨y18, 0, none⟩) 24 (1 : Int).toNat 1) ((IntKind.wrap .i64 (1 + x21)).toNat - (1 : Int).toNat) (24 - (1 : Int).toNat), .int .u64 y19] (by kernel_rfl) (internal_strconv_formatBase10_ok (cutA (some ⟨y18, 0, none⟩) 24 (1 : Int).toNat 1) ((IntKind.wrap .i64 (1 + x21)).toNat - (1 : Int).toNat) (24 - (1 : Int).toNat) y19 _ h20 hM) ?_)
  clear hM
  rintro _ h25 ⟨rfl, hM⟩
  refine oE (cwp_seq (cR ?_))
  refine oS [(33, .int .i64 y17), (34, .bool (decide (y17 < 0)))] rfl ?_
  refine oE ?_
  refine cwp_condD (y17 < 0) (by kernel_rfl) (fun hc26 => ?_) (fun hc26 => ?_)
  · replace hM := ifT hc26 hM
    refine cR ?_
    refine oS [(35, .pointer (some ⟨y18, 0, none⟩))] rfl ?_
    refine oT ⟨y18, 0, none⟩ [.int .u8 45] hM ?_
    clear hM
    intro h27 hM
    refine oE (cR ?_)
    refine oS [(36, .int .i64 x21), (37, .int .i64 (IntKind.wrap .i64 (1 + x21)))] rfl ?_
    obtain ⟨hc28, hM⟩ := hM
    obtain ⟨hc29, hM⟩ := hM
    refine owp_rdG (.slice (some ⟨y18, 0, none⟩) ((IntKind.wrap .i64 (1 + x21)).toNat) 24) rfl (by kernel_rfl) (rd_sAHi (P := Tryd.prog) (h := h27) (t := 120) (el := 5) (sz := 1) (m := 24) (a := ⟨y18, 0, none⟩) (k := .i64) (i := (IntKind.wrap .i64 (1 + x21))) (by kernel_rfl) (by kernel_rfl) (by decide) hc28 hc29 (by kernel_rfl)) ?_
    obtain ⟨x30, hx31, hM⟩ := hM
    refine owp_rdG (.string x30) rfl (by kernel_rfl) (rd_bytS (P := Tryd.prog) (h := h27) (a := (some ⟨y18, 0, none⟩)) (n := ((IntKind.wrap .i64 (1 + x21)).toNat)) (c := 24) hx31 (by kernel_rfl)) ?_
    refine oS [(4, .string x30)] rfl ?_
    refine oE (cwp_ret (thenE_r ?_))
    exact q_at (Q := Q .ret) 4 (.string x30) (by kernel_rfl) (hKr x30 _ _ hM)
  replace hM := ifF hc26 hM
  refine cwp_skip (thenE_n (cR ?_))
  refine oS [(40, .int .i64 x21), (41, .int .i64 (IntKind.wrap .i64 (1 + x21)))] rfl ?_
  obtain ⟨hc33, hM⟩ := hM
  obtain ⟨hc34, hM⟩ := hM
  obtain ⟨hc35, hM⟩ := hM
  refine owp_rdG (.slice (cutA (some ⟨y18, 0, none⟩) 24 (1 : Int).toNat 1) ((IntKind.wrap .i64 (1 + x21)).toNat - (1 : Int).toNat) (24 - (1 : Int).toNat)) rfl (by kernel_rfl) (rd_sALH (P := Tryd.prog) (h := h25) (t := 120) (el := 5) (sz := 1) (m := 24) (a := ⟨y18, 0, none⟩) (k := .i64) (k' := .i64) (i := (1 : Int)) (j := (IntKind.wrap .i64 (1 + x21))) (by kernel_rfl) (by kernel_rfl) hc33 hc34 (by decide) hc35 (by kernel_rfl)) ?_
  obtain ⟨x36, hx37, hM⟩ := hM
  refine owp_rdG (.string x36) rfl (by kernel_rfl) (rd_bytS (P := Tryd.prog) (h := h25) (a := (cutA (some ⟨y18, 0, none⟩) 24 (1 : Int).toNat 1)) (n := ((IntKind.wrap .i64 (1 + x21)).toNat - (1 : Int).toNat)) (c := (24 - (1 : Int).toNat)) hx37 (by kernel_rfl)) ?_
  refine oS [(4, .string x36)] rfl ?_
  refine oE (cwp_ret ?_)
  exact q_at (Q := Q .ret) 4 (.string x36) (by kernel_rfl) (hKr x36 _ _ hM)
def internal_strconv_FormatInt (a1 : Int) (a2 : Int) (K : ByteArray → Heap → Prop) (h : Heap) : Prop :=
 if a2 = 10 then
  if ((decide (0 ≤ a1)) && (decide (a1 < 100))) = true then
   ex (internal_strconv_small a1) fun r11 =>
   gap h fun h9 =>
   K r11 h9
  else
  newB h #[.int .u8 0, .int .u8 0, .int .u8 0, .int .u8 0, .int .u8 0, .int .u8 0, .int .u8 0, .int .u8 0, .int .u8 0, .int .u8 0, .int .u8 0, .int .u8 0, .int .u8 0, .int .u8 0, .int .u8 0, .int .u8 0, .int .u8 0, .int .u8 0, .int .u8 0, .int .u8 0, .int .u8 0, .int .u8 0, .int .u8 0, .int .u8 0] 120 fun b13 h14 =>
  if a1 < 0 then
   internal_strconv_FormatInt_j0
    (fun z40 h41 =>
        K z40 h41) a1 b13 (IntKind.wrap .u64 (0 - (IntKind.wrap .u64 (a1)))) h14
  else
  internal_strconv_FormatInt_j0
   (fun z44 h45 =>
       K z44 h45) a1 b13 (IntKind.wrap .u64 (a1)) h14
 else
 False
theorem internal_strconv_FormatInt_ok (a1 : Int) (a2 : Int) (K : ByteArray → Heap → Prop) (h : Heap) (hM : internal_strconv_FormatInt a1 a2 K h) : CallsH Tryd.prog 82 #[.int .i64 a1, .int .i64 a2] (fun v h' => ∃ (r48 : ByteArray), v = .string r48 ∧ K r48 h') h := by
 unfold internal_strconv_FormatInt at hM
 refine callsH_intro (n := 54) Tryd.func82 rfl rfl (by kernel_rfl) ?_
 refine cR ?_
 refine oS [(4, .string (⟨#[]⟩ : ByteArray))] rfl ?_
 refine oE (cwp_seq (cR ?_))
 refine oS [(10, .int .i64 a2), (11, .bool (decide (a2 = 10)))] rfl ?_
 refine oE ?_
 refine cwp_condD (a2 = 10) (by kernel_rfl) (fun hc3 => ?_) (fun hc3 => ?_)
 · replace hM := ifT hc3 hM
   refine cwp_seq (cR ?_)
   refine oS [(12, .int .i64 a1), (13, .bool (decide (0 ≤ a1))), (14, .bool (decide (0 ≤ a1)))] rfl ?_
   refine oB (decide (0 ≤ a1)) 3 [13, 14] (fun b_ => [(15, iteV b_ (.int .i64 a1 : Value) undef), (16, iteV b_ (.bool (decide (a1 < 100)) : Value) undef), (17, .bool (b_ && (decide (a1 < 100))))]) rfl (fun hb4 hq5 => oS [(15, .int .i64 a1), (16, .bool (decide (a1 < 100))), (17, .bool (decide (a1 < 100)))] rfl (hq5)) (fun hb6 hq7 => oS [(15, undef), (16, undef), (17, .bool false)] rfl (hq7)) ?_
   refine oE ?_
   refine cwp_condB ((decide (0 ≤ a1)) && (decide (a1 < 100))) (by kernel_rfl) (fun hc8 => ?_) (fun hc8 => ?_)
   · replace hM := ifT hc8 hM
     refine cR ?_
     refine oS [(18, .int .i64 a1)] rfl ?_
     obtain ⟨r11, hr12, hM⟩ := hM
     refine oG (hpCallP 83 #[.int .i64 a1] (.string r11) (by kernel_rfl) (internal_strconv_small_ok a1 r11 h hr12) ?_)
     intro h9 hx10
     refine oS [(4, .string r11)] rfl ?_
     refine oE (cwp_ret (thenE_r (thenE_r ?_)))
     replace hM := hM _ hx10
     exact ret_ (.string r11) (by kernel_rfl) ⟨_, rfl, hM⟩
   replace hM := ifF hc8 hM
   refine cwp_skip (thenE_n (cR ?_))
   refine oG (hpNew #[.int .u8 0, .int .u8 0, .int .u8 0, .int .u8 0, .int .u8 0, .int .u8 0, .int .u8 0, .int .u8 0, .int .u8 0, .int .u8 0, .int .u8 0, .int .u8 0, .int .u8 0, .int .u8 0, .int .u8 0, .int .u8 0, .int .u8 0, .int .u8 0, .int .u8 0, .int .u8 0, .int .u8 0, .int .u8 0, .int .u8 0, .int .u8 0] 120 (fun _ => by kernel_rfl) ?_)
   intro b13 h14 hN15
   replace hM := newB_of hN15 hM
   refine oE (cR ?_)
   refine oS [(20, .int .i64 a1), (21, .int .u64 (IntKind.wrap .u64 (a1))), (6, .int .u64 (IntKind.wrap .u64 (a1)))] rfl ?_
   refine oE (cwp_seq (cR ?_))
   refine oS [(22, .int .i64 a1), (23, .bool (decide (a1 < 0)))] rfl ?_
   refine oE ?_
   refine cwp_condD (a1 < 0) (by kernel_rfl) (fun hc16 => ?_) (fun hc16 => ?_)
   · replace hM := ifT hc16 hM
     refine cwp_region ?_
     refine oS [(24, .int .u64 (IntKind.wrap .u64 (a1))), (25, .int .u64 (IntKind.wrap .u64 (0 - (IntKind.wrap .u64 (a1))))), (6, .int .u64 (IntKind.wrap .u64 (0 - (IntKind.wrap .u64 (a1)))))] rfl ?_
     refine oE ?_
     refine cwp_of_part (fn := Tryd.f82) (p := [1, 0, 1, 0, 1, 1, 1, 1]) (by kernel_rfl) (cwp_at 0 (.int .i64 a1) (by kernel_rfl) (cwp_at 5 (.pointer (some ⟨b13, 0, none⟩)) (by kernel_rfl) (cwp_at 6 (.int .u64 (IntKind.wrap .u64 (0 - (IntKind.wrap .u64 (a1))))) (by kernel_rfl) (internal_strconv_FormatInt_j0_ok _ ?_ a1 b13 (IntKind.wrap .u64 (0 - (IntKind.wrap .u64 (a1)))) _ _ hM))))
     · intro z40 b42 h41 hM
       refine thenE_r ?_
       exact ret_ (.string z40) (by kernel_rfl) ⟨_, rfl, hM⟩
   replace hM := ifF hc16 hM
   refine cwp_skip (thenE_n ?_)
   refine cwp_of_part (fn := Tryd.f82) (p := [1, 0, 1, 0, 1, 1, 1, 1]) (by kernel_rfl) (cwp_at 0 (.int .i64 a1) (by kernel_rfl) (cwp_at 5 (.pointer (some ⟨b13, 0, none⟩)) (by kernel_rfl) (cwp_at 6 (.int .u64 (IntKind.wrap .u64 (a1))) (by kernel_rfl) (internal_strconv_FormatInt_j0_ok _ ?_ a1 b13 (IntKind.wrap .u64 (a1)) _ _ hM))))
   · intro z44 b46 h45 hM
     refine thenE_r ?_
     exact ret_ (.string z44) (by kernel_rfl) ⟨_, rfl, hM⟩
 replace hM := ifF hc3 hM
 refine cwp_skip (thenE_n (cR ?_))
 exact hM.elim
/- internal/strconv.Itoa -/
def internal_strconv_Itoa (a1 : Int) (K : ByteArray → Heap → Prop) (h : Heap) : Prop :=
 internal_strconv_FormatInt a1 10 (fun x3 h2 =>
   K x3 h2) h
theorem internal_strconv_Itoa_ok (a1 : Int) (K : ByteArray → Heap → Prop) (h : Heap) (hM : internal_strconv_Itoa a1 K h) : CallsH Tryd.prog 81 #[.int .i64 a1] (fun v h' => ∃ (r4 : ByteArray), v = .string r4 ∧ K r4 h') h := by
 unfold internal_strconv_Itoa at hM
 refine callsH_intro (n := 5) Tryd.func81 rfl rfl (by kernel_rfl) ?_
 refine cR ?_
 refine oS [(2, .string (⟨#[]⟩ : ByteArray))] rfl ?_
 refine oE (cR ?_)
 refine oS [(3, .int .i64 a1)] rfl ?_
 refine oG (hpCallE 82 #[.int .i64 a1, .int .i64 10] (by kernel_rfl) (internal_strconv_FormatInt_ok a1 10 _ h hM) ?_)
 clear hM
 rintro _ h2 ⟨x3, rfl, hM⟩
 refine oS [(2, .string x3)] rfl ?_
 refine oE (cwp_ret ?_)
 exact ret_ (.string x3) (by kernel_rfl) ⟨_, rfl, hM⟩
/- strconv.Itoa -/
def strconv_Itoa (a1 : Int) (K : ByteArray → Heap → Prop) (h : Heap) : Prop :=
 internal_strconv_Itoa a1 (fun x3 h2 =>
   K x3 h2) h
theorem strconv_Itoa_ok (a1 : Int) (K : ByteArray → Heap → Prop) (h : Heap) (hM : strconv_Itoa a1 K h) : CallsH Tryd.prog 79 #[.int .i64 a1] (fun v h' => ∃ (r4 : ByteArray), v = .string r4 ∧ K r4 h') h := by
 unfold strconv_Itoa at hM
 refine callsH_intro (n := 5) Tryd.func79 rfl rfl (by kernel_rfl) ?_
 refine cR ?_
 refine oS [(2, .string (⟨#[]⟩ : ByteArray))] rfl ?_
 refine oE (cR ?_)
 refine oS [(3, .int .i64 a1)] rfl ?_
 refine oG (hpCallE 81 #[.int .i64 a1] (by kernel_rfl) (internal_strconv_Itoa_ok a1 _ h hM) ?_)
 clear hM
 rintro _ h2 ⟨x3, rfl, hM⟩
 refine oS [(2, .string x3)] rfl ?_
 refine oE (cwp_ret ?_)
 exact ret_ (.string x3) (by kernel_rfl) ⟨_, rfl, hM⟩
end Go.Proofs.YthjdnhhifjpidaaDoor.M
