/-
  PRINTED BY A PROGRAM OF THIS CLAIM'S (gen.py): for each Go function a Lean function over memory, and the proof that the code comes to what it says.
-/
import Derived.Test.YtkbpnmgkdodcmaaDoorHpT
import Derived.Test.YtkbpnmgkdodcmaaDoorProg
set_option linter.unusedVariables false
set_option linter.unusedSimpArgs false
set_option maxRecDepth 100000
namespace Go.Proofs.YtkbpnmgkdodcmaaDoor.M
open Go Go.Hp
def tab2 : List (Int × Int) := [(128, 191),
  (160, 191),
  (128, 159),
  (144, 191),
  (128, 143),
  (0, 0),
  (0, 0),
  (0, 0),
  (0, 0),
  (0, 0),
  (0, 0),
  (0, 0),
  (0, 0),
  (0, 0),
  (0, 0),
  (0, 0)]
def tab2d : Int × Int := (128, 191)
def tab2f (r : Int × Int) : List Value := [.int .u8 r.1, .int .u8 r.2]
def tab0 : List (ByteArray × Int × Int × Bool) := [((⟨#[85, 112]⟩ : ByteArray), 65, 0, false),
  ((⟨#[68, 111, 119, 110]⟩ : ByteArray), 66, 0, false),
  ((⟨#[82, 105, 103, 104, 116]⟩ : ByteArray), 67, 0, false),
  ((⟨#[76, 101, 102, 116]⟩ : ByteArray), 68, 0, false),
  ((⟨#[72, 111, 109, 101]⟩ : ByteArray), 72, 0, false),
  ((⟨#[69, 110, 100]⟩ : ByteArray), 70, 0, false),
  ((⟨#[73, 110, 115, 101, 114, 116]⟩ : ByteArray), 0, 2, false),
  ((⟨#[68, 101, 108, 101, 116, 101]⟩ : ByteArray), 0, 3, false),
  ((⟨#[80, 97, 103, 101, 85, 112]⟩ : ByteArray), 0, 5, false),
  ((⟨#[80, 97, 103, 101, 68, 111, 119, 110]⟩ : ByteArray), 0, 6, false),
  ((⟨#[70, 49]⟩ : ByteArray), 80, 0, true),
  ((⟨#[70, 50]⟩ : ByteArray), 81, 0, true),
  ((⟨#[70, 51]⟩ : ByteArray), 82, 0, true),
  ((⟨#[70, 52]⟩ : ByteArray), 83, 0, true),
  ((⟨#[70, 53]⟩ : ByteArray), 0, 15, false),
  ((⟨#[70, 54]⟩ : ByteArray), 0, 17, false),
  ((⟨#[70, 55]⟩ : ByteArray), 0, 18, false),
  ((⟨#[70, 56]⟩ : ByteArray), 0, 19, false),
  ((⟨#[70, 57]⟩ : ByteArray), 0, 20, false),
  ((⟨#[70, 49, 48]⟩ : ByteArray), 0, 21, false),
  ((⟨#[70, 49, 49]⟩ : ByteArray), 0, 23, false),
  ((⟨#[70, 49, 50]⟩ : ByteArray), 0, 24, false)]
def tab0d : ByteArray × Int × Int × Bool := ((⟨#[85, 112]⟩ : ByteArray), 65, 0, false)
def tab0f (r : ByteArray × Int × Int × Bool) : List Value := [.string r.1, .int .u8 r.2.1, .int .i64 r.2.2.1, .bool r.2.2.2]
/- mullion/keys.New -/
def keys_New  (K : Option Addr → Heap → Prop) (h : Heap) : Prop :=
 newB h #[.string (⟨#[]⟩ : ByteArray)] 53 fun b1 h2 =>
 K (some ⟨b1, 0, none⟩) h2
theorem keys_New_ok  (K : Option Addr → Heap → Prop) (h : Heap) (hM : keys_New  K h) : CallsH Tryd.prog 9 #[] (fun v h' => ∃ (r4 : Option Addr), v = .pointer r4 ∧ K r4 h') h := by
 unfold keys_New at hM
 refine callsH_intro (n := 3) Tryd.func9 rfl rfl (by kernel_rfl) ?_
 refine cR ?_
 refine oS [(0, .pointer none)] rfl ?_
 refine oE (cR ?_)
 refine oS [(1, .agg #[.string (⟨#[]⟩ : ByteArray)])] rfl ?_
 refine owp_hpG rfl (by kernel_rfl) (hpNew #[.string (⟨#[]⟩ : ByteArray)] 53 (fun _ => by kernel_rfl) ?_)
 intro b1 h2 hN3
 replace hM := newB_of hN3 hM
 refine oS [(0, .pointer (some ⟨b1, 0, none⟩))] rfl ?_
 refine oE (cwp_ret ?_)
 exact ret_ (.pointer (some ⟨b1, 0, none⟩)) (by kernel_rfl) ⟨_, rfl, hM⟩
/- mullion/keys.single -/
def keys_single (a1 : Int) : Int × Int :=
 if a1 = 9 then
  (IntKind.wrap .i64 (a1), 0)
 else
 if a1 = 13 then
  (IntKind.wrap .i64 (a1), 0)
 else
 if a1 = 27 then
  (IntKind.wrap .i64 (a1), 0)
 else
 if a1 = 127 then
  (IntKind.wrap .i64 (a1), 0)
 else
 if a1 = 0 then
  (32, 4)
 else
 if a1 < 27 then
  (IntKind.wrap .i64 ((IntKind.wrap .i64 (a1)) + 96), 4)
 else
 (IntKind.wrap .i64 ((IntKind.wrap .i64 (a1)) + 64), 4)
theorem keys_single_ok (a1 : Int) (r : Int × Int) (h : Heap) (hM : keys_single a1 = r) : CallsH Tryd.prog 58 #[.int .u8 a1] (fun v h' => v = .agg #[.int .i64 r.1, .int .i64 r.2] ∧ Ext h h') h := by
 unfold keys_single at hM
 refine callsH_intro (n := 25) Tryd.func58 rfl rfl (by kernel_rfl) ?_
 refine cR ?_
 refine owp_hpG rfl (by kernel_rfl) (hpNew #[.int .i64 0, .int .i64 0] 36 (fun _ => by kernel_rfl) ?_)
 intro b2 h3 hN4
 refine oE (cwp_seq (cR ?_))
 refine oS [(3, .int .u8 a1)] rfl ?_
 refine oE (cwp_block (cwp_seq (cR ?_)))
 refine oS [(5, .bool (decide (a1 = 9))), (4, .bool (decide (a1 = 9)))] rfl ?_
 refine oE ?_
 refine cwp_condD (a1 = 9) (by kernel_rfl) (fun hc5 => ?_) (fun hc5 => ?_)
 · replace hM := ifTo hc5 hM
   refine cwp_skip (thenE_n ?_)
   refine cwp_condD (a1 = 9) (by kernel_rfl) (fun _ => ?_) (fun hn_ => absurd hc5 hn_)
   refine cR ?_
   refine oS [(9, .int .u8 a1), (10, .int .i64 (IntKind.wrap .i64 (a1))), (11, .agg #[.int .i64 (IntKind.wrap .i64 (a1)), .int .i64 0])] rfl ?_
   refine owp_hpD rfl (by kernel_rfl) (hpStB b2 0 [.int .i64 (IntKind.wrap .i64 (a1)), .int .i64 0] (New.blk hN4) (fun _ => by kernel_rfl) rfl rfl ?_)
   intro h6 hP7
   have f8 : Blk h6 b2 #[.int .i64 (IntKind.wrap .i64 (a1)), .int .i64 0] 36 := hP7.blk
   refine oE (cwp_ret (blockE_r (thenE_r ?_)))
   subst hM
   exact ret_ (.agg #[.int .i64 (IntKind.wrap .i64 (a1)), .int .i64 0]) (Eq.trans (b := (cellH h6 ⟨b2, 0, none⟩).bind fun v9 => (cellH h6 ⟨b2, 1, none⟩).bind fun v10 => some (.agg #[v9, v10])) (by kernel_rfl) ((bindE (Blk.cell f8 0 (by kernel_rfl)) _).trans (bindE (Blk.cell f8 1 (by kernel_rfl)) _))) ⟨rfl, (Put.ext hP7 (New.ext hN4) (New.ge hN4 (Ext.refl _)))⟩
 replace hM := ifFo hc5 hM
 refine cR ?_
 refine oS [(6, .bool (decide (a1 = 13))), (4, .bool (decide (a1 = 13)))] rfl ?_
 refine oE ?_
 refine cwp_condD (a1 = 13) (by kernel_rfl) (fun hc11 => ?_) (fun hc11 => ?_)
 · replace hM := ifTo hc11 hM
   refine cwp_skip (thenE_n ?_)
   refine cwp_condD (a1 = 13) (by kernel_rfl) (fun _ => ?_) (fun hn_ => absurd hc11 hn_)
   refine cR ?_
   refine oS [(9, .int .u8 a1), (10, .int .i64 (IntKind.wrap .i64 (a1))), (11, .agg #[.int .i64 (IntKind.wrap .i64 (a1)), .int .i64 0])] rfl ?_
   refine owp_hpD rfl (by kernel_rfl) (hpStB b2 0 [.int .i64 (IntKind.wrap .i64 (a1)), .int .i64 0] (New.blk hN4) (fun _ => by kernel_rfl) rfl rfl ?_)
   intro h12 hP13
   have f14 : Blk h12 b2 #[.int .i64 (IntKind.wrap .i64 (a1)), .int .i64 0] 36 := hP13.blk
   refine oE (cwp_ret (blockE_r (thenE_r ?_)))
   subst hM
   exact ret_ (.agg #[.int .i64 (IntKind.wrap .i64 (a1)), .int .i64 0]) (Eq.trans (b := (cellH h12 ⟨b2, 0, none⟩).bind fun v15 => (cellH h12 ⟨b2, 1, none⟩).bind fun v16 => some (.agg #[v15, v16])) (by kernel_rfl) ((bindE (Blk.cell f14 0 (by kernel_rfl)) _).trans (bindE (Blk.cell f14 1 (by kernel_rfl)) _))) ⟨rfl, (Put.ext hP13 (New.ext hN4) (New.ge hN4 (Ext.refl _)))⟩
 replace hM := ifFo hc11 hM
 refine cR ?_
 refine oS [(7, .bool (decide (a1 = 27))), (4, .bool (decide (a1 = 27)))] rfl ?_
 refine oE ?_
 refine cwp_condD (a1 = 27) (by kernel_rfl) (fun hc17 => ?_) (fun hc17 => ?_)
 · replace hM := ifTo hc17 hM
   refine cwp_skip (thenE_n ?_)
   refine cwp_condD (a1 = 27) (by kernel_rfl) (fun _ => ?_) (fun hn_ => absurd hc17 hn_)
   refine cR ?_
   refine oS [(9, .int .u8 a1), (10, .int .i64 (IntKind.wrap .i64 (a1))), (11, .agg #[.int .i64 (IntKind.wrap .i64 (a1)), .int .i64 0])] rfl ?_
   refine owp_hpD rfl (by kernel_rfl) (hpStB b2 0 [.int .i64 (IntKind.wrap .i64 (a1)), .int .i64 0] (New.blk hN4) (fun _ => by kernel_rfl) rfl rfl ?_)
   intro h18 hP19
   have f20 : Blk h18 b2 #[.int .i64 (IntKind.wrap .i64 (a1)), .int .i64 0] 36 := hP19.blk
   refine oE (cwp_ret (blockE_r (thenE_r ?_)))
   subst hM
   exact ret_ (.agg #[.int .i64 (IntKind.wrap .i64 (a1)), .int .i64 0]) (Eq.trans (b := (cellH h18 ⟨b2, 0, none⟩).bind fun v21 => (cellH h18 ⟨b2, 1, none⟩).bind fun v22 => some (.agg #[v21, v22])) (by kernel_rfl) ((bindE (Blk.cell f20 0 (by kernel_rfl)) _).trans (bindE (Blk.cell f20 1 (by kernel_rfl)) _))) ⟨rfl, (Put.ext hP19 (New.ext hN4) (New.ge hN4 (Ext.refl _)))⟩
 replace hM := ifFo hc17 hM
 refine cwp_region ?_
 refine oS [(8, .bool (decide (a1 = 127))), (4, .bool (decide (a1 = 127)))] rfl ?_
 refine oE ?_
 refine cwp_condD (a1 = 127) (by kernel_rfl) (fun hc23 => ?_) (fun hc23 => ?_)
 · replace hM := ifTo hc23 hM
   refine cR ?_
   refine oS [(9, .int .u8 a1), (10, .int .i64 (IntKind.wrap .i64 (a1))), (11, .agg #[.int .i64 (IntKind.wrap .i64 (a1)), .int .i64 0])] rfl ?_
   refine owp_hpD rfl (by kernel_rfl) (hpStB b2 0 [.int .i64 (IntKind.wrap .i64 (a1)), .int .i64 0] (New.blk hN4) (fun _ => by kernel_rfl) rfl rfl ?_)
   intro h24 hP25
   have f26 : Blk h24 b2 #[.int .i64 (IntKind.wrap .i64 (a1)), .int .i64 0] 36 := hP25.blk
   refine oE (cwp_ret (blockE_r (thenE_r ?_)))
   subst hM
   exact ret_ (.agg #[.int .i64 (IntKind.wrap .i64 (a1)), .int .i64 0]) (Eq.trans (b := (cellH h24 ⟨b2, 0, none⟩).bind fun v27 => (cellH h24 ⟨b2, 1, none⟩).bind fun v28 => some (.agg #[v27, v28])) (by kernel_rfl) ((bindE (Blk.cell f26 0 (by kernel_rfl)) _).trans (bindE (Blk.cell f26 1 (by kernel_rfl)) _))) ⟨rfl, (Put.ext hP25 (New.ext hN4) (New.ge hN4 (Ext.refl _)))⟩
 replace hM := ifFo hc23 hM
 refine cR ?_
 refine oS [(13, .bool (decide (a1 = 0))), (12, .bool (decide (a1 = 0)))] rfl ?_
 refine oE ?_
 refine cwp_condD (a1 = 0) (by kernel_rfl) (fun hc29 => ?_) (fun hc29 => ?_)
 · replace hM := ifTo hc29 hM
   refine cR ?_
   refine oS [(14, .agg #[.int .i64 32, .int .i64 4])] rfl ?_
   refine owp_hpD rfl (by kernel_rfl) (hpStB b2 0 [.int .i64 32, .int .i64 4] (New.blk hN4) (fun _ => by kernel_rfl) rfl rfl ?_)
   intro h30 hP31
   have f32 : Blk h30 b2 #[.int .i64 32, .int .i64 4] 36 := hP31.blk
   refine oE (cwp_ret (blockE_r (thenE_r ?_)))
   subst hM
   exact ret_ (.agg #[.int .i64 32, .int .i64 4]) (Eq.trans (b := (cellH h30 ⟨b2, 0, none⟩).bind fun v33 => (cellH h30 ⟨b2, 1, none⟩).bind fun v34 => some (.agg #[v33, v34])) (by kernel_rfl) ((bindE (Blk.cell f32 0 (by kernel_rfl)) _).trans (bindE (Blk.cell f32 1 (by kernel_rfl)) _))) ⟨rfl, (Put.ext hP31 (New.ext hN4) (New.ge hN4 (Ext.refl _)))⟩
 replace hM := ifFo hc29 hM
 refine cwp_skip (blockE_n (thenE_n (cwp_seq (cR ?_))))
 refine oS [(15, .int .u8 a1), (16, .bool (decide (a1 < 27)))] rfl ?_
 refine oE ?_
 refine cwp_condD (a1 < 27) (by kernel_rfl) (fun hc35 => ?_) (fun hc35 => ?_)
 · replace hM := ifTo hc35 hM
   refine cR ?_
   refine oS [(17, .int .u8 a1), (18, .int .i64 (IntKind.wrap .i64 (a1))), (19, .int .i64 (IntKind.wrap .i64 ((IntKind.wrap .i64 (a1)) + 96))), (20, .agg #[.int .i64 (IntKind.wrap .i64 ((IntKind.wrap .i64 (a1)) + 96)), .int .i64 4])] rfl ?_
   refine owp_hpD rfl (by kernel_rfl) (hpStB b2 0 [.int .i64 (IntKind.wrap .i64 ((IntKind.wrap .i64 (a1)) + 96)), .int .i64 4] (New.blk hN4) (fun _ => by kernel_rfl) rfl rfl ?_)
   intro h36 hP37
   have f38 : Blk h36 b2 #[.int .i64 (IntKind.wrap .i64 ((IntKind.wrap .i64 (a1)) + 96)), .int .i64 4] 36 := hP37.blk
   refine oE (cwp_ret (thenE_r ?_))
   subst hM
   exact ret_ (.agg #[.int .i64 (IntKind.wrap .i64 ((IntKind.wrap .i64 (a1)) + 96)), .int .i64 4]) (Eq.trans (b := (cellH h36 ⟨b2, 0, none⟩).bind fun v39 => (cellH h36 ⟨b2, 1, none⟩).bind fun v40 => some (.agg #[v39, v40])) (by kernel_rfl) ((bindE (Blk.cell f38 0 (by kernel_rfl)) _).trans (bindE (Blk.cell f38 1 (by kernel_rfl)) _))) ⟨rfl, (Put.ext hP37 (New.ext hN4) (New.ge hN4 (Ext.refl _)))⟩
 replace hM := ifFo hc35 hM
 refine cwp_skip (thenE_n (cR ?_))
 refine oS [(21, .int .u8 a1), (22, .int .i64 (IntKind.wrap .i64 (a1))), (23, .int .i64 (IntKind.wrap .i64 ((IntKind.wrap .i64 (a1)) + 64))), (24, .agg #[.int .i64 (IntKind.wrap .i64 ((IntKind.wrap .i64 (a1)) + 64)), .int .i64 4])] rfl ?_
 refine owp_hpD rfl (by kernel_rfl) (hpStB b2 0 [.int .i64 (IntKind.wrap .i64 ((IntKind.wrap .i64 (a1)) + 64)), .int .i64 4] (New.blk hN4) (fun _ => by kernel_rfl) rfl rfl ?_)
 intro h41 hP42
 have f43 : Blk h41 b2 #[.int .i64 (IntKind.wrap .i64 ((IntKind.wrap .i64 (a1)) + 64)), .int .i64 4] 36 := hP42.blk
 refine oE (cwp_ret ?_)
 subst hM
 exact ret_ (.agg #[.int .i64 (IntKind.wrap .i64 ((IntKind.wrap .i64 (a1)) + 64)), .int .i64 4]) (Eq.trans (b := (cellH h41 ⟨b2, 0, none⟩).bind fun v44 => (cellH h41 ⟨b2, 1, none⟩).bind fun v45 => some (.agg #[v44, v45])) (by kernel_rfl) ((bindE (Blk.cell f43 0 (by kernel_rfl)) _).trans (bindE (Blk.cell f43 1 (by kernel_rfl)) _))) ⟨rfl, (Put.ext hP42 (New.ext hN4) (New.ge hN4 (Ext.refl _)))⟩
/- mullion/keys.follows -/
def keys_follows (a1 : ByteArray) (a2 : Int) : Option (Bool) :=
 if (a1.size : Int) = 1 then
  if (0 : Int) < (a1.size : Int) then
   if (byteAt a1 0) = 224 then
    some ((decide (160 ≤ a2)) && (decide (a2 ≤ 191)))
   else
   if (byteAt a1 0) = 237 then
    some ((decide (128 ≤ a2)) && (decide (a2 ≤ 159)))
   else
   if (byteAt a1 0) = 240 then
    some ((decide (144 ≤ a2)) && (decide (a2 ≤ 191)))
   else
   if (byteAt a1 0) = 244 then
    some ((decide (128 ≤ a2)) && (decide (a2 ≤ 143)))
   else
   some ((decide (128 ≤ a2)) && (decide (a2 ≤ 191)))
  else none
 else
 some ((decide (128 ≤ a2)) && (decide (a2 ≤ 191)))
theorem keys_follows_ok (a1 : ByteArray) (a2 : Int) (r : Bool) (h : Heap) (hM : keys_follows a1 a2 = some r) : CallsH Tryd.prog 59 #[.string a1, .int .u8 a2] (fun v h' => v = .bool r ∧ Ext h h') h := by
 unfold keys_follows at hM
 refine callsH_intro (n := 28) Tryd.func59 rfl rfl (by kernel_rfl) ?_
 refine cR ?_
 refine oS [(4, .bool false)] rfl ?_
 refine oE (cR ?_)
 refine oS [(5, .int .u8 128), (6, .int .u8 191)] rfl ?_
 refine oE (cwp_seq (cR ?_))
 refine oS [(7, .string a1), (8, .int .i64 (a1.size : Int)), (9, .bool (decide ((a1.size : Int) = 1)))] rfl ?_
 refine oE ?_
 refine cwp_condD ((a1.size : Int) = 1) (by kernel_rfl) (fun hc3 => ?_) (fun hc3 => ?_)
 · replace hM := ifTo hc3 hM
   refine cR ?_
   refine oS [(10, .string a1)] rfl ?_
   have hc4 : 0 ≤ (0 : Int) := by decide
   have hc5 : (0 : Int) < (a1.size : Int) := ofIteO hM
   replace hM := ifTo hc5 hM
   refine owp_rdG (.int .u8 (byteAt a1 0)) rfl (by kernel_rfl) (rd_ixStr (P := Tryd.prog) (h := h) (t := 9) (s := a1) (k := .i64) (i := 0) (by kernel_rfl) hc4 hc5 (by kernel_rfl)) ?_
   refine oE (cwp_block (cR ?_))
   refine oS [(13, .bool (decide ((byteAt a1 0) = 224))), (12, .bool (decide ((byteAt a1 0) = 224)))] rfl ?_
   refine oE ?_
   refine cwp_condD ((byteAt a1 0) = 224) (by kernel_rfl) (fun hc6 => ?_) (fun hc6 => ?_)
   · replace hM := ifTo hc6 hM
     refine cwp_region ?_
     refine oS [(5, .int .u8 160)] rfl ?_
     refine owp_nil (blockE_n (thenE_n (cR ?_)))
     refine oS [(20, .int .u8 a2), (21, .int .u8 160), (22, .bool (decide (160 ≤ a2))), (23, .bool (decide (160 ≤ a2)))] rfl ?_
     refine oB (decide (160 ≤ a2)) 4 [22, 23] (fun b_ => [(24, iteV b_ (.int .u8 a2 : Value) undef), (25, iteV b_ (.int .u8 191 : Value) undef), (26, iteV b_ (.bool (decide (a2 ≤ 191)) : Value) undef), (27, .bool (b_ && (decide (a2 ≤ 191))))]) rfl (fun hb7 hq8 => oS [(24, .int .u8 a2), (25, .int .u8 191), (26, .bool (decide (a2 ≤ 191))), (27, .bool (decide (a2 ≤ 191)))] rfl (hq8)) (fun hb9 hq10 => oS [(24, undef), (25, undef), (26, undef), (27, .bool false)] rfl (hq10)) ?_
     refine oS [(4, .bool ((decide (160 ≤ a2)) && (decide (a2 ≤ 191))))] rfl ?_
     refine oE (cwp_ret ?_)
     obtain rfl := Option.some.inj hM
     exact ret_ (.bool ((decide (160 ≤ a2)) && (decide (a2 ≤ 191)))) (by kernel_rfl) ⟨rfl, Ext.refl _⟩
   replace hM := ifFo hc6 hM
   refine cR ?_
   refine oS [(15, .bool (decide ((byteAt a1 0) = 237))), (14, .bool (decide ((byteAt a1 0) = 237)))] rfl ?_
   refine oE ?_
   refine cwp_condD ((byteAt a1 0) = 237) (by kernel_rfl) (fun hc11 => ?_) (fun hc11 => ?_)
   · replace hM := ifTo hc11 hM
     refine cwp_region ?_
     refine oS [(6, .int .u8 159)] rfl ?_
     refine owp_nil (blockE_n (thenE_n (cR ?_)))
     refine oS [(20, .int .u8 a2), (21, .int .u8 128), (22, .bool (decide (128 ≤ a2))), (23, .bool (decide (128 ≤ a2)))] rfl ?_
     refine oB (decide (128 ≤ a2)) 4 [22, 23] (fun b_ => [(24, iteV b_ (.int .u8 a2 : Value) undef), (25, iteV b_ (.int .u8 159 : Value) undef), (26, iteV b_ (.bool (decide (a2 ≤ 159)) : Value) undef), (27, .bool (b_ && (decide (a2 ≤ 159))))]) rfl (fun hb12 hq13 => oS [(24, .int .u8 a2), (25, .int .u8 159), (26, .bool (decide (a2 ≤ 159))), (27, .bool (decide (a2 ≤ 159)))] rfl (hq13)) (fun hb14 hq15 => oS [(24, undef), (25, undef), (26, undef), (27, .bool false)] rfl (hq15)) ?_
     refine oS [(4, .bool ((decide (128 ≤ a2)) && (decide (a2 ≤ 159))))] rfl ?_
     refine oE (cwp_ret ?_)
     obtain rfl := Option.some.inj hM
     exact ret_ (.bool ((decide (128 ≤ a2)) && (decide (a2 ≤ 159)))) (by kernel_rfl) ⟨rfl, Ext.refl _⟩
   replace hM := ifFo hc11 hM
   refine cR ?_
   refine oS [(17, .bool (decide ((byteAt a1 0) = 240))), (16, .bool (decide ((byteAt a1 0) = 240)))] rfl ?_
   refine oE ?_
   refine cwp_condD ((byteAt a1 0) = 240) (by kernel_rfl) (fun hc16 => ?_) (fun hc16 => ?_)
   · replace hM := ifTo hc16 hM
     refine cwp_region ?_
     refine oS [(5, .int .u8 144)] rfl ?_
     refine owp_nil (blockE_n (thenE_n (cR ?_)))
     refine oS [(20, .int .u8 a2), (21, .int .u8 144), (22, .bool (decide (144 ≤ a2))), (23, .bool (decide (144 ≤ a2)))] rfl ?_
     refine oB (decide (144 ≤ a2)) 4 [22, 23] (fun b_ => [(24, iteV b_ (.int .u8 a2 : Value) undef), (25, iteV b_ (.int .u8 191 : Value) undef), (26, iteV b_ (.bool (decide (a2 ≤ 191)) : Value) undef), (27, .bool (b_ && (decide (a2 ≤ 191))))]) rfl (fun hb17 hq18 => oS [(24, .int .u8 a2), (25, .int .u8 191), (26, .bool (decide (a2 ≤ 191))), (27, .bool (decide (a2 ≤ 191)))] rfl (hq18)) (fun hb19 hq20 => oS [(24, undef), (25, undef), (26, undef), (27, .bool false)] rfl (hq20)) ?_
     refine oS [(4, .bool ((decide (144 ≤ a2)) && (decide (a2 ≤ 191))))] rfl ?_
     refine oE (cwp_ret ?_)
     obtain rfl := Option.some.inj hM
     exact ret_ (.bool ((decide (144 ≤ a2)) && (decide (a2 ≤ 191)))) (by kernel_rfl) ⟨rfl, Ext.refl _⟩
   replace hM := ifFo hc16 hM
   refine cR ?_
   refine oS [(19, .bool (decide ((byteAt a1 0) = 244))), (18, .bool (decide ((byteAt a1 0) = 244)))] rfl ?_
   refine oE ?_
   refine cwp_condD ((byteAt a1 0) = 244) (by kernel_rfl) (fun hc21 => ?_) (fun hc21 => ?_)
   · replace hM := ifTo hc21 hM
     refine cwp_region ?_
     refine oS [(6, .int .u8 143)] rfl ?_
     refine owp_nil (blockE_n (thenE_n (cR ?_)))
     refine oS [(20, .int .u8 a2), (21, .int .u8 128), (22, .bool (decide (128 ≤ a2))), (23, .bool (decide (128 ≤ a2)))] rfl ?_
     refine oB (decide (128 ≤ a2)) 4 [22, 23] (fun b_ => [(24, iteV b_ (.int .u8 a2 : Value) undef), (25, iteV b_ (.int .u8 143 : Value) undef), (26, iteV b_ (.bool (decide (a2 ≤ 143)) : Value) undef), (27, .bool (b_ && (decide (a2 ≤ 143))))]) rfl (fun hb22 hq23 => oS [(24, .int .u8 a2), (25, .int .u8 143), (26, .bool (decide (a2 ≤ 143))), (27, .bool (decide (a2 ≤ 143)))] rfl (hq23)) (fun hb24 hq25 => oS [(24, undef), (25, undef), (26, undef), (27, .bool false)] rfl (hq25)) ?_
     refine oS [(4, .bool ((decide (128 ≤ a2)) && (decide (a2 ≤ 143))))] rfl ?_
     refine oE (cwp_ret ?_)
     obtain rfl := Option.some.inj hM
     exact ret_ (.bool ((decide (128 ≤ a2)) && (decide (a2 ≤ 143)))) (by kernel_rfl) ⟨rfl, Ext.refl _⟩
   replace hM := ifFo hc21 hM
   refine cwp_skip (blockE_n (thenE_n (cR ?_)))
   refine oS [(20, .int .u8 a2), (21, .int .u8 128), (22, .bool (decide (128 ≤ a2))), (23, .bool (decide (128 ≤ a2)))] rfl ?_
   refine oB (decide (128 ≤ a2)) 4 [22, 23] (fun b_ => [(24, iteV b_ (.int .u8 a2 : Value) undef), (25, iteV b_ (.int .u8 191 : Value) undef), (26, iteV b_ (.bool (decide (a2 ≤ 191)) : Value) undef), (27, .bool (b_ && (decide (a2 ≤ 191))))]) rfl (fun hb26 hq27 => oS [(24, .int .u8 a2), (25, .int .u8 191), (26, .bool (decide (a2 ≤ 191))), (27, .bool (decide (a2 ≤ 191)))] rfl (hq27)) (fun hb28 hq29 => oS [(24, undef), (25, undef), (26, undef), (27, .bool false)] rfl (hq29)) ?_
   refine oS [(4, .bool ((decide (128 ≤ a2)) && (decide (a2 ≤ 191))))] rfl ?_
   refine oE (cwp_ret ?_)
   obtain rfl := Option.some.inj hM
   exact ret_ (.bool ((decide (128 ≤ a2)) && (decide (a2 ≤ 191)))) (by kernel_rfl) ⟨rfl, Ext.refl _⟩
 replace hM := ifFo hc3 hM
 refine cwp_skip (thenE_n (cR ?_))
 refine oS [(20, .int .u8 a2), (21, .int .u8 128), (22, .bool (decide (128 ≤ a2))), (23, .bool (decide (128 ≤ a2)))] rfl ?_
 refine oB (decide (128 ≤ a2)) 4 [22, 23] (fun b_ => [(24, iteV b_ (.int .u8 a2 : Value) undef), (25, iteV b_ (.int .u8 191 : Value) undef), (26, iteV b_ (.bool (decide (a2 ≤ 191)) : Value) undef), (27, .bool (b_ && (decide (a2 ≤ 191))))]) rfl (fun hb30 hq31 => oS [(24, .int .u8 a2), (25, .int .u8 191), (26, .bool (decide (a2 ≤ 191))), (27, .bool (decide (a2 ≤ 191)))] rfl (hq31)) (fun hb32 hq33 => oS [(24, undef), (25, undef), (26, undef), (27, .bool false)] rfl (hq33)) ?_
 refine oS [(4, .bool ((decide (128 ≤ a2)) && (decide (a2 ≤ 191))))] rfl ?_
 refine oE (cwp_ret ?_)
 obtain rfl := Option.some.inj hM
 exact ret_ (.bool ((decide (128 ≤ a2)) && (decide (a2 ≤ 191)))) (by kernel_rfl) ⟨rfl, Ext.refl _⟩
/- mullion/keys.plain -/
def keys_plain_l1 (K2 : ByteArray → Nat → Int → Heap → Prop) (Kr : Nat → Bool → Int → Heap → Prop) : Nat → ByteArray → Nat → Int → Int → Heap → Prop
  | 0, _, _, _, _, _ => False
  | k + 1, y37, y38, y39, y40, h =>
  if y40 < y39 then
   if (y37.size : Int) ≤ y40 then
    stN ⟨y38, 0, none⟩ [.int .i64 0, .int .i64 0] 0 h fun h43 =>
    Kr y38 false 0 h43
   else
   0 ≤ y40 ∧
   y40 ≤ (y37.size : Int) ∧
   0 ≤ y40 ∧
   y40 < (y37.size : Int) ∧
   ex (keys_follows (y37.extract 0 y40.toNat) (byteAt y37 y40)) fun r53 =>
   if (!r53) = true then
    gap h fun h51 =>
    stN ⟨y38, 0, none⟩ [.int .i64 0, .int .i64 0] 0 h51 fun h56 =>
    Kr y38 false y40 h56
   else
   gap h fun h51 =>
   keys_plain_l1 K2 Kr k y37 y38 y39 (IntKind.wrap .i64 (y40 + 1)) h51
  else
  K2 y37 y38 y39 h
theorem keys_plain_l1_ok {Q : Exit → Env → Heap → Prop} (K2 : ByteArray → Nat → Int → Heap → Prop) (hK2 : ∀ (z63 : ByteArray) (z64 : Nat) (z65 : Int) (b : Env) (h : Heap), K2 z63 z64 z65 h → Q (.exit 2) (upd (upd (upd b 0 (.string z63)) 2 (.pointer (some ⟨z64, 0, none⟩))) 6 (.int .i64 z65)) h) (Kr : Nat → Bool → Int → Heap → Prop) (hKr : ∀ (z69 : Nat) (z70 : Bool) (z71 : Int) (b : Env) (h : Heap), Kr z69 z70 z71 h → Q .ret (upd (upd (upd b 2 (.pointer (some ⟨z69, 0, none⟩))) 3 (.bool z70)) 4 (.int .i64 z71)) h) : ∀ (k : Nat) (y37 : ByteArray) (y38 : Nat) (y39 : Int) (y40 : Int) (b : Env) (h : Heap) (hM : keys_plain_l1 K2 Kr k y37 y38 y39 y40 h), lwp Tryd.prog (partC Tryd.f46 [1, 1, 1, 1, 1, 0, 1, 0, 0]) 80 Q k (upd (upd (upd (upd b 0 (.string y37)) 2 (.pointer (some ⟨y38, 0, none⟩))) 6 (.int .i64 y39)) 7 (.int .i64 y40)) h := by
  intro k
  induction k with
  | zero => intro y37 y38 y39 y40 b h hM; exact (show False from hM).elim
  | succ k ih =>
    intro y37 y38 y39 y40 b h hM
    unfold keys_plain_l1 at hM
    refine lwp_succ (cwp_part rfl ?_)
    refine cwp_seq (cR ?_)
    refine oS [(48, .int .i64 y40), (49, .int .i64 y39), (50, .bool (decide (y40 < y39)))] rfl ?_
    refine oE ?_
    refine cwp_condD (y40 < y39) (by kernel_rfl) (fun hc41 => ?_) (fun hc41 => ?_)
    · replace hM := ifT hc41 hM
      refine cwp_skip (thenE_n (cwp_seq (cwp_block (cwp_seq (cR ?_)))))
      refine oS [(53, .int .i64 y40), (54, .string y37), (55, .int .i64 (y37.size : Int)), (56, .bool (decide ((y37.size : Int) ≤ y40)))] rfl ?_
      refine oE ?_
      refine cwp_condD ((y37.size : Int) ≤ y40) (by kernel_rfl) (fun hc42 => ?_) (fun hc42 => ?_)
      · replace hM := ifT hc42 hM
        refine cR ?_
        refine oS [(57, .agg #[.int .i64 0, .int .i64 0])] rfl ?_
        refine owp_hpD rfl (by kernel_rfl) (hpSt ⟨y38, 0, none⟩ [.int .i64 0, .int .i64 0] (fun _ => by kernel_rfl) rfl hM ?_)
        intro h43 hM
        refine oS [(3, .bool false), (4, .int .i64 0)] rfl ?_
        refine oE (cwp_ret (thenE_r (blockE_r (thenE_r ?_))))
        exact q_at (Q := Q .ret) 2 (.pointer (some ⟨y38, 0, none⟩)) (by kernel_rfl) (q_at (Q := Q .ret) 3 (.bool false) (by kernel_rfl) (q_at (Q := Q .ret) 4 (.int .i64 0) (by kernel_rfl) (hKr y38 false 0 _ _ hM)))
      replace hM := ifF hc42 hM
      refine cwp_skip (thenE_n (cwp_seq ?_))
      refine cwp_draw (by kernel_rfl) ?_
      refine k_pure (i := 0) [2, 6, 7] (.string y37) (by kernel_rfl) rfl rfl (by kernel_rfl) (fun h' => by kernel_rfl) (by kernel_rfl) ?_
      refine k_pure (i := 1) [2, 6, 7] (.int .i64 y40) (by kernel_rfl) rfl rfl (by kernel_rfl) (fun h' => by kernel_rfl) (by kernel_rfl) ?_
      obtain ⟨hc47, hM⟩ := hM
      obtain ⟨hc48, hM⟩ := hM
      refine k_pure (i := 2) [6, 7] (.string (y37.extract 0 y40.toNat)) (by kernel_rfl) rfl rfl (by kernel_rfl) (fun h' => rd_slHi (P := Tryd.prog) (h := h') (t := 9) (s := y37) (k := .i64) (i := y40) (by kernel_rfl) hc47 hc48 (by kernel_rfl)) (by kernel_rfl) ?_
      refine k_pure (i := 3) [5, 6, 7] (.string y37) (by kernel_rfl) rfl rfl (by kernel_rfl) (fun h' => by kernel_rfl) (by kernel_rfl) ?_
      refine k_pure (i := 4) [5, 6, 7] (.int .i64 y40) (by kernel_rfl) rfl rfl (by kernel_rfl) (fun h' => by kernel_rfl) (by kernel_rfl) ?_
      obtain ⟨hc49, hM⟩ := hM
      obtain ⟨hc50, hM⟩ := hM
      refine k_pure (i := 5) [6, 7] (.int .u8 (byteAt y37 y40)) (by kernel_rfl) rfl rfl (by kernel_rfl) (fun h' => rd_ixStr (P := Tryd.prog) (h := h') (t := 9) (s := y37) (k := .i64) (i := y40) (by kernel_rfl) hc49 hc50 (by kernel_rfl)) (by kernel_rfl) ?_
      obtain ⟨r53, hr54, hM⟩ := hM
      refine k_eff (j := 6) (by kernel_rfl) rfl rfl (by kernel_rfl) (hpCallP 59 #[.string (y37.extract 0 y40.toNat), .int .u8 (byteAt y37 y40)] (.bool r53) (by kernel_rfl) (keys_follows_ok (y37.extract 0 y40.toNat) (byteAt y37 y40) r53 h hr54) ?_)
      intro h51 hx52
      refine ⟨trivial, ?_⟩
      refine k_pure (i := 7) [] (.bool (!r53)) (by kernel_rfl) rfl rfl (by kernel_rfl) (fun h' => by kernel_rfl) (by kernel_rfl) ?_
      refine k_done (by kernel_rfl) ?_
      refine thenE_n ?_
      refine cwp_condB (!r53) (by kernel_rfl) (fun hc55 => ?_) (fun hc55 => ?_)
      · replace hM := ifT hc55 hM
        refine cR ?_
        refine oS [(66, .agg #[.int .i64 0, .int .i64 0]), (67, .int .i64 y40)] rfl ?_
        replace hM := hM _ hx52
        refine owp_hpD rfl (by kernel_rfl) (hpSt ⟨y38, 0, none⟩ [.int .i64 0, .int .i64 0] (fun _ => by kernel_rfl) rfl hM ?_)
        intro h56 hM
        refine oS [(3, .bool false), (4, .int .i64 y40)] rfl ?_
        refine oE (cwp_ret (blockE_r (thenE_r ?_)))
        exact q_at (Q := Q .ret) 2 (.pointer (some ⟨y38, 0, none⟩)) (by kernel_rfl) (q_at (Q := Q .ret) 3 (.bool false) (by kernel_rfl) (q_at (Q := Q .ret) 4 (.int .i64 y40) (by kernel_rfl) (hKr y38 false y40 _ _ hM)))
      replace hM := ifF hc55 hM
      refine cwp_skip (blockE_n (thenE_n (cwp_region ?_)))
      refine oS [(51, .int .i64 y40), (52, .int .i64 (IntKind.wrap .i64 (y40 + 1))), (7, .int .i64 (IntKind.wrap .i64 (y40 + 1)))] rfl ?_
      refine owp_nil ?_
      replace hM := hM _ hx52
      exact lwp_at 0 (.string y37) (by kernel_rfl) (lwp_at 2 (.pointer (some ⟨y38, 0, none⟩)) (by kernel_rfl) (lwp_at 6 (.int .i64 y39) (by kernel_rfl) (lwp_at 7 (.int .i64 (IntKind.wrap .i64 (y40 + 1))) (by kernel_rfl) (ih y37 y38 y39 (IntKind.wrap .i64 (y40 + 1)) _ _ hM))))
    replace hM := ifF hc41 hM
    refine cwp_exit (thenE_x ?_)
    exact q_at (Q := Q (.exit 2)) 0 (.string y37) (by kernel_rfl) (q_at (Q := Q (.exit 2)) 2 (.pointer (some ⟨y38, 0, none⟩)) (by kernel_rfl) (q_at (Q := Q (.exit 2)) 6 (.int .i64 y39) (by kernel_rfl) (hK2 y37 y38 y39 _ _ hM)))
def keys_plain_j0 (Kr : Nat → Bool → Int → Heap → Prop) (y34 : ByteArray) (y35 : Nat) (y36 : Int) (h : Heap) : Prop :=
 ∃ k96, keys_plain_l1
  (fun z72 z73 z74 h75 =>
    0 ≤ z74 ∧
    z74 ≤ (z72.size : Int) ∧
    runesM h75 21 (z72.extract 0 z74.toNat) fun s78 s78n s78c h79 =>
    nz s78 fun p82 =>
    0 ≤ (0 : Int) ∧
    (0 : Int) < (s78n : Int) ∧
    ldI h79 .i32 (p82.add (((0 : Int)).toNat * 1)) fun x83 =>
    stN ⟨z73, 0, none⟩ [.int .i64 (IntKind.wrap .i64 (x83)), .int .i64 0] 0 h79 fun h86 =>
      Kr z73 (decide (160 ≤ (IntKind.wrap .i64 (x83)))) z74 h86)
  (fun z91 z92 z93 h94 =>
      Kr z91 z92 z93 h94) k96 y34 y35 y36 1 h
theorem keys_plain_j0_ok {Q : Exit → Env → Heap → Prop} (Kr : Nat → Bool → Int → Heap → Prop) (hKr : ∀ (z100 : Nat) (z101 : Bool) (z102 : Int) (b : Env) (h : Heap), Kr z100 z101 z102 h → Q .ret (upd (upd (upd b 2 (.pointer (some ⟨z100, 0, none⟩))) 3 (.bool z101)) 4 (.int .i64 z102)) h) (y34 : ByteArray) (y35 : Nat) (y36 : Int) (b : Env) (h : Heap) (hM : keys_plain_j0 Kr y34 y35 y36 h) : cwp Tryd.prog (partC Tryd.f46 [1, 1, 1, 1, 1]) 80 Q (upd (upd (upd b 0 (.string y34)) 2 (.pointer (some ⟨y35, 0, none⟩))) 6 (.int .i64 y36)) h := by
  unfold keys_plain_j0 at hM
  refine cwp_part rfl ?_
  refine cwp_seq (cR ?_)
  refine oS [(7, .int .i64 1)] rfl ?_
  refine oE (cwp_block ?_)
  obtain ⟨k_, hM⟩ := hM
  refine cwp_loop k_ (lwp_of_part (fn := Tryd.f46) (p := [1, 1, 1, 1, 1, 0, 1, 0, 0]) (by kernel_rfl) (lwp_at 0 (.string y34) (by kernel_rfl) (lwp_at 2 (.pointer (some ⟨y35, 0, none⟩)) (by kernel_rfl) (lwp_at 6 (.int .i64 y36) (by kernel_rfl) (lwp_at 7 (.int .i64 1) (by kernel_rfl) (keys_plain_l1_ok _ ?_ _ ?_ k_ y34 y35 y36 1 _ _ hM))))))
  · intro z72 z73 z74 b90 h75 hM
    refine blockE_h (thenE_n (cR ?_))
    refine oS [(68, .string z72), (69, .int .i64 z74)] rfl ?_
    obtain ⟨hc76, hM⟩ := hM
    obtain ⟨hc77, hM⟩ := hM
    refine owp_rdG (.string (z72.extract 0 z74.toNat)) rfl (by kernel_rfl) (rd_slHi (P := Tryd.prog) (h := h75) (t := 9) (s := z72) (k := .i64) (i := z74) (by kernel_rfl) hc76 hc77 (by kernel_rfl)) ?_
    refine owp_hpG rfl (by kernel_rfl) (hpRunes 21 (z72.extract 0 z74.toNat) (fun _ => by kernel_rfl) hM ?_)
    intro s78 s78n s78c h79 hM
    obtain ⟨p82, rfl, hM⟩ := hM
    obtain ⟨hc80, hM⟩ := hM
    obtain ⟨hc81, hM⟩ := hM
    refine owp_rdG (.pointer (some (p82.add (((0 : Int)).toNat * 1)))) rfl (by kernel_rfl) (rd_ixS (P := Tryd.prog) (h := h79) (t := 76) (el := 21) (sz := 1) (ad := p82) (len := s78n) (c := s78c) (k := .i64) (i := 0) (by kernel_rfl) (by kernel_rfl) hc80 hc81 (by kernel_rfl)) ?_
    obtain ⟨x83, hc84, hM⟩ := hM
    refine owp_rdG (.int .i32 x83) rfl (by kernel_rfl) (Eq.trans (b := (cellH h79 (p82.add (((0 : Int)).toNat * 1))).bind fun v85 => some (.value v85)) (by kernel_rfl) (bindE hc84 _)) ?_
    refine oS [(74, .int .i64 (IntKind.wrap .i64 (x83))), (8, .int .i64 (IntKind.wrap .i64 (x83)))] rfl ?_
    refine oE (cR ?_)
    refine oS [(75, .int .i64 (IntKind.wrap .i64 (x83))), (76, .agg #[.int .i64 (IntKind.wrap .i64 (x83)), .int .i64 0]), (77, .int .i64 (IntKind.wrap .i64 (x83))), (78, .bool (decide (160 ≤ (IntKind.wrap .i64 (x83))))), (79, .int .i64 z74)] rfl ?_
    refine owp_hpD rfl (by kernel_rfl) (hpSt ⟨z73, 0, none⟩ [.int .i64 (IntKind.wrap .i64 (x83)), .int .i64 0] (fun _ => by kernel_rfl) rfl hM ?_)
    intro h86 hM
    refine oS [(3, .bool (decide (160 ≤ (IntKind.wrap .i64 (x83))))), (4, .int .i64 z74)] rfl ?_
    refine oE (cwp_ret ?_)
    exact q_at (Q := Q .ret) 2 (.pointer (some ⟨z73, 0, none⟩)) (by kernel_rfl) (q_at (Q := Q .ret) 3 (.bool (decide (160 ≤ (IntKind.wrap .i64 (x83))))) (by kernel_rfl) (q_at (Q := Q .ret) 4 (.int .i64 z74) (by kernel_rfl) (hKr z73 (decide (160 ≤ (IntKind.wrap .i64 (x83)))) z74 _ _ hM)))
  · intro z91 z92 z93 b95 h94 hM
    refine blockE_r (thenE_r ?_)
    exact q_at (Q := Q .ret) 2 (.pointer (some ⟨z91, 0, none⟩)) (by kernel_rfl) (q_at (Q := Q .ret) 3 (.bool z92) (by kernel_rfl) (q_at (Q := Q .ret) 4 (.int .i64 z93) (by kernel_rfl) (hKr z91 z92 z93 _ _ hM)))
def keys_plain (a1 : ByteArray) (K : Int → Int → Bool → Int → Heap → Prop) (h : Heap) : Prop :=
 newB h #[.int .i64 0, .int .i64 0] 36 fun b2 h3 =>
 (0 : Int) < (a1.size : Int) ∧
 if ((decide ((byteAt a1 0) < 32)) || (decide ((byteAt a1 0) = 127))) = true then
  gap h3 fun h12 =>
  stN ⟨b2, 0, none⟩ [.int .i64 ((keys_single (byteAt a1 0)).1), .int .i64 ((keys_single (byteAt a1 0)).2)] 0 h12 fun h14 =>
  ldI h14 .i64 ⟨b2, 0, none⟩ fun x15 =>
  ldI h14 .i64 ⟨b2, 1, none⟩ fun x17 =>
  K x15 x17 true 1 h14
 else
 if (byteAt a1 0) < 127 then
  stN ⟨b2, 0, none⟩ [.int .i64 (IntKind.wrap .i64 (byteAt a1 0)), .int .i64 0] 0 h3 fun h22 =>
  ldI h22 .i64 ⟨b2, 0, none⟩ fun x23 =>
  ldI h22 .i64 ⟨b2, 1, none⟩ fun x25 =>
  K x23 x25 true 1 h22
 else
 if ((decide (194 ≤ (byteAt a1 0))) && (decide ((byteAt a1 0) ≤ 223))) = true then
  keys_plain_j0
   (fun z103 z104 z105 h106 =>
     ldI h106 .i64 ⟨z103, 0, none⟩ fun x107 =>
     ldI h106 .i64 ⟨z103, 1, none⟩ fun x109 =>
       K x107 x109 z104 z105 h106) a1 b2 2 h3
 else
 if ((decide (224 ≤ (byteAt a1 0))) && (decide ((byteAt a1 0) ≤ 239))) = true then
  keys_plain_j0
   (fun z120 z121 z122 h123 =>
     ldI h123 .i64 ⟨z120, 0, none⟩ fun x124 =>
     ldI h123 .i64 ⟨z120, 1, none⟩ fun x126 =>
       K x124 x126 z121 z122 h123) a1 b2 3 h3
 else
 if ((decide (240 ≤ (byteAt a1 0))) && (decide ((byteAt a1 0) ≤ 244))) = true then
  keys_plain_j0
   (fun z137 z138 z139 h140 =>
     ldI h140 .i64 ⟨z137, 0, none⟩ fun x141 =>
     ldI h140 .i64 ⟨z137, 1, none⟩ fun x143 =>
       K x141 x143 z138 z139 h140) a1 b2 4 h3
 else
 stN ⟨b2, 0, none⟩ [.int .i64 0, .int .i64 0] 0 h3 fun h149 =>
 ldI h149 .i64 ⟨b2, 0, none⟩ fun x150 =>
 ldI h149 .i64 ⟨b2, 1, none⟩ fun x152 =>
 K x150 x152 false 1 h149
theorem keys_plain_ok (a1 : ByteArray) (K : Int → Int → Bool → Int → Heap → Prop) (h : Heap) (hM : keys_plain a1 K h) : CallsH Tryd.prog 46 #[.string a1] (fun v h' => ∃ (r156 : Int) (r157 : Int) (r158 : Bool) (r159 : Int), v = .tuple #[.agg #[.int .i64 r156, .int .i64 r157], .bool r158, .int .i64 r159] ∧ K r156 r157 r158 r159 h') h := by
 unfold keys_plain at hM
 refine callsH_intro (n := 80) Tryd.func46 rfl rfl (by kernel_rfl) ?_
 refine cR ?_
 refine owp_hpG rfl (by kernel_rfl) (hpNew #[.int .i64 0, .int .i64 0] 36 (fun _ => by kernel_rfl) ?_)
 intro b2 h3 hN4
 replace hM := newB_of hN4 hM
 refine oS [(3, .bool false), (4, .int .i64 0)] rfl ?_
 refine oE (cR ?_)
 refine oS [(9, .string a1)] rfl ?_
 have hc5 : 0 ≤ (0 : Int) := by decide
 obtain ⟨hc6, hM⟩ := hM
 refine owp_rdG (.int .u8 (byteAt a1 0)) rfl (by kernel_rfl) (rd_ixStr (P := Tryd.prog) (h := h3) (t := 9) (s := a1) (k := .i64) (i := 0) (by kernel_rfl) hc5 hc6 (by kernel_rfl)) ?_
 refine oS [(5, .int .u8 (byteAt a1 0))] rfl ?_
 refine oE (cwp_seq (cwp_block (cR ?_)))
 refine oS [(12, .int .u8 (byteAt a1 0)), (13, .bool (decide ((byteAt a1 0) < 32))), (14, .bool (decide ((byteAt a1 0) < 32)))] rfl ?_
 refine oB (decide ((byteAt a1 0) < 32)) 3 [13, 14] (fun b_ => [(15, iteV b_ undef (.int .u8 (byteAt a1 0) : Value)), (16, iteV b_ undef (.bool (decide ((byteAt a1 0) = 127)) : Value)), (17, .bool (b_ || (decide ((byteAt a1 0) = 127))))]) rfl (fun hb7 hq8 => oS [(15, undef), (16, undef), (17, .bool true)] rfl (hq8)) (fun hb9 hq10 => oS [(15, .int .u8 (byteAt a1 0)), (16, .bool (decide ((byteAt a1 0) = 127))), (17, .bool (decide ((byteAt a1 0) = 127)))] rfl (hq10)) ?_
 refine oS [(11, .bool ((decide ((byteAt a1 0) < 32)) || (decide ((byteAt a1 0) = 127))))] rfl ?_
 refine oE ?_
 refine cwp_condB ((decide ((byteAt a1 0) < 32)) || (decide ((byteAt a1 0) = 127))) (by kernel_rfl) (fun hc11 => ?_) (fun hc11 => ?_)
 · replace hM := ifT hc11 hM
   refine cR ?_
   refine oS [(18, .int .u8 (byteAt a1 0))] rfl ?_
   refine owp_hpG rfl (by kernel_rfl) (hpCallP 58 #[.int .u8 (byteAt a1 0)] (.agg #[.int .i64 ((keys_single (byteAt a1 0)).1), .int .i64 ((keys_single (byteAt a1 0)).2)]) (by kernel_rfl) (keys_single_ok (byteAt a1 0) _ h3 rfl) ?_)
   intro h12 hx13
   replace hM := hM _ hx13
   refine owp_hpD rfl (by kernel_rfl) (hpSt ⟨b2, 0, none⟩ [.int .i64 ((keys_single (byteAt a1 0)).1), .int .i64 ((keys_single (byteAt a1 0)).2)] (fun _ => by kernel_rfl) rfl hM ?_)
   intro h14 hM
   refine oS [(3, .bool true), (4, .int .i64 1)] rfl ?_
   refine oE (cwp_ret (blockE_r (thenE_r ?_)))
   obtain ⟨x15, hc16, hM⟩ := hM
   obtain ⟨x17, hc18, hM⟩ := hM
   exact ret_ (.tuple #[.agg #[.int .i64 x15, .int .i64 x17], .bool true, .int .i64 1]) (Eq.trans (b := (cellH h14 ⟨b2, 0, none⟩).bind fun v19 => (cellH h14 ⟨b2, 1, none⟩).bind fun v20 => some (.tuple #[.agg #[v19, v20], .bool true, .int .i64 1])) (by kernel_rfl) ((bindE hc16 _).trans (bindE hc18 _))) ⟨_, _, _, _, rfl, hM⟩
 replace hM := ifF hc11 hM
 refine cR ?_
 refine oS [(21, .int .u8 (byteAt a1 0)), (22, .bool (decide ((byteAt a1 0) < 127))), (20, .bool (decide ((byteAt a1 0) < 127)))] rfl ?_
 refine oE ?_
 refine cwp_condD ((byteAt a1 0) < 127) (by kernel_rfl) (fun hc21 => ?_) (fun hc21 => ?_)
 · replace hM := ifT hc21 hM
   refine cR ?_
   refine oS [(23, .int .u8 (byteAt a1 0)), (24, .int .i64 (IntKind.wrap .i64 (byteAt a1 0))), (25, .agg #[.int .i64 (IntKind.wrap .i64 (byteAt a1 0)), .int .i64 0])] rfl ?_
   refine owp_hpD rfl (by kernel_rfl) (hpSt ⟨b2, 0, none⟩ [.int .i64 (IntKind.wrap .i64 (byteAt a1 0)), .int .i64 0] (fun _ => by kernel_rfl) rfl hM ?_)
   intro h22 hM
   refine oS [(3, .bool true), (4, .int .i64 1)] rfl ?_
   refine oE (cwp_ret (blockE_r (thenE_r ?_)))
   obtain ⟨x23, hc24, hM⟩ := hM
   obtain ⟨x25, hc26, hM⟩ := hM
   exact ret_ (.tuple #[.agg #[.int .i64 x23, .int .i64 x25], .bool true, .int .i64 1]) (Eq.trans (b := (cellH h22 ⟨b2, 0, none⟩).bind fun v27 => (cellH h22 ⟨b2, 1, none⟩).bind fun v28 => some (.tuple #[.agg #[v27, v28], .bool true, .int .i64 1])) (by kernel_rfl) ((bindE hc24 _).trans (bindE hc26 _))) ⟨_, _, _, _, rfl, hM⟩
 replace hM := ifF hc21 hM
 refine cwp_skip (blockE_n (thenE_n (cR ?_)))
 refine oS [(6, .int .i64 0)] rfl ?_
 refine oE (cwp_seq (cwp_block (cR ?_)))
 refine oS [(28, .int .u8 (byteAt a1 0)), (29, .bool (decide (194 ≤ (byteAt a1 0)))), (30, .bool (decide (194 ≤ (byteAt a1 0))))] rfl ?_
 refine oB (decide (194 ≤ (byteAt a1 0))) 3 [29, 30] (fun b_ => [(31, iteV b_ (.int .u8 (byteAt a1 0) : Value) undef), (32, iteV b_ (.bool (decide ((byteAt a1 0) ≤ 223)) : Value) undef), (33, .bool (b_ && (decide ((byteAt a1 0) ≤ 223))))]) rfl (fun hb29 hq30 => oS [(31, .int .u8 (byteAt a1 0)), (32, .bool (decide ((byteAt a1 0) ≤ 223))), (33, .bool (decide ((byteAt a1 0) ≤ 223)))] rfl (hq30)) (fun hb31 hq32 => oS [(31, undef), (32, undef), (33, .bool false)] rfl (hq32)) ?_
 refine oS [(27, .bool ((decide (194 ≤ (byteAt a1 0))) && (decide ((byteAt a1 0) ≤ 223))))] rfl ?_
 refine oE ?_
 refine cwp_condB ((decide (194 ≤ (byteAt a1 0))) && (decide ((byteAt a1 0) ≤ 223))) (by kernel_rfl) (fun hc33 => ?_) (fun hc33 => ?_)
 · replace hM := ifT hc33 hM
   refine cwp_region ?_
   refine oS [(6, .int .i64 2)] rfl ?_
   refine owp_nil (blockE_n (thenE_n ?_))
   refine cwp_of_part (fn := Tryd.f46) (p := [1, 1, 1, 1, 1]) (by kernel_rfl) (cwp_at 0 (.string a1) (by kernel_rfl) (cwp_at 2 (.pointer (some ⟨b2, 0, none⟩)) (by kernel_rfl) (cwp_at 6 (.int .i64 2) (by kernel_rfl) (keys_plain_j0_ok _ ?_ a1 b2 2 _ _ hM))))
   · intro z103 z104 z105 b113 h106 hM
     obtain ⟨x107, hc108, hM⟩ := hM
     obtain ⟨x109, hc110, hM⟩ := hM
     exact ret_ (.tuple #[.agg #[.int .i64 x107, .int .i64 x109], .bool z104, .int .i64 z105]) (Eq.trans (b := (cellH h106 ⟨z103, 0, none⟩).bind fun v111 => (cellH h106 ⟨z103, 1, none⟩).bind fun v112 => some (.tuple #[.agg #[v111, v112], .bool z104, .int .i64 z105])) (by kernel_rfl) ((bindE hc108 _).trans (bindE hc110 _))) ⟨_, _, _, _, rfl, hM⟩
 replace hM := ifF hc33 hM
 refine cR ?_
 refine oS [(35, .int .u8 (byteAt a1 0)), (36, .bool (decide (224 ≤ (byteAt a1 0)))), (37, .bool (decide (224 ≤ (byteAt a1 0))))] rfl ?_
 refine oB (decide (224 ≤ (byteAt a1 0))) 3 [36, 37] (fun b_ => [(38, iteV b_ (.int .u8 (byteAt a1 0) : Value) undef), (39, iteV b_ (.bool (decide ((byteAt a1 0) ≤ 239)) : Value) undef), (40, .bool (b_ && (decide ((byteAt a1 0) ≤ 239))))]) rfl (fun hb115 hq116 => oS [(38, .int .u8 (byteAt a1 0)), (39, .bool (decide ((byteAt a1 0) ≤ 239))), (40, .bool (decide ((byteAt a1 0) ≤ 239)))] rfl (hq116)) (fun hb117 hq118 => oS [(38, undef), (39, undef), (40, .bool false)] rfl (hq118)) ?_
 refine oS [(34, .bool ((decide (224 ≤ (byteAt a1 0))) && (decide ((byteAt a1 0) ≤ 239))))] rfl ?_
 refine oE ?_
 refine cwp_condB ((decide (224 ≤ (byteAt a1 0))) && (decide ((byteAt a1 0) ≤ 239))) (by kernel_rfl) (fun hc119 => ?_) (fun hc119 => ?_)
 · replace hM := ifT hc119 hM
   refine cwp_region ?_
   refine oS [(6, .int .i64 3)] rfl ?_
   refine owp_nil (blockE_n (thenE_n ?_))
   refine cwp_of_part (fn := Tryd.f46) (p := [1, 1, 1, 1, 1]) (by kernel_rfl) (cwp_at 0 (.string a1) (by kernel_rfl) (cwp_at 2 (.pointer (some ⟨b2, 0, none⟩)) (by kernel_rfl) (cwp_at 6 (.int .i64 3) (by kernel_rfl) (keys_plain_j0_ok _ ?_ a1 b2 3 _ _ hM))))
   · intro z120 z121 z122 b130 h123 hM
     obtain ⟨x124, hc125, hM⟩ := hM
     obtain ⟨x126, hc127, hM⟩ := hM
     exact ret_ (.tuple #[.agg #[.int .i64 x124, .int .i64 x126], .bool z121, .int .i64 z122]) (Eq.trans (b := (cellH h123 ⟨z120, 0, none⟩).bind fun v128 => (cellH h123 ⟨z120, 1, none⟩).bind fun v129 => some (.tuple #[.agg #[v128, v129], .bool z121, .int .i64 z122])) (by kernel_rfl) ((bindE hc125 _).trans (bindE hc127 _))) ⟨_, _, _, _, rfl, hM⟩
 replace hM := ifF hc119 hM
 refine cR ?_
 refine oS [(42, .int .u8 (byteAt a1 0)), (43, .bool (decide (240 ≤ (byteAt a1 0)))), (44, .bool (decide (240 ≤ (byteAt a1 0))))] rfl ?_
 refine oB (decide (240 ≤ (byteAt a1 0))) 3 [43, 44] (fun b_ => [(45, iteV b_ (.int .u8 (byteAt a1 0) : Value) undef), (46, iteV b_ (.bool (decide ((byteAt a1 0) ≤ 244)) : Value) undef), (47, .bool (b_ && (decide ((byteAt a1 0) ≤ 244))))]) rfl (fun hb132 hq133 => oS [(45, .int .u8 (byteAt a1 0)), (46, .bool (decide ((byteAt a1 0) ≤ 244))), (47, .bool (decide ((byteAt a1 0) ≤ 244)))] rfl (hq133)) (fun hb134 hq135 => oS [(45, undef), (46, undef), (47, .bool false)] rfl (hq135)) ?_
 refine oS [(41, .bool ((decide (240 ≤ (byteAt a1 0))) && (decide ((byteAt a1 0) ≤ 244))))] rfl ?_
 refine oE ?_
 refine cwp_condB ((decide (240 ≤ (byteAt a1 0))) && (decide ((byteAt a1 0) ≤ 244))) (by kernel_rfl) (fun hc136 => ?_) (fun hc136 => ?_)
 · replace hM := ifT hc136 hM
   refine cwp_region ?_
   refine oS [(6, .int .i64 4)] rfl ?_
   refine owp_nil (blockE_n (thenE_n ?_))
   refine cwp_of_part (fn := Tryd.f46) (p := [1, 1, 1, 1, 1]) (by kernel_rfl) (cwp_at 0 (.string a1) (by kernel_rfl) (cwp_at 2 (.pointer (some ⟨b2, 0, none⟩)) (by kernel_rfl) (cwp_at 6 (.int .i64 4) (by kernel_rfl) (keys_plain_j0_ok _ ?_ a1 b2 4 _ _ hM))))
   · intro z137 z138 z139 b147 h140 hM
     obtain ⟨x141, hc142, hM⟩ := hM
     obtain ⟨x143, hc144, hM⟩ := hM
     exact ret_ (.tuple #[.agg #[.int .i64 x141, .int .i64 x143], .bool z138, .int .i64 z139]) (Eq.trans (b := (cellH h140 ⟨z137, 0, none⟩).bind fun v145 => (cellH h140 ⟨z137, 1, none⟩).bind fun v146 => some (.tuple #[.agg #[v145, v146], .bool z138, .int .i64 z139])) (by kernel_rfl) ((bindE hc142 _).trans (bindE hc144 _))) ⟨_, _, _, _, rfl, hM⟩
 replace hM := ifF hc136 hM
 refine cR ?_
 refine oS [(26, .agg #[.int .i64 0, .int .i64 0])] rfl ?_
 refine owp_hpD rfl (by kernel_rfl) (hpSt ⟨b2, 0, none⟩ [.int .i64 0, .int .i64 0] (fun _ => by kernel_rfl) rfl hM ?_)
 intro h149 hM
 refine oS [(3, .bool false), (4, .int .i64 1)] rfl ?_
 refine oE (cwp_ret (blockE_r (thenE_r ?_)))
 obtain ⟨x150, hc151, hM⟩ := hM
 obtain ⟨x152, hc153, hM⟩ := hM
 exact ret_ (.tuple #[.agg #[.int .i64 x150, .int .i64 x152], .bool false, .int .i64 1]) (Eq.trans (b := (cellH h149 ⟨b2, 0, none⟩).bind fun v154 => (cellH h149 ⟨b2, 1, none⟩).bind fun v155 => some (.tuple #[.agg #[v154, v155], .bool false, .int .i64 1])) (by kernel_rfl) ((bindE hc151 _).trans (bindE hc153 _))) ⟨_, _, _, _, rfl, hM⟩
/- mullion/keys.bare -/
def keys_bare (a1 : ByteArray) (K : Int → Int → Bool → Int → Heap → Prop) (h : Heap) : Prop :=
 newB h #[.int .i64 0, .int .i64 0] 36 fun b2 h3 =>
 (0 : Int) < (a1.size : Int) ∧
 if (byteAt a1 0) = 27 then
  if (a1.size : Int) = 1 then
   stN ⟨b2, 0, none⟩ [.int .i64 0, .int .i64 0] 0 h3 fun h9 =>
   ldI h9 .i64 ⟨b2, 0, none⟩ fun x10 =>
   ldI h9 .i64 ⟨b2, 1, none⟩ fun x12 =>
   K x10 x12 false 0 h9
  else
  (1 : Int) < (a1.size : Int) ∧
  if (byteAt a1 1) = 27 then
   stN ⟨b2, 0, none⟩ [.int .i64 27, .int .i64 2] 0 h3 fun h19 =>
   ldI h19 .i64 ⟨b2, 0, none⟩ fun x20 =>
   ldI h19 .i64 ⟨b2, 1, none⟩ fun x22 =>
   K x20 x22 true 2 h19
  else
  (1 : Int) ≤ (a1.size : Int) ∧
  keys_plain (a1.extract ((1 : Int).toNat) a1.size) (fun x28 x29 x30 x31 h27 =>
   if x31 = 0 then
    gap h27 fun h35 =>
    stN ⟨b2, 0, none⟩ [.int .i64 0, .int .i64 0] 0 h35 fun h39 =>
    ldI h39 .i64 ⟨b2, 0, none⟩ fun x40 =>
    ldI h39 .i64 ⟨b2, 1, none⟩ fun x42 =>
    K x40 x42 false 0 h39
   else
   gap h27 fun h47 =>
   stN ⟨b2, 0, none⟩ [.int .i64 x28, .int .i64 (iOr .i64 x29 2)] 0 h47 fun h52 =>
   ldI h52 .i64 ⟨b2, 0, none⟩ fun x53 =>
   ldI h52 .i64 ⟨b2, 1, none⟩ fun x55 =>
    K x53 x55 x30 (IntKind.wrap .i64 (x31 + 1)) h52) h3
 else
 keys_plain a1 (fun x60 x61 x62 x63 h59 =>
  stN ⟨b2, 0, none⟩ [.int .i64 x60, .int .i64 x61] 0 h59 fun h64 =>
  ldI h64 .i64 ⟨b2, 0, none⟩ fun x65 =>
  ldI h64 .i64 ⟨b2, 1, none⟩ fun x67 =>
   K x65 x67 x62 x63 h64) h3
theorem keys_bare_ok (a1 : ByteArray) (K : Int → Int → Bool → Int → Heap → Prop) (h : Heap) (hM : keys_bare a1 K h) : CallsH Tryd.prog 25 #[.string a1] (fun v h' => ∃ (r71 : Int) (r72 : Int) (r73 : Bool) (r74 : Int), v = .tuple #[.agg #[.int .i64 r71, .int .i64 r72], .bool r73, .int .i64 r74] ∧ K r71 r72 r73 r74 h') h := by
 unfold keys_bare at hM
 refine callsH_intro (n := 42) Tryd.func25 rfl rfl (by kernel_rfl) ?_
 refine cR ?_
 refine owp_hpG rfl (by kernel_rfl) (hpNew #[.int .i64 0, .int .i64 0] 36 (fun _ => by kernel_rfl) ?_)
 intro b2 h3 hN4
 replace hM := newB_of hN4 hM
 refine oS [(3, .bool false), (4, .int .i64 0)] rfl ?_
 refine oE (cwp_seq (cR ?_))
 refine oS [(8, .string a1)] rfl ?_
 have hc5 : 0 ≤ (0 : Int) := by decide
 obtain ⟨hc6, hM⟩ := hM
 refine owp_rdG (.int .u8 (byteAt a1 0)) rfl (by kernel_rfl) (rd_ixStr (P := Tryd.prog) (h := h3) (t := 9) (s := a1) (k := .i64) (i := 0) (by kernel_rfl) hc5 hc6 (by kernel_rfl)) ?_
 refine oS [(10, .bool (!decide ((byteAt a1 0) = 27)))] rfl ?_
 refine oE ?_
 refine cwp_condN ((byteAt a1 0) = 27) (by kernel_rfl) (fun hc7 => ?_) (fun hc7 => ?_)
 · replace hM := ifT hc7 hM
   refine cwp_skip (thenE_n (cwp_seq (cR ?_)))
   refine oS [(16, .string a1), (17, .int .i64 (a1.size : Int)), (18, .bool (decide ((a1.size : Int) = 1)))] rfl ?_
   refine oE ?_
   refine cwp_condD ((a1.size : Int) = 1) (by kernel_rfl) (fun hc8 => ?_) (fun hc8 => ?_)
   · replace hM := ifT hc8 hM
     refine cR ?_
     refine oS [(19, .agg #[.int .i64 0, .int .i64 0])] rfl ?_
     refine owp_hpD rfl (by kernel_rfl) (hpSt ⟨b2, 0, none⟩ [.int .i64 0, .int .i64 0] (fun _ => by kernel_rfl) rfl hM ?_)
     intro h9 hM
     refine oS [(3, .bool false), (4, .int .i64 0)] rfl ?_
     refine oE (cwp_ret (thenE_r ?_))
     obtain ⟨x10, hc11, hM⟩ := hM
     obtain ⟨x12, hc13, hM⟩ := hM
     exact ret_ (.tuple #[.agg #[.int .i64 x10, .int .i64 x12], .bool false, .int .i64 0]) (Eq.trans (b := (cellH h9 ⟨b2, 0, none⟩).bind fun v14 => (cellH h9 ⟨b2, 1, none⟩).bind fun v15 => some (.tuple #[.agg #[v14, v15], .bool false, .int .i64 0])) (by kernel_rfl) ((bindE hc11 _).trans (bindE hc13 _))) ⟨_, _, _, _, rfl, hM⟩
   replace hM := ifF hc8 hM
   refine cwp_skip (thenE_n (cwp_seq (cR ?_)))
   refine oS [(20, .string a1)] rfl ?_
   have hc16 : 0 ≤ (1 : Int) := by decide
   obtain ⟨hc17, hM⟩ := hM
   refine owp_rdG (.int .u8 (byteAt a1 1)) rfl (by kernel_rfl) (rd_ixStr (P := Tryd.prog) (h := h3) (t := 9) (s := a1) (k := .i64) (i := 1) (by kernel_rfl) hc16 hc17 (by kernel_rfl)) ?_
   refine oS [(22, .bool (decide ((byteAt a1 1) = 27)))] rfl ?_
   refine oE ?_
   refine cwp_condD ((byteAt a1 1) = 27) (by kernel_rfl) (fun hc18 => ?_) (fun hc18 => ?_)
   · replace hM := ifT hc18 hM
     refine cR ?_
     refine oS [(23, .agg #[.int .i64 27, .int .i64 2])] rfl ?_
     refine owp_hpD rfl (by kernel_rfl) (hpSt ⟨b2, 0, none⟩ [.int .i64 27, .int .i64 2] (fun _ => by kernel_rfl) rfl hM ?_)
     intro h19 hM
     refine oS [(3, .bool true), (4, .int .i64 2)] rfl ?_
     refine oE (cwp_ret (thenE_r ?_))
     obtain ⟨x20, hc21, hM⟩ := hM
     obtain ⟨x22, hc23, hM⟩ := hM
     exact ret_ (.tuple #[.agg #[.int .i64 x20, .int .i64 x22], .bool true, .int .i64 2]) (Eq.trans (b := (cellH h19 ⟨b2, 0, none⟩).bind fun v24 => (cellH h19 ⟨b2, 1, none⟩).bind fun v25 => some (.tuple #[.agg #[v24, v25], .bool true, .int .i64 2])) (by kernel_rfl) ((bindE hc21 _).trans (bindE hc23 _))) ⟨_, _, _, _, rfl, hM⟩
   replace hM := ifF hc18 hM
   refine cwp_skip (thenE_n (cR ?_))
   refine oS [(25, .string a1)] rfl ?_
   obtain ⟨hc26, hM⟩ := hM
   refine owp_rdG (.string (a1.extract ((1 : Int).toNat) a1.size)) rfl (by kernel_rfl) (rd_slLo (P := Tryd.prog) (h := h3) (t := 9) (s := a1) (k := .i64) (i := (1 : Int)) (by kernel_rfl) (by decide) hc26 (by kernel_rfl)) ?_
   refine owp_hpG rfl (by kernel_rfl) (hpCallE 46 #[.string (a1.extract ((1 : Int).toNat) a1.size)] (by kernel_rfl) (keys_plain_ok (a1.extract ((1 : Int).toNat) a1.size) _ h3 hM) ?_)
   rintro _ h27 ⟨x28, x29, x30, x31, rfl, hM⟩
   refine oS [(24, .tuple #[.agg #[.int .i64 x28, .int .i64 x29], .bool x30, .int .i64 x31]), (28, .agg #[.int .i64 x28, .int .i64 x29]), (29, .bool x30), (30, .int .i64 x31)] rfl ?_
   refine owp_hpG rfl (by kernel_rfl) (hpNew #[.int .i64 0, .int .i64 0] 36 (fun _ => by kernel_rfl) ?_)
   intro b32 h33 hN34
   refine owp_hpD rfl (by kernel_rfl) (hpStB b32 0 [.int .i64 x28, .int .i64 x29] (New.blk hN34) (fun _ => by kernel_rfl) rfl rfl ?_)
   intro h35 hP36
   have f37 : Blk h35 b32 #[.int .i64 x28, .int .i64 x29] 36 := hP36.blk
   refine oS [(6, .bool x30), (7, .int .i64 x31)] rfl ?_
   refine oE (cwp_seq (cR ?_))
   refine oS [(31, .int .i64 x31), (32, .bool (decide (x31 = 0)))] rfl ?_
   refine oE ?_
   refine cwp_condD (x31 = 0) (by kernel_rfl) (fun hc38 => ?_) (fun hc38 => ?_)
   · replace hM := ifT hc38 hM
     refine cR ?_
     refine oS [(33, .agg #[.int .i64 0, .int .i64 0])] rfl ?_
     replace hM := hM _ (Put.ext hP36 (New.ext hN34) (New.ge hN34 (Ext.refl _)))
     refine owp_hpD rfl (by kernel_rfl) (hpSt ⟨b2, 0, none⟩ [.int .i64 0, .int .i64 0] (fun _ => by kernel_rfl) rfl hM ?_)
     intro h39 hM
     refine oS [(3, .bool false), (4, .int .i64 0)] rfl ?_
     refine oE (cwp_ret (thenE_r ?_))
     obtain ⟨x40, hc41, hM⟩ := hM
     obtain ⟨x42, hc43, hM⟩ := hM
     exact ret_ (.tuple #[.agg #[.int .i64 x40, .int .i64 x42], .bool false, .int .i64 0]) (Eq.trans (b := (cellH h39 ⟨b2, 0, none⟩).bind fun v44 => (cellH h39 ⟨b2, 1, none⟩).bind fun v45 => some (.tuple #[.agg #[v44, v45], .bool false, .int .i64 0])) (by kernel_rfl) ((bindE hc41 _).trans (bindE hc43 _))) ⟨_, _, _, _, rfl, hM⟩
   replace hM := ifF hc38 hM
   refine cwp_skip (thenE_n (cR ?_))
   refine oS [(34, .pointer (some ⟨b32, 1, none⟩))] rfl ?_
   refine owp_rdG (.int .i64 x29) rfl (by kernel_rfl) (Eq.trans (b := (cellH h35 ⟨b32, 1, none⟩).bind fun v46 => some (.value v46)) (by kernel_rfl) (bindE (Blk.cell f37 1 (by kernel_rfl)) _)) ?_
   refine oS [(36, .int .i64 (iOr .i64 x29 2)), (37, .pointer (some ⟨b32, 1, none⟩))] rfl ?_
   refine owp_hpD rfl (by kernel_rfl) (hpStB b32 1 [.int .i64 (iOr .i64 x29 2)] f37 (fun _ => by kernel_rfl) rfl rfl ?_)
   intro h47 hP48
   have f49 : Blk h47 b32 #[.int .i64 x28, .int .i64 (iOr .i64 x29 2)] 36 := hP48.blk
   refine oE (cR ?_)
   refine owp_rdG (.agg #[.int .i64 x28, .int .i64 (iOr .i64 x29 2)]) rfl (by kernel_rfl) (Eq.trans (b := (cellH h47 ⟨b32, 0, none⟩).bind fun v50 => (cellH h47 ⟨b32, 1, none⟩).bind fun v51 => some (.value (.agg #[v50, v51]))) (by kernel_rfl) ((bindE (Blk.cell f49 0 (by kernel_rfl)) _).trans (bindE (Blk.cell f49 1 (by kernel_rfl)) _))) ?_
   refine oS [(39, .bool x30), (40, .int .i64 x31), (41, .int .i64 (IntKind.wrap .i64 (x31 + 1)))] rfl ?_
   replace hM := hM _ (Put.ext hP48 (Put.ext hP36 (New.ext hN34) (New.ge hN34 (Ext.refl _))) (New.ge hN34 (Ext.refl _)))
   refine owp_hpD rfl (by kernel_rfl) (hpSt ⟨b2, 0, none⟩ [.int .i64 x28, .int .i64 (iOr .i64 x29 2)] (fun _ => by kernel_rfl) rfl hM ?_)
   intro h52 hM
   refine oS [(3, .bool x30), (4, .int .i64 (IntKind.wrap .i64 (x31 + 1)))] rfl ?_
   refine oE (cwp_ret ?_)
   obtain ⟨x53, hc54, hM⟩ := hM
   obtain ⟨x55, hc56, hM⟩ := hM
   exact ret_ (.tuple #[.agg #[.int .i64 x53, .int .i64 x55], .bool x30, .int .i64 (IntKind.wrap .i64 (x31 + 1))]) (Eq.trans (b := (cellH h52 ⟨b2, 0, none⟩).bind fun v57 => (cellH h52 ⟨b2, 1, none⟩).bind fun v58 => some (.tuple #[.agg #[v57, v58], .bool x30, .int .i64 (IntKind.wrap .i64 (x31 + 1))])) (by kernel_rfl) ((bindE hc54 _).trans (bindE hc56 _))) ⟨_, _, _, _, rfl, hM⟩
 replace hM := ifF hc7 hM
 refine cR ?_
 refine oS [(11, .string a1)] rfl ?_
 refine owp_hpG rfl (by kernel_rfl) (hpCallE 46 #[.string a1] (by kernel_rfl) (keys_plain_ok a1 _ h3 hM) ?_)
 rintro _ h59 ⟨x60, x61, x62, x63, rfl, hM⟩
 refine oS [(13, .agg #[.int .i64 x60, .int .i64 x61]), (14, .bool x62), (15, .int .i64 x63)] rfl ?_
 refine owp_hpD rfl (by kernel_rfl) (hpSt ⟨b2, 0, none⟩ [.int .i64 x60, .int .i64 x61] (fun _ => by kernel_rfl) rfl hM ?_)
 intro h64 hM
 refine oS [(3, .bool x62), (4, .int .i64 x63)] rfl ?_
 refine oE (cwp_ret (thenE_r ?_))
 obtain ⟨x65, hc66, hM⟩ := hM
 obtain ⟨x67, hc68, hM⟩ := hM
 exact ret_ (.tuple #[.agg #[.int .i64 x65, .int .i64 x67], .bool x62, .int .i64 x63]) (Eq.trans (b := (cellH h64 ⟨b2, 0, none⟩).bind fun v69 => (cellH h64 ⟨b2, 1, none⟩).bind fun v70 => some (.tuple #[.agg #[v69, v70], .bool x62, .int .i64 x63])) (by kernel_rfl) ((bindE hc66 _).trans (bindE hc68 _))) ⟨_, _, _, _, rfl, hM⟩
/- (*mullion/keys.Decoder).Flush -/
def keys_Decoder_Flush_l0 (K0 : Addr → Option Addr → Nat → Nat → Heap → Prop) : Nat → Addr → Option Addr → Nat → Nat → ByteArray → Heap → Prop
  | 0, _, _, _, _, _, _ => False
  | k + 1, y6, y7, y7n, y7c, y8, h =>
  if (!(y8.toList == (⟨#[]⟩ : ByteArray).toList)) = true then
   keys_bare y8 (fun x11 x12 x13 x14 h10 =>
    if x14 = 0 then
     if (y8.toList == (⟨#[27]⟩ : ByteArray).toList) = true then
      gap h10 fun h24 =>
      appH h24 36 16 [.int .i64 0, .int .i64 0] y7 y7n y7c [.int .i64 27, .int .i64 0] 1 fun s28 s28c h27 =>
      K0 y6 s28 (y7n + 1) s28c h27
     else
     gap h10 fun h18 =>
     K0 y6 y7 y7n y7c h18
    else
    if x13 = true then
     gap h10 fun h35 =>
     appH h35 36 16 [.int .i64 0, .int .i64 0] y7 y7n y7c [.int .i64 x11, .int .i64 x12] 1 fun s39 s39c h38 =>
     0 ≤ x14 ∧
     x14 ≤ (y8.size : Int) ∧
     keys_Decoder_Flush_l0 K0 k y6 s39 (y7n + 1) s39c (y8.extract x14.toNat y8.size) h38
    else
    0 ≤ x14 ∧
    x14 ≤ (y8.size : Int) ∧
    gap h10 fun h18 =>
     keys_Decoder_Flush_l0 K0 k y6 y7 y7n y7c (y8.extract x14.toNat y8.size) h18) h
  else
  K0 y6 y7 y7n y7c h
theorem keys_Decoder_Flush_l0_ok {Q : Exit → Env → Heap → Prop} (K0 : Addr → Option Addr → Nat → Nat → Heap → Prop) (hK0 : ∀ (z46 : Addr) (z47 : Option Addr) (z47n : Nat) (z47c : Nat) (b : Env) (h : Heap), K0 z46 z47 z47n z47c h → Q (.exit 0) (upd (upd b 0 (.pointer (some z46))) 3 (.slice z47 z47n z47c)) h) : ∀ (k : Nat) (y6 : Addr) (y7 : Option Addr) (y7n : Nat) (y7c : Nat) (y8 : ByteArray) (b : Env) (h : Heap) (hM : keys_Decoder_Flush_l0 K0 k y6 y7 y7n y7c y8 h), lwp Tryd.prog (partC Tryd.f10 [1, 1, 0, 1, 0, 0]) 40 Q k (upd (upd (upd b 0 (.pointer (some y6))) 3 (.slice y7 y7n y7c)) 4 (.string y8)) h := by
  intro k
  induction k with
  | zero => intro y6 y7 y7n y7c y8 b h hM; exact (show False from hM).elim
  | succ k ih =>
    intro y6 y7 y7n y7c y8 b h hM
    unfold keys_Decoder_Flush_l0 at hM
    refine lwp_succ (cwp_part rfl ?_)
    refine cwp_seq (cR ?_)
    refine oS [(12, .string y8), (13, .bool (!(y8.toList == (⟨#[]⟩ : ByteArray).toList)))] rfl ?_
    refine oE ?_
    refine cwp_condB (!(y8.toList == (⟨#[]⟩ : ByteArray).toList)) (by kernel_rfl) (fun hc9 => ?_) (fun hc9 => ?_)
    · replace hM := ifT hc9 hM
      refine cwp_skip (thenE_n (cwp_block (cR ?_)))
      refine oS [(15, .string y8)] rfl ?_
      refine owp_hpG rfl (by kernel_rfl) (hpCallE 25 #[.string y8] (by kernel_rfl) (keys_bare_ok y8 _ h hM) ?_)
      rintro _ h10 ⟨x11, x12, x13, x14, rfl, hM⟩
      refine oS [(14, .tuple #[.agg #[.int .i64 x11, .int .i64 x12], .bool x13, .int .i64 x14]), (17, .agg #[.int .i64 x11, .int .i64 x12]), (18, .bool x13), (19, .int .i64 x14)] rfl ?_
      refine owp_hpG rfl (by kernel_rfl) (hpNew #[.int .i64 0, .int .i64 0] 36 (fun _ => by kernel_rfl) ?_)
      intro b15 h16 hN17
      refine owp_hpD rfl (by kernel_rfl) (hpStB b15 0 [.int .i64 x11, .int .i64 x12] (New.blk hN17) (fun _ => by kernel_rfl) rfl rfl ?_)
      intro h18 hP19
      have f20 : Blk h18 b15 #[.int .i64 x11, .int .i64 x12] 36 := hP19.blk
      refine oS [(6, .bool x13), (7, .int .i64 x14)] rfl ?_
      refine oE (cwp_seq (cR ?_))
      refine oS [(20, .int .i64 x14), (21, .bool (decide (x14 = 0)))] rfl ?_
      refine oE ?_
      refine cwp_condD (x14 = 0) (by kernel_rfl) (fun hc21 => ?_) (fun hc21 => ?_)
      · replace hM := ifT hc21 hM
        refine cwp_seq (cR ?_)
        refine oS [(22, .string y8), (23, .bool (y8.toList == (⟨#[27]⟩ : ByteArray).toList))] rfl ?_
        refine oE ?_
        refine cwp_condB (y8.toList == (⟨#[27]⟩ : ByteArray).toList) (by kernel_rfl) (fun hc22 => ?_) (fun hc22 => ?_)
        · replace hM := ifT hc22 hM
          refine cwp_region ?_
          refine oS [(24, .slice y7 y7n y7c), (25, .agg #[.int .i64 27, .int .i64 0])] rfl ?_
          refine owp_hpG rfl (by kernel_rfl) (hpNewS #[.int .i64 27, .int .i64 0] 36 1 (fun _ => by kernel_rfl) ?_)
          intro b23 h24 hN25
          have f26 := Blk.ext f20 (New.ext hN25)
          replace hM := hM _ (Ext.trans (Put.ext hP19 (New.ext hN17) (New.ge hN17 (Ext.refl _))) (New.ext hN25))
          refine owp_hpG rfl (by kernel_rfl) (hpApp (t := 27) (ty := 27) (et := 36) (zv := .agg #[.int .i64 0, .int .i64 0]) (sz := 2) (by_ := 16) (base := y7) (n' := y7n) (c := y7c) (xb := (some ⟨b23, 0, none⟩)) (m := 1) (xc := 1) (new := [.int .i64 27, .int .i64 0]) (fun _ => by kernel_rfl) (by kernel_rfl) (by kernel_rfl) [.int .i64 0, .int .i64 0] rfl rfl (by decide) rfl rfl ⟨Blk.cell (New.blk hN25) 0 (by kernel_rfl), Blk.cell (New.blk hN25) 1 (by kernel_rfl), trivial⟩ hM ?_)
          intro s28 s28c h27 hM
          refine oS [(3, .slice s28 (y7n + 1) s28c)] rfl ?_
          refine oE (cwp_exit (thenE_x (blockE_x rfl ?_)))
          exact q_at (Q := Q (.exit 0)) 0 (.pointer (some y6)) (by kernel_rfl) (q_at (Q := Q (.exit 0)) 3 (.slice s28 (y7n + 1) s28c) (by kernel_rfl) (hK0 y6 s28 (y7n + 1) s28c _ _ hM))
        replace hM := ifF hc22 hM
        refine cwp_skip (thenE_n (cwp_exit (thenE_x (blockE_x rfl ?_))))
        replace hM := hM _ (Put.ext hP19 (New.ext hN17) (New.ge hN17 (Ext.refl _)))
        exact q_at (Q := Q (.exit 0)) 0 (.pointer (some y6)) (by kernel_rfl) (q_at (Q := Q (.exit 0)) 3 (.slice y7 y7n y7c) (by kernel_rfl) (hK0 y6 y7 y7n y7c _ _ hM))
      replace hM := ifF hc21 hM
      refine cwp_skip (thenE_n (cwp_seq (cR ?_)))
      refine oS [(28, .bool x13)] rfl ?_
      refine oE ?_
      refine cwp_condB x13 (by kernel_rfl) (fun hc31 => ?_) (fun hc31 => ?_)
      · replace hM := ifT hc31 hM
        refine cwp_region ?_
        refine oS [(29, .slice y7 y7n y7c)] rfl ?_
        refine owp_rdG (.agg #[.int .i64 x11, .int .i64 x12]) rfl (by kernel_rfl) (Eq.trans (b := (cellH h18 ⟨b15, 0, none⟩).bind fun v32 => (cellH h18 ⟨b15, 1, none⟩).bind fun v33 => some (.value (.agg #[v32, v33]))) (by kernel_rfl) ((bindE (Blk.cell f20 0 (by kernel_rfl)) _).trans (bindE (Blk.cell f20 1 (by kernel_rfl)) _))) ?_
        refine owp_hpG rfl (by kernel_rfl) (hpNewS #[.int .i64 x11, .int .i64 x12] 36 1 (fun _ => by kernel_rfl) ?_)
        intro b34 h35 hN36
        have f37 := Blk.ext f20 (New.ext hN36)
        replace hM := hM _ (Ext.trans (Put.ext hP19 (New.ext hN17) (New.ge hN17 (Ext.refl _))) (New.ext hN36))
        refine owp_hpG rfl (by kernel_rfl) (hpApp (t := 27) (ty := 27) (et := 36) (zv := .agg #[.int .i64 0, .int .i64 0]) (sz := 2) (by_ := 16) (base := y7) (n' := y7n) (c := y7c) (xb := (some ⟨b34, 0, none⟩)) (m := 1) (xc := 1) (new := [.int .i64 x11, .int .i64 x12]) (fun _ => by kernel_rfl) (by kernel_rfl) (by kernel_rfl) [.int .i64 0, .int .i64 0] rfl rfl (by decide) rfl rfl ⟨Blk.cell (New.blk hN36) 0 (by kernel_rfl), Blk.cell (New.blk hN36) 1 (by kernel_rfl), trivial⟩ hM ?_)
        intro s39 s39c h38 hM
        refine oS [(3, .slice s39 (y7n + 1) s39c)] rfl ?_
        refine oE (cwp_region ?_)
        refine oS [(33, .string y8), (34, .int .i64 x14)] rfl ?_
        obtain ⟨hc40, hM⟩ := hM
        obtain ⟨hc41, hM⟩ := hM
        refine owp_rdG (.string (y8.extract x14.toNat y8.size)) rfl (by kernel_rfl) (rd_slLo (P := Tryd.prog) (h := h38) (t := 9) (s := y8) (k := .i64) (i := x14) (by kernel_rfl) hc40 hc41 (by kernel_rfl)) ?_
        refine oS [(4, .string (y8.extract x14.toNat y8.size))] rfl ?_
        refine owp_nil (blockE_n ?_)
        exact lwp_at 0 (.pointer (some y6)) (by kernel_rfl) (lwp_at 3 (.slice s39 (y7n + 1) s39c) (by kernel_rfl) (lwp_at 4 (.string (y8.extract x14.toNat y8.size)) (by kernel_rfl) (ih y6 s39 (y7n + 1) s39c (y8.extract x14.toNat y8.size) _ _ hM)))
      replace hM := ifF hc31 hM
      refine cwp_skip (thenE_n (cwp_region ?_))
      refine oS [(33, .string y8), (34, .int .i64 x14)] rfl ?_
      obtain ⟨hc42, hM⟩ := hM
      obtain ⟨hc43, hM⟩ := hM
      refine owp_rdG (.string (y8.extract x14.toNat y8.size)) rfl (by kernel_rfl) (rd_slLo (P := Tryd.prog) (h := h18) (t := 9) (s := y8) (k := .i64) (i := x14) (by kernel_rfl) hc42 hc43 (by kernel_rfl)) ?_
      refine oS [(4, .string (y8.extract x14.toNat y8.size))] rfl ?_
      refine owp_nil (blockE_n ?_)
      replace hM := hM _ (Put.ext hP19 (New.ext hN17) (New.ge hN17 (Ext.refl _)))
      exact lwp_at 0 (.pointer (some y6)) (by kernel_rfl) (lwp_at 3 (.slice y7 y7n y7c) (by kernel_rfl) (lwp_at 4 (.string (y8.extract x14.toNat y8.size)) (by kernel_rfl) (ih y6 y7 y7n y7c (y8.extract x14.toNat y8.size) _ _ hM)))
    replace hM := ifF hc9 hM
    refine cwp_exit (thenE_x ?_)
    exact q_at (Q := Q (.exit 0)) 0 (.pointer (some y6)) (by kernel_rfl) (q_at (Q := Q (.exit 0)) 3 (.slice y7 y7n y7c) (by kernel_rfl) (hK0 y6 y7 y7n y7c _ _ hM))
def keys_Decoder_Flush (a1 : Option Addr) (K : Option Addr → Nat → Nat → Heap → Prop) (h : Heap) : Prop :=
 nz a1 fun p2 =>
 ldS h p2 fun x3 =>
 ∃ k53, keys_Decoder_Flush_l0
  (fun z48 z49 z49n z49c h50 =>
    stN z48 [.string (⟨#[]⟩ : ByteArray)] 0 h50 fun h51 =>
      K z49 z49n z49c h51) k53 p2 none 0 0 x3 h
theorem keys_Decoder_Flush_ok (a1 : Option Addr) (K : Option Addr → Nat → Nat → Heap → Prop) (h : Heap) (hM : keys_Decoder_Flush a1 K h) : CallsH Tryd.prog 10 #[.pointer a1] (fun v h' => ∃ (r54 : Option Addr) (r54n : Nat) (r54c : Nat), v = .slice r54 r54n r54c ∧ K r54 r54n r54c h') h := by
 unfold keys_Decoder_Flush at hM
 refine callsH_intro (n := 40) Tryd.func10 rfl rfl (by kernel_rfl) ?_
 refine cR ?_
 refine oS [(2, .slice none 0 0)] rfl ?_
 refine oE (cR ?_)
 refine oS [(3, .slice none 0 0)] rfl ?_
 refine oE (cwp_seq (cR ?_))
 refine oS [(8, .pointer a1)] rfl ?_
 obtain ⟨p2, rfl, hM⟩ := hM
 refine owp_rdG (.pointer (some p2)) rfl (by kernel_rfl) (by kernel_rfl) ?_
 refine oS [(10, .pointer (some p2))] rfl ?_
 obtain ⟨x3, hc4, hM⟩ := hM
 refine owp_rdG (.string x3) rfl (by kernel_rfl) (Eq.trans (b := (cellH h p2).bind fun v5 => some (.value v5)) (by kernel_rfl) (bindE hc4 _)) ?_
 refine oS [(4, .string x3)] rfl ?_
 refine oE (cwp_block ?_)
 obtain ⟨k_, hM⟩ := hM
 refine cwp_loop k_ (lwp_of_part (fn := Tryd.f10) (p := [1, 1, 0, 1, 0, 0]) (by kernel_rfl) (lwp_at 0 (.pointer (some p2)) (by kernel_rfl) (lwp_at 3 (.slice none 0 0) (by kernel_rfl) (lwp_at 4 (.string x3) (by kernel_rfl) (keys_Decoder_Flush_l0_ok _ ?_ k_ p2 none 0 0 x3 _ _ hM)))))
 · intro z48 z49 z49n z49c b52 h50 hM
   refine blockE_h (thenE_n (cR ?_))
   refine oS [(36, .pointer (some z48)), (37, .pointer (some z48)), (38, .pointer (some z48))] rfl ?_
   refine owp_hpD rfl (by kernel_rfl) (hpSt z48 [.string (⟨#[]⟩ : ByteArray)] (fun _ => by kernel_rfl) rfl hM ?_)
   intro h51 hM
   refine oE (cR ?_)
   refine oS [(39, .slice z49 z49n z49c), (2, .slice z49 z49n z49c)] rfl ?_
   refine oE (cwp_ret ?_)
   exact ret_ (.slice z49 z49n z49c) (by kernel_rfl) ⟨_, _, _, rfl, hM⟩
/- mullion/mullionref21.utf8 -/
def ref21_utf8 (a1 : Int) : ByteArray :=
 if a1 < 128 then
  (bytesOf [IntKind.wrap .u8 (a1)])
 else
 if a1 < 2048 then
  (bytesOf [IntKind.wrap .u8 (IntKind.wrap .i64 (192 + (IntKind.wrap .i64 (Int.tdiv a1 64)))), IntKind.wrap .u8 (IntKind.wrap .i64 (128 + (Int.tmod a1 64)))])
 else
 if a1 < 65536 then
  (bytesOf [IntKind.wrap .u8 (IntKind.wrap .i64 (224 + (IntKind.wrap .i64 (Int.tdiv a1 4096)))), IntKind.wrap .u8 (IntKind.wrap .i64 (128 + (Int.tmod (IntKind.wrap .i64 (Int.tdiv a1 64)) 64))), IntKind.wrap .u8 (IntKind.wrap .i64 (128 + (Int.tmod a1 64)))])
 else
 (bytesOf [IntKind.wrap .u8 (IntKind.wrap .i64 (240 + (IntKind.wrap .i64 (Int.tdiv a1 262144)))), IntKind.wrap .u8 (IntKind.wrap .i64 (128 + (Int.tmod (IntKind.wrap .i64 (Int.tdiv a1 4096)) 64))), IntKind.wrap .u8 (IntKind.wrap .i64 (128 + (Int.tmod (IntKind.wrap .i64 (Int.tdiv a1 64)) 64))), IntKind.wrap .u8 (IntKind.wrap .i64 (128 + (Int.tmod a1 64)))])
theorem ref21_utf8_ok (a1 : Int) (r : ByteArray) (h : Heap) (hM : ref21_utf8 a1 = r) : CallsH Tryd.prog 39 #[.int .i64 a1] (fun v h' => v = .string r ∧ Ext h h') h := by
 unfold ref21_utf8 at hM
 refine callsH_intro (n := 61) Tryd.func39 rfl rfl (by kernel_rfl) ?_
 refine cR ?_
 refine oS [(2, .string (⟨#[]⟩ : ByteArray))] rfl ?_
 refine oE (cwp_seq (cwp_block (cR ?_)))
 refine oS [(4, .int .i64 a1), (5, .bool (decide (a1 < 128))), (3, .bool (decide (a1 < 128)))] rfl ?_
 refine oE ?_
 refine cwp_condD (a1 < 128) (by kernel_rfl) (fun hc2 => ?_) (fun hc2 => ?_)
 · replace hM := ifTo hc2 hM
   refine cR ?_
   refine oS [(6, .int .i64 a1), (7, .int .u8 (IntKind.wrap .u8 (a1)))] rfl ?_
   refine owp_hpG rfl (by kernel_rfl) (hpNewS #[.int .u8 (IntKind.wrap .u8 (a1))] 5 1 (fun _ => by kernel_rfl) ?_)
   intro b3 h4 hN5
   refine owp_rdG (.string (bytesOf [IntKind.wrap .u8 (a1)])) rfl (by kernel_rfl) (rd_bytes (P := Tryd.prog) (h := h4) (c := 1) [IntKind.wrap .u8 (a1)] ⟨Blk.cell (New.blk hN5) 0 (by kernel_rfl), trivial⟩ (by kernel_rfl)) ?_
   refine oS [(2, .string (bytesOf [IntKind.wrap .u8 (a1)]))] rfl ?_
   refine oE (cwp_ret (blockE_r (thenE_r ?_)))
   subst hM
   exact ret_ (.string (bytesOf [IntKind.wrap .u8 (a1)])) (by kernel_rfl) ⟨rfl, (New.ext hN5)⟩
 replace hM := ifFo hc2 hM
 refine cR ?_
 refine oS [(11, .int .i64 a1), (12, .bool (decide (a1 < 2048))), (10, .bool (decide (a1 < 2048)))] rfl ?_
 refine oE ?_
 refine cwp_condD (a1 < 2048) (by kernel_rfl) (fun hc6 => ?_) (fun hc6 => ?_)
 · replace hM := ifTo hc6 hM
   refine cR ?_
   refine oS [(13, .int .i64 a1), (14, .int .i64 (IntKind.wrap .i64 (Int.tdiv a1 64))), (15, .int .i64 (IntKind.wrap .i64 (192 + (IntKind.wrap .i64 (Int.tdiv a1 64))))), (16, .int .u8 (IntKind.wrap .u8 (IntKind.wrap .i64 (192 + (IntKind.wrap .i64 (Int.tdiv a1 64)))))), (17, .int .i64 a1), (18, .int .i64 (Int.tmod a1 64)), (19, .int .i64 (IntKind.wrap .i64 (128 + (Int.tmod a1 64)))), (20, .int .u8 (IntKind.wrap .u8 (IntKind.wrap .i64 (128 + (Int.tmod a1 64)))))] rfl ?_
   refine owp_hpG rfl (by kernel_rfl) (hpNewS #[.int .u8 (IntKind.wrap .u8 (IntKind.wrap .i64 (192 + (IntKind.wrap .i64 (Int.tdiv a1 64))))), .int .u8 (IntKind.wrap .u8 (IntKind.wrap .i64 (128 + (Int.tmod a1 64))))] 5 2 (fun _ => by kernel_rfl) ?_)
   intro b7 h8 hN9
   refine owp_rdG (.string (bytesOf [IntKind.wrap .u8 (IntKind.wrap .i64 (192 + (IntKind.wrap .i64 (Int.tdiv a1 64)))), IntKind.wrap .u8 (IntKind.wrap .i64 (128 + (Int.tmod a1 64)))])) rfl (by kernel_rfl) (rd_bytes (P := Tryd.prog) (h := h8) (c := 2) [IntKind.wrap .u8 (IntKind.wrap .i64 (192 + (IntKind.wrap .i64 (Int.tdiv a1 64)))), IntKind.wrap .u8 (IntKind.wrap .i64 (128 + (Int.tmod a1 64)))] ⟨Blk.cell (New.blk hN9) 0 (by kernel_rfl), Blk.cell (New.blk hN9) 1 (by kernel_rfl), trivial⟩ (by kernel_rfl)) ?_
   refine oS [(2, .string (bytesOf [IntKind.wrap .u8 (IntKind.wrap .i64 (192 + (IntKind.wrap .i64 (Int.tdiv a1 64)))), IntKind.wrap .u8 (IntKind.wrap .i64 (128 + (Int.tmod a1 64)))]))] rfl ?_
   refine oE (cwp_ret (blockE_r (thenE_r ?_)))
   subst hM
   exact ret_ (.string (bytesOf [IntKind.wrap .u8 (IntKind.wrap .i64 (192 + (IntKind.wrap .i64 (Int.tdiv a1 64)))), IntKind.wrap .u8 (IntKind.wrap .i64 (128 + (Int.tmod a1 64)))])) (by kernel_rfl) ⟨rfl, (New.ext hN9)⟩
 replace hM := ifFo hc6 hM
 refine cR ?_
 refine oS [(24, .int .i64 a1), (25, .bool (decide (a1 < 65536))), (23, .bool (decide (a1 < 65536)))] rfl ?_
 refine oE ?_
 refine cwp_condD (a1 < 65536) (by kernel_rfl) (fun hc10 => ?_) (fun hc10 => ?_)
 · replace hM := ifTo hc10 hM
   refine cR ?_
   refine oS [(26, .int .i64 a1), (27, .int .i64 (IntKind.wrap .i64 (Int.tdiv a1 4096))), (28, .int .i64 (IntKind.wrap .i64 (224 + (IntKind.wrap .i64 (Int.tdiv a1 4096))))), (29, .int .u8 (IntKind.wrap .u8 (IntKind.wrap .i64 (224 + (IntKind.wrap .i64 (Int.tdiv a1 4096)))))), (30, .int .i64 a1), (31, .int .i64 (IntKind.wrap .i64 (Int.tdiv a1 64))), (32, .int .i64 (Int.tmod (IntKind.wrap .i64 (Int.tdiv a1 64)) 64)), (33, .int .i64 (IntKind.wrap .i64 (128 + (Int.tmod (IntKind.wrap .i64 (Int.tdiv a1 64)) 64)))), (34, .int .u8 (IntKind.wrap .u8 (IntKind.wrap .i64 (128 + (Int.tmod (IntKind.wrap .i64 (Int.tdiv a1 64)) 64))))), (35, .int .i64 a1), (36, .int .i64 (Int.tmod a1 64)), (37, .int .i64 (IntKind.wrap .i64 (128 + (Int.tmod a1 64)))), (38, .int .u8 (IntKind.wrap .u8 (IntKind.wrap .i64 (128 + (Int.tmod a1 64)))))] rfl ?_
   refine owp_hpG rfl (by kernel_rfl) (hpNewS #[.int .u8 (IntKind.wrap .u8 (IntKind.wrap .i64 (224 + (IntKind.wrap .i64 (Int.tdiv a1 4096))))), .int .u8 (IntKind.wrap .u8 (IntKind.wrap .i64 (128 + (Int.tmod (IntKind.wrap .i64 (Int.tdiv a1 64)) 64)))), .int .u8 (IntKind.wrap .u8 (IntKind.wrap .i64 (128 + (Int.tmod a1 64))))] 5 3 (fun _ => by kernel_rfl) ?_)
   intro b11 h12 hN13
   refine owp_rdG (.string (bytesOf [IntKind.wrap .u8 (IntKind.wrap .i64 (224 + (IntKind.wrap .i64 (Int.tdiv a1 4096)))), IntKind.wrap .u8 (IntKind.wrap .i64 (128 + (Int.tmod (IntKind.wrap .i64 (Int.tdiv a1 64)) 64))), IntKind.wrap .u8 (IntKind.wrap .i64 (128 + (Int.tmod a1 64)))])) rfl (by kernel_rfl) (rd_bytes (P := Tryd.prog) (h := h12) (c := 3) [IntKind.wrap .u8 (IntKind.wrap .i64 (224 + (IntKind.wrap .i64 (Int.tdiv a1 4096)))), IntKind.wrap .u8 (IntKind.wrap .i64 (128 + (Int.tmod (IntKind.wrap .i64 (Int.tdiv a1 64)) 64))), IntKind.wrap .u8 (IntKind.wrap .i64 (128 + (Int.tmod a1 64)))] ⟨Blk.cell (New.blk hN13) 0 (by kernel_rfl), Blk.cell (New.blk hN13) 1 (by kernel_rfl), Blk.cell (New.blk hN13) 2 (by kernel_rfl), trivial⟩ (by kernel_rfl)) ?_
   refine oS [(2, .string (bytesOf [IntKind.wrap .u8 (IntKind.wrap .i64 (224 + (IntKind.wrap .i64 (Int.tdiv a1 4096)))), IntKind.wrap .u8 (IntKind.wrap .i64 (128 + (Int.tmod (IntKind.wrap .i64 (Int.tdiv a1 64)) 64))), IntKind.wrap .u8 (IntKind.wrap .i64 (128 + (Int.tmod a1 64)))]))] rfl ?_
   refine oE (cwp_ret (blockE_r (thenE_r ?_)))
   subst hM
   exact ret_ (.string (bytesOf [IntKind.wrap .u8 (IntKind.wrap .i64 (224 + (IntKind.wrap .i64 (Int.tdiv a1 4096)))), IntKind.wrap .u8 (IntKind.wrap .i64 (128 + (Int.tmod (IntKind.wrap .i64 (Int.tdiv a1 64)) 64))), IntKind.wrap .u8 (IntKind.wrap .i64 (128 + (Int.tmod a1 64)))])) (by kernel_rfl) ⟨rfl, (New.ext hN13)⟩
 replace hM := ifFo hc10 hM
 refine cwp_skip (blockE_n (thenE_n (cR ?_)))
 refine oS [(41, .int .i64 a1), (42, .int .i64 (IntKind.wrap .i64 (Int.tdiv a1 262144))), (43, .int .i64 (IntKind.wrap .i64 (240 + (IntKind.wrap .i64 (Int.tdiv a1 262144))))), (44, .int .u8 (IntKind.wrap .u8 (IntKind.wrap .i64 (240 + (IntKind.wrap .i64 (Int.tdiv a1 262144)))))), (45, .int .i64 a1), (46, .int .i64 (IntKind.wrap .i64 (Int.tdiv a1 4096))), (47, .int .i64 (Int.tmod (IntKind.wrap .i64 (Int.tdiv a1 4096)) 64)), (48, .int .i64 (IntKind.wrap .i64 (128 + (Int.tmod (IntKind.wrap .i64 (Int.tdiv a1 4096)) 64)))), (49, .int .u8 (IntKind.wrap .u8 (IntKind.wrap .i64 (128 + (Int.tmod (IntKind.wrap .i64 (Int.tdiv a1 4096)) 64))))), (50, .int .i64 a1), (51, .int .i64 (IntKind.wrap .i64 (Int.tdiv a1 64))), (52, .int .i64 (Int.tmod (IntKind.wrap .i64 (Int.tdiv a1 64)) 64)), (53, .int .i64 (IntKind.wrap .i64 (128 + (Int.tmod (IntKind.wrap .i64 (Int.tdiv a1 64)) 64)))), (54, .int .u8 (IntKind.wrap .u8 (IntKind.wrap .i64 (128 + (Int.tmod (IntKind.wrap .i64 (Int.tdiv a1 64)) 64))))), (55, .int .i64 a1), (56, .int .i64 (Int.tmod a1 64)), (57, .int .i64 (IntKind.wrap .i64 (128 + (Int.tmod a1 64)))), (58, .int .u8 (IntKind.wrap .u8 (IntKind.wrap .i64 (128 + (Int.tmod a1 64)))))] rfl ?_
 refine owp_hpG rfl (by kernel_rfl) (hpNewS #[.int .u8 (IntKind.wrap .u8 (IntKind.wrap .i64 (240 + (IntKind.wrap .i64 (Int.tdiv a1 262144))))), .int .u8 (IntKind.wrap .u8 (IntKind.wrap .i64 (128 + (Int.tmod (IntKind.wrap .i64 (Int.tdiv a1 4096)) 64)))), .int .u8 (IntKind.wrap .u8 (IntKind.wrap .i64 (128 + (Int.tmod (IntKind.wrap .i64 (Int.tdiv a1 64)) 64)))), .int .u8 (IntKind.wrap .u8 (IntKind.wrap .i64 (128 + (Int.tmod a1 64))))] 5 4 (fun _ => by kernel_rfl) ?_)
 intro b14 h15 hN16
 refine owp_rdG (.string (bytesOf [IntKind.wrap .u8 (IntKind.wrap .i64 (240 + (IntKind.wrap .i64 (Int.tdiv a1 262144)))), IntKind.wrap .u8 (IntKind.wrap .i64 (128 + (Int.tmod (IntKind.wrap .i64 (Int.tdiv a1 4096)) 64))), IntKind.wrap .u8 (IntKind.wrap .i64 (128 + (Int.tmod (IntKind.wrap .i64 (Int.tdiv a1 64)) 64))), IntKind.wrap .u8 (IntKind.wrap .i64 (128 + (Int.tmod a1 64)))])) rfl (by kernel_rfl) (rd_bytes (P := Tryd.prog) (h := h15) (c := 4) [IntKind.wrap .u8 (IntKind.wrap .i64 (240 + (IntKind.wrap .i64 (Int.tdiv a1 262144)))), IntKind.wrap .u8 (IntKind.wrap .i64 (128 + (Int.tmod (IntKind.wrap .i64 (Int.tdiv a1 4096)) 64))), IntKind.wrap .u8 (IntKind.wrap .i64 (128 + (Int.tmod (IntKind.wrap .i64 (Int.tdiv a1 64)) 64))), IntKind.wrap .u8 (IntKind.wrap .i64 (128 + (Int.tmod a1 64)))] ⟨Blk.cell (New.blk hN16) 0 (by kernel_rfl), Blk.cell (New.blk hN16) 1 (by kernel_rfl), Blk.cell (New.blk hN16) 2 (by kernel_rfl), Blk.cell (New.blk hN16) 3 (by kernel_rfl), trivial⟩ (by kernel_rfl)) ?_
 refine oS [(2, .string (bytesOf [IntKind.wrap .u8 (IntKind.wrap .i64 (240 + (IntKind.wrap .i64 (Int.tdiv a1 262144)))), IntKind.wrap .u8 (IntKind.wrap .i64 (128 + (Int.tmod (IntKind.wrap .i64 (Int.tdiv a1 4096)) 64))), IntKind.wrap .u8 (IntKind.wrap .i64 (128 + (Int.tmod (IntKind.wrap .i64 (Int.tdiv a1 64)) 64))), IntKind.wrap .u8 (IntKind.wrap .i64 (128 + (Int.tmod a1 64)))]))] rfl ?_
 refine oE (cwp_ret ?_)
 subst hM
 exact ret_ (.string (bytesOf [IntKind.wrap .u8 (IntKind.wrap .i64 (240 + (IntKind.wrap .i64 (Int.tdiv a1 262144)))), IntKind.wrap .u8 (IntKind.wrap .i64 (128 + (Int.tmod (IntKind.wrap .i64 (Int.tdiv a1 4096)) 64))), IntKind.wrap .u8 (IntKind.wrap .i64 (128 + (Int.tmod (IntKind.wrap .i64 (Int.tdiv a1 64)) 64))), IntKind.wrap .u8 (IntKind.wrap .i64 (128 + (Int.tmod a1 64)))])) (by kernel_rfl) ⟨rfl, (New.ext hN16)⟩
/- mullion/mullionref21.worth -/
def ref21_worth_l0 (K0 : Int → Heap → Prop) (Kr : Int → Heap → Prop) : Nat → ByteArray → Int → Int → Heap → Prop
  | 0, _, _, _, _ => False
  | k + 1, y32, y33, y34, h =>
  if y34 < (y32.size : Int) then
   0 ≤ y34 ∧
   y34 < (y32.size : Int) ∧
   ((decide ((byteAt y32 y34) < 128)) = false → 0 ≤ y34) ∧
   ((decide ((byteAt y32 y34) < 128)) = false → y34 < (y32.size : Int)) ∧
   if ((decide ((byteAt y32 y34) < 128)) || (decide (191 < (byteAt y32 y34)))) = true then
    Kr (-1) h
   else
   0 ≤ y34 ∧
   y34 < (y32.size : Int) ∧
   ref21_worth_l0 K0 Kr k y32 (IntKind.wrap .i64 ((IntKind.wrap .i64 ((IntKind.wrap .i64 (64 * y33)) + (IntKind.wrap .i64 (byteAt y32 y34)))) - 128)) (IntKind.wrap .i64 (y34 + 1)) h
  else
  K0 y33 h
theorem ref21_worth_l0_ok {Q : Exit → Env → Heap → Prop} (K0 : Int → Heap → Prop) (hK0 : ∀ (z52 : Int) (b : Env) (h : Heap), K0 z52 h → Q (.exit 0) (upd b 7 (.int .i64 z52)) h) (Kr : Int → Heap → Prop) (hKr : ∀ (z54 : Int) (b : Env) (h : Heap), Kr z54 h → Q .ret (upd b 2 (.int .i64 z54)) h) : ∀ (k : Nat) (y32 : ByteArray) (y33 : Int) (y34 : Int) (b : Env) (h : Heap) (hM : ref21_worth_l0 K0 Kr k y32 y33 y34 h), lwp Tryd.prog (partC Tryd.f57 [1, 1, 1, 1, 1, 1, 1, 0, 1, 0, 0]) 62 Q k (upd (upd (upd b 0 (.string y32)) 7 (.int .i64 y33)) 8 (.int .i64 y34)) h := by
  intro k
  induction k with
  | zero => intro y32 y33 y34 b h hM; exact (show False from hM).elim
  | succ k ih =>
    intro y32 y33 y34 b h hM
    unfold ref21_worth_l0 at hM
    refine lwp_succ (cwp_part rfl ?_)
    refine cwp_seq (cR ?_)
    refine oS [(37, .int .i64 y34), (38, .string y32), (39, .int .i64 (y32.size : Int)), (40, .bool (decide (y34 < (y32.size : Int))))] rfl ?_
    refine oE ?_
    refine cwp_condD (y34 < (y32.size : Int)) (by kernel_rfl) (fun hc35 => ?_) (fun hc35 => ?_)
    · replace hM := ifT hc35 hM
      refine cwp_skip (thenE_n (cwp_seq (cwp_block (cwp_seq (cR ?_)))))
      refine oS [(43, .string y32), (44, .int .i64 y34)] rfl ?_
      obtain ⟨hc36, hM⟩ := hM
      obtain ⟨hc37, hM⟩ := hM
      refine owp_rdG (.int .u8 (byteAt y32 y34)) rfl (by kernel_rfl) (rd_ixStr (P := Tryd.prog) (h := h) (t := 9) (s := y32) (k := .i64) (i := y34) (by kernel_rfl) hc36 hc37 (by kernel_rfl)) ?_
      refine oS [(46, .bool (decide ((byteAt y32 y34) < 128))), (47, .bool (decide ((byteAt y32 y34) < 128)))] rfl ?_
      obtain ⟨hc44, hM⟩ := hM
      obtain ⟨hc45, hM⟩ := hM
      refine oB (decide ((byteAt y32 y34) < 128)) 5 [46, 47] (fun b_ => [(48, iteV b_ undef (.string y32 : Value)), (49, iteV b_ undef (.int .i64 y34 : Value)), (50, iteV b_ undef (.int .u8 (byteAt y32 y34) : Value)), (51, iteV b_ undef (.bool (decide (191 < (byteAt y32 y34))) : Value)), (52, .bool (b_ || (decide (191 < (byteAt y32 y34)))))]) rfl (fun hb40 hq41 => oS [(48, undef), (49, undef), (50, undef), (51, undef), (52, .bool true)] rfl (hq41)) (fun hb42 hq43 => have hc38 := hc44 hb42; have hc39 := hc45 hb42; oS [(48, .string y32), (49, .int .i64 y34)] rfl (owp_rdG (.int .u8 (byteAt y32 y34)) rfl (by kernel_rfl) (rd_ixStr (P := Tryd.prog) (h := h) (t := 9) (s := y32) (k := .i64) (i := y34) (by kernel_rfl) hc38 hc39 (by kernel_rfl)) (oS [(51, .bool (decide (191 < (byteAt y32 y34)))), (52, .bool (decide (191 < (byteAt y32 y34))))] rfl (hq43)))) ?_
      refine oE ?_
      refine cwp_condB ((decide ((byteAt y32 y34) < 128)) || (decide (191 < (byteAt y32 y34)))) (by kernel_rfl) (fun hc46 => ?_) (fun hc46 => ?_)
      · replace hM := ifT hc46 hM
        refine cR ?_
        refine oS [(2, .int .i64 (-1))] rfl ?_
        refine oE (cwp_ret (thenE_r (blockE_r (thenE_r ?_))))
        exact q_at (Q := Q .ret) 2 (.int .i64 (-1)) (by kernel_rfl) (hKr (-1) _ _ hM)
      replace hM := ifF hc46 hM
      refine cwp_skip (thenE_n (cwp_region ?_))
      refine oS [(53, .int .i64 y33), (54, .int .i64 (IntKind.wrap .i64 (64 * y33))), (55, .string y32), (56, .int .i64 y34)] rfl ?_
      obtain ⟨hc48, hM⟩ := hM
      obtain ⟨hc49, hM⟩ := hM
      refine owp_rdG (.int .u8 (byteAt y32 y34)) rfl (by kernel_rfl) (rd_ixStr (P := Tryd.prog) (h := h) (t := 9) (s := y32) (k := .i64) (i := y34) (by kernel_rfl) hc48 hc49 (by kernel_rfl)) ?_
      refine oS [(58, .int .i64 (IntKind.wrap .i64 (byteAt y32 y34))), (59, .int .i64 (IntKind.wrap .i64 ((IntKind.wrap .i64 (64 * y33)) + (IntKind.wrap .i64 (byteAt y32 y34))))), (60, .int .i64 (IntKind.wrap .i64 ((IntKind.wrap .i64 ((IntKind.wrap .i64 (64 * y33)) + (IntKind.wrap .i64 (byteAt y32 y34)))) - 128))), (7, .int .i64 (IntKind.wrap .i64 ((IntKind.wrap .i64 ((IntKind.wrap .i64 (64 * y33)) + (IntKind.wrap .i64 (byteAt y32 y34)))) - 128)))] rfl ?_
      refine owp_nil (blockE_n (thenE_n (cwp_region ?_)))
      refine oS [(41, .int .i64 y34), (42, .int .i64 (IntKind.wrap .i64 (y34 + 1))), (8, .int .i64 (IntKind.wrap .i64 (y34 + 1)))] rfl ?_
      refine owp_nil ?_
      exact lwp_at 0 (.string y32) (by kernel_rfl) (lwp_at 7 (.int .i64 (IntKind.wrap .i64 ((IntKind.wrap .i64 ((IntKind.wrap .i64 (64 * y33)) + (IntKind.wrap .i64 (byteAt y32 y34)))) - 128))) (by kernel_rfl) (lwp_at 8 (.int .i64 (IntKind.wrap .i64 (y34 + 1))) (by kernel_rfl) (ih y32 (IntKind.wrap .i64 ((IntKind.wrap .i64 ((IntKind.wrap .i64 (64 * y33)) + (IntKind.wrap .i64 (byteAt y32 y34)))) - 128)) (IntKind.wrap .i64 (y34 + 1)) _ _ hM)))
    replace hM := ifF hc35 hM
    refine cwp_exit (thenE_x ?_)
    exact q_at (Q := Q (.exit 0)) 7 (.int .i64 y33) (by kernel_rfl) (hK0 y33 _ _ hM)
def ref21_worth (a1 : ByteArray) (K : Int → Heap → Prop) (h : Heap) : Prop :=
 newB h #[.int .i64 0, .int .i64 192, .int .i64 224, .int .i64 240] 3 fun b2 h3 =>
 newB h3 #[.int .i64 127, .int .i64 223, .int .i64 239, .int .i64 247] 3 fun b5 h6 =>
 (0 : Int) < (a1.size : Int) ∧
 0 ≤ (IntKind.wrap .i64 ((a1.size : Int) - 1)) ∧
 (IntKind.wrap .i64 ((a1.size : Int) - 1)) < (4 : Int) ∧
 ldI h6 .i64 ((⟨b2, 0, none⟩ : Addr).add ((IntKind.wrap .i64 ((a1.size : Int) - 1)).toNat * 1)) fun x12 =>
 if (IntKind.wrap .i64 (byteAt a1 0)) < x12 then
  K (-1) h6
 else
 0 ≤ (IntKind.wrap .i64 ((a1.size : Int) - 1)) ∧
 (IntKind.wrap .i64 ((a1.size : Int) - 1)) < (4 : Int) ∧
 ldI h6 .i64 ((⟨b5, 0, none⟩ : Addr).add ((IntKind.wrap .i64 ((a1.size : Int) - 1)).toNat * 1)) fun x23 =>
 if x23 < (IntKind.wrap .i64 (byteAt a1 0)) then
  K (-1) h6
 else
 0 ≤ (IntKind.wrap .i64 ((a1.size : Int) - 1)) ∧
 (IntKind.wrap .i64 ((a1.size : Int) - 1)) < (4 : Int) ∧
 ldI h6 .i64 ((⟨b2, 0, none⟩ : Addr).add ((IntKind.wrap .i64 ((a1.size : Int) - 1)).toNat * 1)) fun x29 =>
 ∃ k61, ref21_worth_l0
  (fun z55 h56 =>
      K z55 h56)
  (fun z58 h59 =>
      K z58 h59) k61 a1 (IntKind.wrap .i64 ((IntKind.wrap .i64 (byteAt a1 0)) - x29)) 1 h6
theorem ref21_worth_ok (a1 : ByteArray) (K : Int → Heap → Prop) (h : Heap) (hM : ref21_worth a1 K h) : CallsH Tryd.prog 57 #[.string a1] (fun v h' => ∃ (r62 : Int), v = .int .i64 r62 ∧ K r62 h') h := by
 unfold ref21_worth at hM
 refine callsH_intro (n := 62) Tryd.func57 rfl rfl (by kernel_rfl) ?_
 refine cR ?_
 refine oS [(2, .int .i64 0)] rfl ?_
 refine oE (cR ?_)
 refine owp_hpG rfl (by kernel_rfl) (hpNewS #[.int .i64 0, .int .i64 192, .int .i64 224, .int .i64 240] 3 4 (fun _ => by kernel_rfl) ?_)
 intro b2 h3 hN4
 replace hM := newB_of hN4 hM
 refine oS [(3, .slice (some ⟨b2, 0, none⟩) 4 4)] rfl ?_
 refine oE (cR ?_)
 refine owp_hpG rfl (by kernel_rfl) (hpNewS #[.int .i64 127, .int .i64 223, .int .i64 239, .int .i64 247] 3 4 (fun _ => by kernel_rfl) ?_)
 intro b5 h6 hN7
 replace hM := newB_of hN7 hM
 refine oS [(4, .slice (some ⟨b5, 0, none⟩) 4 4)] rfl ?_
 refine oE (cR ?_)
 refine oS [(11, .string a1), (12, .int .i64 (a1.size : Int)), (13, .int .i64 (IntKind.wrap .i64 ((a1.size : Int) - 1))), (5, .int .i64 (IntKind.wrap .i64 ((a1.size : Int) - 1)))] rfl ?_
 refine oE (cR ?_)
 refine oS [(14, .string a1)] rfl ?_
 have hc8 : 0 ≤ (0 : Int) := by decide
 obtain ⟨hc9, hM⟩ := hM
 refine owp_rdG (.int .u8 (byteAt a1 0)) rfl (by kernel_rfl) (rd_ixStr (P := Tryd.prog) (h := h6) (t := 9) (s := a1) (k := .i64) (i := 0) (by kernel_rfl) hc8 hc9 (by kernel_rfl)) ?_
 refine oS [(16, .int .i64 (IntKind.wrap .i64 (byteAt a1 0))), (6, .int .i64 (IntKind.wrap .i64 (byteAt a1 0)))] rfl ?_
 refine oE (cwp_seq (cR ?_))
 refine oS [(17, .int .i64 (IntKind.wrap .i64 (byteAt a1 0))), (18, .slice (some ⟨b2, 0, none⟩) 4 4), (19, .int .i64 (IntKind.wrap .i64 ((a1.size : Int) - 1)))] rfl ?_
 obtain ⟨hc10, hM⟩ := hM
 obtain ⟨hc11, hM⟩ := hM
 refine owp_rdG (.pointer (some ((⟨b2, 0, none⟩ : Addr).add ((IntKind.wrap .i64 ((a1.size : Int) - 1)).toNat * 1)))) rfl (by kernel_rfl) (rd_ixS (P := Tryd.prog) (h := h6) (t := 71) (el := 3) (sz := 1) (ad := ⟨b2, 0, none⟩) (len := 4) (c := 4) (k := .i64) (i := (IntKind.wrap .i64 ((a1.size : Int) - 1))) (by kernel_rfl) (by kernel_rfl) hc10 hc11 (by kernel_rfl)) ?_
 obtain ⟨x12, hc13, hM⟩ := hM
 refine owp_rdG (.int .i64 x12) rfl (by kernel_rfl) (Eq.trans (b := (cellH h6 ((⟨b2, 0, none⟩ : Addr).add ((IntKind.wrap .i64 ((a1.size : Int) - 1)).toNat * 1))).bind fun v14 => some (.value v14)) (by kernel_rfl) (bindE hc13 _)) ?_
 refine oS [(22, .bool (decide ((IntKind.wrap .i64 (byteAt a1 0)) < x12))), (23, .bool (decide ((IntKind.wrap .i64 (byteAt a1 0)) < x12)))] rfl ?_
 by_cases hc20 : (IntKind.wrap .i64 (byteAt a1 0)) < x12
 · refine owp_at 22 (.bool true) (Eq.trans (b := .bool (decide ((IntKind.wrap .i64 (byteAt a1 0)) < x12))) (by kernel_rfl) (by rw [decide_eq_true hc20])) ?_
   refine owp_at 23 (.bool true) (Eq.trans (b := .bool (decide ((IntKind.wrap .i64 (byteAt a1 0)) < x12))) (by kernel_rfl) (by rw [decide_eq_true hc20])) ?_
   replace hM := ifT hc20 hM
   refine oS [(24, undef), (25, undef), (26, undef), (27, undef), (28, undef), (29, undef), (30, .bool true)] rfl ?_
   refine oE ?_
   refine cwp_cond (t := true) (by kernel_rfl) (fun hx_ => ?_) (fun hx_ => ?_)
   all_goals first | (cases hx_; done) | skip
   refine cR ?_
   refine oS [(2, .int .i64 (-1))] rfl ?_
   refine oE (cwp_ret (thenE_r ?_))
   exact ret_ (.int .i64 (-1)) (by kernel_rfl) ⟨_, rfl, hM⟩
 refine owp_at 22 (.bool false) (Eq.trans (b := .bool (decide ((IntKind.wrap .i64 (byteAt a1 0)) < x12))) (by kernel_rfl) (by rw [decide_eq_false hc20])) ?_
 refine owp_at 23 (.bool false) (Eq.trans (b := .bool (decide ((IntKind.wrap .i64 (byteAt a1 0)) < x12))) (by kernel_rfl) (by rw [decide_eq_false hc20])) ?_
 replace hM := ifF hc20 hM
 refine oS [(24, .int .i64 (IntKind.wrap .i64 (byteAt a1 0))), (25, .slice (some ⟨b5, 0, none⟩) 4 4), (26, .int .i64 (IntKind.wrap .i64 ((a1.size : Int) - 1)))] rfl ?_
 obtain ⟨hc21, hM⟩ := hM
 obtain ⟨hc22, hM⟩ := hM
 refine owp_rdG (.pointer (some ((⟨b5, 0, none⟩ : Addr).add ((IntKind.wrap .i64 ((a1.size : Int) - 1)).toNat * 1)))) rfl (by kernel_rfl) (rd_ixS (P := Tryd.prog) (h := h6) (t := 71) (el := 3) (sz := 1) (ad := ⟨b5, 0, none⟩) (len := 4) (c := 4) (k := .i64) (i := (IntKind.wrap .i64 ((a1.size : Int) - 1))) (by kernel_rfl) (by kernel_rfl) hc21 hc22 (by kernel_rfl)) ?_
 obtain ⟨x23, hc24, hM⟩ := hM
 refine owp_rdG (.int .i64 x23) rfl (by kernel_rfl) (Eq.trans (b := (cellH h6 ((⟨b5, 0, none⟩ : Addr).add ((IntKind.wrap .i64 ((a1.size : Int) - 1)).toNat * 1))).bind fun v25 => some (.value v25)) (by kernel_rfl) (bindE hc24 _)) ?_
 refine oS [(29, .bool (decide (x23 < (IntKind.wrap .i64 (byteAt a1 0))))), (30, .bool (decide (x23 < (IntKind.wrap .i64 (byteAt a1 0)))))] rfl ?_
 refine oE ?_
 refine cwp_condD (x23 < (IntKind.wrap .i64 (byteAt a1 0))) (by kernel_rfl) (fun hc26 => ?_) (fun hc26 => ?_)
 · replace hM := ifT hc26 hM
   refine cR ?_
   refine oS [(2, .int .i64 (-1))] rfl ?_
   refine oE (cwp_ret (thenE_r ?_))
   exact ret_ (.int .i64 (-1)) (by kernel_rfl) ⟨_, rfl, hM⟩
 replace hM := ifF hc26 hM
 refine cwp_skip (thenE_n (cR ?_))
 refine oS [(31, .int .i64 (IntKind.wrap .i64 (byteAt a1 0))), (32, .slice (some ⟨b2, 0, none⟩) 4 4), (33, .int .i64 (IntKind.wrap .i64 ((a1.size : Int) - 1)))] rfl ?_
 obtain ⟨hc27, hM⟩ := hM
 obtain ⟨hc28, hM⟩ := hM
 refine owp_rdG (.pointer (some ((⟨b2, 0, none⟩ : Addr).add ((IntKind.wrap .i64 ((a1.size : Int) - 1)).toNat * 1)))) rfl (by kernel_rfl) (rd_ixS (P := Tryd.prog) (h := h6) (t := 71) (el := 3) (sz := 1) (ad := ⟨b2, 0, none⟩) (len := 4) (c := 4) (k := .i64) (i := (IntKind.wrap .i64 ((a1.size : Int) - 1))) (by kernel_rfl) (by kernel_rfl) hc27 hc28 (by kernel_rfl)) ?_
 obtain ⟨x29, hc30, hM⟩ := hM
 refine owp_rdG (.int .i64 x29) rfl (by kernel_rfl) (Eq.trans (b := (cellH h6 ((⟨b2, 0, none⟩ : Addr).add ((IntKind.wrap .i64 ((a1.size : Int) - 1)).toNat * 1))).bind fun v31 => some (.value v31)) (by kernel_rfl) (bindE hc30 _)) ?_
 refine oS [(36, .int .i64 (IntKind.wrap .i64 ((IntKind.wrap .i64 (byteAt a1 0)) - x29))), (7, .int .i64 (IntKind.wrap .i64 ((IntKind.wrap .i64 (byteAt a1 0)) - x29)))] rfl ?_
 refine oE (cwp_seq (cR ?_))
 refine oS [(8, .int .i64 1)] rfl ?_
 refine oE (cwp_block ?_)
 obtain ⟨k_, hM⟩ := hM
 refine cwp_loop k_ (lwp_of_part (fn := Tryd.f57) (p := [1, 1, 1, 1, 1, 1, 1, 0, 1, 0, 0]) (by kernel_rfl) (lwp_at 0 (.string a1) (by kernel_rfl) (lwp_at 7 (.int .i64 (IntKind.wrap .i64 ((IntKind.wrap .i64 (byteAt a1 0)) - x29))) (by kernel_rfl) (lwp_at 8 (.int .i64 1) (by kernel_rfl) (ref21_worth_l0_ok _ ?_ _ ?_ k_ a1 (IntKind.wrap .i64 ((IntKind.wrap .i64 (byteAt a1 0)) - x29)) 1 _ _ hM)))))
 · intro z55 b57 h56 hM
   refine blockE_h (thenE_n (cR ?_))
   refine oS [(61, .int .i64 z55), (2, .int .i64 z55)] rfl ?_
   refine oE (cwp_ret ?_)
   exact ret_ (.int .i64 z55) (by kernel_rfl) ⟨_, rfl, hM⟩
 · intro z58 b60 h59 hM
   refine blockE_r (thenE_r ?_)
   exact ret_ (.int .i64 z58) (by kernel_rfl) ⟨_, rfl, hM⟩
/- mullion/mullionref21.first -/
def ref21_first_l0 (K0 : Heap → Prop) (Kr : Int → Int → Bool → Heap → Prop) : Nat → ByteArray → Int → Heap → Prop
  | 0, _, _, _ => False
  | k + 1, y2, y3, h =>
  if ((decide (y3 ≤ 4)) && (decide (y3 ≤ (y2.size : Int)))) = true then
   0 ≤ y3 ∧
   y3 ≤ (y2.size : Int) ∧
   ref21_worth (y2.extract 0 y3.toNat) (fun x12 h11 =>
    if 0 ≤ x12 then
     0 ≤ y3 ∧
     y3 ≤ (y2.size : Int) ∧
     if ((ref21_utf8 x12).toList == (y2.extract 0 y3.toNat).toList) = true then
      if x12 ≤ 1114111 then
       if x12 < 55296 then
        gap h11 fun h16 =>
        Kr x12 y3 true h16
       else
       if 57343 < x12 then
        gap h11 fun h16 =>
        Kr x12 y3 true h16
       else
       gap h11 fun h16 =>
       ref21_first_l0 K0 Kr k y2 (IntKind.wrap .i64 (y3 + 1)) h16
      else
      gap h11 fun h16 =>
      ref21_first_l0 K0 Kr k y2 (IntKind.wrap .i64 (y3 + 1)) h16
     else
     gap h11 fun h16 =>
     ref21_first_l0 K0 Kr k y2 (IntKind.wrap .i64 (y3 + 1)) h16
    else
     ref21_first_l0 K0 Kr k y2 (IntKind.wrap .i64 (y3 + 1)) h11) h
  else
  K0  h
theorem ref21_first_l0_ok {Q : Exit → Env → Heap → Prop} (K0 : Heap → Prop) (hK0 : ∀  (b : Env) (h : Heap), K0  h → Q (.exit 0) b h) (Kr : Int → Int → Bool → Heap → Prop) (hKr : ∀ (z28 : Int) (z29 : Int) (z30 : Bool) (b : Env) (h : Heap), Kr z28 z29 z30 h → Q .ret (upd (upd (upd b 2 (.int .i64 z28)) 3 (.int .i64 z29)) 4 (.bool z30)) h) : ∀ (k : Nat) (y2 : ByteArray) (y3 : Int) (b : Env) (h : Heap) (hM : ref21_first_l0 K0 Kr k y2 y3 h), lwp Tryd.prog (partC Tryd.f45 [1, 0, 1, 0, 0]) 45 Q k (upd (upd b 0 (.string y2)) 5 (.int .i64 y3)) h := by
  intro k
  induction k with
  | zero => intro y2 y3 b h hM; exact (show False from hM).elim
  | succ k ih =>
    intro y2 y3 b h hM
    unfold ref21_first_l0 at hM
    refine lwp_succ (cwp_part rfl ?_)
    refine cwp_seq (cR ?_)
    refine oS [(7, .int .i64 y3), (8, .bool (decide (y3 ≤ 4))), (9, .bool (decide (y3 ≤ 4)))] rfl ?_
    refine oB (decide (y3 ≤ 4)) 5 [8, 9] (fun b_ => [(10, iteV b_ (.int .i64 y3 : Value) undef), (11, iteV b_ (.string y2 : Value) undef), (12, iteV b_ (.int .i64 (y2.size : Int) : Value) undef), (13, iteV b_ (.bool (decide (y3 ≤ (y2.size : Int))) : Value) undef), (14, .bool (b_ && (decide (y3 ≤ (y2.size : Int)))))]) rfl (fun hb4 hq5 => oS [(10, .int .i64 y3), (11, .string y2), (12, .int .i64 (y2.size : Int)), (13, .bool (decide (y3 ≤ (y2.size : Int)))), (14, .bool (decide (y3 ≤ (y2.size : Int))))] rfl (hq5)) (fun hb6 hq7 => oS [(10, undef), (11, undef), (12, undef), (13, undef), (14, .bool false)] rfl (hq7)) ?_
    refine oE ?_
    refine cwp_condB ((decide (y3 ≤ 4)) && (decide (y3 ≤ (y2.size : Int)))) (by kernel_rfl) (fun hc8 => ?_) (fun hc8 => ?_)
    · replace hM := ifT hc8 hM
      refine cwp_skip (thenE_n (cwp_seq (cwp_block (cR ?_))))
      refine oS [(17, .string y2), (18, .int .i64 y3)] rfl ?_
      obtain ⟨hc9, hM⟩ := hM
      obtain ⟨hc10, hM⟩ := hM
      refine owp_rdG (.string (y2.extract 0 y3.toNat)) rfl (by kernel_rfl) (rd_slHi (P := Tryd.prog) (h := h) (t := 9) (s := y2) (k := .i64) (i := y3) (by kernel_rfl) hc9 hc10 (by kernel_rfl)) ?_
      refine owp_hpG rfl (by kernel_rfl) (hpCallE 57 #[.string (y2.extract 0 y3.toNat)] (by kernel_rfl) (ref21_worth_ok (y2.extract 0 y3.toNat) _ h hM) ?_)
      rintro _ h11 ⟨x12, rfl, hM⟩
      refine oS [(6, .int .i64 x12)] rfl ?_
      refine oE (cwp_seq ?_)
      refine cwp_draw (by kernel_rfl) ?_
      refine k_pure (i := 0) [1, 2, 3, 4, 5, 6, 7, 8, 9, 10, 11, 12, 13, 14, 15, 16, 17, 18, 19, 20, 21] (.int .i64 x12) (by kernel_rfl) rfl rfl (by kernel_rfl) (fun h' => by kernel_rfl) (by kernel_rfl) ?_
      refine k_pure (i := 1) [2, 3, 4, 5, 6, 7, 8, 9, 10, 11, 12, 13, 14, 15, 16, 17, 18, 19, 20, 21] (.bool (decide (0 ≤ x12))) (by kernel_rfl) rfl rfl (by kernel_rfl) (fun h' => by kernel_rfl) (by kernel_rfl) ?_
      refine k_pure (i := 2) [3, 4, 5, 6, 7, 8, 9, 10, 11, 12, 13, 14, 15, 16, 17, 18, 19, 20, 21] (.bool (decide (0 ≤ x12))) (by kernel_rfl) rfl rfl (by kernel_rfl) (fun h' => by kernel_rfl) (by kernel_rfl) ?_
      by_cases hc13 : 0 ≤ x12
      · refine kwp_at 22 (.bool true) (Eq.trans (b := .bool (decide (0 ≤ x12))) (by kernel_rfl) (by rw [decide_eq_true hc13])) ?_
        refine kwp_at 23 (.bool true) (Eq.trans (b := .bool (decide (0 ≤ x12))) (by kernel_rfl) (by rw [decide_eq_true hc13])) ?_
        replace hM := ifT hc13 hM
        refine k_pure (i := 3) [4, 8, 9, 10, 11, 12, 13, 14, 15, 16, 17, 18, 19, 20, 21] (.int .i64 x12) (by kernel_rfl) rfl rfl (by kernel_rfl) (fun h' => by kernel_rfl) (by kernel_rfl) ?_
        refine k_pure (i := 5) [7, 8, 9, 10, 11, 12, 13, 14, 15, 16, 17, 18, 19, 20, 21] (.string y2) (by kernel_rfl) rfl rfl (by kernel_rfl) (fun h' => by kernel_rfl) (by kernel_rfl) ?_
        refine k_pure (i := 6) [7, 8, 9, 10, 11, 12, 13, 14, 15, 16, 17, 18, 19, 20, 21] (.int .i64 y3) (by kernel_rfl) rfl rfl (by kernel_rfl) (fun h' => by kernel_rfl) (by kernel_rfl) ?_
        obtain ⟨hc14, hM⟩ := hM
        obtain ⟨hc15, hM⟩ := hM
        refine k_pure (i := 7) [8, 9, 10, 11, 12, 13, 14, 15, 16, 17, 18, 19, 20, 21] (.string (y2.extract 0 y3.toNat)) (by kernel_rfl) rfl rfl (by kernel_rfl) (fun h' => rd_slHi (P := Tryd.prog) (h := h') (t := 9) (s := y2) (k := .i64) (i := y3) (by kernel_rfl) hc14 hc15 (by kernel_rfl)) (by kernel_rfl) ?_
        refine k_eff (j := 4) (by kernel_rfl) rfl rfl (by kernel_rfl) (hpCallP 39 #[.int .i64 x12] (.string (ref21_utf8 x12)) (by kernel_rfl) (ref21_utf8_ok x12 _ h11 rfl) ?_)
        intro h16 hx17
        refine ⟨trivial, ?_⟩
        refine k_pure (i := 8) [9, 10, 11, 12, 13, 14, 15, 16, 17, 18, 19, 20, 21] (.bool ((ref21_utf8 x12).toList == (y2.extract 0 y3.toNat).toList)) (by kernel_rfl) rfl rfl (by kernel_rfl) (fun h' => by kernel_rfl) (by kernel_rfl) ?_
        refine k_pure (i := 9) [10, 11, 12, 13, 14, 15, 16, 17, 18, 19, 20, 21] (.bool ((ref21_utf8 x12).toList == (y2.extract 0 y3.toNat).toList)) (by kernel_rfl) rfl rfl (by kernel_rfl) (fun h' => by kernel_rfl) (by kernel_rfl) ?_
        refine k_pure (i := 10) [11, 12, 13, 14, 15, 16, 17, 18, 19, 20, 21] (.bool ((ref21_utf8 x12).toList == (y2.extract 0 y3.toNat).toList)) (by kernel_rfl) rfl rfl (by kernel_rfl) (fun h' => by kernel_rfl) (by kernel_rfl) ?_
        by_cases hc18 : ((ref21_utf8 x12).toList == (y2.extract 0 y3.toNat).toList) = true
        · refine kwp_at 29 (.bool true) (Eq.trans (b := .bool ((ref21_utf8 x12).toList == (y2.extract 0 y3.toNat).toList)) (by kernel_rfl) (by rw [hc18])) ?_
          refine kwp_at 30 (.bool true) (Eq.trans (b := .bool ((ref21_utf8 x12).toList == (y2.extract 0 y3.toNat).toList)) (by kernel_rfl) (by rw [hc18])) ?_
          refine kwp_at 31 (.bool true) (Eq.trans (b := .bool ((ref21_utf8 x12).toList == (y2.extract 0 y3.toNat).toList)) (by kernel_rfl) (by rw [hc18])) ?_
          replace hM := ifT hc18 hM
          refine k_pure (i := 11) [12, 13, 14, 15, 16, 17, 18, 19, 20, 21] (.int .i64 x12) (by kernel_rfl) rfl rfl (by kernel_rfl) (fun h' => by kernel_rfl) (by kernel_rfl) ?_
          refine k_pure (i := 12) [13, 14, 15, 16, 17, 18, 19, 20, 21] (.bool (decide (x12 ≤ 1114111))) (by kernel_rfl) rfl rfl (by kernel_rfl) (fun h' => by kernel_rfl) (by kernel_rfl) ?_
          refine k_pure (i := 13) [14, 15, 16, 17, 18, 19, 20, 21] (.bool (decide (x12 ≤ 1114111))) (by kernel_rfl) rfl rfl (by kernel_rfl) (fun h' => by kernel_rfl) (by kernel_rfl) ?_
          refine k_pure (i := 14) [15, 16, 17, 18, 19, 20, 21] (.bool (decide (x12 ≤ 1114111))) (by kernel_rfl) rfl rfl (by kernel_rfl) (fun h' => by kernel_rfl) (by kernel_rfl) ?_
          by_cases hc19 : x12 ≤ 1114111
          · refine kwp_at 33 (.bool true) (Eq.trans (b := .bool (decide (x12 ≤ 1114111))) (by kernel_rfl) (by rw [decide_eq_true hc19])) ?_
            refine kwp_at 34 (.bool true) (Eq.trans (b := .bool (decide (x12 ≤ 1114111))) (by kernel_rfl) (by rw [decide_eq_true hc19])) ?_
            refine kwp_at 35 (.bool true) (Eq.trans (b := .bool (decide (x12 ≤ 1114111))) (by kernel_rfl) (by rw [decide_eq_true hc19])) ?_
            replace hM := ifT hc19 hM
            refine k_pure (i := 15) [16, 17, 18, 19, 20, 21] (.int .i64 x12) (by kernel_rfl) rfl rfl (by kernel_rfl) (fun h' => by kernel_rfl) (by kernel_rfl) ?_
            refine k_pure (i := 16) [17, 18, 19, 20, 21] (.bool (decide (x12 < 55296))) (by kernel_rfl) rfl rfl (by kernel_rfl) (fun h' => by kernel_rfl) (by kernel_rfl) ?_
            refine k_pure (i := 17) [18, 19, 20, 21] (.bool (decide (x12 < 55296))) (by kernel_rfl) rfl rfl (by kernel_rfl) (fun h' => by kernel_rfl) (by kernel_rfl) ?_
            by_cases hc20 : x12 < 55296
            · refine kwp_at 37 (.bool true) (Eq.trans (b := .bool (decide (x12 < 55296))) (by kernel_rfl) (by rw [decide_eq_true hc20])) ?_
              refine kwp_at 38 (.bool true) (Eq.trans (b := .bool (decide (x12 < 55296))) (by kernel_rfl) (by rw [decide_eq_true hc20])) ?_
              replace hM := ifT hc20 hM
              refine k_not (i := 18) [19, 20, 21] (by kernel_rfl) rfl rfl (by kernel_rfl) (by kernel_rfl) ?_
              refine k_not (i := 19) [20, 21] (by kernel_rfl) rfl rfl (by kernel_rfl) (by kernel_rfl) ?_
              refine k_pure (i := 20) [21] (.bool true) (by kernel_rfl) rfl rfl (by kernel_rfl) (fun h' => by kernel_rfl) (by kernel_rfl) ?_
              refine k_pure (i := 21) [] (.bool true) (by kernel_rfl) rfl rfl (by kernel_rfl) (fun h' => by kernel_rfl) (by kernel_rfl) ?_
              refine k_done (by kernel_rfl) ?_
              refine thenE_n ?_
              refine cwp_cond (t := true) (by kernel_rfl) (fun hx_ => ?_) (fun hx_ => ?_)
              all_goals first | (cases hx_; done) | skip
              refine cR ?_
              refine oS [(43, .int .i64 x12), (44, .int .i64 y3), (2, .int .i64 x12), (3, .int .i64 y3), (4, .bool true)] rfl ?_
              refine oE (cwp_ret (blockE_r (thenE_r ?_)))
              replace hM := hM _ hx17
              exact q_at (Q := Q .ret) 2 (.int .i64 x12) (by kernel_rfl) (q_at (Q := Q .ret) 3 (.int .i64 y3) (by kernel_rfl) (q_at (Q := Q .ret) 4 (.bool true) (by kernel_rfl) (hKr x12 y3 true _ _ hM)))
            refine kwp_at 37 (.bool false) (Eq.trans (b := .bool (decide (x12 < 55296))) (by kernel_rfl) (by rw [decide_eq_false hc20])) ?_
            refine kwp_at 38 (.bool false) (Eq.trans (b := .bool (decide (x12 < 55296))) (by kernel_rfl) (by rw [decide_eq_false hc20])) ?_
            replace hM := ifF hc20 hM
            refine k_pure (i := 18) [19, 20, 21] (.int .i64 x12) (by kernel_rfl) rfl rfl (by kernel_rfl) (fun h' => by kernel_rfl) (by kernel_rfl) ?_
            refine k_pure (i := 19) [20, 21] (.bool (decide (57343 < x12))) (by kernel_rfl) rfl rfl (by kernel_rfl) (fun h' => by kernel_rfl) (by kernel_rfl) ?_
            refine k_pure (i := 20) [21] (.bool (decide (57343 < x12))) (by kernel_rfl) rfl rfl (by kernel_rfl) (fun h' => by kernel_rfl) (by kernel_rfl) ?_
            refine k_pure (i := 21) [] (.bool (decide (57343 < x12))) (by kernel_rfl) rfl rfl (by kernel_rfl) (fun h' => by kernel_rfl) (by kernel_rfl) ?_
            refine k_done (by kernel_rfl) ?_
            refine thenE_n ?_
            refine cwp_condD (57343 < x12) (by kernel_rfl) (fun hc24 => ?_) (fun hc24 => ?_)
            · replace hM := ifT hc24 hM
              refine cR ?_
              refine oS [(43, .int .i64 x12), (44, .int .i64 y3), (2, .int .i64 x12), (3, .int .i64 y3), (4, .bool true)] rfl ?_
              refine oE (cwp_ret (blockE_r (thenE_r ?_)))
              replace hM := hM _ hx17
              exact q_at (Q := Q .ret) 2 (.int .i64 x12) (by kernel_rfl) (q_at (Q := Q .ret) 3 (.int .i64 y3) (by kernel_rfl) (q_at (Q := Q .ret) 4 (.bool true) (by kernel_rfl) (hKr x12 y3 true _ _ hM)))
            replace hM := ifF hc24 hM
            refine cwp_skip (blockE_n (thenE_n (cwp_region ?_)))
            refine oS [(15, .int .i64 y3), (16, .int .i64 (IntKind.wrap .i64 (y3 + 1))), (5, .int .i64 (IntKind.wrap .i64 (y3 + 1)))] rfl ?_
            refine owp_nil ?_
            replace hM := hM _ hx17
            exact lwp_at 0 (.string y2) (by kernel_rfl) (lwp_at 5 (.int .i64 (IntKind.wrap .i64 (y3 + 1))) (by kernel_rfl) (ih y2 (IntKind.wrap .i64 (y3 + 1)) _ _ hM))
          refine kwp_at 33 (.bool false) (Eq.trans (b := .bool (decide (x12 ≤ 1114111))) (by kernel_rfl) (by rw [decide_eq_false hc19])) ?_
          refine kwp_at 34 (.bool false) (Eq.trans (b := .bool (decide (x12 ≤ 1114111))) (by kernel_rfl) (by rw [decide_eq_false hc19])) ?_
          refine kwp_at 35 (.bool false) (Eq.trans (b := .bool (decide (x12 ≤ 1114111))) (by kernel_rfl) (by rw [decide_eq_false hc19])) ?_
          replace hM := ifF hc19 hM
          refine k_not (i := 15) [16, 17, 18, 19, 20, 21] (by kernel_rfl) rfl rfl (by kernel_rfl) (by kernel_rfl) ?_
          refine k_not (i := 16) [17, 18, 19, 20, 21] (by kernel_rfl) rfl rfl (by kernel_rfl) (by kernel_rfl) ?_
          refine k_not (i := 17) [18, 19, 20, 21] (by kernel_rfl) rfl rfl (by kernel_rfl) (by kernel_rfl) ?_
          refine k_not (i := 18) [19, 20, 21] (by kernel_rfl) rfl rfl (by kernel_rfl) (by kernel_rfl) ?_
          refine k_not (i := 19) [20, 21] (by kernel_rfl) rfl rfl (by kernel_rfl) (by kernel_rfl) ?_
          refine k_not (i := 20) [21] (by kernel_rfl) rfl rfl (by kernel_rfl) (by kernel_rfl) ?_
          refine k_pure (i := 21) [] (.bool false) (by kernel_rfl) rfl rfl (by kernel_rfl) (fun h' => by kernel_rfl) (by kernel_rfl) ?_
          refine k_done (by kernel_rfl) ?_
          refine thenE_n ?_
          refine cwp_cond (t := false) (by kernel_rfl) (fun hx_ => ?_) (fun hx_ => ?_)
          all_goals first | (cases hx_; done) | skip
          refine cwp_skip (blockE_n (thenE_n (cwp_region ?_)))
          refine oS [(15, .int .i64 y3), (16, .int .i64 (IntKind.wrap .i64 (y3 + 1))), (5, .int .i64 (IntKind.wrap .i64 (y3 + 1)))] rfl ?_
          refine owp_nil ?_
          replace hM := hM _ hx17
          exact lwp_at 0 (.string y2) (by kernel_rfl) (lwp_at 5 (.int .i64 (IntKind.wrap .i64 (y3 + 1))) (by kernel_rfl) (ih y2 (IntKind.wrap .i64 (y3 + 1)) _ _ hM))
        refine kwp_at 29 (.bool false) (Eq.trans (b := .bool ((ref21_utf8 x12).toList == (y2.extract 0 y3.toNat).toList)) (by kernel_rfl) (by rw [Bool.eq_false_iff.2 hc18])) ?_
        refine kwp_at 30 (.bool false) (Eq.trans (b := .bool ((ref21_utf8 x12).toList == (y2.extract 0 y3.toNat).toList)) (by kernel_rfl) (by rw [Bool.eq_false_iff.2 hc18])) ?_
        refine kwp_at 31 (.bool false) (Eq.trans (b := .bool ((ref21_utf8 x12).toList == (y2.extract 0 y3.toNat).toList)) (by kernel_rfl) (by rw [Bool.eq_false_iff.2 hc18])) ?_
        replace hM := ifF hc18 hM
        refine k_not (i := 11) [12, 13, 14, 15, 16, 17, 18, 19, 20, 21] (by kernel_rfl) rfl rfl (by kernel_rfl) (by kernel_rfl) ?_
        refine k_not (i := 12) [13, 14, 15, 16, 17, 18, 19, 20, 21] (by kernel_rfl) rfl rfl (by kernel_rfl) (by kernel_rfl) ?_
        refine k_pure (i := 13) [14, 15, 16, 17, 18, 19, 20, 21] (.bool false) (by kernel_rfl) rfl rfl (by kernel_rfl) (fun h' => by kernel_rfl) (by kernel_rfl) ?_
        refine k_pure (i := 14) [15, 16, 17, 18, 19, 20, 21] (.bool false) (by kernel_rfl) rfl rfl (by kernel_rfl) (fun h' => by kernel_rfl) (by kernel_rfl) ?_
        refine k_not (i := 15) [16, 17, 18, 19, 20, 21] (by kernel_rfl) rfl rfl (by kernel_rfl) (by kernel_rfl) ?_
        refine k_not (i := 16) [17, 18, 19, 20, 21] (by kernel_rfl) rfl rfl (by kernel_rfl) (by kernel_rfl) ?_
        refine k_not (i := 17) [18, 19, 20, 21] (by kernel_rfl) rfl rfl (by kernel_rfl) (by kernel_rfl) ?_
        refine k_not (i := 18) [19, 20, 21] (by kernel_rfl) rfl rfl (by kernel_rfl) (by kernel_rfl) ?_
        refine k_not (i := 19) [20, 21] (by kernel_rfl) rfl rfl (by kernel_rfl) (by kernel_rfl) ?_
        refine k_not (i := 20) [21] (by kernel_rfl) rfl rfl (by kernel_rfl) (by kernel_rfl) ?_
        refine k_pure (i := 21) [] (.bool false) (by kernel_rfl) rfl rfl (by kernel_rfl) (fun h' => by kernel_rfl) (by kernel_rfl) ?_
        refine k_done (by kernel_rfl) ?_
        refine thenE_n ?_
        refine cwp_cond (t := false) (by kernel_rfl) (fun hx_ => ?_) (fun hx_ => ?_)
        all_goals first | (cases hx_; done) | skip
        refine cwp_skip (blockE_n (thenE_n (cwp_region ?_)))
        refine oS [(15, .int .i64 y3), (16, .int .i64 (IntKind.wrap .i64 (y3 + 1))), (5, .int .i64 (IntKind.wrap .i64 (y3 + 1)))] rfl ?_
        refine owp_nil ?_
        replace hM := hM _ hx17
        exact lwp_at 0 (.string y2) (by kernel_rfl) (lwp_at 5 (.int .i64 (IntKind.wrap .i64 (y3 + 1))) (by kernel_rfl) (ih y2 (IntKind.wrap .i64 (y3 + 1)) _ _ hM))
      refine kwp_at 22 (.bool false) (Eq.trans (b := .bool (decide (0 ≤ x12))) (by kernel_rfl) (by rw [decide_eq_false hc13])) ?_
      refine kwp_at 23 (.bool false) (Eq.trans (b := .bool (decide (0 ≤ x12))) (by kernel_rfl) (by rw [decide_eq_false hc13])) ?_
      replace hM := ifF hc13 hM
      refine k_not (i := 3) [4, 8, 9, 10, 11, 12, 13, 14, 15, 16, 17, 18, 19, 20, 21] (by kernel_rfl) rfl rfl (by kernel_rfl) (by kernel_rfl) ?_
      refine k_not (i := 4) [8, 9, 10, 11, 12, 13, 14, 15, 16, 17, 18, 19, 20, 21] (by kernel_rfl) rfl rfl (by kernel_rfl) (by kernel_rfl) ?_
      refine k_not (i := 5) [7, 8, 9, 10, 11, 12, 13, 14, 15, 16, 17, 18, 19, 20, 21] (by kernel_rfl) rfl rfl (by kernel_rfl) (by kernel_rfl) ?_
      refine k_not (i := 6) [7, 8, 9, 10, 11, 12, 13, 14, 15, 16, 17, 18, 19, 20, 21] (by kernel_rfl) rfl rfl (by kernel_rfl) (by kernel_rfl) ?_
      refine k_not (i := 7) [8, 9, 10, 11, 12, 13, 14, 15, 16, 17, 18, 19, 20, 21] (by kernel_rfl) rfl rfl (by kernel_rfl) (by kernel_rfl) ?_
      refine k_not (i := 8) [9, 10, 11, 12, 13, 14, 15, 16, 17, 18, 19, 20, 21] (by kernel_rfl) rfl rfl (by kernel_rfl) (by kernel_rfl) ?_
      refine k_pure (i := 9) [10, 11, 12, 13, 14, 15, 16, 17, 18, 19, 20, 21] (.bool false) (by kernel_rfl) rfl rfl (by kernel_rfl) (fun h' => by kernel_rfl) (by kernel_rfl) ?_
      refine k_pure (i := 10) [11, 12, 13, 14, 15, 16, 17, 18, 19, 20, 21] (.bool false) (by kernel_rfl) rfl rfl (by kernel_rfl) (fun h' => by kernel_rfl) (by kernel_rfl) ?_
      refine k_not (i := 11) [12, 13, 14, 15, 16, 17, 18, 19, 20, 21] (by kernel_rfl) rfl rfl (by kernel_rfl) (by kernel_rfl) ?_
      refine k_not (i := 12) [13, 14, 15, 16, 17, 18, 19, 20, 21] (by kernel_rfl) rfl rfl (by kernel_rfl) (by kernel_rfl) ?_
      refine k_pure (i := 13) [14, 15, 16, 17, 18, 19, 20, 21] (.bool false) (by kernel_rfl) rfl rfl (by kernel_rfl) (fun h' => by kernel_rfl) (by kernel_rfl) ?_
      refine k_pure (i := 14) [15, 16, 17, 18, 19, 20, 21] (.bool false) (by kernel_rfl) rfl rfl (by kernel_rfl) (fun h' => by kernel_rfl) (by kernel_rfl) ?_
      refine k_not (i := 15) [16, 17, 18, 19, 20, 21] (by kernel_rfl) rfl rfl (by kernel_rfl) (by kernel_rfl) ?_
      refine k_not (i := 16) [17, 18, 19, 20, 21] (by kernel_rfl) rfl rfl (by kernel_rfl) (by kernel_rfl) ?_
      refine k_not (i := 17) [18, 19, 20, 21] (by kernel_rfl) rfl rfl (by kernel_rfl) (by kernel_rfl) ?_
      refine k_not (i := 18) [19, 20, 21] (by kernel_rfl) rfl rfl (by kernel_rfl) (by kernel_rfl) ?_
      refine k_not (i := 19) [20, 21] (by kernel_rfl) rfl rfl (by kernel_rfl) (by kernel_rfl) ?_
      refine k_not (i := 20) [21] (by kernel_rfl) rfl rfl (by kernel_rfl) (by kernel_rfl) ?_
      refine k_pure (i := 21) [] (.bool false) (by kernel_rfl) rfl rfl (by kernel_rfl) (fun h' => by kernel_rfl) (by kernel_rfl) ?_
      refine k_done (by kernel_rfl) ?_
      refine thenE_n ?_
      refine cwp_cond (t := false) (by kernel_rfl) (fun hx_ => ?_) (fun hx_ => ?_)
      all_goals first | (cases hx_; done) | skip
      refine cwp_skip (blockE_n (thenE_n (cwp_region ?_)))
      refine oS [(15, .int .i64 y3), (16, .int .i64 (IntKind.wrap .i64 (y3 + 1))), (5, .int .i64 (IntKind.wrap .i64 (y3 + 1)))] rfl ?_
      refine owp_nil ?_
      exact lwp_at 0 (.string y2) (by kernel_rfl) (lwp_at 5 (.int .i64 (IntKind.wrap .i64 (y3 + 1))) (by kernel_rfl) (ih y2 (IntKind.wrap .i64 (y3 + 1)) _ _ hM))
    replace hM := ifF hc8 hM
    refine cwp_exit (thenE_x ?_)
    exact hK0  _ _ hM
def ref21_first (a1 : ByteArray) (K : Int → Int → Bool → Heap → Prop) (h : Heap) : Prop :=
 ∃ k38, ref21_first_l0
  (fun  h31 =>
      K 0 0 false h31)
  (fun z33 z34 z35 h36 =>
      K z33 z34 z35 h36) k38 a1 1 h
theorem ref21_first_ok (a1 : ByteArray) (K : Int → Int → Bool → Heap → Prop) (h : Heap) (hM : ref21_first a1 K h) : CallsH Tryd.prog 45 #[.string a1] (fun v h' => ∃ (r39 : Int) (r40 : Int) (r41 : Bool), v = .tuple #[.int .i64 r39, .int .i64 r40, .bool r41] ∧ K r39 r40 r41 h') h := by
 unfold ref21_first at hM
 refine callsH_intro (n := 45) Tryd.func45 rfl rfl (by kernel_rfl) ?_
 refine cR ?_
 refine oS [(2, .int .i64 0), (3, .int .i64 0), (4, .bool false)] rfl ?_
 refine oE (cwp_seq (cR ?_))
 refine oS [(5, .int .i64 1)] rfl ?_
 refine oE (cwp_block ?_)
 obtain ⟨k_, hM⟩ := hM
 refine cwp_loop k_ (lwp_of_part (fn := Tryd.f45) (p := [1, 0, 1, 0, 0]) (by kernel_rfl) (lwp_at 0 (.string a1) (by kernel_rfl) (lwp_at 5 (.int .i64 1) (by kernel_rfl) (ref21_first_l0_ok _ ?_ _ ?_ k_ a1 1 _ _ hM))))
 · intro  b32 h31 hM
   refine blockE_h (thenE_n (cR ?_))
   refine oS [(2, .int .i64 0), (3, .int .i64 0), (4, .bool false)] rfl ?_
   refine oE (cwp_ret ?_)
   exact ret_ (.tuple #[.int .i64 0, .int .i64 0, .bool false]) (by kernel_rfl) ⟨_, _, _, rfl, hM⟩
 · intro z33 z34 z35 b37 h36 hM
   refine blockE_r (thenE_r ?_)
   exact ret_ (.tuple #[.int .i64 z33, .int .i64 z34, .bool z35]) (by kernel_rfl) ⟨_, _, _, rfl, hM⟩
/- mullion/mullionref21.grows -/
def ref21_grows_l2 (K4 : ByteArray → ByteArray → Int → Int → Heap → Prop) (Kr : Bool → Heap → Prop) : Nat → ByteArray → ByteArray → Int → Int → ByteArray → Int → Heap → Prop
  | 0, _, _, _, _, _, _, _ => False
  | k + 1, y17, y18, y19, y20, y21, y22, h =>
  if y22 ≤ 4 then
   ref21_first y21 (fun x25 x26 x27 h24 =>
    if (x27 && (decide (x26 = (y21.size : Int)))) = true then
     Kr true h24
    else
    newB h24 #[.string (⟨#[128]⟩ : ByteArray), .string (⟨#[191]⟩ : ByteArray)] 9 fun b34 h35 =>
    0 ≤ y20 ∧
    y20 < (2 : Int) ∧
    ldS h35 ((⟨b34, 0, none⟩ : Addr).add ((y20).toNat * 1)) fun x39 =>
    y21.size + x39.size ≤ 9223372036854775807 ∧
     ref21_grows_l2 K4 Kr k y17 y18 y19 y20 (y21 ++ x39) (IntKind.wrap .i64 (y22 + 1)) h35) h
  else
  K4 y17 y18 y19 y20 h
theorem ref21_grows_l2_ok {Q : Exit → Env → Heap → Prop} (K4 : ByteArray → ByteArray → Int → Int → Heap → Prop) (hK4 : ∀ (z51 : ByteArray) (z52 : ByteArray) (z53 : Int) (z54 : Int) (b : Env) (h : Heap), K4 z51 z52 z53 z54 h → Q (.exit 4) (upd (upd (upd (upd b 0 (.string z51)) 3 (.string z52)) 4 (.int .i64 z53)) 5 (.int .i64 z54)) h) (Kr : Bool → Heap → Prop) (hKr : ∀ (z56 : Bool) (b : Env) (h : Heap), Kr z56 h → Q .ret (upd b 2 (.bool z56)) h) : ∀ (k : Nat) (y17 : ByteArray) (y18 : ByteArray) (y19 : Int) (y20 : Int) (y21 : ByteArray) (y22 : Int) (b : Env) (h : Heap) (hM : ref21_grows_l2 K4 Kr k y17 y18 y19 y20 y21 y22 h), lwp Tryd.prog (partC Tryd.f47 [1, 1, 1, 0, 1, 0, 0, 1, 0, 0, 1, 0, 0, 1, 0, 0, 1, 1, 0, 0]) 56 Q k (upd (upd (upd (upd (upd (upd b 0 (.string y17)) 3 (.string y18)) 4 (.int .i64 y19)) 5 (.int .i64 y20)) 6 (.string y21)) 7 (.int .i64 y22)) h := by
  intro k
  induction k with
  | zero => intro y17 y18 y19 y20 y21 y22 b h hM; exact (show False from hM).elim
  | succ k ih =>
    intro y17 y18 y19 y20 y21 y22 b h hM
    unfold ref21_grows_l2 at hM
    refine lwp_succ (cwp_part rfl ?_)
    refine cwp_seq (cR ?_)
    refine oS [(33, .int .i64 y22), (34, .bool (decide (y22 ≤ 4)))] rfl ?_
    refine oE ?_
    refine cwp_condD (y22 ≤ 4) (by kernel_rfl) (fun hc23 => ?_) (fun hc23 => ?_)
    · replace hM := ifT hc23 hM
      refine cwp_skip (thenE_n (cwp_seq (cwp_block (cR ?_))))
      refine oS [(38, .string y21)] rfl ?_
      refine owp_hpG rfl (by kernel_rfl) (hpCallE 45 #[.string y21] (by kernel_rfl) (ref21_first_ok y21 _ h hM) ?_)
      rintro _ h24 ⟨x25, x26, x27, rfl, hM⟩
      refine oS [(37, .tuple #[.int .i64 x25, .int .i64 x26, .bool x27]), (40, .int .i64 x25), (41, .int .i64 x26), (42, .bool x27), (8, .int .i64 x25), (9, .int .i64 x26), (10, .bool x27)] rfl ?_
      refine oE (cwp_seq (cR ?_))
      refine oS [(43, .bool x27), (44, .bool x27)] rfl ?_
      refine oB (x27) 5 [42, 10, 43, 44] (fun b_ => [(45, iteV b_ (.int .i64 x26 : Value) undef), (46, iteV b_ (.string y21 : Value) undef), (47, iteV b_ (.int .i64 (y21.size : Int) : Value) undef), (48, iteV b_ (.bool (decide (x26 = (y21.size : Int))) : Value) undef), (49, .bool (b_ && (decide (x26 = (y21.size : Int)))))]) rfl (fun hb28 hq29 => oS [(45, .int .i64 x26), (46, .string y21), (47, .int .i64 (y21.size : Int)), (48, .bool (decide (x26 = (y21.size : Int)))), (49, .bool (decide (x26 = (y21.size : Int))))] rfl (hq29)) (fun hb30 hq31 => oS [(45, undef), (46, undef), (47, undef), (48, undef), (49, .bool false)] rfl (hq31)) ?_
      refine oE ?_
      refine cwp_condB (x27 && (decide (x26 = (y21.size : Int)))) (by kernel_rfl) (fun hc32 => ?_) (fun hc32 => ?_)
      · replace hM := ifT hc32 hM
        refine cR ?_
        refine oS [(2, .bool true)] rfl ?_
        refine oE (cwp_ret (thenE_r (blockE_r (thenE_r ?_))))
        exact q_at (Q := Q .ret) 2 (.bool true) (by kernel_rfl) (hKr true _ _ hM)
      replace hM := ifF hc32 hM
      refine cwp_skip (thenE_n (cwp_region ?_))
      refine oS [(50, .string y21)] rfl ?_
      refine owp_hpG rfl (by kernel_rfl) (hpNewS #[.string (⟨#[128]⟩ : ByteArray), .string (⟨#[191]⟩ : ByteArray)] 9 2 (fun _ => by kernel_rfl) ?_)
      intro b34 h35 hN36
      replace hM := newB_of hN36 hM
      refine oS [(52, .int .i64 y20)] rfl ?_
      obtain ⟨hc37, hM⟩ := hM
      obtain ⟨hc38, hM⟩ := hM
      refine owp_rdG (.pointer (some ((⟨b34, 0, none⟩ : Addr).add ((y20).toNat * 1)))) rfl (by kernel_rfl) (rd_ixS (P := Tryd.prog) (h := h35) (t := 22) (el := 9) (sz := 1) (ad := ⟨b34, 0, none⟩) (len := 2) (c := 2) (k := .i64) (i := y20) (by kernel_rfl) (by kernel_rfl) hc37 hc38 (by kernel_rfl)) ?_
      obtain ⟨x39, hc40, hM⟩ := hM
      refine owp_rdG (.string x39) rfl (by kernel_rfl) (Eq.trans (b := (cellH h35 ((⟨b34, 0, none⟩ : Addr).add ((y20).toNat * 1))).bind fun v41 => some (.value v41)) (by kernel_rfl) (bindE hc40 _)) ?_
      obtain ⟨hc42, hM⟩ := hM
      refine owp_rdG (.string (y21 ++ x39)) rfl (by kernel_rfl) (rd_cat (P := Tryd.prog) (h := h35) (x := y21) (y := x39) hc42 (by kernel_rfl)) ?_
      refine oS [(6, .string (y21 ++ x39))] rfl ?_
      refine owp_nil (blockE_n (thenE_n (cwp_region ?_)))
      refine oS [(35, .int .i64 y22), (36, .int .i64 (IntKind.wrap .i64 (y22 + 1))), (7, .int .i64 (IntKind.wrap .i64 (y22 + 1)))] rfl ?_
      refine owp_nil ?_
      exact lwp_at 0 (.string y17) (by kernel_rfl) (lwp_at 3 (.string y18) (by kernel_rfl) (lwp_at 4 (.int .i64 y19) (by kernel_rfl) (lwp_at 5 (.int .i64 y20) (by kernel_rfl) (lwp_at 6 (.string (y21 ++ x39)) (by kernel_rfl) (lwp_at 7 (.int .i64 (IntKind.wrap .i64 (y22 + 1))) (by kernel_rfl) (ih y17 y18 y19 y20 (y21 ++ x39) (IntKind.wrap .i64 (y22 + 1)) _ _ hM))))))
    replace hM := ifF hc23 hM
    refine cwp_exit (thenE_x ?_)
    exact q_at (Q := Q (.exit 4)) 0 (.string y17) (by kernel_rfl) (q_at (Q := Q (.exit 4)) 3 (.string y18) (by kernel_rfl) (q_at (Q := Q (.exit 4)) 4 (.int .i64 y19) (by kernel_rfl) (q_at (Q := Q (.exit 4)) 5 (.int .i64 y20) (by kernel_rfl) (hK4 y17 y18 y19 y20 _ _ hM))))
def ref21_grows_l1 (K2 : ByteArray → ByteArray → Int → Heap → Prop) (Kr : Bool → Heap → Prop) : Nat → ByteArray → ByteArray → Int → Int → Heap → Prop
  | 0, _, _, _, _, _ => False
  | k + 1, y7, y8, y9, y10, h =>
  if y10 < 2 then
   0 ≤ (IntKind.wrap .i64 (y9 + 1)) ∧
   (IntKind.wrap .i64 (y9 + 1)) ≤ (y8.size : Int) ∧
   0 ≤ y9 ∧
   y9 ≤ (IntKind.wrap .i64 (y9 + 1)) ∧
   y7.size + (y8.extract y9.toNat ((IntKind.wrap .i64 (y9 + 1)).toNat)).size ≤ 9223372036854775807 ∧
   ∃ k67, ref21_grows_l2
    (fun z57 z58 z59 z60 h61 =>
        ref21_grows_l1 K2 Kr k z57 z58 z59 (IntKind.wrap .i64 (z60 + 1)) h61)
    (fun z63 h64 =>
        Kr z63 h64) k67 y7 y8 y9 y10 (y7 ++ (y8.extract y9.toNat ((IntKind.wrap .i64 (y9 + 1)).toNat))) ((y7 ++ (y8.extract y9.toNat ((IntKind.wrap .i64 (y9 + 1)).toNat))).size : Int) h
  else
  K2 y7 y8 y9 h
theorem ref21_grows_l1_ok {Q : Exit → Env → Heap → Prop} (K2 : ByteArray → ByteArray → Int → Heap → Prop) (hK2 : ∀ (z74 : ByteArray) (z75 : ByteArray) (z76 : Int) (b : Env) (h : Heap), K2 z74 z75 z76 h → Q (.exit 2) (upd (upd (upd b 0 (.string z74)) 3 (.string z75)) 4 (.int .i64 z76)) h) (Kr : Bool → Heap → Prop) (hKr : ∀ (z78 : Bool) (b : Env) (h : Heap), Kr z78 h → Q .ret (upd b 2 (.bool z78)) h) : ∀ (k : Nat) (y7 : ByteArray) (y8 : ByteArray) (y9 : Int) (y10 : Int) (b : Env) (h : Heap) (hM : ref21_grows_l1 K2 Kr k y7 y8 y9 y10 h), lwp Tryd.prog (partC Tryd.f47 [1, 1, 1, 0, 1, 0, 0, 1, 0, 0, 1, 0, 0]) 56 Q k (upd (upd (upd (upd b 0 (.string y7)) 3 (.string y8)) 4 (.int .i64 y9)) 5 (.int .i64 y10)) h := by
  intro k
  induction k with
  | zero => intro y7 y8 y9 y10 b h hM; exact (show False from hM).elim
  | succ k ih =>
    intro y7 y8 y9 y10 b h hM
    unfold ref21_grows_l1 at hM
    refine lwp_succ (cwp_part rfl ?_)
    refine cwp_seq (cR ?_)
    refine oS [(20, .int .i64 y10), (21, .bool (decide (y10 < 2)))] rfl ?_
    refine oE ?_
    refine cwp_condD (y10 < 2) (by kernel_rfl) (fun hc11 => ?_) (fun hc11 => ?_)
    · replace hM := ifT hc11 hM
      refine cwp_skip (thenE_n (cwp_seq (cwp_block (cR ?_))))
      refine oS [(24, .string y7), (25, .string y8), (26, .int .i64 y9), (27, .int .i64 y9), (28, .int .i64 (IntKind.wrap .i64 (y9 + 1)))] rfl ?_
      obtain ⟨hc12, hM⟩ := hM
      obtain ⟨hc13, hM⟩ := hM
      obtain ⟨hc14, hM⟩ := hM
      obtain ⟨hc15, hM⟩ := hM
      refine owp_rdG (.string (y8.extract y9.toNat ((IntKind.wrap .i64 (y9 + 1)).toNat))) rfl (by kernel_rfl) (rd_slLH (P := Tryd.prog) (h := h) (t := 9) (s := y8) (k := .i64) (k' := .i64) (i := y9) (j := (IntKind.wrap .i64 (y9 + 1))) (by kernel_rfl) hc12 hc13 hc14 hc15 (by kernel_rfl)) ?_
      obtain ⟨hc16, hM⟩ := hM
      refine owp_rdG (.string (y7 ++ (y8.extract y9.toNat ((IntKind.wrap .i64 (y9 + 1)).toNat)))) rfl (by kernel_rfl) (rd_cat (P := Tryd.prog) (h := h) (x := y7) (y := (y8.extract y9.toNat ((IntKind.wrap .i64 (y9 + 1)).toNat))) hc16 (by kernel_rfl)) ?_
      refine oS [(6, .string (y7 ++ (y8.extract y9.toNat ((IntKind.wrap .i64 (y9 + 1)).toNat))))] rfl ?_
      refine oE (cR ?_)
      refine oS [(31, .string (y7 ++ (y8.extract y9.toNat ((IntKind.wrap .i64 (y9 + 1)).toNat)))), (32, .int .i64 ((y7 ++ (y8.extract y9.toNat ((IntKind.wrap .i64 (y9 + 1)).toNat))).size : Int)), (7, .int .i64 ((y7 ++ (y8.extract y9.toNat ((IntKind.wrap .i64 (y9 + 1)).toNat))).size : Int))] rfl ?_
      refine oE (cwp_block ?_)
      obtain ⟨k_, hM⟩ := hM
      refine cwp_loop k_ (lwp_of_part (fn := Tryd.f47) (p := [1, 1, 1, 0, 1, 0, 0, 1, 0, 0, 1, 0, 0, 1, 0, 0, 1, 1, 0, 0]) (by kernel_rfl) (lwp_at 0 (.string y7) (by kernel_rfl) (lwp_at 3 (.string y8) (by kernel_rfl) (lwp_at 4 (.int .i64 y9) (by kernel_rfl) (lwp_at 5 (.int .i64 y10) (by kernel_rfl) (lwp_at 6 (.string (y7 ++ (y8.extract y9.toNat ((IntKind.wrap .i64 (y9 + 1)).toNat)))) (by kernel_rfl) (lwp_at 7 (.int .i64 ((y7 ++ (y8.extract y9.toNat ((IntKind.wrap .i64 (y9 + 1)).toNat))).size : Int)) (by kernel_rfl) (ref21_grows_l2_ok _ ?_ _ ?_ k_ y7 y8 y9 y10 (y7 ++ (y8.extract y9.toNat ((IntKind.wrap .i64 (y9 + 1)).toNat))) ((y7 ++ (y8.extract y9.toNat ((IntKind.wrap .i64 (y9 + 1)).toNat))).size : Int) _ _ hM))))))))
      · intro z57 z58 z59 z60 b62 h61 hM
        refine blockE_h (blockE_n (thenE_n (cwp_region ?_)))
        refine oS [(22, .int .i64 z60), (23, .int .i64 (IntKind.wrap .i64 (z60 + 1))), (5, .int .i64 (IntKind.wrap .i64 (z60 + 1)))] rfl ?_
        refine owp_nil ?_
        exact lwp_at 0 (.string z57) (by kernel_rfl) (lwp_at 3 (.string z58) (by kernel_rfl) (lwp_at 4 (.int .i64 z59) (by kernel_rfl) (lwp_at 5 (.int .i64 (IntKind.wrap .i64 (z60 + 1))) (by kernel_rfl) (ih z57 z58 z59 (IntKind.wrap .i64 (z60 + 1)) _ _ hM))))
      · intro z63 b66 h64 hM
        refine blockE_r (blockE_r (thenE_r ?_))
        exact q_at (Q := Q .ret) 2 (.bool z63) (by kernel_rfl) (hKr z63 _ _ hM)
    replace hM := ifF hc11 hM
    refine cwp_exit (thenE_x ?_)
    exact q_at (Q := Q (.exit 2)) 0 (.string y7) (by kernel_rfl) (q_at (Q := Q (.exit 2)) 3 (.string y8) (by kernel_rfl) (q_at (Q := Q (.exit 2)) 4 (.int .i64 y9) (by kernel_rfl) (hK2 y7 y8 y9 _ _ hM)))
def ref21_grows_l0 (K0 : Heap → Prop) (Kr : Bool → Heap → Prop) : Nat → ByteArray → ByteArray → Int → Heap → Prop
  | 0, _, _, _, _ => False
  | k + 1, y3, y4, y5, h =>
  if y5 < (y4.size : Int) then
   ∃ k88, ref21_grows_l1
    (fun z79 z80 z81 h82 =>
        ref21_grows_l0 K0 Kr k z79 z80 (IntKind.wrap .i64 (z81 + 1)) h82)
    (fun z84 h85 =>
        Kr z84 h85) k88 y3 y4 y5 0 h
  else
  K0  h
theorem ref21_grows_l0_ok {Q : Exit → Env → Heap → Prop} (K0 : Heap → Prop) (hK0 : ∀  (b : Env) (h : Heap), K0  h → Q (.exit 0) b h) (Kr : Bool → Heap → Prop) (hKr : ∀ (z90 : Bool) (b : Env) (h : Heap), Kr z90 h → Q .ret (upd b 2 (.bool z90)) h) : ∀ (k : Nat) (y3 : ByteArray) (y4 : ByteArray) (y5 : Int) (b : Env) (h : Heap) (hM : ref21_grows_l0 K0 Kr k y3 y4 y5 h), lwp Tryd.prog (partC Tryd.f47 [1, 1, 1, 0, 1, 0, 0]) 56 Q k (upd (upd (upd b 0 (.string y3)) 3 (.string y4)) 4 (.int .i64 y5)) h := by
  intro k
  induction k with
  | zero => intro y3 y4 y5 b h hM; exact (show False from hM).elim
  | succ k ih =>
    intro y3 y4 y5 b h hM
    unfold ref21_grows_l0 at hM
    refine lwp_succ (cwp_part rfl ?_)
    refine cwp_seq (cR ?_)
    refine oS [(14, .int .i64 y5), (15, .string y4), (16, .int .i64 (y4.size : Int)), (17, .bool (decide (y5 < (y4.size : Int))))] rfl ?_
    refine oE ?_
    refine cwp_condD (y5 < (y4.size : Int)) (by kernel_rfl) (fun hc6 => ?_) (fun hc6 => ?_)
    · replace hM := ifT hc6 hM
      refine cwp_skip (thenE_n (cwp_seq (cwp_block (cR ?_))))
      refine oS [(5, .int .i64 0)] rfl ?_
      refine oE (cwp_block ?_)
      obtain ⟨k_, hM⟩ := hM
      refine cwp_loop k_ (lwp_of_part (fn := Tryd.f47) (p := [1, 1, 1, 0, 1, 0, 0, 1, 0, 0, 1, 0, 0]) (by kernel_rfl) (lwp_at 0 (.string y3) (by kernel_rfl) (lwp_at 3 (.string y4) (by kernel_rfl) (lwp_at 4 (.int .i64 y5) (by kernel_rfl) (lwp_at 5 (.int .i64 0) (by kernel_rfl) (ref21_grows_l1_ok _ ?_ _ ?_ k_ y3 y4 y5 0 _ _ hM))))))
      · intro z79 z80 z81 b83 h82 hM
        refine blockE_h (blockE_n (thenE_n (cwp_region ?_)))
        refine oS [(18, .int .i64 z81), (19, .int .i64 (IntKind.wrap .i64 (z81 + 1))), (4, .int .i64 (IntKind.wrap .i64 (z81 + 1)))] rfl ?_
        refine owp_nil ?_
        exact lwp_at 0 (.string z79) (by kernel_rfl) (lwp_at 3 (.string z80) (by kernel_rfl) (lwp_at 4 (.int .i64 (IntKind.wrap .i64 (z81 + 1))) (by kernel_rfl) (ih z79 z80 (IntKind.wrap .i64 (z81 + 1)) _ _ hM)))
      · intro z84 b87 h85 hM
        refine blockE_r (blockE_r (thenE_r ?_))
        exact q_at (Q := Q .ret) 2 (.bool z84) (by kernel_rfl) (hKr z84 _ _ hM)
    replace hM := ifF hc6 hM
    refine cwp_exit (thenE_x ?_)
    exact hK0  _ _ hM
def ref21_grows (a1 : ByteArray) (K : Bool → Heap → Prop) (h : Heap) : Prop :=
 if 3 < (a1.size : Int) then
  K false h
 else
 ∃ k96, ref21_grows_l0
  (fun  h91 =>
      K false h91)
  (fun z93 h94 =>
      K z93 h94) k96 a1 (⟨#[128, 144, 160, 191, 143, 159]⟩ : ByteArray) 0 h
theorem ref21_grows_ok (a1 : ByteArray) (K : Bool → Heap → Prop) (h : Heap) (hM : ref21_grows a1 K h) : CallsH Tryd.prog 47 #[.string a1] (fun v h' => ∃ (r97 : Bool), v = .bool r97 ∧ K r97 h') h := by
 unfold ref21_grows at hM
 refine callsH_intro (n := 56) Tryd.func47 rfl rfl (by kernel_rfl) ?_
 refine cR ?_
 refine oS [(2, .bool false)] rfl ?_
 refine oE (cwp_seq (cR ?_))
 refine oS [(11, .string a1), (12, .int .i64 (a1.size : Int)), (13, .bool (decide (3 < (a1.size : Int))))] rfl ?_
 refine oE ?_
 refine cwp_condD (3 < (a1.size : Int)) (by kernel_rfl) (fun hc2 => ?_) (fun hc2 => ?_)
 · replace hM := ifT hc2 hM
   refine cR ?_
   refine oS [(2, .bool false)] rfl ?_
   refine oE (cwp_ret (thenE_r ?_))
   exact ret_ (.bool false) (by kernel_rfl) ⟨_, rfl, hM⟩
 replace hM := ifF hc2 hM
 refine cwp_skip (thenE_n (cR ?_))
 refine oS [(3, .string (⟨#[128, 144, 160, 191, 143, 159]⟩ : ByteArray))] rfl ?_
 refine oE (cwp_seq (cR ?_))
 refine oS [(4, .int .i64 0)] rfl ?_
 refine oE (cwp_block ?_)
 obtain ⟨k_, hM⟩ := hM
 refine cwp_loop k_ (lwp_of_part (fn := Tryd.f47) (p := [1, 1, 1, 0, 1, 0, 0]) (by kernel_rfl) (lwp_at 0 (.string a1) (by kernel_rfl) (lwp_at 3 (.string (⟨#[128, 144, 160, 191, 143, 159]⟩ : ByteArray)) (by kernel_rfl) (lwp_at 4 (.int .i64 0) (by kernel_rfl) (ref21_grows_l0_ok _ ?_ _ ?_ k_ a1 (⟨#[128, 144, 160, 191, 143, 159]⟩ : ByteArray) 0 _ _ hM)))))
 · intro  b92 h91 hM
   refine blockE_h (thenE_n (cR ?_))
   refine oS [(2, .bool false)] rfl ?_
   refine oE (cwp_ret ?_)
   exact ret_ (.bool false) (by kernel_rfl) ⟨_, rfl, hM⟩
 · intro z93 b95 h94 hM
   refine blockE_r (thenE_r ?_)
   exact ret_ (.bool z93) (by kernel_rfl) ⟨_, rfl, hM⟩
/- mullion/mullionref21.plain -/
def ref21_plain_l0 (K1 : Nat → Int → Heap → Prop) : Nat → ByteArray → Nat → Int → Heap → Prop
  | 0, _, _, _, _ => False
  | k + 1, y96, y97, y98, h =>
  if y98 < (y96.size : Int) then
   0 ≤ (IntKind.wrap .i64 (y98 + 1)) ∧
   (IntKind.wrap .i64 (y98 + 1)) ≤ (y96.size : Int) ∧
   ref21_grows (y96.extract 0 ((IntKind.wrap .i64 (y98 + 1)).toNat)) (fun x107 h106 =>
    if x107 = true then
     ref21_plain_l0 K1 k y96 y97 (IntKind.wrap .i64 (y98 + 1)) h106
    else
     K1 y97 y98 h106) h
  else
  K1 y97 y98 h
theorem ref21_plain_l0_ok {Q : Exit → Env → Heap → Prop} (K1 : Nat → Int → Heap → Prop) (hK1 : ∀ (z113 : Nat) (z114 : Int) (b : Env) (h : Heap), K1 z113 z114 h → Q (.exit 1) (upd (upd b 2 (.pointer (some ⟨z113, 0, none⟩))) 8 (.int .i64 z114)) h) : ∀ (k : Nat) (y96 : ByteArray) (y97 : Nat) (y98 : Int) (b : Env) (h : Heap) (hM : ref21_plain_l0 K1 k y96 y97 y98 h), lwp Tryd.prog (partC Tryd.f27 [1, 1, 1, 1, 1, 1, 1, 1, 0, 0, 0]) 90 Q k (upd (upd (upd b 0 (.string y96)) 2 (.pointer (some ⟨y97, 0, none⟩))) 8 (.int .i64 y98)) h := by
  intro k
  induction k with
  | zero => intro y96 y97 y98 b h hM; exact (show False from hM).elim
  | succ k ih =>
    intro y96 y97 y98 b h hM
    unfold ref21_plain_l0 at hM
    refine lwp_succ (cwp_part rfl ?_)
    refine cwp_seq (cR ?_)
    refine oS [(75, .int .i64 y98), (76, .string y96), (77, .int .i64 (y96.size : Int)), (78, .bool (decide (y98 < (y96.size : Int)))), (79, .bool (decide (y98 < (y96.size : Int))))] rfl ?_
    by_cases hc103 : y98 < (y96.size : Int)
    · refine owp_at 78 (.bool true) (Eq.trans (b := .bool (decide (y98 < (y96.size : Int)))) (by kernel_rfl) (by rw [decide_eq_true hc103])) ?_
      refine owp_at 79 (.bool true) (Eq.trans (b := .bool (decide (y98 < (y96.size : Int)))) (by kernel_rfl) (by rw [decide_eq_true hc103])) ?_
      replace hM := ifT hc103 hM
      refine oS [(80, .string y96), (81, .int .i64 y98), (82, .int .i64 (IntKind.wrap .i64 (y98 + 1)))] rfl ?_
      obtain ⟨hc104, hM⟩ := hM
      obtain ⟨hc105, hM⟩ := hM
      refine owp_rdG (.string (y96.extract 0 ((IntKind.wrap .i64 (y98 + 1)).toNat))) rfl (by kernel_rfl) (rd_slHi (P := Tryd.prog) (h := h) (t := 9) (s := y96) (k := .i64) (i := (IntKind.wrap .i64 (y98 + 1))) (by kernel_rfl) hc104 hc105 (by kernel_rfl)) ?_
      refine owp_hpG rfl (by kernel_rfl) (hpCallE 47 #[.string (y96.extract 0 ((IntKind.wrap .i64 (y98 + 1)).toNat))] (by kernel_rfl) (ref21_grows_ok (y96.extract 0 ((IntKind.wrap .i64 (y98 + 1)).toNat)) _ h hM) ?_)
      rintro _ h106 ⟨x107, rfl, hM⟩
      refine oS [(85, .bool x107)] rfl ?_
      refine oE ?_
      refine cwp_condB x107 (by kernel_rfl) (fun hc108 => ?_) (fun hc108 => ?_)
      · replace hM := ifT hc108 hM
        refine cwp_skip (thenE_n (cwp_block (cwp_region ?_)))
        refine oS [(86, .int .i64 y98), (87, .int .i64 (IntKind.wrap .i64 (y98 + 1))), (8, .int .i64 (IntKind.wrap .i64 (y98 + 1)))] rfl ?_
        refine owp_nil (blockE_n ?_)
        exact lwp_at 0 (.string y96) (by kernel_rfl) (lwp_at 2 (.pointer (some ⟨y97, 0, none⟩)) (by kernel_rfl) (lwp_at 8 (.int .i64 (IntKind.wrap .i64 (y98 + 1))) (by kernel_rfl) (ih y96 y97 (IntKind.wrap .i64 (y98 + 1)) _ _ hM)))
      replace hM := ifF hc108 hM
      refine cwp_exit (thenE_x ?_)
      exact q_at (Q := Q (.exit 1)) 2 (.pointer (some ⟨y97, 0, none⟩)) (by kernel_rfl) (q_at (Q := Q (.exit 1)) 8 (.int .i64 y98) (by kernel_rfl) (hK1 y97 y98 _ _ hM))
    refine owp_at 78 (.bool false) (Eq.trans (b := .bool (decide (y98 < (y96.size : Int)))) (by kernel_rfl) (by rw [decide_eq_false hc103])) ?_
    refine owp_at 79 (.bool false) (Eq.trans (b := .bool (decide (y98 < (y96.size : Int)))) (by kernel_rfl) (by rw [decide_eq_false hc103])) ?_
    replace hM := ifF hc103 hM
    refine oS [(80, undef), (81, undef), (82, undef), (83, undef), (84, undef), (85, .bool false)] rfl ?_
    refine oE ?_
    refine cwp_cond (t := false) (by kernel_rfl) (fun hx_ => ?_) (fun hx_ => ?_)
    all_goals first | (cases hx_; done) | skip
    refine cwp_exit (thenE_x ?_)
    exact q_at (Q := Q (.exit 1)) 2 (.pointer (some ⟨y97, 0, none⟩)) (by kernel_rfl) (q_at (Q := Q (.exit 1)) 8 (.int .i64 y98) (by kernel_rfl) (hK1 y97 y98 _ _ hM))
def ref21_plain (a1 : ByteArray) (K : Int → Int → Int → Heap → Prop) (h : Heap) : Prop :=
 newB h #[.int .i64 0, .int .i64 0] 36 fun b2 h3 =>
 (0 : Int) < (a1.size : Int) ∧
 if (((decide ((IntKind.wrap .i64 (byteAt a1 0)) = 13)) || (decide ((IntKind.wrap .i64 (byteAt a1 0)) = 9))) || (decide ((IntKind.wrap .i64 (byteAt a1 0)) = 127))) = true then
  stN ⟨b2, 0, none⟩ [.int .i64 (IntKind.wrap .i64 (byteAt a1 0)), .int .i64 0] 0 h3 fun h16 =>
  ldI h16 .i64 ⟨b2, 0, none⟩ fun x17 =>
  ldI h16 .i64 ⟨b2, 1, none⟩ fun x19 =>
  K x17 x19 1 h16
 else
 if (IntKind.wrap .i64 (byteAt a1 0)) = 0 then
  stN ⟨b2, 0, none⟩ [.int .i64 32, .int .i64 4] 0 h3 fun h24 =>
  ldI h24 .i64 ⟨b2, 0, none⟩ fun x25 =>
  ldI h24 .i64 ⟨b2, 1, none⟩ fun x27 =>
  K x25 x27 1 h24
 else
 if ((decide (28 ≤ (IntKind.wrap .i64 (byteAt a1 0)))) && (decide ((IntKind.wrap .i64 (byteAt a1 0)) < 32))) = true then
  stN ⟨b2, 0, none⟩ [.int .i64 (IntKind.wrap .i64 ((IntKind.wrap .i64 (byteAt a1 0)) + 64)), .int .i64 4] 0 h3 fun h36 =>
  ldI h36 .i64 ⟨b2, 0, none⟩ fun x37 =>
  ldI h36 .i64 ⟨b2, 1, none⟩ fun x39 =>
  K x37 x39 1 h36
 else
 if (IntKind.wrap .i64 (byteAt a1 0)) < 27 then
  stN ⟨b2, 0, none⟩ [.int .i64 (IntKind.wrap .i64 ((IntKind.wrap .i64 (byteAt a1 0)) + 96)), .int .i64 4] 0 h3 fun h44 =>
  ldI h44 .i64 ⟨b2, 0, none⟩ fun x45 =>
  ldI h44 .i64 ⟨b2, 1, none⟩ fun x47 =>
  K x45 x47 1 h44
 else
 if (IntKind.wrap .i64 (byteAt a1 0)) < 128 then
  stN ⟨b2, 0, none⟩ [.int .i64 (IntKind.wrap .i64 (byteAt a1 0)), .int .i64 0] 0 h3 fun h52 =>
  ldI h52 .i64 ⟨b2, 0, none⟩ fun x53 =>
  ldI h52 .i64 ⟨b2, 1, none⟩ fun x55 =>
  K x53 x55 1 h52
 else
 ref21_first a1 (fun x60 x61 x62 h59 =>
  if (x62 && (decide (x60 < 160))) = true then
   stN ⟨b2, 0, none⟩ [.int .i64 0, .int .i64 0] 0 h59 fun h68 =>
   ldI h68 .i64 ⟨b2, 0, none⟩ fun x69 =>
   ldI h68 .i64 ⟨b2, 1, none⟩ fun x71 =>
   K x69 x71 x61 h68
  else
  if x62 = true then
   stN ⟨b2, 0, none⟩ [.int .i64 x60, .int .i64 0] 0 h59 fun h76 =>
   ldI h76 .i64 ⟨b2, 0, none⟩ fun x77 =>
   ldI h76 .i64 ⟨b2, 1, none⟩ fun x79 =>
   K x77 x79 x61 h76
  else
  if (a1.size : Int) < 4 then
   ref21_grows a1 (fun x87 h86 =>
    if x87 = true then
     stN ⟨b2, 0, none⟩ [.int .i64 0, .int .i64 0] 0 h86 fun h89 =>
     ldI h89 .i64 ⟨b2, 0, none⟩ fun x90 =>
     ldI h89 .i64 ⟨b2, 1, none⟩ fun x92 =>
     K x90 x92 0 h89
    else
    ∃ k126, ref21_plain_l0
     (fun z115 z116 h117 =>
       stN ⟨z115, 0, none⟩ [.int .i64 0, .int .i64 0] 0 h117 fun h118 =>
       ldI h118 .i64 ⟨z115, 0, none⟩ fun x119 =>
       ldI h118 .i64 ⟨z115, 1, none⟩ fun x121 =>
          K x119 x121 z116 h118) k126 a1 b2 1 h86) h59
  else
  ∃ k138, ref21_plain_l0
   (fun z127 z128 h129 =>
     stN ⟨z127, 0, none⟩ [.int .i64 0, .int .i64 0] 0 h129 fun h130 =>
     ldI h130 .i64 ⟨z127, 0, none⟩ fun x131 =>
     ldI h130 .i64 ⟨z127, 1, none⟩ fun x133 =>
        K x131 x133 z128 h130) k138 a1 b2 1 h59) h3
theorem ref21_plain_ok (a1 : ByteArray) (K : Int → Int → Int → Heap → Prop) (h : Heap) (hM : ref21_plain a1 K h) : CallsH Tryd.prog 27 #[.string a1] (fun v h' => ∃ (r139 : Int) (r140 : Int) (r141 : Int), v = .tuple #[.agg #[.int .i64 r139, .int .i64 r140], .int .i64 r141] ∧ K r139 r140 r141 h') h := by
 unfold ref21_plain at hM
 refine callsH_intro (n := 90) Tryd.func27 rfl rfl (by kernel_rfl) ?_
 refine cR ?_
 refine owp_hpG rfl (by kernel_rfl) (hpNew #[.int .i64 0, .int .i64 0] 36 (fun _ => by kernel_rfl) ?_)
 intro b2 h3 hN4
 replace hM := newB_of hN4 hM
 refine oS [(3, .int .i64 0)] rfl ?_
 refine oE (cR ?_)
 refine oS [(9, .string a1)] rfl ?_
 have hc5 : 0 ≤ (0 : Int) := by decide
 obtain ⟨hc6, hM⟩ := hM
 refine owp_rdG (.int .u8 (byteAt a1 0)) rfl (by kernel_rfl) (rd_ixStr (P := Tryd.prog) (h := h3) (t := 9) (s := a1) (k := .i64) (i := 0) (by kernel_rfl) hc5 hc6 (by kernel_rfl)) ?_
 refine oS [(11, .int .i64 (IntKind.wrap .i64 (byteAt a1 0))), (4, .int .i64 (IntKind.wrap .i64 (byteAt a1 0)))] rfl ?_
 refine oE (cwp_seq (cwp_block (cR ?_)))
 refine oS [(13, .int .i64 (IntKind.wrap .i64 (byteAt a1 0))), (14, .bool (decide ((IntKind.wrap .i64 (byteAt a1 0)) = 13))), (15, .bool (decide ((IntKind.wrap .i64 (byteAt a1 0)) = 13)))] rfl ?_
 refine oB (decide ((IntKind.wrap .i64 (byteAt a1 0)) = 13)) 3 [14, 15] (fun b_ => [(16, iteV b_ undef (.int .i64 (IntKind.wrap .i64 (byteAt a1 0)) : Value)), (17, iteV b_ undef (.bool (decide ((IntKind.wrap .i64 (byteAt a1 0)) = 9)) : Value)), (18, .bool (b_ || (decide ((IntKind.wrap .i64 (byteAt a1 0)) = 9))))]) rfl (fun hb7 hq8 => oS [(16, undef), (17, undef), (18, .bool true)] rfl (hq8)) (fun hb9 hq10 => oS [(16, .int .i64 (IntKind.wrap .i64 (byteAt a1 0))), (17, .bool (decide ((IntKind.wrap .i64 (byteAt a1 0)) = 9))), (18, .bool (decide ((IntKind.wrap .i64 (byteAt a1 0)) = 9)))] rfl (hq10)) ?_
 refine oS [(19, .bool ((decide ((IntKind.wrap .i64 (byteAt a1 0)) = 13)) || (decide ((IntKind.wrap .i64 (byteAt a1 0)) = 9))))] rfl ?_
 refine oB ((decide ((IntKind.wrap .i64 (byteAt a1 0)) = 13)) || (decide ((IntKind.wrap .i64 (byteAt a1 0)) = 9))) 3 [18, 19] (fun b_ => [(20, iteV b_ undef (.int .i64 (IntKind.wrap .i64 (byteAt a1 0)) : Value)), (21, iteV b_ undef (.bool (decide ((IntKind.wrap .i64 (byteAt a1 0)) = 127)) : Value)), (22, .bool (b_ || (decide ((IntKind.wrap .i64 (byteAt a1 0)) = 127))))]) rfl (fun hb11 hq12 => oS [(20, undef), (21, undef), (22, .bool true)] rfl (hq12)) (fun hb13 hq14 => oS [(20, .int .i64 (IntKind.wrap .i64 (byteAt a1 0))), (21, .bool (decide ((IntKind.wrap .i64 (byteAt a1 0)) = 127))), (22, .bool (decide ((IntKind.wrap .i64 (byteAt a1 0)) = 127)))] rfl (hq14)) ?_
 refine oS [(12, .bool (((decide ((IntKind.wrap .i64 (byteAt a1 0)) = 13)) || (decide ((IntKind.wrap .i64 (byteAt a1 0)) = 9))) || (decide ((IntKind.wrap .i64 (byteAt a1 0)) = 127))))] rfl ?_
 refine oE ?_
 refine cwp_condB (((decide ((IntKind.wrap .i64 (byteAt a1 0)) = 13)) || (decide ((IntKind.wrap .i64 (byteAt a1 0)) = 9))) || (decide ((IntKind.wrap .i64 (byteAt a1 0)) = 127))) (by kernel_rfl) (fun hc15 => ?_) (fun hc15 => ?_)
 · replace hM := ifT hc15 hM
   refine cR ?_
   refine oS [(23, .int .i64 (IntKind.wrap .i64 (byteAt a1 0))), (24, .agg #[.int .i64 (IntKind.wrap .i64 (byteAt a1 0)), .int .i64 0])] rfl ?_
   refine owp_hpD rfl (by kernel_rfl) (hpSt ⟨b2, 0, none⟩ [.int .i64 (IntKind.wrap .i64 (byteAt a1 0)), .int .i64 0] (fun _ => by kernel_rfl) rfl hM ?_)
   intro h16 hM
   refine oS [(3, .int .i64 1)] rfl ?_
   refine oE (cwp_ret (blockE_r (thenE_r ?_)))
   obtain ⟨x17, hc18, hM⟩ := hM
   obtain ⟨x19, hc20, hM⟩ := hM
   exact ret_ (.tuple #[.agg #[.int .i64 x17, .int .i64 x19], .int .i64 1]) (Eq.trans (b := (cellH h16 ⟨b2, 0, none⟩).bind fun v21 => (cellH h16 ⟨b2, 1, none⟩).bind fun v22 => some (.tuple #[.agg #[v21, v22], .int .i64 1])) (by kernel_rfl) ((bindE hc18 _).trans (bindE hc20 _))) ⟨_, _, _, rfl, hM⟩
 replace hM := ifF hc15 hM
 refine cR ?_
 refine oS [(26, .int .i64 (IntKind.wrap .i64 (byteAt a1 0))), (27, .bool (decide ((IntKind.wrap .i64 (byteAt a1 0)) = 0))), (25, .bool (decide ((IntKind.wrap .i64 (byteAt a1 0)) = 0)))] rfl ?_
 refine oE ?_
 refine cwp_condD ((IntKind.wrap .i64 (byteAt a1 0)) = 0) (by kernel_rfl) (fun hc23 => ?_) (fun hc23 => ?_)
 · replace hM := ifT hc23 hM
   refine cR ?_
   refine oS [(28, .agg #[.int .i64 32, .int .i64 4])] rfl ?_
   refine owp_hpD rfl (by kernel_rfl) (hpSt ⟨b2, 0, none⟩ [.int .i64 32, .int .i64 4] (fun _ => by kernel_rfl) rfl hM ?_)
   intro h24 hM
   refine oS [(3, .int .i64 1)] rfl ?_
   refine oE (cwp_ret (blockE_r (thenE_r ?_)))
   obtain ⟨x25, hc26, hM⟩ := hM
   obtain ⟨x27, hc28, hM⟩ := hM
   exact ret_ (.tuple #[.agg #[.int .i64 x25, .int .i64 x27], .int .i64 1]) (Eq.trans (b := (cellH h24 ⟨b2, 0, none⟩).bind fun v29 => (cellH h24 ⟨b2, 1, none⟩).bind fun v30 => some (.tuple #[.agg #[v29, v30], .int .i64 1])) (by kernel_rfl) ((bindE hc26 _).trans (bindE hc28 _))) ⟨_, _, _, rfl, hM⟩
 replace hM := ifF hc23 hM
 refine cR ?_
 refine oS [(30, .int .i64 (IntKind.wrap .i64 (byteAt a1 0))), (31, .bool (decide (28 ≤ (IntKind.wrap .i64 (byteAt a1 0))))), (32, .bool (decide (28 ≤ (IntKind.wrap .i64 (byteAt a1 0)))))] rfl ?_
 refine oB (decide (28 ≤ (IntKind.wrap .i64 (byteAt a1 0)))) 3 [31, 32] (fun b_ => [(33, iteV b_ (.int .i64 (IntKind.wrap .i64 (byteAt a1 0)) : Value) undef), (34, iteV b_ (.bool (decide ((IntKind.wrap .i64 (byteAt a1 0)) < 32)) : Value) undef), (35, .bool (b_ && (decide ((IntKind.wrap .i64 (byteAt a1 0)) < 32))))]) rfl (fun hb31 hq32 => oS [(33, .int .i64 (IntKind.wrap .i64 (byteAt a1 0))), (34, .bool (decide ((IntKind.wrap .i64 (byteAt a1 0)) < 32))), (35, .bool (decide ((IntKind.wrap .i64 (byteAt a1 0)) < 32)))] rfl (hq32)) (fun hb33 hq34 => oS [(33, undef), (34, undef), (35, .bool false)] rfl (hq34)) ?_
 refine oS [(29, .bool ((decide (28 ≤ (IntKind.wrap .i64 (byteAt a1 0)))) && (decide ((IntKind.wrap .i64 (byteAt a1 0)) < 32))))] rfl ?_
 refine oE ?_
 refine cwp_condB ((decide (28 ≤ (IntKind.wrap .i64 (byteAt a1 0)))) && (decide ((IntKind.wrap .i64 (byteAt a1 0)) < 32))) (by kernel_rfl) (fun hc35 => ?_) (fun hc35 => ?_)
 · replace hM := ifT hc35 hM
   refine cR ?_
   refine oS [(36, .int .i64 (IntKind.wrap .i64 (byteAt a1 0))), (37, .int .i64 (IntKind.wrap .i64 ((IntKind.wrap .i64 (byteAt a1 0)) + 64))), (38, .agg #[.int .i64 (IntKind.wrap .i64 ((IntKind.wrap .i64 (byteAt a1 0)) + 64)), .int .i64 4])] rfl ?_
   refine owp_hpD rfl (by kernel_rfl) (hpSt ⟨b2, 0, none⟩ [.int .i64 (IntKind.wrap .i64 ((IntKind.wrap .i64 (byteAt a1 0)) + 64)), .int .i64 4] (fun _ => by kernel_rfl) rfl hM ?_)
   intro h36 hM
   refine oS [(3, .int .i64 1)] rfl ?_
   refine oE (cwp_ret (blockE_r (thenE_r ?_)))
   obtain ⟨x37, hc38, hM⟩ := hM
   obtain ⟨x39, hc40, hM⟩ := hM
   exact ret_ (.tuple #[.agg #[.int .i64 x37, .int .i64 x39], .int .i64 1]) (Eq.trans (b := (cellH h36 ⟨b2, 0, none⟩).bind fun v41 => (cellH h36 ⟨b2, 1, none⟩).bind fun v42 => some (.tuple #[.agg #[v41, v42], .int .i64 1])) (by kernel_rfl) ((bindE hc38 _).trans (bindE hc40 _))) ⟨_, _, _, rfl, hM⟩
 replace hM := ifF hc35 hM
 refine cR ?_
 refine oS [(40, .int .i64 (IntKind.wrap .i64 (byteAt a1 0))), (41, .bool (decide ((IntKind.wrap .i64 (byteAt a1 0)) < 27))), (39, .bool (decide ((IntKind.wrap .i64 (byteAt a1 0)) < 27)))] rfl ?_
 refine oE ?_
 refine cwp_condD ((IntKind.wrap .i64 (byteAt a1 0)) < 27) (by kernel_rfl) (fun hc43 => ?_) (fun hc43 => ?_)
 · replace hM := ifT hc43 hM
   refine cR ?_
   refine oS [(42, .int .i64 (IntKind.wrap .i64 (byteAt a1 0))), (43, .int .i64 (IntKind.wrap .i64 ((IntKind.wrap .i64 (byteAt a1 0)) + 96))), (44, .agg #[.int .i64 (IntKind.wrap .i64 ((IntKind.wrap .i64 (byteAt a1 0)) + 96)), .int .i64 4])] rfl ?_
   refine owp_hpD rfl (by kernel_rfl) (hpSt ⟨b2, 0, none⟩ [.int .i64 (IntKind.wrap .i64 ((IntKind.wrap .i64 (byteAt a1 0)) + 96)), .int .i64 4] (fun _ => by kernel_rfl) rfl hM ?_)
   intro h44 hM
   refine oS [(3, .int .i64 1)] rfl ?_
   refine oE (cwp_ret (blockE_r (thenE_r ?_)))
   obtain ⟨x45, hc46, hM⟩ := hM
   obtain ⟨x47, hc48, hM⟩ := hM
   exact ret_ (.tuple #[.agg #[.int .i64 x45, .int .i64 x47], .int .i64 1]) (Eq.trans (b := (cellH h44 ⟨b2, 0, none⟩).bind fun v49 => (cellH h44 ⟨b2, 1, none⟩).bind fun v50 => some (.tuple #[.agg #[v49, v50], .int .i64 1])) (by kernel_rfl) ((bindE hc46 _).trans (bindE hc48 _))) ⟨_, _, _, rfl, hM⟩
 replace hM := ifF hc43 hM
 refine cR ?_
 refine oS [(46, .int .i64 (IntKind.wrap .i64 (byteAt a1 0))), (47, .bool (decide ((IntKind.wrap .i64 (byteAt a1 0)) < 128))), (45, .bool (decide ((IntKind.wrap .i64 (byteAt a1 0)) < 128)))] rfl ?_
 refine oE ?_
 refine cwp_condD ((IntKind.wrap .i64 (byteAt a1 0)) < 128) (by kernel_rfl) (fun hc51 => ?_) (fun hc51 => ?_)
 · replace hM := ifT hc51 hM
   refine cR ?_
   refine oS [(48, .int .i64 (IntKind.wrap .i64 (byteAt a1 0))), (49, .agg #[.int .i64 (IntKind.wrap .i64 (byteAt a1 0)), .int .i64 0])] rfl ?_
   refine owp_hpD rfl (by kernel_rfl) (hpSt ⟨b2, 0, none⟩ [.int .i64 (IntKind.wrap .i64 (byteAt a1 0)), .int .i64 0] (fun _ => by kernel_rfl) rfl hM ?_)
   intro h52 hM
   refine oS [(3, .int .i64 1)] rfl ?_
   refine oE (cwp_ret (blockE_r (thenE_r ?_)))
   obtain ⟨x53, hc54, hM⟩ := hM
   obtain ⟨x55, hc56, hM⟩ := hM
   exact ret_ (.tuple #[.agg #[.int .i64 x53, .int .i64 x55], .int .i64 1]) (Eq.trans (b := (cellH h52 ⟨b2, 0, none⟩).bind fun v57 => (cellH h52 ⟨b2, 1, none⟩).bind fun v58 => some (.tuple #[.agg #[v57, v58], .int .i64 1])) (by kernel_rfl) ((bindE hc54 _).trans (bindE hc56 _))) ⟨_, _, _, rfl, hM⟩
 replace hM := ifF hc51 hM
 refine cwp_skip (blockE_n (thenE_n (cR ?_)))
 refine oS [(51, .string a1)] rfl ?_
 refine owp_hpG rfl (by kernel_rfl) (hpCallE 45 #[.string a1] (by kernel_rfl) (ref21_first_ok a1 _ h3 hM) ?_)
 rintro _ h59 ⟨x60, x61, x62, rfl, hM⟩
 refine oS [(50, .tuple #[.int .i64 x60, .int .i64 x61, .bool x62]), (53, .int .i64 x60), (54, .int .i64 x61), (55, .bool x62), (5, .int .i64 x60), (6, .int .i64 x61), (7, .bool x62)] rfl ?_
 refine oE (cwp_seq (cR ?_))
 refine oS [(56, .bool x62), (57, .bool x62)] rfl ?_
 refine oB (x62) 3 [55, 7, 56, 57] (fun b_ => [(58, iteV b_ (.int .i64 x60 : Value) undef), (59, iteV b_ (.bool (decide (x60 < 160)) : Value) undef), (60, .bool (b_ && (decide (x60 < 160))))]) rfl (fun hb63 hq64 => oS [(58, .int .i64 x60), (59, .bool (decide (x60 < 160))), (60, .bool (decide (x60 < 160)))] rfl (hq64)) (fun hb65 hq66 => oS [(58, undef), (59, undef), (60, .bool false)] rfl (hq66)) ?_
 refine oE ?_
 refine cwp_condB (x62 && (decide (x60 < 160))) (by kernel_rfl) (fun hc67 => ?_) (fun hc67 => ?_)
 · replace hM := ifT hc67 hM
   refine cR ?_
   refine oS [(61, .agg #[.int .i64 0, .int .i64 0]), (62, .int .i64 x61)] rfl ?_
   refine owp_hpD rfl (by kernel_rfl) (hpSt ⟨b2, 0, none⟩ [.int .i64 0, .int .i64 0] (fun _ => by kernel_rfl) rfl hM ?_)
   intro h68 hM
   refine oS [(3, .int .i64 x61)] rfl ?_
   refine oE (cwp_ret (thenE_r ?_))
   obtain ⟨x69, hc70, hM⟩ := hM
   obtain ⟨x71, hc72, hM⟩ := hM
   exact ret_ (.tuple #[.agg #[.int .i64 x69, .int .i64 x71], .int .i64 x61]) (Eq.trans (b := (cellH h68 ⟨b2, 0, none⟩).bind fun v73 => (cellH h68 ⟨b2, 1, none⟩).bind fun v74 => some (.tuple #[.agg #[v73, v74], .int .i64 x61])) (by kernel_rfl) ((bindE hc70 _).trans (bindE hc72 _))) ⟨_, _, _, rfl, hM⟩
 replace hM := ifF hc67 hM
 refine cwp_skip (thenE_n (cwp_seq (cR ?_)))
 refine oS [(63, .bool x62)] rfl ?_
 refine oE ?_
 refine cwp_condB x62 (by kernel_rfl) (fun hc75 => ?_) (fun hc75 => ?_)
 · replace hM := ifT hc75 hM
   refine cR ?_
   refine oS [(64, .int .i64 x60), (65, .agg #[.int .i64 x60, .int .i64 0]), (66, .int .i64 x61)] rfl ?_
   refine owp_hpD rfl (by kernel_rfl) (hpSt ⟨b2, 0, none⟩ [.int .i64 x60, .int .i64 0] (fun _ => by kernel_rfl) rfl hM ?_)
   intro h76 hM
   refine oS [(3, .int .i64 x61)] rfl ?_
   refine oE (cwp_ret (thenE_r ?_))
   obtain ⟨x77, hc78, hM⟩ := hM
   obtain ⟨x79, hc80, hM⟩ := hM
   exact ret_ (.tuple #[.agg #[.int .i64 x77, .int .i64 x79], .int .i64 x61]) (Eq.trans (b := (cellH h76 ⟨b2, 0, none⟩).bind fun v81 => (cellH h76 ⟨b2, 1, none⟩).bind fun v82 => some (.tuple #[.agg #[v81, v82], .int .i64 x61])) (by kernel_rfl) ((bindE hc78 _).trans (bindE hc80 _))) ⟨_, _, _, rfl, hM⟩
 replace hM := ifF hc75 hM
 refine cwp_skip (thenE_n (cwp_seq (cR ?_)))
 refine oS [(67, .string a1), (68, .int .i64 (a1.size : Int)), (69, .bool (decide ((a1.size : Int) < 4))), (70, .bool (decide ((a1.size : Int) < 4)))] rfl ?_
 by_cases hc85 : (a1.size : Int) < 4
 · refine owp_at 69 (.bool true) (Eq.trans (b := .bool (decide ((a1.size : Int) < 4))) (by kernel_rfl) (by rw [decide_eq_true hc85])) ?_
   refine owp_at 70 (.bool true) (Eq.trans (b := .bool (decide ((a1.size : Int) < 4))) (by kernel_rfl) (by rw [decide_eq_true hc85])) ?_
   replace hM := ifT hc85 hM
   refine oS [(71, .string a1)] rfl ?_
   refine owp_hpG rfl (by kernel_rfl) (hpCallE 47 #[.string a1] (by kernel_rfl) (ref21_grows_ok a1 _ h59 hM) ?_)
   rintro _ h86 ⟨x87, rfl, hM⟩
   refine oS [(73, .bool x87)] rfl ?_
   refine oE ?_
   refine cwp_condB x87 (by kernel_rfl) (fun hc88 => ?_) (fun hc88 => ?_)
   · replace hM := ifT hc88 hM
     refine cR ?_
     refine oS [(74, .agg #[.int .i64 0, .int .i64 0])] rfl ?_
     refine owp_hpD rfl (by kernel_rfl) (hpSt ⟨b2, 0, none⟩ [.int .i64 0, .int .i64 0] (fun _ => by kernel_rfl) rfl hM ?_)
     intro h89 hM
     refine oS [(3, .int .i64 0)] rfl ?_
     refine oE (cwp_ret (thenE_r ?_))
     obtain ⟨x90, hc91, hM⟩ := hM
     obtain ⟨x92, hc93, hM⟩ := hM
     exact ret_ (.tuple #[.agg #[.int .i64 x90, .int .i64 x92], .int .i64 0]) (Eq.trans (b := (cellH h89 ⟨b2, 0, none⟩).bind fun v94 => (cellH h89 ⟨b2, 1, none⟩).bind fun v95 => some (.tuple #[.agg #[v94, v95], .int .i64 0])) (by kernel_rfl) ((bindE hc91 _).trans (bindE hc93 _))) ⟨_, _, _, rfl, hM⟩
   replace hM := ifF hc88 hM
   refine cwp_skip (thenE_n (cR ?_))
   refine oS [(8, .int .i64 1)] rfl ?_
   refine oE (cwp_seq (cwp_block ?_))
   obtain ⟨k_, hM⟩ := hM
   refine cwp_loop k_ (lwp_of_part (fn := Tryd.f27) (p := [1, 1, 1, 1, 1, 1, 1, 1, 0, 0, 0]) (by kernel_rfl) (lwp_at 0 (.string a1) (by kernel_rfl) (lwp_at 2 (.pointer (some ⟨b2, 0, none⟩)) (by kernel_rfl) (lwp_at 8 (.int .i64 1) (by kernel_rfl) (ref21_plain_l0_ok _ ?_ k_ a1 b2 1 _ _ hM)))))
   · intro z115 z116 b125 h117 hM
     refine blockE_h (thenE_n (cR ?_))
     refine oS [(88, .agg #[.int .i64 0, .int .i64 0]), (89, .int .i64 z116)] rfl ?_
     refine owp_hpD rfl (by kernel_rfl) (hpSt ⟨z115, 0, none⟩ [.int .i64 0, .int .i64 0] (fun _ => by kernel_rfl) rfl hM ?_)
     intro h118 hM
     refine oS [(3, .int .i64 z116)] rfl ?_
     refine oE (cwp_ret ?_)
     obtain ⟨x119, hc120, hM⟩ := hM
     obtain ⟨x121, hc122, hM⟩ := hM
     exact ret_ (.tuple #[.agg #[.int .i64 x119, .int .i64 x121], .int .i64 z116]) (Eq.trans (b := (cellH h118 ⟨z115, 0, none⟩).bind fun v123 => (cellH h118 ⟨z115, 1, none⟩).bind fun v124 => some (.tuple #[.agg #[v123, v124], .int .i64 z116])) (by kernel_rfl) ((bindE hc120 _).trans (bindE hc122 _))) ⟨_, _, _, rfl, hM⟩
 refine owp_at 69 (.bool false) (Eq.trans (b := .bool (decide ((a1.size : Int) < 4))) (by kernel_rfl) (by rw [decide_eq_false hc85])) ?_
 refine owp_at 70 (.bool false) (Eq.trans (b := .bool (decide ((a1.size : Int) < 4))) (by kernel_rfl) (by rw [decide_eq_false hc85])) ?_
 replace hM := ifF hc85 hM
 refine oS [(71, undef), (72, undef), (73, .bool false)] rfl ?_
 refine oE ?_
 refine cwp_cond (t := false) (by kernel_rfl) (fun hx_ => ?_) (fun hx_ => ?_)
 all_goals first | (cases hx_; done) | skip
 refine cwp_skip (thenE_n (cR ?_))
 refine oS [(8, .int .i64 1)] rfl ?_
 refine oE (cwp_seq (cwp_block ?_))
 obtain ⟨k_, hM⟩ := hM
 refine cwp_loop k_ (lwp_of_part (fn := Tryd.f27) (p := [1, 1, 1, 1, 1, 1, 1, 1, 0, 0, 0]) (by kernel_rfl) (lwp_at 0 (.string a1) (by kernel_rfl) (lwp_at 2 (.pointer (some ⟨b2, 0, none⟩)) (by kernel_rfl) (lwp_at 8 (.int .i64 1) (by kernel_rfl) (ref21_plain_l0_ok _ ?_ k_ a1 b2 1 _ _ hM)))))
 · intro z127 z128 b137 h129 hM
   refine blockE_h (thenE_n (cR ?_))
   refine oS [(88, .agg #[.int .i64 0, .int .i64 0]), (89, .int .i64 z128)] rfl ?_
   refine owp_hpD rfl (by kernel_rfl) (hpSt ⟨z127, 0, none⟩ [.int .i64 0, .int .i64 0] (fun _ => by kernel_rfl) rfl hM ?_)
   intro h130 hM
   refine oS [(3, .int .i64 z128)] rfl ?_
   refine oE (cwp_ret ?_)
   obtain ⟨x131, hc132, hM⟩ := hM
   obtain ⟨x133, hc134, hM⟩ := hM
   exact ret_ (.tuple #[.agg #[.int .i64 x131, .int .i64 x133], .int .i64 z128]) (Eq.trans (b := (cellH h130 ⟨z127, 0, none⟩).bind fun v135 => (cellH h130 ⟨z127, 1, none⟩).bind fun v136 => some (.tuple #[.agg #[v135, v136], .int .i64 z128])) (by kernel_rfl) ((bindE hc132 _).trans (bindE hc134 _))) ⟨_, _, _, rfl, hM⟩
theorem eq_T36 (d : Nat) {h : Heap} {x0 y0 : Int} {x1 y1 : Int} : rd Tryd.prog (Op.equalIn (d + 2) 36 (.agg #[.int .i64 x0, .int .i64 x1]) (.agg #[.int .i64 y0, .int .i64 y1])) h = some ((x0 == y0) && (x1 == y1)) := by
 refine (rd_eqStruct Tryd.underlying36 (by kernel_rfl)).trans ?_
 refine rd_eqCons (a := .int .i64 x0) (b := .int .i64 y0) rfl (by kernel_rfl) (by kernel_rfl) (by kernel_rfl) ?_
 exact rd_eqLast (a := .int .i64 x1) (b := .int .i64 y1) rfl (by kernel_rfl) (by kernel_rfl) (by kernel_rfl)
/- mullion/mullionref21.meta -/
def ref21_meta (a1 : ByteArray) (K : Int → Int → Int → Heap → Prop) (h : Heap) : Prop :=
 newB h #[.int .i64 0, .int .i64 0] 36 fun b2 h3 =>
 (1 : Int) < (a1.size : Int) ∧
 if (byteAt a1 1) = 27 then
  stN ⟨b2, 0, none⟩ [.int .i64 27, .int .i64 2] 0 h3 fun h8 =>
  ldI h8 .i64 ⟨b2, 0, none⟩ fun x9 =>
  ldI h8 .i64 ⟨b2, 1, none⟩ fun x11 =>
  K x9 x11 2 h8
 else
 (1 : Int) ≤ (a1.size : Int) ∧
 ref21_plain (a1.extract ((1 : Int).toNat) a1.size) (fun x17 x18 x19 h16 =>
  if x19 = 0 then
   gap h16 fun h23 =>
   stN ⟨b2, 0, none⟩ [.int .i64 0, .int .i64 0] 0 h23 fun h27 =>
   ldI h27 .i64 ⟨b2, 0, none⟩ fun x28 =>
   ldI h27 .i64 ⟨b2, 1, none⟩ fun x30 =>
   K x28 x30 0 h27
  else
  if (!((x17 == 0) && (x18 == 0))) = true then
   gap h16 fun h38 =>
   stN ⟨b2, 0, none⟩ [.int .i64 x17, .int .i64 (IntKind.wrap .i64 (x18 + 2))] 0 h38 fun h43 =>
   ldI h43 .i64 ⟨b2, 0, none⟩ fun x44 =>
   ldI h43 .i64 ⟨b2, 1, none⟩ fun x46 =>
   K x44 x46 (IntKind.wrap .i64 (x19 + 1)) h43
  else
  gap h16 fun h23 =>
  stN ⟨b2, 0, none⟩ [.int .i64 x17, .int .i64 x18] 0 h23 fun h52 =>
  ldI h52 .i64 ⟨b2, 0, none⟩ fun x53 =>
  ldI h52 .i64 ⟨b2, 1, none⟩ fun x55 =>
   K x53 x55 (IntKind.wrap .i64 (x19 + 1)) h52) h3
theorem ref21_meta_ok (a1 : ByteArray) (K : Int → Int → Int → Heap → Prop) (h : Heap) (hM : ref21_meta a1 K h) : CallsH Tryd.prog 26 #[.string a1] (fun v h' => ∃ (r59 : Int) (r60 : Int) (r61 : Int), v = .tuple #[.agg #[.int .i64 r59, .int .i64 r60], .int .i64 r61] ∧ K r59 r60 r61 h') h := by
 unfold ref21_meta at hM
 refine callsH_intro (n := 29) Tryd.func26 rfl rfl (by kernel_rfl) ?_
 refine cR ?_
 refine owp_hpG rfl (by kernel_rfl) (hpNew #[.int .i64 0, .int .i64 0] 36 (fun _ => by kernel_rfl) ?_)
 intro b2 h3 hN4
 replace hM := newB_of hN4 hM
 refine oS [(3, .int .i64 0)] rfl ?_
 refine oE (cwp_seq (cR ?_))
 refine oS [(6, .string a1)] rfl ?_
 have hc5 : 0 ≤ (1 : Int) := by decide
 obtain ⟨hc6, hM⟩ := hM
 refine owp_rdG (.int .u8 (byteAt a1 1)) rfl (by kernel_rfl) (rd_ixStr (P := Tryd.prog) (h := h3) (t := 9) (s := a1) (k := .i64) (i := 1) (by kernel_rfl) hc5 hc6 (by kernel_rfl)) ?_
 refine oS [(8, .bool (decide ((byteAt a1 1) = 27)))] rfl ?_
 refine oE ?_
 refine cwp_condD ((byteAt a1 1) = 27) (by kernel_rfl) (fun hc7 => ?_) (fun hc7 => ?_)
 · replace hM := ifT hc7 hM
   refine cR ?_
   refine oS [(9, .agg #[.int .i64 27, .int .i64 2])] rfl ?_
   refine owp_hpD rfl (by kernel_rfl) (hpSt ⟨b2, 0, none⟩ [.int .i64 27, .int .i64 2] (fun _ => by kernel_rfl) rfl hM ?_)
   intro h8 hM
   refine oS [(3, .int .i64 2)] rfl ?_
   refine oE (cwp_ret (thenE_r ?_))
   obtain ⟨x9, hc10, hM⟩ := hM
   obtain ⟨x11, hc12, hM⟩ := hM
   exact ret_ (.tuple #[.agg #[.int .i64 x9, .int .i64 x11], .int .i64 2]) (Eq.trans (b := (cellH h8 ⟨b2, 0, none⟩).bind fun v13 => (cellH h8 ⟨b2, 1, none⟩).bind fun v14 => some (.tuple #[.agg #[v13, v14], .int .i64 2])) (by kernel_rfl) ((bindE hc10 _).trans (bindE hc12 _))) ⟨_, _, _, rfl, hM⟩
 replace hM := ifF hc7 hM
 refine cwp_skip (thenE_n (cR ?_))
 refine oS [(11, .string a1)] rfl ?_
 obtain ⟨hc15, hM⟩ := hM
 refine owp_rdG (.string (a1.extract ((1 : Int).toNat) a1.size)) rfl (by kernel_rfl) (rd_slLo (P := Tryd.prog) (h := h3) (t := 9) (s := a1) (k := .i64) (i := (1 : Int)) (by kernel_rfl) (by decide) hc15 (by kernel_rfl)) ?_
 refine owp_hpG rfl (by kernel_rfl) (hpCallE 27 #[.string (a1.extract ((1 : Int).toNat) a1.size)] (by kernel_rfl) (ref21_plain_ok (a1.extract ((1 : Int).toNat) a1.size) _ h3 hM) ?_)
 rintro _ h16 ⟨x17, x18, x19, rfl, hM⟩
 refine oS [(10, .tuple #[.agg #[.int .i64 x17, .int .i64 x18], .int .i64 x19]), (14, .agg #[.int .i64 x17, .int .i64 x18]), (15, .int .i64 x19)] rfl ?_
 refine owp_hpG rfl (by kernel_rfl) (hpNew #[.int .i64 0, .int .i64 0] 36 (fun _ => by kernel_rfl) ?_)
 intro b20 h21 hN22
 refine owp_hpD rfl (by kernel_rfl) (hpStB b20 0 [.int .i64 x17, .int .i64 x18] (New.blk hN22) (fun _ => by kernel_rfl) rfl rfl ?_)
 intro h23 hP24
 have f25 : Blk h23 b20 #[.int .i64 x17, .int .i64 x18] 36 := hP24.blk
 refine oS [(5, .int .i64 x19)] rfl ?_
 refine oE (cwp_seq (cR ?_))
 refine oS [(16, .int .i64 x19), (17, .bool (decide (x19 = 0)))] rfl ?_
 refine oE ?_
 refine cwp_condD (x19 = 0) (by kernel_rfl) (fun hc26 => ?_) (fun hc26 => ?_)
 · replace hM := ifT hc26 hM
   refine cR ?_
   refine oS [(18, .agg #[.int .i64 0, .int .i64 0])] rfl ?_
   replace hM := hM _ (Put.ext hP24 (New.ext hN22) (New.ge hN22 (Ext.refl _)))
   refine owp_hpD rfl (by kernel_rfl) (hpSt ⟨b2, 0, none⟩ [.int .i64 0, .int .i64 0] (fun _ => by kernel_rfl) rfl hM ?_)
   intro h27 hM
   refine oS [(3, .int .i64 0)] rfl ?_
   refine oE (cwp_ret (thenE_r ?_))
   obtain ⟨x28, hc29, hM⟩ := hM
   obtain ⟨x30, hc31, hM⟩ := hM
   exact ret_ (.tuple #[.agg #[.int .i64 x28, .int .i64 x30], .int .i64 0]) (Eq.trans (b := (cellH h27 ⟨b2, 0, none⟩).bind fun v32 => (cellH h27 ⟨b2, 1, none⟩).bind fun v33 => some (.tuple #[.agg #[v32, v33], .int .i64 0])) (by kernel_rfl) ((bindE hc29 _).trans (bindE hc31 _))) ⟨_, _, _, rfl, hM⟩
 replace hM := ifF hc26 hM
 refine cwp_skip (thenE_n (cwp_seq (cR ?_)))
 refine owp_rdG (.agg #[.int .i64 x17, .int .i64 x18]) rfl (by kernel_rfl) (Eq.trans (b := (cellH h23 ⟨b20, 0, none⟩).bind fun v34 => (cellH h23 ⟨b20, 1, none⟩).bind fun v35 => some (.value (.agg #[v34, v35]))) (by kernel_rfl) ((bindE (Blk.cell f25 0 (by kernel_rfl)) _).trans (bindE (Blk.cell f25 1 (by kernel_rfl)) _))) ?_
 refine oS [(20, .agg #[.int .i64 0, .int .i64 0])] rfl ?_
 refine owp_rdG (.bool (!((x17 == 0) && (x18 == 0)))) rfl (by kernel_rfl) ((by kernel_rfl : _ = rd Tryd.prog (toVal ((Op.equal 36 (.agg #[.int .i64 x17, .int .i64 x18]) (.agg #[.int .i64 0, .int .i64 0])).bind fun v_ => Sem.pure (.bool (!v_)))) h23).trans (rd_neB (eq_T36 9998))) ?_
 refine oE ?_
 refine cwp_condB (!((x17 == 0) && (x18 == 0))) (by kernel_rfl) (fun hc36 => ?_) (fun hc36 => ?_)
 · replace hM := ifT hc36 hM
   refine cwp_region ?_
   refine oS [(22, .pointer (some ⟨b20, 1, none⟩))] rfl ?_
   refine owp_rdG (.int .i64 x18) rfl (by kernel_rfl) (Eq.trans (b := (cellH h23 ⟨b20, 1, none⟩).bind fun v37 => some (.value v37)) (by kernel_rfl) (bindE (Blk.cell f25 1 (by kernel_rfl)) _)) ?_
   refine oS [(24, .int .i64 (IntKind.wrap .i64 (x18 + 2))), (25, .pointer (some ⟨b20, 1, none⟩))] rfl ?_
   refine owp_hpD rfl (by kernel_rfl) (hpStB b20 1 [.int .i64 (IntKind.wrap .i64 (x18 + 2))] f25 (fun _ => by kernel_rfl) rfl rfl ?_)
   intro h38 hP39
   have f40 : Blk h38 b20 #[.int .i64 x17, .int .i64 (IntKind.wrap .i64 (x18 + 2))] 36 := hP39.blk
   refine oE (cR ?_)
   refine owp_rdG (.agg #[.int .i64 x17, .int .i64 (IntKind.wrap .i64 (x18 + 2))]) rfl (by kernel_rfl) (Eq.trans (b := (cellH h38 ⟨b20, 0, none⟩).bind fun v41 => (cellH h38 ⟨b20, 1, none⟩).bind fun v42 => some (.value (.agg #[v41, v42]))) (by kernel_rfl) ((bindE (Blk.cell f40 0 (by kernel_rfl)) _).trans (bindE (Blk.cell f40 1 (by kernel_rfl)) _))) ?_
   refine oS [(27, .int .i64 x19), (28, .int .i64 (IntKind.wrap .i64 (x19 + 1)))] rfl ?_
   replace hM := hM _ (Put.ext hP39 (Put.ext hP24 (New.ext hN22) (New.ge hN22 (Ext.refl _))) (New.ge hN22 (Ext.refl _)))
   refine owp_hpD rfl (by kernel_rfl) (hpSt ⟨b2, 0, none⟩ [.int .i64 x17, .int .i64 (IntKind.wrap .i64 (x18 + 2))] (fun _ => by kernel_rfl) rfl hM ?_)
   intro h43 hM
   refine oS [(3, .int .i64 (IntKind.wrap .i64 (x19 + 1)))] rfl ?_
   refine oE (cwp_ret ?_)
   obtain ⟨x44, hc45, hM⟩ := hM
   obtain ⟨x46, hc47, hM⟩ := hM
   exact ret_ (.tuple #[.agg #[.int .i64 x44, .int .i64 x46], .int .i64 (IntKind.wrap .i64 (x19 + 1))]) (Eq.trans (b := (cellH h43 ⟨b2, 0, none⟩).bind fun v48 => (cellH h43 ⟨b2, 1, none⟩).bind fun v49 => some (.tuple #[.agg #[v48, v49], .int .i64 (IntKind.wrap .i64 (x19 + 1))])) (by kernel_rfl) ((bindE hc45 _).trans (bindE hc47 _))) ⟨_, _, _, rfl, hM⟩
 replace hM := ifF hc36 hM
 refine cwp_skip (thenE_n (cR ?_))
 refine owp_rdG (.agg #[.int .i64 x17, .int .i64 x18]) rfl (by kernel_rfl) (Eq.trans (b := (cellH h23 ⟨b20, 0, none⟩).bind fun v50 => (cellH h23 ⟨b20, 1, none⟩).bind fun v51 => some (.value (.agg #[v50, v51]))) (by kernel_rfl) ((bindE (Blk.cell f25 0 (by kernel_rfl)) _).trans (bindE (Blk.cell f25 1 (by kernel_rfl)) _))) ?_
 refine oS [(27, .int .i64 x19), (28, .int .i64 (IntKind.wrap .i64 (x19 + 1)))] rfl ?_
 replace hM := hM _ (Put.ext hP24 (New.ext hN22) (New.ge hN22 (Ext.refl _)))
 refine owp_hpD rfl (by kernel_rfl) (hpSt ⟨b2, 0, none⟩ [.int .i64 x17, .int .i64 x18] (fun _ => by kernel_rfl) rfl hM ?_)
 intro h52 hM
 refine oS [(3, .int .i64 (IntKind.wrap .i64 (x19 + 1)))] rfl ?_
 refine oE (cwp_ret ?_)
 obtain ⟨x53, hc54, hM⟩ := hM
 obtain ⟨x55, hc56, hM⟩ := hM
 exact ret_ (.tuple #[.agg #[.int .i64 x53, .int .i64 x55], .int .i64 (IntKind.wrap .i64 (x19 + 1))]) (Eq.trans (b := (cellH h52 ⟨b2, 0, none⟩).bind fun v57 => (cellH h52 ⟨b2, 1, none⟩).bind fun v58 => some (.tuple #[.agg #[v57, v58], .int .i64 (IntKind.wrap .i64 (x19 + 1))])) (by kernel_rfl) ((bindE hc54 _).trans (bindE hc56 _))) ⟨_, _, _, rfl, hM⟩
/- mullion/mullionref21.Flush -/
def ref21_Flush_j1 (K0 : Nat → Option Addr → Nat → Nat → Heap → Prop) (Kn : Nat → Option Addr → Nat → Nat → ByteArray → Heap → Prop) (y20 : Nat) (y21 : Option Addr) (y21n : Nat) (y21c : Nat) (y22 : ByteArray) (y23 : Nat) (y24 : Int) (h : Heap) : Prop :=
 if y24 = 0 then
  K0 y20 y21 y21n y21c h
 else
 ldI h .i64 ⟨y23, 0, none⟩ fun x28 =>
 ldI h .i64 ⟨y23, 1, none⟩ fun x30 =>
 if (!((x28 == 0) && (x30 == 0))) = true then
  ldI h .i64 ⟨y23, 0, none⟩ fun x35 =>
  ldI h .i64 ⟨y23, 1, none⟩ fun x37 =>
  gap h fun h42 =>
  appH h42 36 16 [.int .i64 0, .int .i64 0] y21 y21n y21c [.int .i64 x35, .int .i64 x37] 1 fun s45 s45c h44 =>
  0 ≤ y24 ∧
  y24 ≤ (y22.size : Int) ∧
  Kn y20 s45 (y21n + 1) s45c (y22.extract y24.toNat y22.size) h44
 else
 0 ≤ y24 ∧
 y24 ≤ (y22.size : Int) ∧
 Kn y20 y21 y21n y21c (y22.extract y24.toNat y22.size) h
theorem ref21_Flush_j1_ok {Q : Exit → Env → Heap → Prop} (K0 : Nat → Option Addr → Nat → Nat → Heap → Prop) (hK0 : ∀ (z55 : Nat) (z56 : Option Addr) (z56n : Nat) (z56c : Nat) (b : Env) (h : Heap), K0 z55 z56 z56n z56c h → Q (.exit 0) (upd (upd b 2 (.pointer (some ⟨z55, 0, none⟩))) 4 (.slice z56 z56n z56c)) h) (Kn : Nat → Option Addr → Nat → Nat → ByteArray → Heap → Prop) (hKn : ∀ (z60 : Nat) (z61 : Option Addr) (z61n : Nat) (z61c : Nat) (z62 : ByteArray) (b : Env) (h : Heap), Kn z60 z61 z61n z61c z62 h → Q .normal (upd (upd (upd b 2 (.pointer (some ⟨z60, 0, none⟩))) 4 (.slice z61 z61n z61c)) 5 (.string z62)) h) (y20 : Nat) (y21 : Option Addr) (y21n : Nat) (y21c : Nat) (y22 : ByteArray) (y23 : Nat) (y24 : Int) (b : Env) (h : Heap) (hM : ref21_Flush_j1 K0 Kn y20 y21 y21n y21c y22 y23 y24 h) : cwp Tryd.prog (partC Tryd.f11 [1, 1, 1, 0, 0, 0, 1, 0, 1, 1, 1]) 45 Q (upd (upd (upd (upd (upd b 2 (.pointer (some ⟨y20, 0, none⟩))) 4 (.slice y21 y21n y21c)) 5 (.string y22)) 6 (.pointer (some ⟨y23, 0, none⟩))) 7 (.int .i64 y24)) h := by
  unfold ref21_Flush_j1 at hM
  refine cwp_part rfl ?_
  refine cwp_seq (cR ?_)
  refine oS [(31, .int .i64 y24), (32, .bool (decide (y24 = 0)))] rfl ?_
  refine oE ?_
  refine cwp_condD (y24 = 0) (by kernel_rfl) (fun hc25 => ?_) (fun hc25 => ?_)
  · replace hM := ifT hc25 hM
    refine cwp_exit (thenE_x ?_)
    exact q_at (Q := Q (.exit 0)) 2 (.pointer (some ⟨y20, 0, none⟩)) (by kernel_rfl) (q_at (Q := Q (.exit 0)) 4 (.slice y21 y21n y21c) (by kernel_rfl) (hK0 y20 y21 y21n y21c _ _ hM))
  replace hM := ifF hc25 hM
  refine cwp_skip (thenE_n (cwp_seq (cR ?_)))
  obtain ⟨x28, hc29, hM⟩ := hM
  obtain ⟨x30, hc31, hM⟩ := hM
  refine owp_rdG (.agg #[.int .i64 x28, .int .i64 x30]) rfl (by kernel_rfl) (Eq.trans (b := (cellH h ⟨y23, 0, none⟩).bind fun v32 => (cellH h ⟨y23, 1, none⟩).bind fun v33 => some (.value (.agg #[v32, v33]))) (by kernel_rfl) ((bindE hc29 _).trans (bindE hc31 _))) ?_
  refine oS [(34, .agg #[.int .i64 0, .int .i64 0])] rfl ?_
  refine owp_rdG (.bool (!((x28 == 0) && (x30 == 0)))) rfl (by kernel_rfl) ((by kernel_rfl : _ = rd Tryd.prog (toVal ((Op.equal 36 (.agg #[.int .i64 x28, .int .i64 x30]) (.agg #[.int .i64 0, .int .i64 0])).bind fun v_ => Sem.pure (.bool (!v_)))) h).trans (rd_neB (eq_T36 9998))) ?_
  refine oE ?_
  refine cwp_condB (!((x28 == 0) && (x30 == 0))) (by kernel_rfl) (fun hc34 => ?_) (fun hc34 => ?_)
  · replace hM := ifT hc34 hM
    refine cwp_region ?_
    refine oS [(36, .slice y21 y21n y21c)] rfl ?_
    obtain ⟨x35, hc36, hM⟩ := hM
    obtain ⟨x37, hc38, hM⟩ := hM
    refine owp_rdG (.agg #[.int .i64 x35, .int .i64 x37]) rfl (by kernel_rfl) (Eq.trans (b := (cellH h ⟨y23, 0, none⟩).bind fun v39 => (cellH h ⟨y23, 1, none⟩).bind fun v40 => some (.value (.agg #[v39, v40]))) (by kernel_rfl) ((bindE hc36 _).trans (bindE hc38 _))) ?_
    refine owp_hpG rfl (by kernel_rfl) (hpNewS #[.int .i64 x35, .int .i64 x37] 36 1 (fun _ => by kernel_rfl) ?_)
    intro b41 h42 hN43
    replace hM := hM _ (New.ext hN43)
    refine owp_hpG rfl (by kernel_rfl) (hpApp (t := 27) (ty := 27) (et := 36) (zv := .agg #[.int .i64 0, .int .i64 0]) (sz := 2) (by_ := 16) (base := y21) (n' := y21n) (c := y21c) (xb := (some ⟨b41, 0, none⟩)) (m := 1) (xc := 1) (new := [.int .i64 x35, .int .i64 x37]) (fun _ => by kernel_rfl) (by kernel_rfl) (by kernel_rfl) [.int .i64 0, .int .i64 0] rfl rfl (by decide) rfl rfl ⟨Blk.cell (New.blk hN43) 0 (by kernel_rfl), Blk.cell (New.blk hN43) 1 (by kernel_rfl), trivial⟩ hM ?_)
    intro s45 s45c h44 hM
    refine oS [(4, .slice s45 (y21n + 1) s45c)] rfl ?_
    refine oE (cwp_region ?_)
    refine oS [(40, .string y22), (41, .int .i64 y24)] rfl ?_
    obtain ⟨hc46, hM⟩ := hM
    obtain ⟨hc47, hM⟩ := hM
    refine owp_rdG (.string (y22.extract y24.toNat y22.size)) rfl (by kernel_rfl) (rd_slLo (P := Tryd.prog) (h := h44) (t := 9) (s := y22) (k := .i64) (i := y24) (by kernel_rfl) hc46 hc47 (by kernel_rfl)) ?_
    refine oS [(5, .string (y22.extract y24.toNat y22.size))] rfl ?_
    refine owp_nil ?_
    exact q_at (Q := Q .normal) 2 (.pointer (some ⟨y20, 0, none⟩)) (by kernel_rfl) (q_at (Q := Q .normal) 4 (.slice s45 (y21n + 1) s45c) (by kernel_rfl) (q_at (Q := Q .normal) 5 (.string (y22.extract y24.toNat y22.size)) (by kernel_rfl) (hKn y20 s45 (y21n + 1) s45c (y22.extract y24.toNat y22.size) _ _ hM)))
  replace hM := ifF hc34 hM
  refine cwp_skip (thenE_n (cwp_region ?_))
  refine oS [(40, .string y22), (41, .int .i64 y24)] rfl ?_
  obtain ⟨hc51, hM⟩ := hM
  obtain ⟨hc52, hM⟩ := hM
  refine owp_rdG (.string (y22.extract y24.toNat y22.size)) rfl (by kernel_rfl) (rd_slLo (P := Tryd.prog) (h := h) (t := 9) (s := y22) (k := .i64) (i := y24) (by kernel_rfl) hc51 hc52 (by kernel_rfl)) ?_
  refine oS [(5, .string (y22.extract y24.toNat y22.size))] rfl ?_
  refine owp_nil ?_
  exact q_at (Q := Q .normal) 2 (.pointer (some ⟨y20, 0, none⟩)) (by kernel_rfl) (q_at (Q := Q .normal) 4 (.slice y21 y21n y21c) (by kernel_rfl) (q_at (Q := Q .normal) 5 (.string (y22.extract y24.toNat y22.size)) (by kernel_rfl) (hKn y20 y21 y21n y21c (y22.extract y24.toNat y22.size) _ _ hM)))
def ref21_Flush_l0 (K0 : Nat → Option Addr → Nat → Nat → Heap → Prop) : Nat → Nat → Option Addr → Nat → Nat → ByteArray → Heap → Prop
  | 0, _, _, _, _, _, _ => False
  | k + 1, y10, y11, y11n, y11c, y12, h =>
  if (!(y12.toList == (⟨#[]⟩ : ByteArray).toList)) = true then
   newB h #[.int .i64 0, .int .i64 0] 36 fun b14 h15 =>
   stN ⟨b14, 0, none⟩ [.int .i64 0, .int .i64 0] 0 h15 fun h17 =>
   if (y12.toList == (⟨#[27]⟩ : ByteArray).toList) = true then
    stN ⟨b14, 0, none⟩ [.int .i64 27, .int .i64 0] 0 h17 fun h19 =>
    ref21_Flush_j1
     (fun z63 z64 z64n z64c h65 =>
         K0 z63 z64 z64n z64c h65)
     (fun z69 z70 z70n z70c z71 h72 =>
         ref21_Flush_l0 K0 k z69 z70 z70n z70c z71 h72) y10 y11 y11n y11c y12 b14 1 h19
   else
   (0 : Int) < (y12.size : Int) ∧
   if (byteAt y12 0) = 27 then
    ref21_meta y12 (fun x79 x80 x81 h78 =>
     stN ⟨b14, 0, none⟩ [.int .i64 x79, .int .i64 x80] 0 h78 fun h82 =>
     ref21_Flush_j1
      (fun z83 z84 z84n z84c h85 =>
          K0 z83 z84 z84n z84c h85)
      (fun z87 z88 z88n z88c z89 h90 =>
           ref21_Flush_l0 K0 k z87 z88 z88n z88c z89 h90) y10 y11 y11n y11c y12 b14 x81 h82) h17
   else
   ref21_plain y12 (fun x94 x95 x96 h93 =>
    stN ⟨b14, 0, none⟩ [.int .i64 x94, .int .i64 x95] 0 h93 fun h97 =>
    ref21_Flush_j1
     (fun z98 z99 z99n z99c h100 =>
         K0 z98 z99 z99n z99c h100)
     (fun z102 z103 z103n z103c z104 h105 =>
          ref21_Flush_l0 K0 k z102 z103 z103n z103c z104 h105) y10 y11 y11n y11c y12 b14 x96 h97) h17
  else
  K0 y10 y11 y11n y11c h
theorem ref21_Flush_l0_ok {Q : Exit → Env → Heap → Prop} (K0 : Nat → Option Addr → Nat → Nat → Heap → Prop) (hK0 : ∀ (z110 : Nat) (z111 : Option Addr) (z111n : Nat) (z111c : Nat) (b : Env) (h : Heap), K0 z110 z111 z111n z111c h → Q (.exit 0) (upd (upd b 2 (.pointer (some ⟨z110, 0, none⟩))) 4 (.slice z111 z111n z111c)) h) : ∀ (k : Nat) (y10 : Nat) (y11 : Option Addr) (y11n : Nat) (y11c : Nat) (y12 : ByteArray) (b : Env) (h : Heap) (hM : ref21_Flush_l0 K0 k y10 y11 y11n y11c y12 h), lwp Tryd.prog (partC Tryd.f11 [1, 1, 1, 0, 0, 0]) 45 Q k (upd (upd (upd b 2 (.pointer (some ⟨y10, 0, none⟩))) 4 (.slice y11 y11n y11c)) 5 (.string y12)) h := by
  intro k
  induction k with
  | zero => intro y10 y11 y11n y11c y12 b h hM; exact (show False from hM).elim
  | succ k ih =>
    intro y10 y11 y11n y11c y12 b h hM
    unfold ref21_Flush_l0 at hM
    refine lwp_succ (cwp_part rfl ?_)
    refine cwp_seq (cR ?_)
    refine oS [(10, .string y12), (11, .bool (!(y12.toList == (⟨#[]⟩ : ByteArray).toList)))] rfl ?_
    refine oE ?_
    refine cwp_condB (!(y12.toList == (⟨#[]⟩ : ByteArray).toList)) (by kernel_rfl) (fun hc13 => ?_) (fun hc13 => ?_)
    · replace hM := ifT hc13 hM
      refine cwp_skip (thenE_n (cwp_block (cR ?_)))
      refine oS [(12, .agg #[.int .i64 0, .int .i64 0])] rfl ?_
      refine owp_hpG rfl (by kernel_rfl) (hpNew #[.int .i64 0, .int .i64 0] 36 (fun _ => by kernel_rfl) ?_)
      intro b14 h15 hN16
      replace hM := newB_of hN16 hM
      refine owp_hpD rfl (by kernel_rfl) (hpSt ⟨b14, 0, none⟩ [.int .i64 0, .int .i64 0] (fun _ => by kernel_rfl) rfl hM ?_)
      intro h17 hM
      refine oE (cR ?_)
      refine oS [(7, .int .i64 0)] rfl ?_
      refine oE (cwp_seq (cwp_block (cR ?_)))
      refine oS [(19, .string y12), (20, .bool (y12.toList == (⟨#[27]⟩ : ByteArray).toList)), (18, .bool (y12.toList == (⟨#[27]⟩ : ByteArray).toList))] rfl ?_
      refine oE ?_
      refine cwp_condB (y12.toList == (⟨#[27]⟩ : ByteArray).toList) (by kernel_rfl) (fun hc18 => ?_) (fun hc18 => ?_)
      · replace hM := ifT hc18 hM
        refine cwp_region ?_
        refine oS [(21, .agg #[.int .i64 27, .int .i64 0])] rfl ?_
        refine owp_hpD rfl (by kernel_rfl) (hpSt ⟨b14, 0, none⟩ [.int .i64 27, .int .i64 0] (fun _ => by kernel_rfl) rfl hM ?_)
        intro h19 hM
        refine oS [(7, .int .i64 1)] rfl ?_
        refine owp_nil (blockE_n (thenE_n ?_))
        refine cwp_of_part (fn := Tryd.f11) (p := [1, 1, 1, 0, 0, 0, 1, 0, 1, 1, 1]) (by kernel_rfl) (cwp_at 2 (.pointer (some ⟨y10, 0, none⟩)) (by kernel_rfl) (cwp_at 4 (.slice y11 y11n y11c) (by kernel_rfl) (cwp_at 5 (.string y12) (by kernel_rfl) (cwp_at 6 (.pointer (some ⟨b14, 0, none⟩)) (by kernel_rfl) (cwp_at 7 (.int .i64 1) (by kernel_rfl) (ref21_Flush_j1_ok _ ?_ _ ?_ y10 y11 y11n y11c y12 b14 1 _ _ hM))))))
        · intro z63 z64 z64n z64c b68 h65 hM
          refine blockE_x rfl ?_
          exact q_at (Q := Q (.exit 0)) 2 (.pointer (some ⟨z63, 0, none⟩)) (by kernel_rfl) (q_at (Q := Q (.exit 0)) 4 (.slice z64 z64n z64c) (by kernel_rfl) (hK0 z63 z64 z64n z64c _ _ hM))
        · intro z69 z70 z70n z70c z71 b73 h72 hM
          refine blockE_n ?_
          exact lwp_at 2 (.pointer (some ⟨z69, 0, none⟩)) (by kernel_rfl) (lwp_at 4 (.slice z70 z70n z70c) (by kernel_rfl) (lwp_at 5 (.string z71) (by kernel_rfl) (ih z69 z70 z70n z70c z71 _ _ hM)))
      replace hM := ifF hc18 hM
      refine cR ?_
      refine oS [(23, .string y12)] rfl ?_
      have hc75 : 0 ≤ (0 : Int) := by decide
      obtain ⟨hc76, hM⟩ := hM
      refine owp_rdG (.int .u8 (byteAt y12 0)) rfl (by kernel_rfl) (rd_ixStr (P := Tryd.prog) (h := h17) (t := 9) (s := y12) (k := .i64) (i := 0) (by kernel_rfl) hc75 hc76 (by kernel_rfl)) ?_
      refine oS [(25, .bool (decide ((byteAt y12 0) = 27))), (22, .bool (decide ((byteAt y12 0) = 27)))] rfl ?_
      refine oE ?_
      refine cwp_condD ((byteAt y12 0) = 27) (by kernel_rfl) (fun hc77 => ?_) (fun hc77 => ?_)
      · replace hM := ifT hc77 hM
        refine cwp_region ?_
        refine oS [(27, .string y12)] rfl ?_
        refine owp_hpG rfl (by kernel_rfl) (hpCallE 26 #[.string y12] (by kernel_rfl) (ref21_meta_ok y12 _ h17 hM) ?_)
        rintro _ h78 ⟨x79, x80, x81, rfl, hM⟩
        refine oS [(26, .tuple #[.agg #[.int .i64 x79, .int .i64 x80], .int .i64 x81]), (29, .agg #[.int .i64 x79, .int .i64 x80]), (30, .int .i64 x81)] rfl ?_
        refine owp_hpD rfl (by kernel_rfl) (hpSt ⟨b14, 0, none⟩ [.int .i64 x79, .int .i64 x80] (fun _ => by kernel_rfl) rfl hM ?_)
        intro h82 hM
        refine oS [(7, .int .i64 x81)] rfl ?_
        refine owp_nil (blockE_n (thenE_n ?_))
        refine cwp_of_part (fn := Tryd.f11) (p := [1, 1, 1, 0, 0, 0, 1, 0, 1, 1, 1]) (by kernel_rfl) (cwp_at 2 (.pointer (some ⟨y10, 0, none⟩)) (by kernel_rfl) (cwp_at 4 (.slice y11 y11n y11c) (by kernel_rfl) (cwp_at 5 (.string y12) (by kernel_rfl) (cwp_at 6 (.pointer (some ⟨b14, 0, none⟩)) (by kernel_rfl) (cwp_at 7 (.int .i64 x81) (by kernel_rfl) (ref21_Flush_j1_ok _ ?_ _ ?_ y10 y11 y11n y11c y12 b14 x81 _ _ hM))))))
        · intro z83 z84 z84n z84c b86 h85 hM
          refine blockE_x rfl ?_
          exact q_at (Q := Q (.exit 0)) 2 (.pointer (some ⟨z83, 0, none⟩)) (by kernel_rfl) (q_at (Q := Q (.exit 0)) 4 (.slice z84 z84n z84c) (by kernel_rfl) (hK0 z83 z84 z84n z84c _ _ hM))
        · intro z87 z88 z88n z88c z89 b91 h90 hM
          refine blockE_n ?_
          exact lwp_at 2 (.pointer (some ⟨z87, 0, none⟩)) (by kernel_rfl) (lwp_at 4 (.slice z88 z88n z88c) (by kernel_rfl) (lwp_at 5 (.string z89) (by kernel_rfl) (ih z87 z88 z88n z88c z89 _ _ hM)))
      replace hM := ifF hc77 hM
      refine cwp_region ?_
      refine oS [(14, .string y12)] rfl ?_
      refine owp_hpG rfl (by kernel_rfl) (hpCallE 27 #[.string y12] (by kernel_rfl) (ref21_plain_ok y12 _ h17 hM) ?_)
      rintro _ h93 ⟨x94, x95, x96, rfl, hM⟩
      refine oS [(13, .tuple #[.agg #[.int .i64 x94, .int .i64 x95], .int .i64 x96]), (16, .agg #[.int .i64 x94, .int .i64 x95]), (17, .int .i64 x96)] rfl ?_
      refine owp_hpD rfl (by kernel_rfl) (hpSt ⟨b14, 0, none⟩ [.int .i64 x94, .int .i64 x95] (fun _ => by kernel_rfl) rfl hM ?_)
      intro h97 hM
      refine oS [(7, .int .i64 x96)] rfl ?_
      refine owp_nil (blockE_n (thenE_n ?_))
      refine cwp_of_part (fn := Tryd.f11) (p := [1, 1, 1, 0, 0, 0, 1, 0, 1, 1, 1]) (by kernel_rfl) (cwp_at 2 (.pointer (some ⟨y10, 0, none⟩)) (by kernel_rfl) (cwp_at 4 (.slice y11 y11n y11c) (by kernel_rfl) (cwp_at 5 (.string y12) (by kernel_rfl) (cwp_at 6 (.pointer (some ⟨b14, 0, none⟩)) (by kernel_rfl) (cwp_at 7 (.int .i64 x96) (by kernel_rfl) (ref21_Flush_j1_ok _ ?_ _ ?_ y10 y11 y11n y11c y12 b14 x96 _ _ hM))))))
      · intro z98 z99 z99n z99c b101 h100 hM
        refine blockE_x rfl ?_
        exact q_at (Q := Q (.exit 0)) 2 (.pointer (some ⟨z98, 0, none⟩)) (by kernel_rfl) (q_at (Q := Q (.exit 0)) 4 (.slice z99 z99n z99c) (by kernel_rfl) (hK0 z98 z99 z99n z99c _ _ hM))
      · intro z102 z103 z103n z103c z104 b106 h105 hM
        refine blockE_n ?_
        exact lwp_at 2 (.pointer (some ⟨z102, 0, none⟩)) (by kernel_rfl) (lwp_at 4 (.slice z103 z103n z103c) (by kernel_rfl) (lwp_at 5 (.string z104) (by kernel_rfl) (ih z102 z103 z103n z103c z104 _ _ hM)))
    replace hM := ifF hc13 hM
    refine cwp_exit (thenE_x ?_)
    exact q_at (Q := Q (.exit 0)) 2 (.pointer (some ⟨y10, 0, none⟩)) (by kernel_rfl) (q_at (Q := Q (.exit 0)) 4 (.slice y11 y11n y11c) (by kernel_rfl) (hK0 y10 y11 y11n y11c _ _ hM))
def ref21_Flush (a1 : ByteArray) (K : ByteArray → Option Addr → Nat → Nat → Heap → Prop) (h : Heap) : Prop :=
 gap h fun h3 =>
 newB h3 #[.string (⟨#[]⟩ : ByteArray)] 26 fun b5 h6 =>
 ∃ k120, ref21_Flush_l0
  (fun z112 z113 z113n z113c h114 =>
    stN ⟨z112, 0, none⟩ [.string (⟨#[]⟩ : ByteArray)] 0 h114 fun h115 =>
    ldS h115 ⟨z112, 0, none⟩ fun x116 =>
      K x116 z113 z113n z113c h115) k120 b5 none 0 0 a1 h6
theorem ref21_Flush_ok (a1 : ByteArray) (K : ByteArray → Option Addr → Nat → Nat → Heap → Prop) (h : Heap) (hM : ref21_Flush a1 K h) : CallsH Tryd.prog 11 #[.agg #[.string a1]] (fun v h' => ∃ (r121 : ByteArray) (r122 : Option Addr) (r122n : Nat) (r122c : Nat), v = .tuple #[.agg #[.string r121], .slice r122 r122n r122c] ∧ K r121 r122 r122n r122c h') h := by
 unfold ref21_Flush at hM
 refine callsH_intro (n := 45) Tryd.func11 rfl rfl (by kernel_rfl) ?_
 refine cR ?_
 refine owp_hpG rfl (by kernel_rfl) (hpNew #[.string a1] 26 (fun _ => by kernel_rfl) ?_)
 intro b2 h3 hN4
 replace hM := hM _ (New.ext hN4)
 refine owp_hpG rfl (by kernel_rfl) (hpNew #[.string (⟨#[]⟩ : ByteArray)] 26 (fun _ => by kernel_rfl) ?_)
 intro b5 h6 hN7
 replace hM := newB_of hN7 hM
 have f8 := Blk.ext (New.blk hN4) (New.ext hN7)
 refine oS [(3, .slice none 0 0)] rfl ?_
 refine oE (cR ?_)
 refine oS [(4, .slice none 0 0)] rfl ?_
 refine oE (cR ?_)
 refine oS [(8, .pointer (some ⟨b2, 0, none⟩))] rfl ?_
 refine owp_rdG (.string a1) rfl (by kernel_rfl) (Eq.trans (b := (cellH h6 ⟨b2, 0, none⟩).bind fun v9 => some (.value v9)) (by kernel_rfl) (bindE (Blk.cell f8 0 (by kernel_rfl)) _)) ?_
 refine oS [(5, .string a1)] rfl ?_
 refine oE (cwp_seq (cwp_block ?_))
 obtain ⟨k_, hM⟩ := hM
 refine cwp_loop k_ (lwp_of_part (fn := Tryd.f11) (p := [1, 1, 1, 0, 0, 0]) (by kernel_rfl) (lwp_at 2 (.pointer (some ⟨b5, 0, none⟩)) (by kernel_rfl) (lwp_at 4 (.slice none 0 0) (by kernel_rfl) (lwp_at 5 (.string a1) (by kernel_rfl) (ref21_Flush_l0_ok _ ?_ k_ b5 none 0 0 a1 _ _ hM)))))
 · intro z112 z113 z113n z113c b119 h114 hM
   refine blockE_h (thenE_n (cR ?_))
   refine oS [(43, .agg #[.string (⟨#[]⟩ : ByteArray)]), (44, .slice z113 z113n z113c)] rfl ?_
   refine owp_hpD rfl (by kernel_rfl) (hpSt ⟨z112, 0, none⟩ [.string (⟨#[]⟩ : ByteArray)] (fun _ => by kernel_rfl) rfl hM ?_)
   intro h115 hM
   refine oS [(3, .slice z113 z113n z113c)] rfl ?_
   refine oE (cwp_ret ?_)
   obtain ⟨x116, hc117, hM⟩ := hM
   exact ret_ (.tuple #[.agg #[.string x116], .slice z113 z113n z113c]) (Eq.trans (b := (cellH h115 ⟨z112, 0, none⟩).bind fun v118 => some (.tuple #[.agg #[v118], .slice z113 z113n z113c])) (by kernel_rfl) (bindE hc117 _)) ⟨_, _, _, _, rfl, hM⟩
/- internal/strconv.small -/
def internal_strconv_small (a1 : Int) : Option (ByteArray) :=
 if a1 < 10 then
  if 0 ≤ (IntKind.wrap .i64 (a1 + 1)) then
   if (IntKind.wrap .i64 (a1 + 1)) ≤ ((⟨#[48, 49, 50, 51, 52, 53, 54, 55, 56, 57, 97, 98, 99, 100, 101, 102, 103, 104, 105, 106, 107, 108, 109, 110, 111, 112, 113, 114, 115, 116, 117, 118, 119, 120, 121, 122]⟩ : ByteArray).size : Int) then
    if 0 ≤ a1 then
     if a1 ≤ (IntKind.wrap .i64 (a1 + 1)) then
      some ((⟨#[48, 49, 50, 51, 52, 53, 54, 55, 56, 57, 97, 98, 99, 100, 101, 102, 103, 104, 105, 106, 107, 108, 109, 110, 111, 112, 113, 114, 115, 116, 117, 118, 119, 120, 121, 122]⟩ : ByteArray).extract a1.toNat ((IntKind.wrap .i64 (a1 + 1)).toNat))
     else none
    else none
   else none
  else none
 else
 if 0 ≤ (IntKind.wrap .i64 ((IntKind.wrap .i64 (a1 * 2)) + 2)) then
  if (IntKind.wrap .i64 ((IntKind.wrap .i64 (a1 * 2)) + 2)) ≤ ((⟨#[48, 48, 48, 49, 48, 50, 48, 51, 48, 52, 48, 53, 48, 54, 48, 55, 48, 56, 48, 57, 49, 48, 49, 49, 49, 50, 49, 51, 49, 52, 49, 53, 49, 54, 49, 55, 49, 56, 49, 57, 50, 48, 50, 49, 50, 50, 50, 51, 50, 52, 50, 53, 50, 54, 50, 55, 50, 56, 50, 57, 51, 48, 51, 49, 51, 50, 51, 51, 51, 52, 51, 53, 51, 54, 51, 55, 51, 56, 51, 57, 52, 48, 52, 49, 52, 50, 52, 51, 52, 52, 52, 53, 52, 54, 52, 55, 52, 56, 52, 57, 53, 48, 53, 49, 53, 50, 53, 51, 53, 52, 53, 53, 53, 54, 53, 55, 53, 56, 53, 57, 54, 48, 54, 49, 54, 50, 54, 51, 54, 52, 54, 53, 54, 54, 54, 55, 54, 56, 54, 57, 55, 48, 55, 49, 55, 50, 55, 51, 55, 52, 55, 53, 55, 54, 55, 55, 55, 56, 55, 57, 56, 48, 56, 49, 56, 50, 56, 51, 56, 52, 56, 53, 56, 54, 56, 55, 56, 56, 56, 57, 57, 48, 57, 49, 57, 50, 57, 51, 57, 52, 57, 53, 57, 54, 57, 55, 57, 56, 57, 57]⟩ : ByteArray).size : Int) then
   if 0 ≤ (IntKind.wrap .i64 (a1 * 2)) then
    if (IntKind.wrap .i64 (a1 * 2)) ≤ (IntKind.wrap .i64 ((IntKind.wrap .i64 (a1 * 2)) + 2)) then
     some ((⟨#[48, 48, 48, 49, 48, 50, 48, 51, 48, 52, 48, 53, 48, 54, 48, 55, 48, 56, 48, 57, 49, 48, 49, 49, 49, 50, 49, 51, 49, 52, 49, 53, 49, 54, 49, 55, 49, 56, 49, 57, 50, 48, 50, 49, 50, 50, 50, 51, 50, 52, 50, 53, 50, 54, 50, 55, 50, 56, 50, 57, 51, 48, 51, 49, 51, 50, 51, 51, 51, 52, 51, 53, 51, 54, 51, 55, 51, 56, 51, 57, 52, 48, 52, 49, 52, 50, 52, 51, 52, 52, 52, 53, 52, 54, 52, 55, 52, 56, 52, 57, 53, 48, 53, 49, 53, 50, 53, 51, 53, 52, 53, 53, 53, 54, 53, 55, 53, 56, 53, 57, 54, 48, 54, 49, 54, 50, 54, 51, 54, 52, 54, 53, 54, 54, 54, 55, 54, 56, 54, 57, 55, 48, 55, 49, 55, 50, 55, 51, 55, 52, 55, 53, 55, 54, 55, 55, 55, 56, 55, 57, 56, 48, 56, 49, 56, 50, 56, 51, 56, 52, 56, 53, 56, 54, 56, 55, 56, 56, 56, 57, 57, 48, 57, 49, 57, 50, 57, 51, 57, 52, 57, 53, 57, 54, 57, 55, 57, 56, 57, 57]⟩ : ByteArray).extract ((IntKind.wrap .i64 (a1 * 2)).toNat) ((IntKind.wrap .i64 ((IntKind.wrap .i64 (a1 * 2)) + 2)).toNat))
    else none
   else none
  else none
 else none
theorem internal_strconv_small_ok (a1 : Int) (r : ByteArray) (h : Heap) (hM : internal_strconv_small a1 = some r) : CallsH Tryd.prog 65 #[.int .i64 a1] (fun v h' => v = .string r ∧ Ext h h') h := by
 unfold internal_strconv_small at hM
 refine callsH_intro (n := 15) Tryd.func65 rfl rfl (by kernel_rfl) ?_
 refine cR ?_
 refine oS [(2, .string (⟨#[]⟩ : ByteArray))] rfl ?_
 refine oE (cwp_seq (cR ?_))
 refine oS [(3, .int .i64 a1), (4, .bool (decide (a1 < 10)))] rfl ?_
 refine oE ?_
 refine cwp_condD (a1 < 10) (by kernel_rfl) (fun hc2 => ?_) (fun hc2 => ?_)
 · replace hM := ifTo hc2 hM
   refine cR ?_
   refine oS [(5, .int .i64 a1), (6, .int .i64 a1), (7, .int .i64 (IntKind.wrap .i64 (a1 + 1)))] rfl ?_
   have hc3 : 0 ≤ (IntKind.wrap .i64 (a1 + 1)) := ofIteO hM
   replace hM := ifTo hc3 hM
   have hc4 : (IntKind.wrap .i64 (a1 + 1)) ≤ ((⟨#[48, 49, 50, 51, 52, 53, 54, 55, 56, 57, 97, 98, 99, 100, 101, 102, 103, 104, 105, 106, 107, 108, 109, 110, 111, 112, 113, 114, 115, 116, 117, 118, 119, 120, 121, 122]⟩ : ByteArray).size : Int) := ofIteO hM
   replace hM := ifTo hc4 hM
   have hc5 : 0 ≤ a1 := ofIteO hM
   replace hM := ifTo hc5 hM
   have hc6 : a1 ≤ (IntKind.wrap .i64 (a1 + 1)) := ofIteO hM
   replace hM := ifTo hc6 hM
   refine owp_rdG (.string ((⟨#[48, 49, 50, 51, 52, 53, 54, 55, 56, 57, 97, 98, 99, 100, 101, 102, 103, 104, 105, 106, 107, 108, 109, 110, 111, 112, 113, 114, 115, 116, 117, 118, 119, 120, 121, 122]⟩ : ByteArray).extract a1.toNat ((IntKind.wrap .i64 (a1 + 1)).toNat))) rfl (by kernel_rfl) (rd_slLH (P := Tryd.prog) (h := h) (t := 9) (s := (⟨#[48, 49, 50, 51, 52, 53, 54, 55, 56, 57, 97, 98, 99, 100, 101, 102, 103, 104, 105, 106, 107, 108, 109, 110, 111, 112, 113, 114, 115, 116, 117, 118, 119, 120, 121, 122]⟩ : ByteArray)) (k := .i64) (k' := .i64) (i := a1) (j := (IntKind.wrap .i64 (a1 + 1))) (by kernel_rfl) hc3 hc4 hc5 hc6 (by kernel_rfl)) ?_
   refine oS [(2, .string ((⟨#[48, 49, 50, 51, 52, 53, 54, 55, 56, 57, 97, 98, 99, 100, 101, 102, 103, 104, 105, 106, 107, 108, 109, 110, 111, 112, 113, 114, 115, 116, 117, 118, 119, 120, 121, 122]⟩ : ByteArray).extract a1.toNat ((IntKind.wrap .i64 (a1 + 1)).toNat)))] rfl ?_
   refine oE (cwp_ret (thenE_r ?_))
   obtain rfl := Option.some.inj hM
   exact ret_ (.string ((⟨#[48, 49, 50, 51, 52, 53, 54, 55, 56, 57, 97, 98, 99, 100, 101, 102, 103, 104, 105, 106, 107, 108, 109, 110, 111, 112, 113, 114, 115, 116, 117, 118, 119, 120, 121, 122]⟩ : ByteArray).extract a1.toNat ((IntKind.wrap .i64 (a1 + 1)).toNat))) (by kernel_rfl) ⟨rfl, Ext.refl _⟩
 replace hM := ifFo hc2 hM
 refine cwp_skip (thenE_n (cR ?_))
 refine oS [(9, .int .i64 a1), (10, .int .i64 (IntKind.wrap .i64 (a1 * 2))), (11, .int .i64 a1), (12, .int .i64 (IntKind.wrap .i64 (a1 * 2))), (13, .int .i64 (IntKind.wrap .i64 ((IntKind.wrap .i64 (a1 * 2)) + 2)))] rfl ?_
 have hc7 : 0 ≤ (IntKind.wrap .i64 ((IntKind.wrap .i64 (a1 * 2)) + 2)) := ofIteO hM
 replace hM := ifTo hc7 hM
 have hc8 : (IntKind.wrap .i64 ((IntKind.wrap .i64 (a1 * 2)) + 2)) ≤ ((⟨#[48, 48, 48, 49, 48, 50, 48, 51, 48, 52, 48, 53, 48, 54, 48, 55, 48, 56, 48, 57, 49, 48, 49, 49, 49, 50, 49, 51, 49, 52, 49, 53, 49, 54, 49, 55, 49, 56, 49, 57, 50, 48, 50, 49, 50, 50, 50, 51, 50, 52, 50, 53, 50, 54, 50, 55, 50, 56, 50, 57, 51, 48, 51, 49, 51, 50, 51, 51, 51, 52, 51, 53, 51, 54, 51, 55, 51, 56, 51, 57, 52, 48, 52, 49, 52, 50, 52, 51, 52, 52, 52, 53, 52, 54, 52, 55, 52, 56, 52, 57, 53, 48, 53, 49, 53, 50, 53, 51, 53, 52, 53, 53, 53, 54, 53, 55, 53, 56, 53, 57, 54, 48, 54, 49, 54, 50, 54, 51, 54, 52, 54, 53, 54, 54, 54, 55, 54, 56, 54, 57, 55, 48, 55, 49, 55, 50, 55, 51, 55, 52, 55, 53, 55, 54, 55, 55, 55, 56, 55, 57, 56, 48, 56, 49, 56, 50, 56, 51, 56, 52, 56, 53, 56, 54, 56, 55, 56, 56, 56, 57, 57, 48, 57, 49, 57, 50, 57, 51, 57, 52, 57, 53, 57, 54, 57, 55, 57, 56, 57, 57]⟩ : ByteArray).size : Int) := ofIteO hM
 replace hM := ifTo hc8 hM
 have hc9 : 0 ≤ (IntKind.wrap .i64 (a1 * 2)) := ofIteO hM
 replace hM := ifTo hc9 hM
 have hc10 : (IntKind.wrap .i64 (a1 * 2)) ≤ (IntKind.wrap .i64 ((IntKind.wrap .i64 (a1 * 2)) + 2)) := ofIteO hM
 replace hM := ifTo hc10 hM
 refine owp_rdG (.string ((⟨#[48, 48, 48, 49, 48, 50, 48, 51, 48, 52, 48, 53, 48, 54, 48, 55, 48, 56, 48, 57, 49, 48, 49, 49, 49, 50, 49, 51, 49, 52, 49, 53, 49, 54, 49, 55, 49, 56, 49, 57, 50, 48, 50, 49, 50, 50, 50, 51, 50, 52, 50, 53, 50, 54, 50, 55, 50, 56, 50, 57, 51, 48, 51, 49, 51, 50, 51, 51, 51, 52, 51, 53, 51, 54, 51, 55, 51, 56, 51, 57, 52, 48, 52, 49, 52, 50, 52, 51, 52, 52, 52, 53, 52, 54, 52, 55, 52, 56, 52, 57, 53, 48, 53, 49, 53, 50, 53, 51, 53, 52, 53, 53, 53, 54, 53, 55, 53, 56, 53, 57, 54, 48, 54, 49, 54, 50, 54, 51, 54, 52, 54, 53, 54, 54, 54, 55, 54, 56, 54, 57, 55, 48, 55, 49, 55, 50, 55, 51, 55, 52, 55, 53, 55, 54, 55, 55, 55, 56, 55, 57, 56, 48, 56, 49, 56, 50, 56, 51, 56, 52, 56, 53, 56, 54, 56, 55, 56, 56, 56, 57, 57, 48, 57, 49, 57, 50, 57, 51, 57, 52, 57, 53, 57, 54, 57, 55, 57, 56, 57, 57]⟩ : ByteArray).extract ((IntKind.wrap .i64 (a1 * 2)).toNat) ((IntKind.wrap .i64 ((IntKind.wrap .i64 (a1 * 2)) + 2)).toNat))) rfl (by kernel_rfl) (rd_slLH (P := Tryd.prog) (h := h) (t := 9) (s := (⟨#[48, 48, 48, 49, 48, 50, 48, 51, 48, 52, 48, 53, 48, 54, 48, 55, 48, 56, 48, 57, 49, 48, 49, 49, 49, 50, 49, 51, 49, 52, 49, 53, 49, 54, 49, 55, 49, 56, 49, 57, 50, 48, 50, 49, 50, 50, 50, 51, 50, 52, 50, 53, 50, 54, 50, 55, 50, 56, 50, 57, 51, 48, 51, 49, 51, 50, 51, 51, 51, 52, 51, 53, 51, 54, 51, 55, 51, 56, 51, 57, 52, 48, 52, 49, 52, 50, 52, 51, 52, 52, 52, 53, 52, 54, 52, 55, 52, 56, 52, 57, 53, 48, 53, 49, 53, 50, 53, 51, 53, 52, 53, 53, 53, 54, 53, 55, 53, 56, 53, 57, 54, 48, 54, 49, 54, 50, 54, 51, 54, 52, 54, 53, 54, 54, 54, 55, 54, 56, 54, 57, 55, 48, 55, 49, 55, 50, 55, 51, 55, 52, 55, 53, 55, 54, 55, 55, 55, 56, 55, 57, 56, 48, 56, 49, 56, 50, 56, 51, 56, 52, 56, 53, 56, 54, 56, 55, 56, 56, 56, 57, 57, 48, 57, 49, 57, 50, 57, 51, 57, 52, 57, 53, 57, 54, 57, 55, 57, 56, 57, 57]⟩ : ByteArray)) (k := .i64) (k' := .i64) (i := (IntKind.wrap .i64 (a1 * 2))) (j := (IntKind.wrap .i64 ((IntKind.wrap .i64 (a1 * 2)) + 2))) (by kernel_rfl) hc7 hc8 hc9 hc10 (by kernel_rfl)) ?_
 refine oS [(2, .string ((⟨#[48, 48, 48, 49, 48, 50, 48, 51, 48, 52, 48, 53, 48, 54, 48, 55, 48, 56, 48, 57, 49, 48, 49, 49, 49, 50, 49, 51, 49, 52, 49, 53, 49, 54, 49, 55, 49, 56, 49, 57, 50, 48, 50, 49, 50, 50, 50, 51, 50, 52, 50, 53, 50, 54, 50, 55, 50, 56, 50, 57, 51, 48, 51, 49, 51, 50, 51, 51, 51, 52, 51, 53, 51, 54, 51, 55, 51, 56, 51, 57, 52, 48, 52, 49, 52, 50, 52, 51, 52, 52, 52, 53, 52, 54, 52, 55, 52, 56, 52, 57, 53, 48, 53, 49, 53, 50, 53, 51, 53, 52, 53, 53, 53, 54, 53, 55, 53, 56, 53, 57, 54, 48, 54, 49, 54, 50, 54, 51, 54, 52, 54, 53, 54, 54, 54, 55, 54, 56, 54, 57, 55, 48, 55, 49, 55, 50, 55, 51, 55, 52, 55, 53, 55, 54, 55, 55, 55, 56, 55, 57, 56, 48, 56, 49, 56, 50, 56, 51, 56, 52, 56, 53, 56, 54, 56, 55, 56, 56, 56, 57, 57, 48, 57, 49, 57, 50, 57, 51, 57, 52, 57, 53, 57, 54, 57, 55, 57, 56, 57, 57]⟩ : ByteArray).extract ((IntKind.wrap .i64 (a1 * 2)).toNat) ((IntKind.wrap .i64 ((IntKind.wrap .i64 (a1 * 2)) + 2)).toNat)))] rfl ?_
 refine oE (cwp_ret ?_)
 obtain rfl := Option.some.inj hM
 exact ret_ (.string ((⟨#[48, 48, 48, 49, 48, 50, 48, 51, 48, 52, 48, 53, 48, 54, 48, 55, 48, 56, 48, 57, 49, 48, 49, 49, 49, 50, 49, 51, 49, 52, 49, 53, 49, 54, 49, 55, 49, 56, 49, 57, 50, 48, 50, 49, 50, 50, 50, 51, 50, 52, 50, 53, 50, 54, 50, 55, 50, 56, 50, 57, 51, 48, 51, 49, 51, 50, 51, 51, 51, 52, 51, 53, 51, 54, 51, 55, 51, 56, 51, 57, 52, 48, 52, 49, 52, 50, 52, 51, 52, 52, 52, 53, 52, 54, 52, 55, 52, 56, 52, 57, 53, 48, 53, 49, 53, 50, 53, 51, 53, 52, 53, 53, 53, 54, 53, 55, 53, 56, 53, 57, 54, 48, 54, 49, 54, 50, 54, 51, 54, 52, 54, 53, 54, 54, 54, 55, 54, 56, 54, 57, 55, 48, 55, 49, 55, 50, 55, 51, 55, 52, 55, 53, 55, 54, 55, 55, 55, 56, 55, 57, 56, 48, 56, 49, 56, 50, 56, 51, 56, 52, 56, 53, 56, 54, 56, 55, 56, 56, 56, 57, 57, 48, 57, 49, 57, 50, 57, 51, 57, 52, 57, 53, 57, 54, 57, 55, 57, 56, 57, 57]⟩ : ByteArray).extract ((IntKind.wrap .i64 (a1 * 2)).toNat) ((IntKind.wrap .i64 ((IntKind.wrap .i64 (a1 * 2)) + 2)).toNat))) (by kernel_rfl) ⟨rfl, Ext.refl _⟩
/- internal/strconv.FormatInt -/
def internal_strconv_FormatInt_j0 (Kr : Heap → Prop) (y17 : Int) (y18 : Nat) (y19 : Int) (h : Heap) : Prop :=
 False
theorem internal_strconv_FormatInt_j0_ok {Q : Exit → Env → Heap → Prop} (Kr : Heap → Prop) (y17 : Int) (y18 : Nat) (y19 : Int) (b : Env) (h : Heap) (hM : internal_strconv_FormatInt_j0 Kr y17 y18 y19 h) : cwp Tryd.prog (partC Tryd.f64 [1, 0, 1, 0, 1, 1, 1, 1]) 54 Q (upd (upd (upd b 0 (.int .i64 y17)) 5 (.pointer (some ⟨y18, 0, none⟩))) 6 (.int .u64 y19)) h := by
  unfold internal_strconv_FormatInt_j0 at hM
  refine cwp_part rfl ?_
  refine cR ?_
  exact hM.elim
def internal_strconv_FormatInt (a1 : Int) (a2 : Int) (K : ByteArray → Heap → Prop) (h : Heap) : Prop :=
 if a2 = 10 then
  if ((decide (0 ≤ a1)) && (decide (a1 < 100))) = true then
   ex (internal_strconv_small a1) fun r11 =>
   gap h fun h9 =>
   K r11 h9
  else
  newB h #[.int .u8 0, .int .u8 0, .int .u8 0, .int .u8 0, .int .u8 0, .int .u8 0, .int .u8 0, .int .u8 0, .int .u8 0, .int .u8 0, .int .u8 0, .int .u8 0, .int .u8 0, .int .u8 0, .int .u8 0, .int .u8 0, .int .u8 0, .int .u8 0, .int .u8 0, .int .u8 0, .int .u8 0, .int .u8 0, .int .u8 0, .int .u8 0] 85 fun b13 h14 =>
  if a1 < 0 then
   internal_strconv_FormatInt_j0 (fun _ => False) a1 b13 (IntKind.wrap .u64 (0 - (IntKind.wrap .u64 (a1)))) h14
  else
  internal_strconv_FormatInt_j0 (fun _ => False) a1 b13 (IntKind.wrap .u64 (a1)) h14
 else
 False
theorem internal_strconv_FormatInt_ok (a1 : Int) (a2 : Int) (K : ByteArray → Heap → Prop) (h : Heap) (hM : internal_strconv_FormatInt a1 a2 K h) : CallsH Tryd.prog 64 #[.int .i64 a1, .int .i64 a2] (fun v h' => ∃ (r22 : ByteArray), v = .string r22 ∧ K r22 h') h := by
 unfold internal_strconv_FormatInt at hM
 refine callsH_intro (n := 54) Tryd.func64 rfl rfl (by kernel_rfl) ?_
 refine cR ?_
 refine oS [(4, .string (⟨#[]⟩ : ByteArray))] rfl ?_
 refine oE (cwp_seq (cR ?_))
 refine oS [(10, .int .i64 a2), (11, .bool (decide (a2 = 10)))] rfl ?_
 refine oE ?_
 refine cwp_condD (a2 = 10) (by kernel_rfl) (fun hc3 => ?_) (fun hc3 => ?_)
 · replace hM := ifT hc3 hM
   refine cwp_seq (cR ?_)
   refine oS [(12, .int .i64 a1), (13, .bool (decide (0 ≤ a1))), (14, .bool (decide (0 ≤ a1)))] rfl ?_
   refine oB (decide (0 ≤ a1)) 3 [13, 14] (fun b_ => [(15, iteV b_ (.int .i64 a1 : Value) undef), (16, iteV b_ (.bool (decide (a1 < 100)) : Value) undef), (17, .bool (b_ && (decide (a1 < 100))))]) rfl (fun hb4 hq5 => oS [(15, .int .i64 a1), (16, .bool (decide (a1 < 100))), (17, .bool (decide (a1 < 100)))] rfl (hq5)) (fun hb6 hq7 => oS [(15, undef), (16, undef), (17, .bool false)] rfl (hq7)) ?_
   refine oE ?_
   refine cwp_condB ((decide (0 ≤ a1)) && (decide (a1 < 100))) (by kernel_rfl) (fun hc8 => ?_) (fun hc8 => ?_)
   · replace hM := ifT hc8 hM
     refine cR ?_
     refine oS [(18, .int .i64 a1)] rfl ?_
     obtain ⟨r11, hr12, hM⟩ := hM
     refine owp_hpG rfl (by kernel_rfl) (hpCallP 65 #[.int .i64 a1] (.string r11) (by kernel_rfl) (internal_strconv_small_ok a1 r11 h hr12) ?_)
     intro h9 hx10
     refine oS [(4, .string r11)] rfl ?_
     refine oE (cwp_ret (thenE_r (thenE_r ?_)))
     replace hM := hM _ hx10
     exact ret_ (.string r11) (by kernel_rfl) ⟨_, rfl, hM⟩
   replace hM := ifF hc8 hM
   refine cwp_skip (thenE_n (cR ?_))
   refine owp_hpG rfl (by kernel_rfl) (hpNew #[.int .u8 0, .int .u8 0, .int .u8 0, .int .u8 0, .int .u8 0, .int .u8 0, .int .u8 0, .int .u8 0, .int .u8 0, .int .u8 0, .int .u8 0, .int .u8 0, .int .u8 0, .int .u8 0, .int .u8 0, .int .u8 0, .int .u8 0, .int .u8 0, .int .u8 0, .int .u8 0, .int .u8 0, .int .u8 0, .int .u8 0, .int .u8 0] 85 (fun _ => by kernel_rfl) ?_)
   intro b13 h14 hN15
   replace hM := newB_of hN15 hM
   refine oE (cR ?_)
   refine oS [(20, .int .i64 a1), (21, .int .u64 (IntKind.wrap .u64 (a1))), (6, .int .u64 (IntKind.wrap .u64 (a1)))] rfl ?_
   refine oE (cwp_seq (cR ?_))
   refine oS [(22, .int .i64 a1), (23, .bool (decide (a1 < 0)))] rfl ?_
   refine oE ?_
   refine cwp_condD (a1 < 0) (by kernel_rfl) (fun hc16 => ?_) (fun hc16 => ?_)
   · replace hM := ifT hc16 hM
     refine cwp_region ?_
     refine oS [(24, .int .u64 (IntKind.wrap .u64 (a1))), (25, .int .u64 (IntKind.wrap .u64 (0 - (IntKind.wrap .u64 (a1))))), (6, .int .u64 (IntKind.wrap .u64 (0 - (IntKind.wrap .u64 (a1)))))] rfl ?_
     refine oE ?_
     refine cwp_of_part (fn := Tryd.f64) (p := [1, 0, 1, 0, 1, 1, 1, 1]) (by kernel_rfl) (cwp_at 0 (.int .i64 a1) (by kernel_rfl) (cwp_at 5 (.pointer (some ⟨b13, 0, none⟩)) (by kernel_rfl) (cwp_at 6 (.int .u64 (IntKind.wrap .u64 (0 - (IntKind.wrap .u64 (a1))))) (by kernel_rfl) (internal_strconv_FormatInt_j0_ok _ a1 b13 (IntKind.wrap .u64 (0 - (IntKind.wrap .u64 (a1)))) _ _ hM))))
   replace hM := ifF hc16 hM
   refine cwp_skip (thenE_n ?_)
   refine cwp_of_part (fn := Tryd.f64) (p := [1, 0, 1, 0, 1, 1, 1, 1]) (by kernel_rfl) (cwp_at 0 (.int .i64 a1) (by kernel_rfl) (cwp_at 5 (.pointer (some ⟨b13, 0, none⟩)) (by kernel_rfl) (cwp_at 6 (.int .u64 (IntKind.wrap .u64 (a1))) (by kernel_rfl) (internal_strconv_FormatInt_j0_ok _ a1 b13 (IntKind.wrap .u64 (a1)) _ _ hM))))
 replace hM := ifF hc3 hM
 refine cwp_skip (thenE_n (cR ?_))
 exact hM.elim
/- internal/strconv.Itoa -/
def internal_strconv_Itoa (a1 : Int) (K : ByteArray → Heap → Prop) (h : Heap) : Prop :=
 internal_strconv_FormatInt a1 10 (fun x3 h2 =>
   K x3 h2) h
theorem internal_strconv_Itoa_ok (a1 : Int) (K : ByteArray → Heap → Prop) (h : Heap) (hM : internal_strconv_Itoa a1 K h) : CallsH Tryd.prog 61 #[.int .i64 a1] (fun v h' => ∃ (r4 : ByteArray), v = .string r4 ∧ K r4 h') h := by
 unfold internal_strconv_Itoa at hM
 refine callsH_intro (n := 5) Tryd.func61 rfl rfl (by kernel_rfl) ?_
 refine cR ?_
 refine oS [(2, .string (⟨#[]⟩ : ByteArray))] rfl ?_
 refine oE (cR ?_)
 refine oS [(3, .int .i64 a1)] rfl ?_
 refine owp_hpG rfl (by kernel_rfl) (hpCallE 64 #[.int .i64 a1, .int .i64 10] (by kernel_rfl) (internal_strconv_FormatInt_ok a1 10 _ h hM) ?_)
 rintro _ h2 ⟨x3, rfl, hM⟩
 refine oS [(2, .string x3)] rfl ?_
 refine oE (cwp_ret ?_)
 exact ret_ (.string x3) (by kernel_rfl) ⟨_, rfl, hM⟩
/- strconv.Itoa -/
def strconv_Itoa (a1 : Int) (K : ByteArray → Heap → Prop) (h : Heap) : Prop :=
 internal_strconv_Itoa a1 (fun x3 h2 =>
   K x3 h2) h
theorem strconv_Itoa_ok (a1 : Int) (K : ByteArray → Heap → Prop) (h : Heap) (hM : strconv_Itoa a1 K h) : CallsH Tryd.prog 52 #[.int .i64 a1] (fun v h' => ∃ (r4 : ByteArray), v = .string r4 ∧ K r4 h') h := by
 unfold strconv_Itoa at hM
 refine callsH_intro (n := 5) Tryd.func52 rfl rfl (by kernel_rfl) ?_
 refine cR ?_
 refine oS [(2, .string (⟨#[]⟩ : ByteArray))] rfl ?_
 refine oE (cR ?_)
 refine oS [(3, .int .i64 a1)] rfl ?_
 refine owp_hpG rfl (by kernel_rfl) (hpCallE 61 #[.int .i64 a1] (by kernel_rfl) (internal_strconv_Itoa_ok a1 _ h hM) ?_)
 rintro _ h2 ⟨x3, rfl, hM⟩
 refine oS [(2, .string x3)] rfl ?_
 refine oE (cwp_ret ?_)
 exact ret_ (.string x3) (by kernel_rfl) ⟨_, rfl, hM⟩
/- mullion/keys.specialBytes -/
def keys_specialBytes (a1 : Int) (a2 : Int) (a3 : Bool) (K : ByteArray → Heap → Prop) (h : Heap) : Prop :=
 newB h #[.int .i64 a1, .int .i64 a2] 36 fun b4 h5 =>
 ldI h5 .i64 ⟨b4, 0, none⟩ fun x7 =>
 0 ≤ (IntKind.wrap .i64 (x7 - 16777217)) ∧
 (IntKind.wrap .i64 (x7 - 16777217)) < (22 : Int) ∧
 cellsAt h5 ⟨0, 0, none⟩ 0 (tab0.flatMap tab0f) ∧
 newB h5 #[.string (⟨#[]⟩ : ByteArray), .int .u8 0, .int .i64 0, .bool false] 68 fun b17 h18 =>
 stN ⟨b17, 0, none⟩ [.string ((tab0.getD ((IntKind.wrap .i64 (x7 - 16777217))).toNat tab0d).1), .int .u8 ((tab0.getD ((IntKind.wrap .i64 (x7 - 16777217))).toNat tab0d).2.1), .int .i64 ((tab0.getD ((IntKind.wrap .i64 (x7 - 16777217))).toNat tab0d).2.2.1), .bool ((tab0.getD ((IntKind.wrap .i64 (x7 - 16777217))).toNat tab0d).2.2.2)] 0 h18 fun h20 =>
 ldI h20 .i64 ⟨b4, 1, none⟩ fun x21 =>
 strconv_Itoa (IntKind.wrap .i64 (x21 + 1)) (fun x25 h24 =>
  ldI h24 .u8 ⟨b17, 1, none⟩ fun x26 =>
  if x26 = 0 then
   ldI h24 .i64 ⟨b4, 1, none⟩ fun x33 =>
   if x33 = 0 then
    ldI h24 .i64 ⟨b17, 2, none⟩ fun x37 =>
    strconv_Itoa x37 (fun x41 h40 =>
     (⟨#[27, 91]⟩ : ByteArray).size + x41.size ≤ 9223372036854775807 ∧
     ((⟨#[27, 91]⟩ : ByteArray) ++ x41).size + (⟨#[126]⟩ : ByteArray).size ≤ 9223372036854775807 ∧
      K (((⟨#[27, 91]⟩ : ByteArray) ++ x41) ++ (⟨#[126]⟩ : ByteArray)) h40) h24
   else
   ldI h24 .u8 ⟨b17, 1, none⟩ fun x44 =>
   if x44 = 0 then
    ldI h24 .i64 ⟨b17, 2, none⟩ fun x48 =>
    strconv_Itoa x48 (fun x52 h51 =>
     (⟨#[27, 91]⟩ : ByteArray).size + x52.size ≤ 9223372036854775807 ∧
     ((⟨#[27, 91]⟩ : ByteArray) ++ x52).size + (⟨#[59]⟩ : ByteArray).size ≤ 9223372036854775807 ∧
     (((⟨#[27, 91]⟩ : ByteArray) ++ x52) ++ (⟨#[59]⟩ : ByteArray)).size + x25.size ≤ 9223372036854775807 ∧
     ((((⟨#[27, 91]⟩ : ByteArray) ++ x52) ++ (⟨#[59]⟩ : ByteArray)) ++ x25).size + (⟨#[126]⟩ : ByteArray).size ≤ 9223372036854775807 ∧
      K (((((⟨#[27, 91]⟩ : ByteArray) ++ x52) ++ (⟨#[59]⟩ : ByteArray)) ++ x25) ++ (⟨#[126]⟩ : ByteArray)) h51) h24
   else
   ldI h24 .i64 ⟨b4, 1, none⟩ fun x57 =>
   if 0 < x57 then
    (⟨#[27, 91, 49, 59]⟩ : ByteArray).size + x25.size ≤ 9223372036854775807 ∧
    ldI h24 .u8 ⟨b17, 1, none⟩ fun x62 =>
    ((⟨#[27, 91, 49, 59]⟩ : ByteArray) ++ x25).size + (bytesOf [x62]).size ≤ 9223372036854775807 ∧
    gap h24 fun h66 =>
    K (((⟨#[27, 91, 49, 59]⟩ : ByteArray) ++ x25) ++ (bytesOf [x62])) h66
   else
   ldB h24 ⟨b17, 3, none⟩ fun x69 =>
   if (x69 || a3) = true then
    ldI h24 .u8 ⟨b17, 1, none⟩ fun x77 =>
    (⟨#[27, 79]⟩ : ByteArray).size + (bytesOf [x77]).size ≤ 9223372036854775807 ∧
    gap h24 fun h81 =>
    K ((⟨#[27, 79]⟩ : ByteArray) ++ (bytesOf [x77])) h81
   else
   ldI h24 .u8 ⟨b17, 1, none⟩ fun x84 =>
   (⟨#[27, 91]⟩ : ByteArray).size + (bytesOf [x84]).size ≤ 9223372036854775807 ∧
   gap h24 fun h88 =>
   K ((⟨#[27, 91]⟩ : ByteArray) ++ (bytesOf [x84])) h88
  else
  ldI h24 .u8 ⟨b17, 1, none⟩ fun x91 =>
  if x91 = 0 then
   ldI h24 .i64 ⟨b17, 2, none⟩ fun x95 =>
   strconv_Itoa x95 (fun x99 h98 =>
    (⟨#[27, 91]⟩ : ByteArray).size + x99.size ≤ 9223372036854775807 ∧
    ((⟨#[27, 91]⟩ : ByteArray) ++ x99).size + (⟨#[59]⟩ : ByteArray).size ≤ 9223372036854775807 ∧
    (((⟨#[27, 91]⟩ : ByteArray) ++ x99) ++ (⟨#[59]⟩ : ByteArray)).size + x25.size ≤ 9223372036854775807 ∧
    ((((⟨#[27, 91]⟩ : ByteArray) ++ x99) ++ (⟨#[59]⟩ : ByteArray)) ++ x25).size + (⟨#[126]⟩ : ByteArray).size ≤ 9223372036854775807 ∧
     K (((((⟨#[27, 91]⟩ : ByteArray) ++ x99) ++ (⟨#[59]⟩ : ByteArray)) ++ x25) ++ (⟨#[126]⟩ : ByteArray)) h98) h24
  else
  ldI h24 .i64 ⟨b4, 1, none⟩ fun x104 =>
  if 0 < x104 then
   (⟨#[27, 91, 49, 59]⟩ : ByteArray).size + x25.size ≤ 9223372036854775807 ∧
   ldI h24 .u8 ⟨b17, 1, none⟩ fun x109 =>
   ((⟨#[27, 91, 49, 59]⟩ : ByteArray) ++ x25).size + (bytesOf [x109]).size ≤ 9223372036854775807 ∧
   gap h24 fun h113 =>
   K (((⟨#[27, 91, 49, 59]⟩ : ByteArray) ++ x25) ++ (bytesOf [x109])) h113
  else
  ldB h24 ⟨b17, 3, none⟩ fun x116 =>
  if (x116 || a3) = true then
   ldI h24 .u8 ⟨b17, 1, none⟩ fun x124 =>
   (⟨#[27, 79]⟩ : ByteArray).size + (bytesOf [x124]).size ≤ 9223372036854775807 ∧
   gap h24 fun h128 =>
   K ((⟨#[27, 79]⟩ : ByteArray) ++ (bytesOf [x124])) h128
  else
  ldI h24 .u8 ⟨b17, 1, none⟩ fun x131 =>
  (⟨#[27, 91]⟩ : ByteArray).size + (bytesOf [x131]).size ≤ 9223372036854775807 ∧
  gap h24 fun h135 =>
   K ((⟨#[27, 91]⟩ : ByteArray) ++ (bytesOf [x131])) h135) h20
theorem keys_specialBytes_ok (a1 : Int) (a2 : Int) (a3 : Bool) (K : ByteArray → Heap → Prop) (h : Heap) (hM : keys_specialBytes a1 a2 a3 K h) : CallsH Tryd.prog 40 #[.agg #[.int .i64 a1, .int .i64 a2], .bool a3] (fun v h' => ∃ (r138 : ByteArray), v = .string r138 ∧ K r138 h') h := by
 unfold keys_specialBytes at hM
 refine callsH_intro (n := 69) Tryd.func40 rfl rfl (by kernel_rfl) ?_
 refine cR ?_
 refine owp_hpG rfl (by kernel_rfl) (hpNew #[.int .i64 a1, .int .i64 a2] 36 (fun _ => by kernel_rfl) ?_)
 intro b4 h5 hN6
 replace hM := newB_of hN6 hM
 refine oS [(4, .string (⟨#[]⟩ : ByteArray))] rfl ?_
 refine oE (cR ?_)
 refine oS [(7, .pointer (some ⟨b4, 0, none⟩))] rfl ?_
 obtain ⟨x7, hc8, hM⟩ := hM
 refine owp_rdG (.int .i64 x7) rfl (by kernel_rfl) (Eq.trans (b := (cellH h5 ⟨b4, 0, none⟩).bind fun v9 => some (.value v9)) (by kernel_rfl) (bindE hc8 _)) ?_
 refine oS [(9, .int .i64 (IntKind.wrap .i64 (x7 - 16777217)))] rfl ?_
 obtain ⟨hc10, hM⟩ := hM
 obtain ⟨hc11, hM⟩ := hM
 refine owp_rdG (.pointer (some ((⟨0, 0, none⟩ : Addr).add (((IntKind.wrap .i64 (x7 - 16777217))).toNat * 4)))) rfl (by kernel_rfl) (rd_ixA (P := Tryd.prog) (h := h5) (t := 69) (el := 68) (sz := 4) (len := 22) (ad := ⟨0, 0, none⟩) (k := .i64) (i := (IntKind.wrap .i64 (x7 - 16777217))) (by kernel_rfl) (by kernel_rfl) hc10 hc11 (by kernel_rfl)) ?_
 obtain ⟨hc12, hM⟩ := hM
 refine owp_rdG (.agg #[.string ((tab0.getD ((IntKind.wrap .i64 (x7 - 16777217))).toNat tab0d).1), .int .u8 ((tab0.getD ((IntKind.wrap .i64 (x7 - 16777217))).toNat tab0d).2.1), .int .i64 ((tab0.getD ((IntKind.wrap .i64 (x7 - 16777217))).toNat tab0d).2.2.1), .bool ((tab0.getD ((IntKind.wrap .i64 (x7 - 16777217))).toNat tab0d).2.2.2)]) rfl (by kernel_rfl) (Eq.trans (b := (cellH h5 ((⟨0, 0, none⟩ : Addr).add (((IntKind.wrap .i64 (x7 - 16777217))).toNat * 4))).bind fun v13 => (cellH h5 (((⟨0, 0, none⟩ : Addr).add (((IntKind.wrap .i64 (x7 - 16777217))).toNat * 4)).add 1)).bind fun v14 => (cellH h5 (((⟨0, 0, none⟩ : Addr).add (((IntKind.wrap .i64 (x7 - 16777217))).toNat * 4)).add 2)).bind fun v15 => (cellH h5 (((⟨0, 0, none⟩ : Addr).add (((IntKind.wrap .i64 (x7 - 16777217))).toNat * 4)).add 3)).bind fun v16 => some (.value (.agg #[v13, v14, v15, v16]))) (by kernel_rfl) ((bindE (cell_tab0 tab0f tab0 tab0d hc12 (fun _ => rfl) (ltTab hc10 hc11 (by kernel_rfl)) rfl) _).trans ((bindE (cell_tab tab0f tab0 tab0d hc12 (fun _ => rfl) (ltTab hc10 hc11 (by kernel_rfl)) 1 rfl) _).trans ((bindE (cell_tab tab0f tab0 tab0d hc12 (fun _ => rfl) (ltTab hc10 hc11 (by kernel_rfl)) 2 rfl) _).trans (bindE (cell_tab tab0f tab0 tab0d hc12 (fun _ => rfl) (ltTab hc10 hc11 (by kernel_rfl)) 3 rfl) _))))) ?_
 refine owp_hpG rfl (by kernel_rfl) (hpNew #[.string (⟨#[]⟩ : ByteArray), .int .u8 0, .int .i64 0, .bool false] 68 (fun _ => by kernel_rfl) ?_)
 intro b17 h18 hN19
 replace hM := newB_of hN19 hM
 refine owp_hpD rfl (by kernel_rfl) (hpSt ⟨b17, 0, none⟩ [.string ((tab0.getD ((IntKind.wrap .i64 (x7 - 16777217))).toNat tab0d).1), .int .u8 ((tab0.getD ((IntKind.wrap .i64 (x7 - 16777217))).toNat tab0d).2.1), .int .i64 ((tab0.getD ((IntKind.wrap .i64 (x7 - 16777217))).toNat tab0d).2.2.1), .bool ((tab0.getD ((IntKind.wrap .i64 (x7 - 16777217))).toNat tab0d).2.2.2)] (fun _ => by kernel_rfl) rfl hM ?_)
 intro h20 hM
 refine oE (cR ?_)
 refine oS [(12, .pointer (some ⟨b4, 1, none⟩))] rfl ?_
 obtain ⟨x21, hc22, hM⟩ := hM
 refine owp_rdG (.int .i64 x21) rfl (by kernel_rfl) (Eq.trans (b := (cellH h20 ⟨b4, 1, none⟩).bind fun v23 => some (.value v23)) (by kernel_rfl) (bindE hc22 _)) ?_
 refine oS [(14, .int .i64 (IntKind.wrap .i64 (x21 + 1)))] rfl ?_
 refine owp_hpG rfl (by kernel_rfl) (hpCallE 52 #[.int .i64 (IntKind.wrap .i64 (x21 + 1))] (by kernel_rfl) (strconv_Itoa_ok (IntKind.wrap .i64 (x21 + 1)) _ h20 hM) ?_)
 rintro _ h24 ⟨x25, rfl, hM⟩
 refine oS [(6, .string x25)] rfl ?_
 refine oE (cwp_seq (cwp_block (cR ?_)))
 refine oS [(17, .pointer (some ⟨b17, 1, none⟩))] rfl ?_
 obtain ⟨x26, hc27, hM⟩ := hM
 refine owp_rdG (.int .u8 x26) rfl (by kernel_rfl) (Eq.trans (b := (cellH h24 ⟨b17, 1, none⟩).bind fun v28 => some (.value v28)) (by kernel_rfl) (bindE hc27 _)) ?_
 refine oS [(19, .bool (decide (x26 = 0))), (20, .bool (decide (x26 = 0)))] rfl ?_
 by_cases hc32 : x26 = 0
 · refine owp_at 19 (.bool true) (Eq.trans (b := .bool (decide (x26 = 0))) (by kernel_rfl) (by rw [decide_eq_true hc32])) ?_
   refine owp_at 20 (.bool true) (Eq.trans (b := .bool (decide (x26 = 0))) (by kernel_rfl) (by rw [decide_eq_true hc32])) ?_
   replace hM := ifT hc32 hM
   refine oS [(21, .pointer (some ⟨b4, 1, none⟩))] rfl ?_
   obtain ⟨x33, hc34, hM⟩ := hM
   refine owp_rdG (.int .i64 x33) rfl (by kernel_rfl) (Eq.trans (b := (cellH h24 ⟨b4, 1, none⟩).bind fun v35 => some (.value v35)) (by kernel_rfl) (bindE hc34 _)) ?_
   refine oS [(23, .bool (decide (x33 = 0))), (24, .bool (decide (x33 = 0))), (16, .bool (decide (x33 = 0)))] rfl ?_
   refine oE ?_
   refine cwp_condD (x33 = 0) (by kernel_rfl) (fun hc36 => ?_) (fun hc36 => ?_)
   · replace hM := ifT hc36 hM
     refine cR ?_
     refine oS [(25, .pointer (some ⟨b17, 2, none⟩))] rfl ?_
     obtain ⟨x37, hc38, hM⟩ := hM
     refine owp_rdG (.int .i64 x37) rfl (by kernel_rfl) (Eq.trans (b := (cellH h24 ⟨b17, 2, none⟩).bind fun v39 => some (.value v39)) (by kernel_rfl) (bindE hc38 _)) ?_
     refine owp_hpG rfl (by kernel_rfl) (hpCallE 52 #[.int .i64 x37] (by kernel_rfl) (strconv_Itoa_ok x37 _ h24 hM) ?_)
     rintro _ h40 ⟨x41, rfl, hM⟩
     obtain ⟨hc42, hM⟩ := hM
     refine owp_rdG (.string ((⟨#[27, 91]⟩ : ByteArray) ++ x41)) rfl (by kernel_rfl) (rd_cat (P := Tryd.prog) (h := h40) (x := (⟨#[27, 91]⟩ : ByteArray)) (y := x41) hc42 (by kernel_rfl)) ?_
     obtain ⟨hc43, hM⟩ := hM
     refine owp_rdG (.string (((⟨#[27, 91]⟩ : ByteArray) ++ x41) ++ (⟨#[126]⟩ : ByteArray))) rfl (by kernel_rfl) (rd_cat (P := Tryd.prog) (h := h40) (x := ((⟨#[27, 91]⟩ : ByteArray) ++ x41)) (y := (⟨#[126]⟩ : ByteArray)) hc43 (by kernel_rfl)) ?_
     refine oS [(4, .string (((⟨#[27, 91]⟩ : ByteArray) ++ x41) ++ (⟨#[126]⟩ : ByteArray)))] rfl ?_
     refine oE (cwp_ret (blockE_r (thenE_r ?_)))
     exact ret_ (.string (((⟨#[27, 91]⟩ : ByteArray) ++ x41) ++ (⟨#[126]⟩ : ByteArray))) (by kernel_rfl) ⟨_, rfl, hM⟩
   replace hM := ifF hc36 hM
   refine cR ?_
   refine oS [(31, .pointer (some ⟨b17, 1, none⟩))] rfl ?_
   obtain ⟨x44, hc45, hM⟩ := hM
   refine owp_rdG (.int .u8 x44) rfl (by kernel_rfl) (Eq.trans (b := (cellH h24 ⟨b17, 1, none⟩).bind fun v46 => some (.value v46)) (by kernel_rfl) (bindE hc45 _)) ?_
   refine oS [(33, .bool (decide (x44 = 0))), (30, .bool (decide (x44 = 0)))] rfl ?_
   refine oE ?_
   refine cwp_condD (x44 = 0) (by kernel_rfl) (fun hc47 => ?_) (fun hc47 => ?_)
   · replace hM := ifT hc47 hM
     refine cR ?_
     refine oS [(34, .pointer (some ⟨b17, 2, none⟩))] rfl ?_
     obtain ⟨x48, hc49, hM⟩ := hM
     refine owp_rdG (.int .i64 x48) rfl (by kernel_rfl) (Eq.trans (b := (cellH h24 ⟨b17, 2, none⟩).bind fun v50 => some (.value v50)) (by kernel_rfl) (bindE hc49 _)) ?_
     refine owp_hpG rfl (by kernel_rfl) (hpCallE 52 #[.int .i64 x48] (by kernel_rfl) (strconv_Itoa_ok x48 _ h24 hM) ?_)
     rintro _ h51 ⟨x52, rfl, hM⟩
     obtain ⟨hc53, hM⟩ := hM
     refine owp_rdG (.string ((⟨#[27, 91]⟩ : ByteArray) ++ x52)) rfl (by kernel_rfl) (rd_cat (P := Tryd.prog) (h := h51) (x := (⟨#[27, 91]⟩ : ByteArray)) (y := x52) hc53 (by kernel_rfl)) ?_
     obtain ⟨hc54, hM⟩ := hM
     refine owp_rdG (.string (((⟨#[27, 91]⟩ : ByteArray) ++ x52) ++ (⟨#[59]⟩ : ByteArray))) rfl (by kernel_rfl) (rd_cat (P := Tryd.prog) (h := h51) (x := ((⟨#[27, 91]⟩ : ByteArray) ++ x52)) (y := (⟨#[59]⟩ : ByteArray)) hc54 (by kernel_rfl)) ?_
     refine oS [(39, .string x25)] rfl ?_
     obtain ⟨hc55, hM⟩ := hM
     refine owp_rdG (.string ((((⟨#[27, 91]⟩ : ByteArray) ++ x52) ++ (⟨#[59]⟩ : ByteArray)) ++ x25)) rfl (by kernel_rfl) (rd_cat (P := Tryd.prog) (h := h51) (x := (((⟨#[27, 91]⟩ : ByteArray) ++ x52) ++ (⟨#[59]⟩ : ByteArray))) (y := x25) hc55 (by kernel_rfl)) ?_
     obtain ⟨hc56, hM⟩ := hM
     refine owp_rdG (.string (((((⟨#[27, 91]⟩ : ByteArray) ++ x52) ++ (⟨#[59]⟩ : ByteArray)) ++ x25) ++ (⟨#[126]⟩ : ByteArray))) rfl (by kernel_rfl) (rd_cat (P := Tryd.prog) (h := h51) (x := ((((⟨#[27, 91]⟩ : ByteArray) ++ x52) ++ (⟨#[59]⟩ : ByteArray)) ++ x25)) (y := (⟨#[126]⟩ : ByteArray)) hc56 (by kernel_rfl)) ?_
     refine oS [(4, .string (((((⟨#[27, 91]⟩ : ByteArray) ++ x52) ++ (⟨#[59]⟩ : ByteArray)) ++ x25) ++ (⟨#[126]⟩ : ByteArray)))] rfl ?_
     refine oE (cwp_ret (blockE_r (thenE_r ?_)))
     exact ret_ (.string (((((⟨#[27, 91]⟩ : ByteArray) ++ x52) ++ (⟨#[59]⟩ : ByteArray)) ++ x25) ++ (⟨#[126]⟩ : ByteArray))) (by kernel_rfl) ⟨_, rfl, hM⟩
   replace hM := ifF hc47 hM
   refine cR ?_
   refine oS [(43, .pointer (some ⟨b4, 1, none⟩))] rfl ?_
   obtain ⟨x57, hc58, hM⟩ := hM
   refine owp_rdG (.int .i64 x57) rfl (by kernel_rfl) (Eq.trans (b := (cellH h24 ⟨b4, 1, none⟩).bind fun v59 => some (.value v59)) (by kernel_rfl) (bindE hc58 _)) ?_
   refine oS [(45, .bool (decide (0 < x57))), (42, .bool (decide (0 < x57)))] rfl ?_
   refine oE ?_
   refine cwp_condD (0 < x57) (by kernel_rfl) (fun hc60 => ?_) (fun hc60 => ?_)
   · replace hM := ifT hc60 hM
     refine cR ?_
     refine oS [(46, .string x25)] rfl ?_
     obtain ⟨hc61, hM⟩ := hM
     refine owp_rdG (.string ((⟨#[27, 91, 49, 59]⟩ : ByteArray) ++ x25)) rfl (by kernel_rfl) (rd_cat (P := Tryd.prog) (h := h24) (x := (⟨#[27, 91, 49, 59]⟩ : ByteArray)) (y := x25) hc61 (by kernel_rfl)) ?_
     refine oS [(48, .pointer (some ⟨b17, 1, none⟩))] rfl ?_
     obtain ⟨x62, hc63, hM⟩ := hM
     refine owp_rdG (.int .u8 x62) rfl (by kernel_rfl) (Eq.trans (b := (cellH h24 ⟨b17, 1, none⟩).bind fun v64 => some (.value v64)) (by kernel_rfl) (bindE hc63 _)) ?_
     refine owp_hpG rfl (by kernel_rfl) (hpNewS #[.int .u8 x62] 5 1 (fun _ => by kernel_rfl) ?_)
     intro b65 h66 hN67
     refine owp_rdG (.string (bytesOf [x62])) rfl (by kernel_rfl) (rd_bytes (P := Tryd.prog) (h := h66) (c := 1) [x62] ⟨Blk.cell (New.blk hN67) 0 (by kernel_rfl), trivial⟩ (by kernel_rfl)) ?_
     obtain ⟨hc68, hM⟩ := hM
     refine owp_rdG (.string (((⟨#[27, 91, 49, 59]⟩ : ByteArray) ++ x25) ++ (bytesOf [x62]))) rfl (by kernel_rfl) (rd_cat (P := Tryd.prog) (h := h66) (x := ((⟨#[27, 91, 49, 59]⟩ : ByteArray) ++ x25)) (y := (bytesOf [x62])) hc68 (by kernel_rfl)) ?_
     refine oS [(4, .string (((⟨#[27, 91, 49, 59]⟩ : ByteArray) ++ x25) ++ (bytesOf [x62])))] rfl ?_
     refine oE (cwp_ret (blockE_r (thenE_r ?_)))
     replace hM := hM _ (New.ext hN67)
     exact ret_ (.string (((⟨#[27, 91, 49, 59]⟩ : ByteArray) ++ x25) ++ (bytesOf [x62]))) (by kernel_rfl) ⟨_, rfl, hM⟩
   replace hM := ifF hc60 hM
   refine cR ?_
   refine oS [(54, .pointer (some ⟨b17, 3, none⟩))] rfl ?_
   obtain ⟨x69, hc70, hM⟩ := hM
   refine owp_rdG (.bool x69) rfl (by kernel_rfl) (Eq.trans (b := (cellH h24 ⟨b17, 3, none⟩).bind fun v71 => some (.value v71)) (by kernel_rfl) (bindE hc70 _)) ?_
   refine oS [(56, .bool x69)] rfl ?_
   refine oB (x69) 2 [55, 56] (fun b_ => [(57, iteV b_ undef (.bool a3 : Value)), (58, .bool (b_ || a3))]) rfl (fun hb72 hq73 => oS [(57, undef), (58, .bool true)] rfl (hq73)) (fun hb74 hq75 => oS [(57, .bool a3), (58, .bool a3)] rfl (hq75)) ?_
   refine oS [(53, .bool (x69 || a3))] rfl ?_
   refine oE ?_
   refine cwp_condB (x69 || a3) (by kernel_rfl) (fun hc76 => ?_) (fun hc76 => ?_)
   · replace hM := ifT hc76 hM
     refine cR ?_
     refine oS [(59, .pointer (some ⟨b17, 1, none⟩))] rfl ?_
     obtain ⟨x77, hc78, hM⟩ := hM
     refine owp_rdG (.int .u8 x77) rfl (by kernel_rfl) (Eq.trans (b := (cellH h24 ⟨b17, 1, none⟩).bind fun v79 => some (.value v79)) (by kernel_rfl) (bindE hc78 _)) ?_
     refine owp_hpG rfl (by kernel_rfl) (hpNewS #[.int .u8 x77] 5 1 (fun _ => by kernel_rfl) ?_)
     intro b80 h81 hN82
     refine owp_rdG (.string (bytesOf [x77])) rfl (by kernel_rfl) (rd_bytes (P := Tryd.prog) (h := h81) (c := 1) [x77] ⟨Blk.cell (New.blk hN82) 0 (by kernel_rfl), trivial⟩ (by kernel_rfl)) ?_
     obtain ⟨hc83, hM⟩ := hM
     refine owp_rdG (.string ((⟨#[27, 79]⟩ : ByteArray) ++ (bytesOf [x77]))) rfl (by kernel_rfl) (rd_cat (P := Tryd.prog) (h := h81) (x := (⟨#[27, 79]⟩ : ByteArray)) (y := (bytesOf [x77])) hc83 (by kernel_rfl)) ?_
     refine oS [(4, .string ((⟨#[27, 79]⟩ : ByteArray) ++ (bytesOf [x77])))] rfl ?_
     refine oE (cwp_ret (blockE_r (thenE_r ?_)))
     replace hM := hM _ (New.ext hN82)
     exact ret_ (.string ((⟨#[27, 79]⟩ : ByteArray) ++ (bytesOf [x77]))) (by kernel_rfl) ⟨_, rfl, hM⟩
   replace hM := ifF hc76 hM
   refine cwp_skip (blockE_n (thenE_n (cR ?_)))
   refine oS [(64, .pointer (some ⟨b17, 1, none⟩))] rfl ?_
   obtain ⟨x84, hc85, hM⟩ := hM
   refine owp_rdG (.int .u8 x84) rfl (by kernel_rfl) (Eq.trans (b := (cellH h24 ⟨b17, 1, none⟩).bind fun v86 => some (.value v86)) (by kernel_rfl) (bindE hc85 _)) ?_
   refine owp_hpG rfl (by kernel_rfl) (hpNewS #[.int .u8 x84] 5 1 (fun _ => by kernel_rfl) ?_)
   intro b87 h88 hN89
   refine owp_rdG (.string (bytesOf [x84])) rfl (by kernel_rfl) (rd_bytes (P := Tryd.prog) (h := h88) (c := 1) [x84] ⟨Blk.cell (New.blk hN89) 0 (by kernel_rfl), trivial⟩ (by kernel_rfl)) ?_
   obtain ⟨hc90, hM⟩ := hM
   refine owp_rdG (.string ((⟨#[27, 91]⟩ : ByteArray) ++ (bytesOf [x84]))) rfl (by kernel_rfl) (rd_cat (P := Tryd.prog) (h := h88) (x := (⟨#[27, 91]⟩ : ByteArray)) (y := (bytesOf [x84])) hc90 (by kernel_rfl)) ?_
   refine oS [(4, .string ((⟨#[27, 91]⟩ : ByteArray) ++ (bytesOf [x84])))] rfl ?_
   refine oE (cwp_ret ?_)
   replace hM := hM _ (New.ext hN89)
   exact ret_ (.string ((⟨#[27, 91]⟩ : ByteArray) ++ (bytesOf [x84]))) (by kernel_rfl) ⟨_, rfl, hM⟩
 refine owp_at 19 (.bool false) (Eq.trans (b := .bool (decide (x26 = 0))) (by kernel_rfl) (by rw [decide_eq_false hc32])) ?_
 refine owp_at 20 (.bool false) (Eq.trans (b := .bool (decide (x26 = 0))) (by kernel_rfl) (by rw [decide_eq_false hc32])) ?_
 replace hM := ifF hc32 hM
 refine oS [(21, undef), (22, undef), (23, undef), (24, .bool false), (16, .bool false)] rfl ?_
 refine oE ?_
 refine cwp_cond (t := false) (by kernel_rfl) (fun hx_ => ?_) (fun hx_ => ?_)
 all_goals first | (cases hx_; done) | skip
 refine cR ?_
 refine oS [(31, .pointer (some ⟨b17, 1, none⟩))] rfl ?_
 obtain ⟨x91, hc92, hM⟩ := hM
 refine owp_rdG (.int .u8 x91) rfl (by kernel_rfl) (Eq.trans (b := (cellH h24 ⟨b17, 1, none⟩).bind fun v93 => some (.value v93)) (by kernel_rfl) (bindE hc92 _)) ?_
 refine oS [(33, .bool (decide (x91 = 0))), (30, .bool (decide (x91 = 0)))] rfl ?_
 refine oE ?_
 refine cwp_condD (x91 = 0) (by kernel_rfl) (fun hc94 => ?_) (fun hc94 => ?_)
 · replace hM := ifT hc94 hM
   refine cR ?_
   refine oS [(34, .pointer (some ⟨b17, 2, none⟩))] rfl ?_
   obtain ⟨x95, hc96, hM⟩ := hM
   refine owp_rdG (.int .i64 x95) rfl (by kernel_rfl) (Eq.trans (b := (cellH h24 ⟨b17, 2, none⟩).bind fun v97 => some (.value v97)) (by kernel_rfl) (bindE hc96 _)) ?_
   refine owp_hpG rfl (by kernel_rfl) (hpCallE 52 #[.int .i64 x95] (by kernel_rfl) (strconv_Itoa_ok x95 _ h24 hM) ?_)
   rintro _ h98 ⟨x99, rfl, hM⟩
   obtain ⟨hc100, hM⟩ := hM
   refine owp_rdG (.string ((⟨#[27, 91]⟩ : ByteArray) ++ x99)) rfl (by kernel_rfl) (rd_cat (P := Tryd.prog) (h := h98) (x := (⟨#[27, 91]⟩ : ByteArray)) (y := x99) hc100 (by kernel_rfl)) ?_
   obtain ⟨hc101, hM⟩ := hM
   refine owp_rdG (.string (((⟨#[27, 91]⟩ : ByteArray) ++ x99) ++ (⟨#[59]⟩ : ByteArray))) rfl (by kernel_rfl) (rd_cat (P := Tryd.prog) (h := h98) (x := ((⟨#[27, 91]⟩ : ByteArray) ++ x99)) (y := (⟨#[59]⟩ : ByteArray)) hc101 (by kernel_rfl)) ?_
   refine oS [(39, .string x25)] rfl ?_
   obtain ⟨hc102, hM⟩ := hM
   refine owp_rdG (.string ((((⟨#[27, 91]⟩ : ByteArray) ++ x99) ++ (⟨#[59]⟩ : ByteArray)) ++ x25)) rfl (by kernel_rfl) (rd_cat (P := Tryd.prog) (h := h98) (x := (((⟨#[27, 91]⟩ : ByteArray) ++ x99) ++ (⟨#[59]⟩ : ByteArray))) (y := x25) hc102 (by kernel_rfl)) ?_
   obtain ⟨hc103, hM⟩ := hM
   refine owp_rdG (.string (((((⟨#[27, 91]⟩ : ByteArray) ++ x99) ++ (⟨#[59]⟩ : ByteArray)) ++ x25) ++ (⟨#[126]⟩ : ByteArray))) rfl (by kernel_rfl) (rd_cat (P := Tryd.prog) (h := h98) (x := ((((⟨#[27, 91]⟩ : ByteArray) ++ x99) ++ (⟨#[59]⟩ : ByteArray)) ++ x25)) (y := (⟨#[126]⟩ : ByteArray)) hc103 (by kernel_rfl)) ?_
   refine oS [(4, .string (((((⟨#[27, 91]⟩ : ByteArray) ++ x99) ++ (⟨#[59]⟩ : ByteArray)) ++ x25) ++ (⟨#[126]⟩ : ByteArray)))] rfl ?_
   refine oE (cwp_ret (blockE_r (thenE_r ?_)))
   exact ret_ (.string (((((⟨#[27, 91]⟩ : ByteArray) ++ x99) ++ (⟨#[59]⟩ : ByteArray)) ++ x25) ++ (⟨#[126]⟩ : ByteArray))) (by kernel_rfl) ⟨_, rfl, hM⟩
 replace hM := ifF hc94 hM
 refine cR ?_
 refine oS [(43, .pointer (some ⟨b4, 1, none⟩))] rfl ?_
 obtain ⟨x104, hc105, hM⟩ := hM
 refine owp_rdG (.int .i64 x104) rfl (by kernel_rfl) (Eq.trans (b := (cellH h24 ⟨b4, 1, none⟩).bind fun v106 => some (.value v106)) (by kernel_rfl) (bindE hc105 _)) ?_
 refine oS [(45, .bool (decide (0 < x104))), (42, .bool (decide (0 < x104)))] rfl ?_
 refine oE ?_
 refine cwp_condD (0 < x104) (by kernel_rfl) (fun hc107 => ?_) (fun hc107 => ?_)
 · replace hM := ifT hc107 hM
   refine cR ?_
   refine oS [(46, .string x25)] rfl ?_
   obtain ⟨hc108, hM⟩ := hM
   refine owp_rdG (.string ((⟨#[27, 91, 49, 59]⟩ : ByteArray) ++ x25)) rfl (by kernel_rfl) (rd_cat (P := Tryd.prog) (h := h24) (x := (⟨#[27, 91, 49, 59]⟩ : ByteArray)) (y := x25) hc108 (by kernel_rfl)) ?_
   refine oS [(48, .pointer (some ⟨b17, 1, none⟩))] rfl ?_
   obtain ⟨x109, hc110, hM⟩ := hM
   refine owp_rdG (.int .u8 x109) rfl (by kernel_rfl) (Eq.trans (b := (cellH h24 ⟨b17, 1, none⟩).bind fun v111 => some (.value v111)) (by kernel_rfl) (bindE hc110 _)) ?_
   refine owp_hpG rfl (by kernel_rfl) (hpNewS #[.int .u8 x109] 5 1 (fun _ => by kernel_rfl) ?_)
   intro b112 h113 hN114
   refine owp_rdG (.string (bytesOf [x109])) rfl (by kernel_rfl) (rd_bytes (P := Tryd.prog) (h := h113) (c := 1) [x109] ⟨Blk.cell (New.blk hN114) 0 (by kernel_rfl), trivial⟩ (by kernel_rfl)) ?_
   obtain ⟨hc115, hM⟩ := hM
   refine owp_rdG (.string (((⟨#[27, 91, 49, 59]⟩ : ByteArray) ++ x25) ++ (bytesOf [x109]))) rfl (by kernel_rfl) (rd_cat (P := Tryd.prog) (h := h113) (x := ((⟨#[27, 91, 49, 59]⟩ : ByteArray) ++ x25)) (y := (bytesOf [x109])) hc115 (by kernel_rfl)) ?_
   refine oS [(4, .string (((⟨#[27, 91, 49, 59]⟩ : ByteArray) ++ x25) ++ (bytesOf [x109])))] rfl ?_
   refine oE (cwp_ret (blockE_r (thenE_r ?_)))
   replace hM := hM _ (New.ext hN114)
   exact ret_ (.string (((⟨#[27, 91, 49, 59]⟩ : ByteArray) ++ x25) ++ (bytesOf [x109]))) (by kernel_rfl) ⟨_, rfl, hM⟩
 replace hM := ifF hc107 hM
 refine cR ?_
 refine oS [(54, .pointer (some ⟨b17, 3, none⟩))] rfl ?_
 obtain ⟨x116, hc117, hM⟩ := hM
 refine owp_rdG (.bool x116) rfl (by kernel_rfl) (Eq.trans (b := (cellH h24 ⟨b17, 3, none⟩).bind fun v118 => some (.value v118)) (by kernel_rfl) (bindE hc117 _)) ?_
 refine oS [(56, .bool x116)] rfl ?_
 refine oB (x116) 2 [55, 56] (fun b_ => [(57, iteV b_ undef (.bool a3 : Value)), (58, .bool (b_ || a3))]) rfl (fun hb119 hq120 => oS [(57, undef), (58, .bool true)] rfl (hq120)) (fun hb121 hq122 => oS [(57, .bool a3), (58, .bool a3)] rfl (hq122)) ?_
 refine oS [(53, .bool (x116 || a3))] rfl ?_
 refine oE ?_
 refine cwp_condB (x116 || a3) (by kernel_rfl) (fun hc123 => ?_) (fun hc123 => ?_)
 · replace hM := ifT hc123 hM
   refine cR ?_
   refine oS [(59, .pointer (some ⟨b17, 1, none⟩))] rfl ?_
   obtain ⟨x124, hc125, hM⟩ := hM
   refine owp_rdG (.int .u8 x124) rfl (by kernel_rfl) (Eq.trans (b := (cellH h24 ⟨b17, 1, none⟩).bind fun v126 => some (.value v126)) (by kernel_rfl) (bindE hc125 _)) ?_
   refine owp_hpG rfl (by kernel_rfl) (hpNewS #[.int .u8 x124] 5 1 (fun _ => by kernel_rfl) ?_)
   intro b127 h128 hN129
   refine owp_rdG (.string (bytesOf [x124])) rfl (by kernel_rfl) (rd_bytes (P := Tryd.prog) (h := h128) (c := 1) [x124] ⟨Blk.cell (New.blk hN129) 0 (by kernel_rfl), trivial⟩ (by kernel_rfl)) ?_
   obtain ⟨hc130, hM⟩ := hM
   refine owp_rdG (.string ((⟨#[27, 79]⟩ : ByteArray) ++ (bytesOf [x124]))) rfl (by kernel_rfl) (rd_cat (P := Tryd.prog) (h := h128) (x := (⟨#[27, 79]⟩ : ByteArray)) (y := (bytesOf [x124])) hc130 (by kernel_rfl)) ?_
   refine oS [(4, .string ((⟨#[27, 79]⟩ : ByteArray) ++ (bytesOf [x124])))] rfl ?_
   refine oE (cwp_ret (blockE_r (thenE_r ?_)))
   replace hM := hM _ (New.ext hN129)
   exact ret_ (.string ((⟨#[27, 79]⟩ : ByteArray) ++ (bytesOf [x124]))) (by kernel_rfl) ⟨_, rfl, hM⟩
 replace hM := ifF hc123 hM
 refine cwp_skip (blockE_n (thenE_n (cR ?_)))
 refine oS [(64, .pointer (some ⟨b17, 1, none⟩))] rfl ?_
 obtain ⟨x131, hc132, hM⟩ := hM
 refine owp_rdG (.int .u8 x131) rfl (by kernel_rfl) (Eq.trans (b := (cellH h24 ⟨b17, 1, none⟩).bind fun v133 => some (.value v133)) (by kernel_rfl) (bindE hc132 _)) ?_
 refine owp_hpG rfl (by kernel_rfl) (hpNewS #[.int .u8 x131] 5 1 (fun _ => by kernel_rfl) ?_)
 intro b134 h135 hN136
 refine owp_rdG (.string (bytesOf [x131])) rfl (by kernel_rfl) (rd_bytes (P := Tryd.prog) (h := h135) (c := 1) [x131] ⟨Blk.cell (New.blk hN136) 0 (by kernel_rfl), trivial⟩ (by kernel_rfl)) ?_
 obtain ⟨hc137, hM⟩ := hM
 refine owp_rdG (.string ((⟨#[27, 91]⟩ : ByteArray) ++ (bytesOf [x131]))) rfl (by kernel_rfl) (rd_cat (P := Tryd.prog) (h := h135) (x := (⟨#[27, 91]⟩ : ByteArray)) (y := (bytesOf [x131])) hc137 (by kernel_rfl)) ?_
 refine oS [(4, .string ((⟨#[27, 91]⟩ : ByteArray) ++ (bytesOf [x131])))] rfl ?_
 refine oE (cwp_ret ?_)
 replace hM := hM _ (New.ext hN136)
 exact ret_ (.string ((⟨#[27, 91]⟩ : ByteArray) ++ (bytesOf [x131]))) (by kernel_rfl) ⟨_, rfl, hM⟩
/- internal/stringslite.HasPrefix -/
def internal_stringslite_HasPrefix (a1 : ByteArray) (a2 : ByteArray) : Option (Bool) :=
 if ((decide ((a2.size : Int) ≤ (a1.size : Int))) = true → 0 ≤ (a2.size : Int)) then
  if ((decide ((a2.size : Int) ≤ (a1.size : Int))) = true → (a2.size : Int) ≤ (a1.size : Int)) then
   some ((decide ((a2.size : Int) ≤ (a1.size : Int))) && ((a1.extract 0 ((a2.size : Int).toNat)).toList == a2.toList))
  else none
 else none
theorem internal_stringslite_HasPrefix_ok (a1 : ByteArray) (a2 : ByteArray) (r : Bool) (h : Heap) (hM : internal_stringslite_HasPrefix a1 a2 = some r) : CallsH Tryd.prog 62 #[.string a1, .string a2] (fun v h' => v = .bool r ∧ Ext h h') h := by
 unfold internal_stringslite_HasPrefix at hM
 refine callsH_intro (n := 18) Tryd.func62 rfl rfl (by kernel_rfl) ?_
 refine cR ?_
 refine oS [(4, .bool false)] rfl ?_
 refine oE (cR ?_)
 refine oS [(5, .string a1), (6, .int .i64 (a1.size : Int)), (7, .string a2), (8, .int .i64 (a2.size : Int)), (9, .bool (decide ((a2.size : Int) ≤ (a1.size : Int)))), (10, .bool (decide ((a2.size : Int) ≤ (a1.size : Int))))] rfl ?_
 have hc7 : ((decide ((a2.size : Int) ≤ (a1.size : Int))) = true → 0 ≤ (a2.size : Int)) := ofIteO hM
 replace hM := ifTo hc7 hM
 have hc8 : ((decide ((a2.size : Int) ≤ (a1.size : Int))) = true → (a2.size : Int) ≤ (a1.size : Int)) := ofIteO hM
 replace hM := ifTo hc8 hM
 refine oB (decide ((a2.size : Int) ≤ (a1.size : Int))) 7 [9, 10] (fun b_ => [(11, iteV b_ (.string a1 : Value) undef), (12, iteV b_ (.string a2 : Value) undef), (13, iteV b_ (.int .i64 (a2.size : Int) : Value) undef), (14, iteV b_ (.string (a1.extract 0 ((a2.size : Int).toNat)) : Value) undef), (15, iteV b_ (.string a2 : Value) undef), (16, iteV b_ (.bool ((a1.extract 0 ((a2.size : Int).toNat)).toList == a2.toList) : Value) undef), (17, .bool (b_ && ((a1.extract 0 ((a2.size : Int).toNat)).toList == a2.toList)))]) rfl (fun hb5 hq6 => have hc3 := hc7 hb5; have hc4 := hc8 hb5; oS [(11, .string a1), (12, .string a2), (13, .int .i64 (a2.size : Int))] rfl (owp_rdG (.string (a1.extract 0 ((a2.size : Int).toNat))) rfl (by kernel_rfl) (rd_slHi (P := Tryd.prog) (h := h) (t := 9) (s := a1) (k := .i64) (i := (a2.size : Int)) (by kernel_rfl) hc3 hc4 (by kernel_rfl)) (oS [(15, .string a2), (16, .bool ((a1.extract 0 ((a2.size : Int).toNat)).toList == a2.toList)), (17, .bool ((a1.extract 0 ((a2.size : Int).toNat)).toList == a2.toList))] rfl (hq6)))) (fun hb9 hq10 => oS [(11, undef), (12, undef), (13, undef), (14, undef), (15, undef), (16, undef), (17, .bool false)] rfl (hq10)) ?_
 refine oS [(4, .bool ((decide ((a2.size : Int) ≤ (a1.size : Int))) && ((a1.extract 0 ((a2.size : Int).toNat)).toList == a2.toList)))] rfl ?_
 refine oE (cwp_ret ?_)
 obtain rfl := Option.some.inj hM
 exact ret_ (.bool ((decide ((a2.size : Int) ≤ (a1.size : Int))) && ((a1.extract 0 ((a2.size : Int).toNat)).toList == a2.toList))) (by kernel_rfl) ⟨rfl, Ext.refl _⟩
/- internal/stringslite.CutPrefix -/
def internal_stringslite_CutPrefix (a1 : ByteArray) (a2 : ByteArray) : Option (ByteArray × Bool) :=
 (internal_stringslite_HasPrefix a1 a2).bind fun r5 =>
 if (!r5) = true then
  some (a1, false)
 else
 if 0 ≤ (a2.size : Int) then
  if (a2.size : Int) ≤ (a1.size : Int) then
   some (a1.extract ((a2.size : Int).toNat) a1.size, true)
  else none
 else none
theorem internal_stringslite_CutPrefix_ok (a1 : ByteArray) (a2 : ByteArray) (r : ByteArray × Bool) (h : Heap) (hM : internal_stringslite_CutPrefix a1 a2 = some r) : CallsH Tryd.prog 55 #[.string a1, .string a2] (fun v h' => v = .tuple #[.string r.1, .bool r.2] ∧ Ext h h') h := by
 unfold internal_stringslite_CutPrefix at hM
 refine callsH_intro (n := 15) Tryd.func55 rfl rfl (by kernel_rfl) ?_
 refine cR ?_
 refine oS [(4, .string (⟨#[]⟩ : ByteArray)), (5, .bool false)] rfl ?_
 refine oE (cwp_seq (cR ?_))
 refine oS [(6, .string a1), (7, .string a2)] rfl ?_
 obtain ⟨r5, hr6, hM⟩ := bindO hM
 refine owp_hpG rfl (by kernel_rfl) (hpCallP 62 #[.string a1, .string a2] (.bool r5) (by kernel_rfl) (internal_stringslite_HasPrefix_ok a1 a2 r5 h hr6) ?_)
 intro h3 hx4
 refine oS [(9, .bool (!r5))] rfl ?_
 refine oE ?_
 refine cwp_condB (!r5) (by kernel_rfl) (fun hc7 => ?_) (fun hc7 => ?_)
 · replace hM := ifTo hc7 hM
   refine cR ?_
   refine oS [(10, .string a1), (4, .string a1), (5, .bool false)] rfl ?_
   refine oE (cwp_ret (thenE_r ?_))
   obtain rfl := Option.some.inj hM
   exact ret_ (.tuple #[.string a1, .bool false]) (by kernel_rfl) ⟨rfl, hx4⟩
 replace hM := ifFo hc7 hM
 refine cwp_skip (thenE_n (cR ?_))
 refine oS [(11, .string a1), (12, .string a2), (13, .int .i64 (a2.size : Int))] rfl ?_
 have hc8 : 0 ≤ (a2.size : Int) := ofIteO hM
 replace hM := ifTo hc8 hM
 have hc9 : (a2.size : Int) ≤ (a1.size : Int) := ofIteO hM
 replace hM := ifTo hc9 hM
 refine owp_rdG (.string (a1.extract ((a2.size : Int).toNat) a1.size)) rfl (by kernel_rfl) (rd_slLo (P := Tryd.prog) (h := h3) (t := 9) (s := a1) (k := .i64) (i := (a2.size : Int)) (by kernel_rfl) hc8 hc9 (by kernel_rfl)) ?_
 refine oS [(4, .string (a1.extract ((a2.size : Int).toNat) a1.size)), (5, .bool true)] rfl ?_
 refine oE (cwp_ret ?_)
 obtain rfl := Option.some.inj hM
 exact ret_ (.tuple #[.string (a1.extract ((a2.size : Int).toNat) a1.size), .bool true]) (by kernel_rfl) ⟨rfl, hx4⟩
end Go.Proofs.YtkbpnmgkdodcmaaDoor.M
