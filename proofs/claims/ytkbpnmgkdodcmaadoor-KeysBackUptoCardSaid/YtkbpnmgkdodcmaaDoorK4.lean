/-
  PRINTED BY A PROGRAM OF THIS CLAIM'S (gen.py): for each Go function a Lean function over memory, and the proof that the code comes to what it says.
-/
import Derived.Test.YtkbpnmgkdodcmaaDoorK3
import Derived.Test.YtkbpnmgkdodcmaaDoorProg
set_option linter.unusedVariables false
set_option linter.unusedSimpArgs false
set_option maxRecDepth 100000
namespace Go.Proofs.YtkbpnmgkdodcmaaDoor.M
open Go Go.Hp
/- unicode/utf8.decodeRuneInStringSlow -/
def unicode_utf8_decodeRuneInStringSlow (a1 : ByteArray) (K : Int → Int → Heap → Prop) (h : Heap) : Prop :=
 if (a1.size : Int) < 1 then
  K 65533 0 h
 else
 (0 : Int) < (a1.size : Int) ∧
 0 ≤ (byteAt a1 0) ∧
 (byteAt a1 0) < (256 : Int) ∧
 ldI h .u8 ((⟨1, 0, none⟩ : Addr).add ((byteAt a1 0).toNat * 1)) fun x7 =>
 if 240 ≤ x7 then
  (0 : Int) < (a1.size : Int) ∧
  K (iOr .i32 (iAndNot .i32 (IntKind.wrap .i32 (byteAt a1 0)) (Int.fdiv (IntKind.wrap .i32 ((IntKind.wrap .i32 (x7)) * 2 ^ 31)) (2 ^ 31))) (iAnd .i32 65533 (Int.fdiv (IntKind.wrap .i32 ((IntKind.wrap .i32 (x7)) * 2 ^ 31)) (2 ^ 31)))) 1 h
 else
 0 ≤ (Int.fdiv x7 (2 ^ 4)) ∧
 (Int.fdiv x7 (2 ^ 4)) < (16 : Int) ∧
 cellsAt h ⟨2, 0, none⟩ 0 (tab2.flatMap tab2f) ∧
 if (a1.size : Int) < (IntKind.wrap .i64 (iAnd .u8 x7 7)) then
  gap h fun h21 =>
  K 65533 1 h21
 else
 (1 : Int) < (a1.size : Int) ∧
 if ((decide ((byteAt a1 1) < ((tab2.getD ((Int.fdiv x7 (2 ^ 4))).toNat tab2d).1))) || (decide (((tab2.getD ((Int.fdiv x7 (2 ^ 4))).toNat tab2d).2) < (byteAt a1 1)))) = true then
  gap h fun h21 =>
  K 65533 1 h21
 else
 if (IntKind.wrap .i64 (iAnd .u8 x7 7)) ≤ 2 then
  gap h fun h21 =>
  K (iOr .i32 (IntKind.wrap .i32 ((IntKind.wrap .i32 (iAnd .u8 (byteAt a1 0) 31)) * 2 ^ 6)) (IntKind.wrap .i32 (iAnd .u8 (byteAt a1 1) 63))) 2 h21
 else
 (2 : Int) < (a1.size : Int) ∧
 if ((decide ((byteAt a1 2) < 128)) || (decide (191 < (byteAt a1 2)))) = true then
  gap h fun h21 =>
  K 65533 1 h21
 else
 if (IntKind.wrap .i64 (iAnd .u8 x7 7)) ≤ 3 then
  gap h fun h21 =>
  K (iOr .i32 (iOr .i32 (IntKind.wrap .i32 ((IntKind.wrap .i32 (iAnd .u8 (byteAt a1 0) 15)) * 2 ^ 12)) (IntKind.wrap .i32 ((IntKind.wrap .i32 (iAnd .u8 (byteAt a1 1) 63)) * 2 ^ 6))) (IntKind.wrap .i32 (iAnd .u8 (byteAt a1 2) 63))) 3 h21
 else
 (3 : Int) < (a1.size : Int) ∧
 if ((decide ((byteAt a1 3) < 128)) || (decide (191 < (byteAt a1 3)))) = true then
  gap h fun h21 =>
  K 65533 1 h21
 else
 gap h fun h21 =>
 K (iOr .i32 (iOr .i32 (iOr .i32 (IntKind.wrap .i32 ((IntKind.wrap .i32 (iAnd .u8 (byteAt a1 0) 7)) * 2 ^ 18)) (IntKind.wrap .i32 ((IntKind.wrap .i32 (iAnd .u8 (byteAt a1 1) 63)) * 2 ^ 12))) (IntKind.wrap .i32 ((IntKind.wrap .i32 (iAnd .u8 (byteAt a1 2) 63)) * 2 ^ 6))) (IntKind.wrap .i32 (iAnd .u8 (byteAt a1 3) 63))) 4 h21
theorem unicode_utf8_decodeRuneInStringSlow_ok (a1 : ByteArray) (K : Int → Int → Heap → Prop) (h : Heap) (hM : unicode_utf8_decodeRuneInStringSlow a1 K h) : CallsH Tryd.prog 63 #[.string a1] (fun v h' => ∃ (r50 : Int) (r51 : Int), v = .tuple #[.int .i32 r50, .int .i64 r51] ∧ K r50 r51 h') h := by
 unfold unicode_utf8_decodeRuneInStringSlow at hM
 refine callsH_intro (n := 117) Tryd.func63 rfl rfl (by kernel_rfl) ?_
 refine cR ?_
 refine oS [(2, .int .i32 0), (3, .int .i64 0)] rfl ?_
 refine oE (cR ?_)
 refine oS [(13, .string a1), (14, .int .i64 (a1.size : Int)), (4, .int .i64 (a1.size : Int))] rfl ?_
 refine oE (cwp_seq (cR ?_))
 refine oS [(15, .int .i64 (a1.size : Int)), (16, .bool (decide ((a1.size : Int) < 1)))] rfl ?_
 refine oE ?_
 refine cwp_condD ((a1.size : Int) < 1) (by kernel_rfl) (fun hc2 => ?_) (fun hc2 => ?_)
 · replace hM := ifT hc2 hM
   refine cR ?_
   refine oS [(2, .int .i32 65533), (3, .int .i64 0)] rfl ?_
   refine oE (cwp_ret (thenE_r ?_))
   exact ret_ (.tuple #[.int .i32 65533, .int .i64 0]) (by kernel_rfl) ⟨_, _, rfl, hM⟩
 replace hM := ifF hc2 hM
 refine cwp_skip (thenE_n (cR ?_))
 refine oS [(17, .string a1)] rfl ?_
 have hc3 : 0 ≤ (0 : Int) := by decide
 obtain ⟨hc4, hM⟩ := hM
 refine owp_rdG (.int .u8 (byteAt a1 0)) rfl (by kernel_rfl) (rd_ixStr (P := Tryd.prog) (h := h) (t := 9) (s := a1) (k := .i64) (i := 0) (by kernel_rfl) hc3 hc4 (by kernel_rfl)) ?_
 refine oS [(5, .int .u8 (byteAt a1 0))] rfl ?_
 refine oE (cR ?_)
 refine oS [(19, .int .u8 (byteAt a1 0))] rfl ?_
 obtain ⟨hc5, hM⟩ := hM
 obtain ⟨hc6, hM⟩ := hM
 refine owp_rdG (.pointer (some ((⟨1, 0, none⟩ : Addr).add ((byteAt a1 0).toNat * 1)))) rfl (by kernel_rfl) (rd_ixA (P := Tryd.prog) (h := h) (t := 80) (el := 5) (sz := 1) (len := 256) (ad := ⟨1, 0, none⟩) (k := .u8) (i := (byteAt a1 0)) (by kernel_rfl) (by kernel_rfl) hc5 hc6 (by kernel_rfl)) ?_
 obtain ⟨x7, hc8, hM⟩ := hM
 refine owp_rdG (.int .u8 x7) rfl (by kernel_rfl) (Eq.trans (b := (cellH h ((⟨1, 0, none⟩ : Addr).add ((byteAt a1 0).toNat * 1))).bind fun v9 => some (.value v9)) (by kernel_rfl) (bindE hc8 _)) ?_
 refine oS [(6, .int .u8 x7)] rfl ?_
 refine oE (cwp_seq (cR ?_))
 refine oS [(22, .int .u8 x7), (23, .bool (decide (240 ≤ x7)))] rfl ?_
 refine oE ?_
 refine cwp_condD (240 ≤ x7) (by kernel_rfl) (fun hc10 => ?_) (fun hc10 => ?_)
 · replace hM := ifT hc10 hM
   refine cR ?_
   refine oS [(24, .int .u8 x7), (25, .int .i32 (IntKind.wrap .i32 (x7))), (26, .int .i32 (IntKind.wrap .i32 ((IntKind.wrap .i32 (x7)) * 2 ^ 31))), (27, .int .i32 (Int.fdiv (IntKind.wrap .i32 ((IntKind.wrap .i32 (x7)) * 2 ^ 31)) (2 ^ 31))), (7, .int .i32 (Int.fdiv (IntKind.wrap .i32 ((IntKind.wrap .i32 (x7)) * 2 ^ 31)) (2 ^ 31)))] rfl ?_
   refine oE (cR ?_)
   refine oS [(28, .string a1)] rfl ?_
   have hc11 : 0 ≤ (0 : Int) := by decide
   obtain ⟨hc12, hM⟩ := hM
   refine owp_rdG (.int .u8 (byteAt a1 0)) rfl (by kernel_rfl) (rd_ixStr (P := Tryd.prog) (h := h) (t := 9) (s := a1) (k := .i64) (i := 0) (by kernel_rfl) hc11 hc12 (by kernel_rfl)) ?_
   refine oS [(30, .int .i32 (IntKind.wrap .i32 (byteAt a1 0))), (31, .int .i32 (Int.fdiv (IntKind.wrap .i32 ((IntKind.wrap .i32 (x7)) * 2 ^ 31)) (2 ^ 31))), (32, .int .i32 (iAndNot .i32 (IntKind.wrap .i32 (byteAt a1 0)) (Int.fdiv (IntKind.wrap .i32 ((IntKind.wrap .i32 (x7)) * 2 ^ 31)) (2 ^ 31)))), (33, .int .i32 (Int.fdiv (IntKind.wrap .i32 ((IntKind.wrap .i32 (x7)) * 2 ^ 31)) (2 ^ 31))), (34, .int .i32 (iAnd .i32 65533 (Int.fdiv (IntKind.wrap .i32 ((IntKind.wrap .i32 (x7)) * 2 ^ 31)) (2 ^ 31)))), (35, .int .i32 (iOr .i32 (iAndNot .i32 (IntKind.wrap .i32 (byteAt a1 0)) (Int.fdiv (IntKind.wrap .i32 ((IntKind.wrap .i32 (x7)) * 2 ^ 31)) (2 ^ 31))) (iAnd .i32 65533 (Int.fdiv (IntKind.wrap .i32 ((IntKind.wrap .i32 (x7)) * 2 ^ 31)) (2 ^ 31))))), (2, .int .i32 (iOr .i32 (iAndNot .i32 (IntKind.wrap .i32 (byteAt a1 0)) (Int.fdiv (IntKind.wrap .i32 ((IntKind.wrap .i32 (x7)) * 2 ^ 31)) (2 ^ 31))) (iAnd .i32 65533 (Int.fdiv (IntKind.wrap .i32 ((IntKind.wrap .i32 (x7)) * 2 ^ 31)) (2 ^ 31))))), (3, .int .i64 1)] rfl ?_
   refine oE (cwp_ret (thenE_r ?_))
   exact ret_ (.tuple #[.int .i32 (iOr .i32 (iAndNot .i32 (IntKind.wrap .i32 (byteAt a1 0)) (Int.fdiv (IntKind.wrap .i32 ((IntKind.wrap .i32 (x7)) * 2 ^ 31)) (2 ^ 31))) (iAnd .i32 65533 (Int.fdiv (IntKind.wrap .i32 ((IntKind.wrap .i32 (x7)) * 2 ^ 31)) (2 ^ 31)))), .int .i64 1]) (by kernel_rfl) ⟨_, _, rfl, hM⟩
 replace hM := ifF hc10 hM
 refine cwp_skip (thenE_n (cR ?_))
 refine oS [(36, .int .u8 x7), (37, .int .u8 (iAnd .u8 x7 7)), (38, .int .i64 (IntKind.wrap .i64 (iAnd .u8 x7 7))), (8, .int .i64 (IntKind.wrap .i64 (iAnd .u8 x7 7)))] rfl ?_
 refine oE (cR ?_)
 refine oS [(39, .int .u8 x7), (40, .int .u8 (Int.fdiv x7 (2 ^ 4)))] rfl ?_
 obtain ⟨hc13, hM⟩ := hM
 obtain ⟨hc14, hM⟩ := hM
 refine owp_rdG (.pointer (some ((⟨2, 0, none⟩ : Addr).add (((Int.fdiv x7 (2 ^ 4))).toNat * 2)))) rfl (by kernel_rfl) (rd_ixA (P := Tryd.prog) (h := h) (t := 84) (el := 83) (sz := 2) (len := 16) (ad := ⟨2, 0, none⟩) (k := .u8) (i := (Int.fdiv x7 (2 ^ 4))) (by kernel_rfl) (by kernel_rfl) hc13 hc14 (by kernel_rfl)) ?_
 obtain ⟨hc15, hM⟩ := hM
 refine owp_rdG (.agg #[.int .u8 ((tab2.getD ((Int.fdiv x7 (2 ^ 4))).toNat tab2d).1), .int .u8 ((tab2.getD ((Int.fdiv x7 (2 ^ 4))).toNat tab2d).2)]) rfl (by kernel_rfl) (Eq.trans (b := (cellH h ((⟨2, 0, none⟩ : Addr).add (((Int.fdiv x7 (2 ^ 4))).toNat * 2))).bind fun v16 => (cellH h (((⟨2, 0, none⟩ : Addr).add (((Int.fdiv x7 (2 ^ 4))).toNat * 2)).add 1)).bind fun v17 => some (.value (.agg #[v16, v17]))) (by kernel_rfl) ((bindE (cell_tab0 tab2f tab2 tab2d hc15 (fun _ => rfl) (ltTab hc13 hc14 (by kernel_rfl)) rfl) _).trans (bindE (cell_tab tab2f tab2 tab2d hc15 (fun _ => rfl) (ltTab hc13 hc14 (by kernel_rfl)) 1 rfl) _))) ?_
 refine owp_hpG rfl (by kernel_rfl) (hpNew #[.int .u8 0, .int .u8 0] 83 (fun _ => by kernel_rfl) ?_)
 intro b18 h19 hN20
 refine owp_hpD rfl (by kernel_rfl) (hpStB b18 0 [.int .u8 ((tab2.getD ((Int.fdiv x7 (2 ^ 4))).toNat tab2d).1), .int .u8 ((tab2.getD ((Int.fdiv x7 (2 ^ 4))).toNat tab2d).2)] (New.blk hN20) (fun _ => by kernel_rfl) rfl rfl ?_)
 intro h21 hP22
 have f23 : Blk h21 b18 #[.int .u8 ((tab2.getD ((Int.fdiv x7 (2 ^ 4))).toNat tab2d).1), .int .u8 ((tab2.getD ((Int.fdiv x7 (2 ^ 4))).toNat tab2d).2)] 83 := hP22.blk
 refine oE (cwp_seq (cR ?_))
 refine oS [(43, .int .i64 (a1.size : Int)), (44, .int .i64 (IntKind.wrap .i64 (iAnd .u8 x7 7))), (45, .bool (decide ((a1.size : Int) < (IntKind.wrap .i64 (iAnd .u8 x7 7)))))] rfl ?_
 refine oE ?_
 refine cwp_condD ((a1.size : Int) < (IntKind.wrap .i64 (iAnd .u8 x7 7))) (by kernel_rfl) (fun hc24 => ?_) (fun hc24 => ?_)
 · replace hM := ifT hc24 hM
   refine cR ?_
   refine oS [(2, .int .i32 65533), (3, .int .i64 1)] rfl ?_
   refine oE (cwp_ret (thenE_r ?_))
   replace hM := hM _ (Put.ext hP22 (New.ext hN20) (New.ge hN20 (Ext.refl _)))
   exact ret_ (.tuple #[.int .i32 65533, .int .i64 1]) (by kernel_rfl) ⟨_, _, rfl, hM⟩
 replace hM := ifF hc24 hM
 refine cwp_skip (thenE_n (cR ?_))
 refine oS [(46, .string a1)] rfl ?_
 have hc25 : 0 ≤ (1 : Int) := by decide
 obtain ⟨hc26, hM⟩ := hM
 refine owp_rdG (.int .u8 (byteAt a1 1)) rfl (by kernel_rfl) (rd_ixStr (P := Tryd.prog) (h := h21) (t := 9) (s := a1) (k := .i64) (i := 1) (by kernel_rfl) hc25 hc26 (by kernel_rfl)) ?_
 refine oS [(10, .int .u8 (byteAt a1 1))] rfl ?_
 refine oE (cwp_seq (cR ?_))
 refine oS [(48, .int .u8 (byteAt a1 1)), (49, .pointer (some ⟨b18, 0, none⟩))] rfl ?_
 refine owp_rdG (.int .u8 ((tab2.getD ((Int.fdiv x7 (2 ^ 4))).toNat tab2d).1)) rfl (by kernel_rfl) (Eq.trans (b := (cellH h21 ⟨b18, 0, none⟩).bind fun v27 => some (.value v27)) (by kernel_rfl) (bindE (Blk.cell f23 0 (by kernel_rfl)) _)) ?_
 refine oS [(51, .bool (decide ((byteAt a1 1) < ((tab2.getD ((Int.fdiv x7 (2 ^ 4))).toNat tab2d).1)))), (52, .bool (decide ((byteAt a1 1) < ((tab2.getD ((Int.fdiv x7 (2 ^ 4))).toNat tab2d).1))))] rfl ?_
 refine oB (decide ((byteAt a1 1) < ((tab2.getD ((Int.fdiv x7 (2 ^ 4))).toNat tab2d).1))) 5 [51, 52] (fun b_ => [(53, iteV b_ undef (.pointer (some ⟨b18, 1, none⟩) : Value)), (54, iteV b_ undef (.int .u8 ((tab2.getD ((Int.fdiv x7 (2 ^ 4))).toNat tab2d).2) : Value)), (55, iteV b_ undef (.int .u8 (byteAt a1 1) : Value)), (56, iteV b_ undef (.bool (decide (((tab2.getD ((Int.fdiv x7 (2 ^ 4))).toNat tab2d).2) < (byteAt a1 1))) : Value)), (57, .bool (b_ || (decide (((tab2.getD ((Int.fdiv x7 (2 ^ 4))).toNat tab2d).2) < (byteAt a1 1)))))]) rfl (fun hb29 hq30 => oS [(53, undef), (54, undef), (55, undef), (56, undef), (57, .bool true)] rfl (hq30)) (fun hb31 hq32 => oS [(53, .pointer (some ⟨b18, 1, none⟩))] rfl (owp_rdG (.int .u8 ((tab2.getD ((Int.fdiv x7 (2 ^ 4))).toNat tab2d).2)) rfl (by kernel_rfl) (Eq.trans (b := (cellH h21 ⟨b18, 1, none⟩).bind fun v28 => some (.value v28)) (by kernel_rfl) (bindE (Blk.cell f23 1 (by kernel_rfl)) _)) (oS [(55, .int .u8 (byteAt a1 1)), (56, .bool (decide (((tab2.getD ((Int.fdiv x7 (2 ^ 4))).toNat tab2d).2) < (byteAt a1 1)))), (57, .bool (decide (((tab2.getD ((Int.fdiv x7 (2 ^ 4))).toNat tab2d).2) < (byteAt a1 1))))] rfl (hq32)))) ?_
 refine oE ?_
 refine cwp_condB ((decide ((byteAt a1 1) < ((tab2.getD ((Int.fdiv x7 (2 ^ 4))).toNat tab2d).1))) || (decide (((tab2.getD ((Int.fdiv x7 (2 ^ 4))).toNat tab2d).2) < (byteAt a1 1)))) (by kernel_rfl) (fun hc33 => ?_) (fun hc33 => ?_)
 · replace hM := ifT hc33 hM
   refine cR ?_
   refine oS [(2, .int .i32 65533), (3, .int .i64 1)] rfl ?_
   refine oE (cwp_ret (thenE_r ?_))
   replace hM := hM _ (Put.ext hP22 (New.ext hN20) (New.ge hN20 (Ext.refl _)))
   exact ret_ (.tuple #[.int .i32 65533, .int .i64 1]) (by kernel_rfl) ⟨_, _, rfl, hM⟩
 replace hM := ifF hc33 hM
 refine cwp_skip (thenE_n (cwp_seq (cR ?_)))
 refine oS [(58, .int .i64 (IntKind.wrap .i64 (iAnd .u8 x7 7))), (59, .bool (decide ((IntKind.wrap .i64 (iAnd .u8 x7 7)) ≤ 2)))] rfl ?_
 refine oE ?_
 refine cwp_condD ((IntKind.wrap .i64 (iAnd .u8 x7 7)) ≤ 2) (by kernel_rfl) (fun hc34 => ?_) (fun hc34 => ?_)
 · replace hM := ifT hc34 hM
   refine cR ?_
   refine oS [(60, .int .u8 (byteAt a1 0)), (61, .int .u8 (iAnd .u8 (byteAt a1 0) 31)), (62, .int .i32 (IntKind.wrap .i32 (iAnd .u8 (byteAt a1 0) 31))), (63, .int .i32 (IntKind.wrap .i32 ((IntKind.wrap .i32 (iAnd .u8 (byteAt a1 0) 31)) * 2 ^ 6))), (64, .int .u8 (byteAt a1 1)), (65, .int .u8 (iAnd .u8 (byteAt a1 1) 63)), (66, .int .i32 (IntKind.wrap .i32 (iAnd .u8 (byteAt a1 1) 63))), (67, .int .i32 (iOr .i32 (IntKind.wrap .i32 ((IntKind.wrap .i32 (iAnd .u8 (byteAt a1 0) 31)) * 2 ^ 6)) (IntKind.wrap .i32 (iAnd .u8 (byteAt a1 1) 63)))), (2, .int .i32 (iOr .i32 (IntKind.wrap .i32 ((IntKind.wrap .i32 (iAnd .u8 (byteAt a1 0) 31)) * 2 ^ 6)) (IntKind.wrap .i32 (iAnd .u8 (byteAt a1 1) 63)))), (3, .int .i64 2)] rfl ?_
   refine oE (cwp_ret (thenE_r ?_))
   replace hM := hM _ (Put.ext hP22 (New.ext hN20) (New.ge hN20 (Ext.refl _)))
   exact ret_ (.tuple #[.int .i32 (iOr .i32 (IntKind.wrap .i32 ((IntKind.wrap .i32 (iAnd .u8 (byteAt a1 0) 31)) * 2 ^ 6)) (IntKind.wrap .i32 (iAnd .u8 (byteAt a1 1) 63))), .int .i64 2]) (by kernel_rfl) ⟨_, _, rfl, hM⟩
 replace hM := ifF hc34 hM
 refine cwp_skip (thenE_n (cR ?_))
 refine oS [(68, .string a1)] rfl ?_
 have hc35 : 0 ≤ (2 : Int) := by decide
 obtain ⟨hc36, hM⟩ := hM
 refine owp_rdG (.int .u8 (byteAt a1 2)) rfl (by kernel_rfl) (rd_ixStr (P := Tryd.prog) (h := h21) (t := 9) (s := a1) (k := .i64) (i := 2) (by kernel_rfl) hc35 hc36 (by kernel_rfl)) ?_
 refine oS [(11, .int .u8 (byteAt a1 2))] rfl ?_
 refine oE (cwp_seq (cR ?_))
 refine oS [(70, .int .u8 (byteAt a1 2)), (71, .bool (decide ((byteAt a1 2) < 128))), (72, .bool (decide ((byteAt a1 2) < 128)))] rfl ?_
 refine oB (decide ((byteAt a1 2) < 128)) 3 [71, 72] (fun b_ => [(73, iteV b_ undef (.int .u8 (byteAt a1 2) : Value)), (74, iteV b_ undef (.bool (decide (191 < (byteAt a1 2))) : Value)), (75, .bool (b_ || (decide (191 < (byteAt a1 2)))))]) rfl (fun hb37 hq38 => oS [(73, undef), (74, undef), (75, .bool true)] rfl (hq38)) (fun hb39 hq40 => oS [(73, .int .u8 (byteAt a1 2)), (74, .bool (decide (191 < (byteAt a1 2)))), (75, .bool (decide (191 < (byteAt a1 2))))] rfl (hq40)) ?_
 refine oE ?_
 refine cwp_condB ((decide ((byteAt a1 2) < 128)) || (decide (191 < (byteAt a1 2)))) (by kernel_rfl) (fun hc41 => ?_) (fun hc41 => ?_)
 · replace hM := ifT hc41 hM
   refine cR ?_
   refine oS [(2, .int .i32 65533), (3, .int .i64 1)] rfl ?_
   refine oE (cwp_ret (thenE_r ?_))
   replace hM := hM _ (Put.ext hP22 (New.ext hN20) (New.ge hN20 (Ext.refl _)))
   exact ret_ (.tuple #[.int .i32 65533, .int .i64 1]) (by kernel_rfl) ⟨_, _, rfl, hM⟩
 replace hM := ifF hc41 hM
 refine cwp_skip (thenE_n (cwp_seq (cR ?_)))
 refine oS [(76, .int .i64 (IntKind.wrap .i64 (iAnd .u8 x7 7))), (77, .bool (decide ((IntKind.wrap .i64 (iAnd .u8 x7 7)) ≤ 3)))] rfl ?_
 refine oE ?_
 refine cwp_condD ((IntKind.wrap .i64 (iAnd .u8 x7 7)) ≤ 3) (by kernel_rfl) (fun hc42 => ?_) (fun hc42 => ?_)
 · replace hM := ifT hc42 hM
   refine cR ?_
   refine oS [(78, .int .u8 (byteAt a1 0)), (79, .int .u8 (iAnd .u8 (byteAt a1 0) 15)), (80, .int .i32 (IntKind.wrap .i32 (iAnd .u8 (byteAt a1 0) 15))), (81, .int .i32 (IntKind.wrap .i32 ((IntKind.wrap .i32 (iAnd .u8 (byteAt a1 0) 15)) * 2 ^ 12))), (82, .int .u8 (byteAt a1 1)), (83, .int .u8 (iAnd .u8 (byteAt a1 1) 63)), (84, .int .i32 (IntKind.wrap .i32 (iAnd .u8 (byteAt a1 1) 63))), (85, .int .i32 (IntKind.wrap .i32 ((IntKind.wrap .i32 (iAnd .u8 (byteAt a1 1) 63)) * 2 ^ 6))), (86, .int .i32 (iOr .i32 (IntKind.wrap .i32 ((IntKind.wrap .i32 (iAnd .u8 (byteAt a1 0) 15)) * 2 ^ 12)) (IntKind.wrap .i32 ((IntKind.wrap .i32 (iAnd .u8 (byteAt a1 1) 63)) * 2 ^ 6)))), (87, .int .u8 (byteAt a1 2)), (88, .int .u8 (iAnd .u8 (byteAt a1 2) 63)), (89, .int .i32 (IntKind.wrap .i32 (iAnd .u8 (byteAt a1 2) 63))), (90, .int .i32 (iOr .i32 (iOr .i32 (IntKind.wrap .i32 ((IntKind.wrap .i32 (iAnd .u8 (byteAt a1 0) 15)) * 2 ^ 12)) (IntKind.wrap .i32 ((IntKind.wrap .i32 (iAnd .u8 (byteAt a1 1) 63)) * 2 ^ 6))) (IntKind.wrap .i32 (iAnd .u8 (byteAt a1 2) 63)))), (2, .int .i32 (iOr .i32 (iOr .i32 (IntKind.wrap .i32 ((IntKind.wrap .i32 (iAnd .u8 (byteAt a1 0) 15)) * 2 ^ 12)) (IntKind.wrap .i32 ((IntKind.wrap .i32 (iAnd .u8 (byteAt a1 1) 63)) * 2 ^ 6))) (IntKind.wrap .i32 (iAnd .u8 (byteAt a1 2) 63)))), (3, .int .i64 3)] rfl ?_
   refine oE (cwp_ret (thenE_r ?_))
   replace hM := hM _ (Put.ext hP22 (New.ext hN20) (New.ge hN20 (Ext.refl _)))
   exact ret_ (.tuple #[.int .i32 (iOr .i32 (iOr .i32 (IntKind.wrap .i32 ((IntKind.wrap .i32 (iAnd .u8 (byteAt a1 0) 15)) * 2 ^ 12)) (IntKind.wrap .i32 ((IntKind.wrap .i32 (iAnd .u8 (byteAt a1 1) 63)) * 2 ^ 6))) (IntKind.wrap .i32 (iAnd .u8 (byteAt a1 2) 63))), .int .i64 3]) (by kernel_rfl) ⟨_, _, rfl, hM⟩
 replace hM := ifF hc42 hM
 refine cwp_skip (thenE_n (cR ?_))
 refine oS [(91, .string a1)] rfl ?_
 have hc43 : 0 ≤ (3 : Int) := by decide
 obtain ⟨hc44, hM⟩ := hM
 refine owp_rdG (.int .u8 (byteAt a1 3)) rfl (by kernel_rfl) (rd_ixStr (P := Tryd.prog) (h := h21) (t := 9) (s := a1) (k := .i64) (i := 3) (by kernel_rfl) hc43 hc44 (by kernel_rfl)) ?_
 refine oS [(12, .int .u8 (byteAt a1 3))] rfl ?_
 refine oE (cwp_seq (cR ?_))
 refine oS [(93, .int .u8 (byteAt a1 3)), (94, .bool (decide ((byteAt a1 3) < 128))), (95, .bool (decide ((byteAt a1 3) < 128)))] rfl ?_
 refine oB (decide ((byteAt a1 3) < 128)) 3 [94, 95] (fun b_ => [(96, iteV b_ undef (.int .u8 (byteAt a1 3) : Value)), (97, iteV b_ undef (.bool (decide (191 < (byteAt a1 3))) : Value)), (98, .bool (b_ || (decide (191 < (byteAt a1 3)))))]) rfl (fun hb45 hq46 => oS [(96, undef), (97, undef), (98, .bool true)] rfl (hq46)) (fun hb47 hq48 => oS [(96, .int .u8 (byteAt a1 3)), (97, .bool (decide (191 < (byteAt a1 3)))), (98, .bool (decide (191 < (byteAt a1 3))))] rfl (hq48)) ?_
 refine oE ?_
 refine cwp_condB ((decide ((byteAt a1 3) < 128)) || (decide (191 < (byteAt a1 3)))) (by kernel_rfl) (fun hc49 => ?_) (fun hc49 => ?_)
 · replace hM := ifT hc49 hM
   refine cR ?_
   refine oS [(2, .int .i32 65533), (3, .int .i64 1)] rfl ?_
   refine oE (cwp_ret (thenE_r ?_))
   replace hM := hM _ (Put.ext hP22 (New.ext hN20) (New.ge hN20 (Ext.refl _)))
   exact ret_ (.tuple #[.int .i32 65533, .int .i64 1]) (by kernel_rfl) ⟨_, _, rfl, hM⟩
 replace hM := ifF hc49 hM
 refine cwp_skip (thenE_n (cR ?_))
 refine oS [(99, .int .u8 (byteAt a1 0)), (100, .int .u8 (iAnd .u8 (byteAt a1 0) 7)), (101, .int .i32 (IntKind.wrap .i32 (iAnd .u8 (byteAt a1 0) 7))), (102, .int .i32 (IntKind.wrap .i32 ((IntKind.wrap .i32 (iAnd .u8 (byteAt a1 0) 7)) * 2 ^ 18))), (103, .int .u8 (byteAt a1 1)), (104, .int .u8 (iAnd .u8 (byteAt a1 1) 63)), (105, .int .i32 (IntKind.wrap .i32 (iAnd .u8 (byteAt a1 1) 63))), (106, .int .i32 (IntKind.wrap .i32 ((IntKind.wrap .i32 (iAnd .u8 (byteAt a1 1) 63)) * 2 ^ 12))), (107, .int .i32 (iOr .i32 (IntKind.wrap .i32 ((IntKind.wrap .i32 (iAnd .u8 (byteAt a1 0) 7)) * 2 ^ 18)) (IntKind.wrap .i32 ((IntKind.wrap .i32 (iAnd .u8 (byteAt a1 1) 63)) * 2 ^ 12)))), (108, .int .u8 (byteAt a1 2)), (109, .int .u8 (iAnd .u8 (byteAt a1 2) 63)), (110, .int .i32 (IntKind.wrap .i32 (iAnd .u8 (byteAt a1 2) 63))), (111, .int .i32 (IntKind.wrap .i32 ((IntKind.wrap .i32 (iAnd .u8 (byteAt a1 2) 63)) * 2 ^ 6))), (112, .int .i32 (iOr .i32 (iOr .i32 (IntKind.wrap .i32 ((IntKind.wrap .i32 (iAnd .u8 (byteAt a1 0) 7)) * 2 ^ 18)) (IntKind.wrap .i32 ((IntKind.wrap .i32 (iAnd .u8 (byteAt a1 1) 63)) * 2 ^ 12))) (IntKind.wrap .i32 ((IntKind.wrap .i32 (iAnd .u8 (byteAt a1 2) 63)) * 2 ^ 6)))), (113, .int .u8 (byteAt a1 3)), (114, .int .u8 (iAnd .u8 (byteAt a1 3) 63)), (115, .int .i32 (IntKind.wrap .i32 (iAnd .u8 (byteAt a1 3) 63))), (116, .int .i32 (iOr .i32 (iOr .i32 (iOr .i32 (IntKind.wrap .i32 ((IntKind.wrap .i32 (iAnd .u8 (byteAt a1 0) 7)) * 2 ^ 18)) (IntKind.wrap .i32 ((IntKind.wrap .i32 (iAnd .u8 (byteAt a1 1) 63)) * 2 ^ 12))) (IntKind.wrap .i32 ((IntKind.wrap .i32 (iAnd .u8 (byteAt a1 2) 63)) * 2 ^ 6))) (IntKind.wrap .i32 (iAnd .u8 (byteAt a1 3) 63)))), (2, .int .i32 (iOr .i32 (iOr .i32 (iOr .i32 (IntKind.wrap .i32 ((IntKind.wrap .i32 (iAnd .u8 (byteAt a1 0) 7)) * 2 ^ 18)) (IntKind.wrap .i32 ((IntKind.wrap .i32 (iAnd .u8 (byteAt a1 1) 63)) * 2 ^ 12))) (IntKind.wrap .i32 ((IntKind.wrap .i32 (iAnd .u8 (byteAt a1 2) 63)) * 2 ^ 6))) (IntKind.wrap .i32 (iAnd .u8 (byteAt a1 3) 63)))), (3, .int .i64 4)] rfl ?_
 refine oE (cwp_ret ?_)
 replace hM := hM _ (Put.ext hP22 (New.ext hN20) (New.ge hN20 (Ext.refl _)))
 exact ret_ (.tuple #[.int .i32 (iOr .i32 (iOr .i32 (iOr .i32 (IntKind.wrap .i32 ((IntKind.wrap .i32 (iAnd .u8 (byteAt a1 0) 7)) * 2 ^ 18)) (IntKind.wrap .i32 ((IntKind.wrap .i32 (iAnd .u8 (byteAt a1 1) 63)) * 2 ^ 12))) (IntKind.wrap .i32 ((IntKind.wrap .i32 (iAnd .u8 (byteAt a1 2) 63)) * 2 ^ 6))) (IntKind.wrap .i32 (iAnd .u8 (byteAt a1 3) 63))), .int .i64 4]) (by kernel_rfl) ⟨_, _, rfl, hM⟩
/- unicode/utf8.DecodeRuneInString -/
def unicode_utf8_DecodeRuneInString (a1 : ByteArray) (K : Int → Int → Heap → Prop) (h : Heap) : Prop :=
 if (!(a1.toList == (⟨#[]⟩ : ByteArray).toList)) = true then
  (0 : Int) < (a1.size : Int) ∧
  if (byteAt a1 0) < 128 then
   (0 : Int) < (a1.size : Int) ∧
   K (IntKind.wrap .i32 (byteAt a1 0)) 1 h
  else
  unicode_utf8_decodeRuneInStringSlow a1 (fun x11 x12 h10 =>
    K x11 x12 h10) h
 else
 unicode_utf8_decodeRuneInStringSlow a1 (fun x14 x15 h13 =>
   K x14 x15 h13) h
theorem unicode_utf8_DecodeRuneInString_ok (a1 : ByteArray) (K : Int → Int → Heap → Prop) (h : Heap) (hM : unicode_utf8_DecodeRuneInString a1 K h) : CallsH Tryd.prog 56 #[.string a1] (fun v h' => ∃ (r16 : Int) (r17 : Int), v = .tuple #[.int .i32 r16, .int .i64 r17] ∧ K r16 r17 h') h := by
 unfold unicode_utf8_DecodeRuneInString at hM
 refine callsH_intro (n := 19) Tryd.func56 rfl rfl (by kernel_rfl) ?_
 refine cR ?_
 refine oS [(2, .int .i32 0), (3, .int .i64 0)] rfl ?_
 refine oE (cwp_seq (cR ?_))
 refine oS [(4, .string a1), (5, .bool (!(a1.toList == (⟨#[]⟩ : ByteArray).toList))), (6, .bool (!(a1.toList == (⟨#[]⟩ : ByteArray).toList)))] rfl ?_
 by_cases hc4 : (!(a1.toList == (⟨#[]⟩ : ByteArray).toList)) = true
 · refine owp_at 5 (.bool true) (Eq.trans (b := .bool (!(a1.toList == (⟨#[]⟩ : ByteArray).toList))) (by kernel_rfl) (by rw [hc4])) ?_
   refine owp_at 6 (.bool true) (Eq.trans (b := .bool (!(a1.toList == (⟨#[]⟩ : ByteArray).toList))) (by kernel_rfl) (by rw [hc4])) ?_
   replace hM := ifT hc4 hM
   refine oS [(7, .string a1)] rfl ?_
   have hc5 : 0 ≤ (0 : Int) := by decide
   obtain ⟨hc6, hM⟩ := hM
   refine owp_rdG (.int .u8 (byteAt a1 0)) rfl (by kernel_rfl) (rd_ixStr (P := Tryd.prog) (h := h) (t := 9) (s := a1) (k := .i64) (i := 0) (by kernel_rfl) hc5 hc6 (by kernel_rfl)) ?_
   refine oS [(9, .bool (decide ((byteAt a1 0) < 128))), (10, .bool (decide ((byteAt a1 0) < 128)))] rfl ?_
   refine oE ?_
   refine cwp_condD ((byteAt a1 0) < 128) (by kernel_rfl) (fun hc7 => ?_) (fun hc7 => ?_)
   · replace hM := ifT hc7 hM
     refine cR ?_
     refine oS [(11, .string a1)] rfl ?_
     have hc8 : 0 ≤ (0 : Int) := by decide
     obtain ⟨hc9, hM⟩ := hM
     refine owp_rdG (.int .u8 (byteAt a1 0)) rfl (by kernel_rfl) (rd_ixStr (P := Tryd.prog) (h := h) (t := 9) (s := a1) (k := .i64) (i := 0) (by kernel_rfl) hc8 hc9 (by kernel_rfl)) ?_
     refine oS [(13, .int .i32 (IntKind.wrap .i32 (byteAt a1 0))), (2, .int .i32 (IntKind.wrap .i32 (byteAt a1 0))), (3, .int .i64 1)] rfl ?_
     refine oE (cwp_ret (thenE_r ?_))
     exact ret_ (.tuple #[.int .i32 (IntKind.wrap .i32 (byteAt a1 0)), .int .i64 1]) (by kernel_rfl) ⟨_, _, rfl, hM⟩
   replace hM := ifF hc7 hM
   refine cwp_region ?_
   refine oS [(15, .string a1)] rfl ?_
   refine owp_hpG rfl (by kernel_rfl) (hpCallE 63 #[.string a1] (by kernel_rfl) (unicode_utf8_decodeRuneInStringSlow_ok a1 _ h hM) ?_)
   rintro _ h10 ⟨x11, x12, rfl, hM⟩
   refine oS [(14, .tuple #[.int .i32 x11, .int .i64 x12]), (17, .int .i32 x11), (18, .int .i64 x12), (2, .int .i32 x11), (3, .int .i64 x12)] rfl ?_
   refine oE (cwp_ret ?_)
   exact ret_ (.tuple #[.int .i32 x11, .int .i64 x12]) (by kernel_rfl) ⟨_, _, rfl, hM⟩
 refine owp_at 5 (.bool false) (Eq.trans (b := .bool (!(a1.toList == (⟨#[]⟩ : ByteArray).toList))) (by kernel_rfl) (by rw [Bool.eq_false_iff.2 hc4])) ?_
 refine owp_at 6 (.bool false) (Eq.trans (b := .bool (!(a1.toList == (⟨#[]⟩ : ByteArray).toList))) (by kernel_rfl) (by rw [Bool.eq_false_iff.2 hc4])) ?_
 replace hM := ifF hc4 hM
 refine oS [(7, undef), (8, undef), (9, undef), (10, .bool false)] rfl ?_
 refine oE ?_
 refine cwp_cond (t := false) (by kernel_rfl) (fun hx_ => ?_) (fun hx_ => ?_)
 all_goals first | (cases hx_; done) | skip
 refine cwp_region ?_
 refine oS [(15, .string a1)] rfl ?_
 refine owp_hpG rfl (by kernel_rfl) (hpCallE 63 #[.string a1] (by kernel_rfl) (unicode_utf8_decodeRuneInStringSlow_ok a1 _ h hM) ?_)
 rintro _ h13 ⟨x14, x15, rfl, hM⟩
 refine oS [(14, .tuple #[.int .i32 x14, .int .i64 x15]), (17, .int .i32 x14), (18, .int .i64 x15), (2, .int .i32 x14), (3, .int .i64 x15)] rfl ?_
 refine oE (cwp_ret ?_)
 exact ret_ (.tuple #[.int .i32 x14, .int .i64 x15]) (by kernel_rfl) ⟨_, _, rfl, hM⟩
/- mullion/keys.base -/
def keys_base_l0 (K0 : ByteArray → Heap → Prop) (Kr : Int → Heap → Prop) : Nat → ByteArray → Option Addr → Nat → Nat → Int → Int → Heap → Prop
  | 0, _, _, _, _, _, _, _ => False
  | k + 1, y5, y6, y6n, y6c, y7, y8, h =>
  if y8 < y7 then
   nz y6 fun p12 =>
   0 ≤ y8 ∧
   y8 < (y6n : Int) ∧
   ldI h .i64 (p12.add ((y8).toNat * 1)) fun x13 =>
   keys_named x13 (fun x17 h16 =>
    if (x17.toList == y5.toList) = true then
     Kr x13 h16
    else
     keys_base_l0 K0 Kr k y5 (some p12) y6n y6c y7 (IntKind.wrap .i64 (y8 + 1)) h16) h
  else
  K0 y5 h
theorem keys_base_l0_ok {Q : Exit → Env → Heap → Prop} (K0 : ByteArray → Heap → Prop) (hK0 : ∀ (z22 : ByteArray) (b : Env) (h : Heap), K0 z22 h → Q (.exit 0) (upd b 0 (.string z22)) h) (Kr : Int → Heap → Prop) (hKr : ∀ (z24 : Int) (b : Env) (h : Heap), Kr z24 h → Q .ret (upd b 2 (.int .i64 z24)) h) : ∀ (k : Nat) (y5 : ByteArray) (y6 : Option Addr) (y6n : Nat) (y6c : Nat) (y7 : Int) (y8 : Int) (b : Env) (h : Heap) (hM : keys_base_l0 K0 Kr k y5 y6 y6n y6c y7 y8 h), lwp Tryd.prog (partC Tryd.f43 [1, 0, 1, 0, 0]) 44 Q k (upd (upd (upd (upd b 0 (.string y5)) 9 (.slice y6 y6n y6c)) 10 (.int .i64 y7)) 11 (.int .i64 y8)) h := by
  intro k
  induction k with
  | zero => intro y5 y6 y6n y6c y7 y8 b h hM; exact (show False from hM).elim
  | succ k ih =>
    intro y5 y6 y6n y6c y7 y8 b h hM
    unfold keys_base_l0 at hM
    refine lwp_succ (cwp_part rfl ?_)
    refine cR ?_
    refine oS [(12, .bool (decide (y8 < y7)))] rfl ?_
    refine oE (cwp_seq ?_)
    refine cwp_condD (y8 < y7) (by kernel_rfl) (fun hc9 => ?_) (fun hc9 => ?_)
    · replace hM := ifT hc9 hM
      refine cwp_skip (thenE_n (cwp_seq (cwp_block (cR ?_))))
      obtain ⟨p12, rfl, hM⟩ := hM
      obtain ⟨hc10, hM⟩ := hM
      obtain ⟨hc11, hM⟩ := hM
      refine owp_rdG (.pointer (some (p12.add ((y8).toNat * 1)))) rfl (by kernel_rfl) (rd_ixS (P := Tryd.prog) (h := h) (t := 71) (el := 3) (sz := 1) (ad := p12) (len := y6n) (c := y6c) (k := .i64) (i := y8) (by kernel_rfl) (by kernel_rfl) hc10 hc11 (by kernel_rfl)) ?_
      obtain ⟨x13, hc14, hM⟩ := hM
      refine owp_rdG (.int .i64 x13) rfl (by kernel_rfl) (Eq.trans (b := (cellH h (p12.add ((y8).toNat * 1))).bind fun v15 => some (.value v15)) (by kernel_rfl) (bindE hc14 _)) ?_
      refine oS [(4, .int .i64 x13)] rfl ?_
      refine oE (cR ?_)
      refine oS [(15, .int .i64 x13)] rfl ?_
      refine owp_hpG rfl (by kernel_rfl) (hpCallE 36 #[.int .i64 x13] (by kernel_rfl) (keys_named_ok x13 _ h hM) ?_)
      rintro _ h16 ⟨x17, rfl, hM⟩
      refine oS [(17, .string y5), (18, .bool (x17.toList == y5.toList))] rfl ?_
      refine oE ?_
      refine cwp_condB (x17.toList == y5.toList) (by kernel_rfl) (fun hc18 => ?_) (fun hc18 => ?_)
      · replace hM := ifT hc18 hM
        refine cR ?_
        refine oS [(19, .int .i64 x13), (2, .int .i64 x13)] rfl ?_
        refine oE (cwp_ret (blockE_r (thenE_r ?_)))
        exact q_at (Q := Q .ret) 2 (.int .i64 x13) (by kernel_rfl) (hKr x13 _ _ hM)
      replace hM := ifF hc18 hM
      refine cwp_skip (blockE_n (thenE_n (cwp_region ?_)))
      refine oS [(20, .int .i64 (IntKind.wrap .i64 (y8 + 1))), (11, .int .i64 (IntKind.wrap .i64 (y8 + 1)))] rfl ?_
      refine owp_nil ?_
      exact lwp_at 0 (.string y5) (by kernel_rfl) (lwp_at 9 (.slice (some p12) y6n y6c) (by kernel_rfl) (lwp_at 10 (.int .i64 y7) (by kernel_rfl) (lwp_at 11 (.int .i64 (IntKind.wrap .i64 (y8 + 1))) (by kernel_rfl) (ih y5 (some p12) y6n y6c y7 (IntKind.wrap .i64 (y8 + 1)) _ _ hM))))
    replace hM := ifF hc9 hM
    refine cwp_exit (thenE_x ?_)
    exact q_at (Q := Q (.exit 0)) 0 (.string y5) (by kernel_rfl) (hK0 y5 _ _ hM)
def keys_base_l1 (K2 : ByteArray → Heap → Prop) (Kr : Int → Heap → Prop) : Nat → ByteArray → Int → Heap → Prop
  | 0, _, _, _ => False
  | k + 1, y28, y29, h =>
  if y29 < 22 then
   0 ≤ y29 ∧
   y29 < (22 : Int) ∧
   if (((tab0.getD (y29).toNat tab0d).1).toList == y28.toList) = true then
    gap h fun h36 =>
    Kr (IntKind.wrap .i64 (16777217 + y29)) h36
   else
   gap h fun h36 =>
   keys_base_l1 K2 Kr k y28 (IntKind.wrap .i64 (y29 + 1)) h36
  else
  K2 y28 h
theorem keys_base_l1_ok {Q : Exit → Env → Heap → Prop} (K2 : ByteArray → Heap → Prop) (hK2 : ∀ (z44 : ByteArray) (b : Env) (h : Heap), K2 z44 h → Q (.exit 2) (upd b 0 (.string z44)) h) (Kr : Int → Heap → Prop) (hKr : ∀ (z46 : Int) (b : Env) (h : Heap), Kr z46 h → Q .ret (upd b 2 (.int .i64 z46)) h) : ∀ (k : Nat) (y28 : ByteArray) (y29 : Int) (b : Env) (h : Heap) (hM : keys_base_l1 K2 Kr k y28 y29 h), lwp Tryd.prog (partC Tryd.f43 [1, 1, 0, 1, 0, 0]) 44 Q k (upd (upd (upd b 0 (.string y28)) 21 ((.agg (tab0.flatMap tab0f).toArray))) 22 (.int .i64 y29)) h := by
  intro k
  induction k with
  | zero => intro y28 y29 b h hM; exact (show False from hM).elim
  | succ k ih =>
    intro y28 y29 b h hM
    unfold keys_base_l1 at hM
    refine lwp_succ (cwp_part rfl ?_)
    refine cR ?_
    refine oS [(23, .bool (decide (y29 < 22)))] rfl ?_
    refine oE (cwp_seq ?_)
    refine cwp_condD (y29 < 22) (by kernel_rfl) (fun hc30 => ?_) (fun hc30 => ?_)
    · replace hM := ifT hc30 hM
      refine cwp_skip (thenE_n (cwp_seq (cwp_block (cR ?_))))
      refine oS [(24, .int .i64 y29)] rfl ?_
      obtain ⟨hc31, hM⟩ := hM
      obtain ⟨hc32, hM⟩ := hM
      refine owp_rdG (.agg #[.string ((tab0.getD (y29).toNat tab0d).1), .int .u8 ((tab0.getD (y29).toNat tab0d).2.1), .int .i64 ((tab0.getD (y29).toNat tab0d).2.2.1), .bool ((tab0.getD (y29).toNat tab0d).2.2.2)]) rfl (by kernel_rfl) (rd_ixTab (P := Tryd.prog) (h := h) (t := 69) (el := 68) (sz := 4) (len := 22) (k := .i64) (i := y29) tab0f tab0 tab0d (fun _ => rfl) (by kernel_rfl) (by kernel_rfl) (by kernel_rfl) Tryd.underlying68 hc31 hc32 (by kernel_rfl)) ?_
      refine owp_hpG rfl (by kernel_rfl) (hpNew #[.string (⟨#[]⟩ : ByteArray), .int .u8 0, .int .i64 0, .bool false] 68 (fun _ => by kernel_rfl) ?_)
      intro b33 h34 hN35
      refine oS [(5, .int .i64 y29)] rfl ?_
      refine owp_hpD rfl (by kernel_rfl) (hpStB b33 0 [.string ((tab0.getD (y29).toNat tab0d).1), .int .u8 ((tab0.getD (y29).toNat tab0d).2.1), .int .i64 ((tab0.getD (y29).toNat tab0d).2.2.1), .bool ((tab0.getD (y29).toNat tab0d).2.2.2)] (New.blk hN35) (fun _ => by kernel_rfl) rfl rfl ?_)
      intro h36 hP37
      have f38 : Blk h36 b33 #[.string ((tab0.getD (y29).toNat tab0d).1), .int .u8 ((tab0.getD (y29).toNat tab0d).2.1), .int .i64 ((tab0.getD (y29).toNat tab0d).2.2.1), .bool ((tab0.getD (y29).toNat tab0d).2.2.2)] 68 := hP37.blk
      refine oE (cR ?_)
      refine oS [(26, .pointer (some ⟨b33, 0, none⟩))] rfl ?_
      refine owp_rdG (.string ((tab0.getD (y29).toNat tab0d).1)) rfl (by kernel_rfl) (Eq.trans (b := (cellH h36 ⟨b33, 0, none⟩).bind fun v39 => some (.value v39)) (by kernel_rfl) (bindE (Blk.cell f38 0 (by kernel_rfl)) _)) ?_
      refine oS [(28, .string y28), (29, .bool (((tab0.getD (y29).toNat tab0d).1).toList == y28.toList))] rfl ?_
      refine oE ?_
      refine cwp_condB (((tab0.getD (y29).toNat tab0d).1).toList == y28.toList) (by kernel_rfl) (fun hc40 => ?_) (fun hc40 => ?_)
      · replace hM := ifT hc40 hM
        refine cR ?_
        refine oS [(30, .int .i64 y29), (31, .int .i64 (IntKind.wrap .i64 (16777217 + y29))), (2, .int .i64 (IntKind.wrap .i64 (16777217 + y29)))] rfl ?_
        refine oE (cwp_ret (blockE_r (thenE_r ?_)))
        replace hM := hM _ (Put.ext hP37 (New.ext hN35) (New.ge hN35 (Ext.refl _)))
        exact q_at (Q := Q .ret) 2 (.int .i64 (IntKind.wrap .i64 (16777217 + y29))) (by kernel_rfl) (hKr (IntKind.wrap .i64 (16777217 + y29)) _ _ hM)
      replace hM := ifF hc40 hM
      refine cwp_skip (blockE_n (thenE_n (cwp_region ?_)))
      refine oS [(32, .int .i64 (IntKind.wrap .i64 (y29 + 1))), (22, .int .i64 (IntKind.wrap .i64 (y29 + 1)))] rfl ?_
      refine owp_nil ?_
      replace hM := hM _ (Put.ext hP37 (New.ext hN35) (New.ge hN35 (Ext.refl _)))
      exact lwp_at 0 (.string y28) (by kernel_rfl) (lwp_at 21 ((.agg (tab0.flatMap tab0f).toArray)) (by kernel_rfl) (lwp_at 22 (.int .i64 (IntKind.wrap .i64 (y29 + 1))) (by kernel_rfl) (ih y28 (IntKind.wrap .i64 (y29 + 1)) _ _ hM)))
    replace hM := ifF hc30 hM
    refine cwp_exit (thenE_x ?_)
    exact q_at (Q := Q (.exit 2)) 0 (.string y28) (by kernel_rfl) (hK2 y28 _ _ hM)
def keys_base (a1 : ByteArray) (K : Int → Heap → Prop) (h : Heap) : Prop :=
 newB h #[.int .i64 32, .int .i64 13, .int .i64 9, .int .i64 27, .int .i64 127, .int .i64 16777239] 3 fun b2 h3 =>
 ∃ k62, keys_base_l0
  (fun z25 h26 =>
    cellsAt h26 ⟨0, 0, none⟩ 0 (tab0.flatMap tab0f) ∧
    ∃ k57, keys_base_l1
     (fun z47 h48 =>
       unicode_utf8_DecodeRuneInString z47 (fun x50 x51 h49 =>
        if x51 = (z47.size : Int) then
         K (IntKind.wrap .i64 (x50)) h49
        else
           K 0 h49) h48)
     (fun z54 h55 =>
           K z54 h55) k57 z25 0 h26)
  (fun z59 h60 =>
      K z59 h60) k62 a1 (some ⟨b2, 0, none⟩) 6 6 6 0 h3
theorem keys_base_ok (a1 : ByteArray) (K : Int → Heap → Prop) (h : Heap) (hM : keys_base a1 K h) : CallsH Tryd.prog 43 #[.string a1] (fun v h' => ∃ (r63 : Int), v = .int .i64 r63 ∧ K r63 h') h := by
 unfold keys_base at hM
 refine callsH_intro (n := 44) Tryd.func43 rfl rfl (by kernel_rfl) ?_
 refine cR ?_
 refine oS [(2, .int .i64 0)] rfl ?_
 refine oE (cwp_seq (cR ?_))
 refine owp_hpG rfl (by kernel_rfl) (hpNewS #[.int .i64 32, .int .i64 13, .int .i64 9, .int .i64 27, .int .i64 127, .int .i64 16777239] 3 6 (fun _ => by kernel_rfl) ?_)
 intro b2 h3 hN4
 replace hM := newB_of hN4 hM
 refine oS [(10, .int .i64 6), (11, .int .i64 0)] rfl ?_
 refine oE (cwp_block ?_)
 obtain ⟨k_, hM⟩ := hM
 refine cwp_loop k_ (lwp_of_part (fn := Tryd.f43) (p := [1, 0, 1, 0, 0]) (by kernel_rfl) (lwp_at 0 (.string a1) (by kernel_rfl) (lwp_at 9 (.slice (some ⟨b2, 0, none⟩) 6 6) (by kernel_rfl) (lwp_at 10 (.int .i64 6) (by kernel_rfl) (lwp_at 11 (.int .i64 0) (by kernel_rfl) (keys_base_l0_ok _ ?_ _ ?_ k_ a1 (some ⟨b2, 0, none⟩) 6 6 6 0 _ _ hM))))))
 · intro z25 b58 h26 hM
   refine blockE_h (thenE_n (cwp_seq (cR ?_)))
   obtain ⟨hc27, hM⟩ := hM
   refine owp_rdG ((.agg (tab0.flatMap tab0f).toArray)) rfl (by kernel_rfl) (rd_loadTab (P := Tryd.prog) (h := h26) (t := 69) (n := 22) (el := 68) (g := 0) (by kernel_rfl) (by kernel_rfl) hc27 (by kernel_rfl)) ?_
   refine oS [(22, .int .i64 0)] rfl ?_
   refine oE (cwp_block ?_)
   obtain ⟨k_, hM⟩ := hM
   refine cwp_loop k_ (lwp_of_part (fn := Tryd.f43) (p := [1, 1, 0, 1, 0, 0]) (by kernel_rfl) (lwp_at 0 (.string z25) (by kernel_rfl) (lwp_at 21 ((.agg (tab0.flatMap tab0f).toArray)) (by kernel_rfl) (lwp_at 22 (.int .i64 0) (by kernel_rfl) (keys_base_l1_ok _ ?_ _ ?_ k_ z25 0 _ _ hM)))))
   · intro z47 b53 h48 hM
     refine blockE_h (thenE_n (cwp_seq (cR ?_)))
     refine oS [(34, .string z47)] rfl ?_
     refine owp_hpG rfl (by kernel_rfl) (hpCallE 56 #[.string z47] (by kernel_rfl) (unicode_utf8_DecodeRuneInString_ok z47 _ h48 hM) ?_)
     rintro _ h49 ⟨x50, x51, rfl, hM⟩
     refine oS [(33, .tuple #[.int .i32 x50, .int .i64 x51]), (36, .int .i32 x50), (37, .int .i64 x51), (7, .int .i32 x50), (8, .int .i64 x51)] rfl ?_
     refine oE (cR ?_)
     refine oS [(38, .int .i64 x51), (39, .string z47), (40, .int .i64 (z47.size : Int)), (41, .bool (decide (x51 = (z47.size : Int))))] rfl ?_
     refine oE ?_
     refine cwp_condD (x51 = (z47.size : Int)) (by kernel_rfl) (fun hc52 => ?_) (fun hc52 => ?_)
     · replace hM := ifT hc52 hM
       refine cR ?_
       refine oS [(42, .int .i32 x50), (43, .int .i64 (IntKind.wrap .i64 (x50))), (2, .int .i64 (IntKind.wrap .i64 (x50)))] rfl ?_
       refine oE (cwp_ret (thenE_r ?_))
       exact ret_ (.int .i64 (IntKind.wrap .i64 (x50))) (by kernel_rfl) ⟨_, rfl, hM⟩
     replace hM := ifF hc52 hM
     refine cwp_skip (thenE_n (cR ?_))
     refine oS [(2, .int .i64 0)] rfl ?_
     refine oE (cwp_ret ?_)
     exact ret_ (.int .i64 0) (by kernel_rfl) ⟨_, rfl, hM⟩
   · intro z54 b56 h55 hM
     refine blockE_r (thenE_r ?_)
     exact ret_ (.int .i64 z54) (by kernel_rfl) ⟨_, rfl, hM⟩
 · intro z59 b61 h60 hM
   refine blockE_r (thenE_r ?_)
   exact ret_ (.int .i64 z59) (by kernel_rfl) ⟨_, rfl, hM⟩
/- mullion/keys.Read -/
def keys_Read_l0 (K0 : Nat → Heap → Prop) (Kr : Nat → Int → Heap → Prop) : Nat → ByteArray → Nat → Int → Heap → Prop
  | 0, _, _, _, _ => False
  | k + 1, y5, y6, y7, h =>
  if y7 < 8 then
   ex (strings_CutPrefix y5 (keys_marks y7)) fun r13 =>
   if ((!r13.2) || (r13.1.toList == (⟨#[]⟩ : ByteArray).toList)) = true then
    gap h fun h11 =>
    keys_Read_l0 K0 Kr k y5 y6 (IntKind.wrap .i64 (y7 + 1)) h11
   else
   gap h fun h11 =>
   keys_base r13.1 (fun x21 h20 =>
    newB h20 #[.int .i64 0, .int .i64 0] 36 fun b22 h23 =>
    stN ⟨b22, 0, none⟩ [.int .i64 x21, .int .i64 y7] 0 h23 fun h25 =>
    ldI h25 .i64 ⟨b22, 0, none⟩ fun x26 =>
    ldI h25 .i64 ⟨b22, 1, none⟩ fun x28 =>
    keys_Name x26 x28 (fun x33 h32 =>
     if (x33.toList == y5.toList) = true then
      ldI h32 .i64 ⟨b22, 0, none⟩ fun x35 =>
      ldI h32 .i64 ⟨b22, 1, none⟩ fun x37 =>
      stN ⟨y6, 0, none⟩ [.int .i64 x35, .int .i64 x37] 0 h32 fun h41 =>
      Kr y6 0 h41
     else
       keys_Read_l0 K0 Kr k y5 y6 (IntKind.wrap .i64 (y7 + 1)) h32) h25) h11
  else
  K0 y6 h
theorem keys_Read_l0_ok {Q : Exit → Env → Heap → Prop} (K0 : Nat → Heap → Prop) (hK0 : ∀ (z46 : Nat) (b : Env) (h : Heap), K0 z46 h → Q (.exit 0) (upd b 2 (.pointer (some ⟨z46, 0, none⟩))) h) (Kr : Nat → Int → Heap → Prop) (hKr : ∀ (z49 : Nat) (z50 : Int) (b : Env) (h : Heap), Kr z49 z50 h → Q .ret (upd (upd b 2 (.pointer (some ⟨z49, 0, none⟩))) 3 (.int .i64 z50)) h) : ∀ (k : Nat) (y5 : ByteArray) (y6 : Nat) (y7 : Int) (b : Env) (h : Heap) (hM : keys_Read_l0 K0 Kr k y5 y6 y7 h), lwp Tryd.prog (partC Tryd.f23 [1, 0, 1, 0, 0]) 35 Q k (upd (upd (upd b 0 (.string y5)) 2 (.pointer (some ⟨y6, 0, none⟩))) 4 (.int .i64 y7)) h := by
  intro k
  induction k with
  | zero => intro y5 y6 y7 b h hM; exact (show False from hM).elim
  | succ k ih =>
    intro y5 y6 y7 b h hM
    unfold keys_Read_l0 at hM
    refine lwp_succ (cwp_part rfl ?_)
    refine cwp_seq (cR ?_)
    refine oS [(8, .int .i64 y7), (9, .bool (decide (y7 < 8)))] rfl ?_
    refine oE ?_
    refine cwp_condD (y7 < 8) (by kernel_rfl) (fun hc8 => ?_) (fun hc8 => ?_)
    · replace hM := ifT hc8 hM
      refine cwp_skip (thenE_n (cwp_seq (cwp_block (cR ?_))))
      refine oS [(13, .string y5), (14, .int .i64 y7)] rfl ?_
      refine owp_hpG rfl (by kernel_rfl) (hpCallP 37 #[.int .i64 y7] (.string (keys_marks y7)) (by kernel_rfl) (keys_marks_ok y7 _ h rfl) ?_)
      intro h9 hx10
      obtain ⟨r13, hr14, hM⟩ := hM
      refine owp_hpG rfl (by kernel_rfl) (hpCallP 42 #[.string y5, .string (keys_marks y7)] (.tuple #[.string r13.1, .bool r13.2]) (by kernel_rfl) (strings_CutPrefix_ok y5 (keys_marks y7) r13 h9 hr14) ?_)
      intro h11 hx12
      refine oS [(12, .tuple #[.string r13.1, .bool r13.2]), (17, .string r13.1), (18, .bool r13.2), (5, .string r13.1), (6, .bool r13.2)] rfl ?_
      refine oE (cwp_seq (cR ?_))
      refine oS [(19, .bool r13.2), (20, .bool (!r13.2)), (21, .bool (!r13.2))] rfl ?_
      refine oB (!r13.2) 3 [20, 21] (fun b_ => [(22, iteV b_ undef (.string r13.1 : Value)), (23, iteV b_ undef (.bool (r13.1.toList == (⟨#[]⟩ : ByteArray).toList) : Value)), (24, .bool (b_ || (r13.1.toList == (⟨#[]⟩ : ByteArray).toList)))]) rfl (fun hb15 hq16 => oS [(22, undef), (23, undef), (24, .bool true)] rfl (hq16)) (fun hb17 hq18 => oS [(22, .string r13.1), (23, .bool (r13.1.toList == (⟨#[]⟩ : ByteArray).toList)), (24, .bool (r13.1.toList == (⟨#[]⟩ : ByteArray).toList))] rfl (hq18)) ?_
      refine oE ?_
      refine cwp_condB ((!r13.2) || (r13.1.toList == (⟨#[]⟩ : ByteArray).toList)) (by kernel_rfl) (fun hc19 => ?_) (fun hc19 => ?_)
      · replace hM := ifT hc19 hM
        refine cwp_exit (thenE_x (blockE_h (thenE_n (cwp_region ?_))))
        refine oS [(10, .int .i64 y7), (11, .int .i64 (IntKind.wrap .i64 (y7 + 1))), (4, .int .i64 (IntKind.wrap .i64 (y7 + 1)))] rfl ?_
        refine owp_nil ?_
        replace hM := hM _ (Ext.trans hx10 hx12)
        exact lwp_at 0 (.string y5) (by kernel_rfl) (lwp_at 2 (.pointer (some ⟨y6, 0, none⟩)) (by kernel_rfl) (lwp_at 4 (.int .i64 (IntKind.wrap .i64 (y7 + 1))) (by kernel_rfl) (ih y5 y6 (IntKind.wrap .i64 (y7 + 1)) _ _ hM)))
      replace hM := ifF hc19 hM
      refine cwp_skip (thenE_n (cR ?_))
      refine oS [(25, .string r13.1)] rfl ?_
      replace hM := hM _ (Ext.trans hx10 hx12)
      refine owp_hpG rfl (by kernel_rfl) (hpCallE 43 #[.string r13.1] (by kernel_rfl) (keys_base_ok r13.1 _ h11 hM) ?_)
      rintro _ h20 ⟨x21, rfl, hM⟩
      refine oS [(27, .int .i64 y7), (28, .agg #[.int .i64 x21, .int .i64 y7])] rfl ?_
      refine owp_hpG rfl (by kernel_rfl) (hpNew #[.int .i64 0, .int .i64 0] 36 (fun _ => by kernel_rfl) ?_)
      intro b22 h23 hN24
      replace hM := newB_of hN24 hM
      refine owp_hpD rfl (by kernel_rfl) (hpSt ⟨b22, 0, none⟩ [.int .i64 x21, .int .i64 y7] (fun _ => by kernel_rfl) rfl hM ?_)
      intro h25 hM
      refine oE (cR ?_)
      obtain ⟨x26, hc27, hM⟩ := hM
      obtain ⟨x28, hc29, hM⟩ := hM
      refine owp_rdG (.agg #[.int .i64 x26, .int .i64 x28]) rfl (by kernel_rfl) (Eq.trans (b := (cellH h25 ⟨b22, 0, none⟩).bind fun v30 => (cellH h25 ⟨b22, 1, none⟩).bind fun v31 => some (.value (.agg #[v30, v31]))) (by kernel_rfl) ((bindE hc27 _).trans (bindE hc29 _))) ?_
      refine owp_hpG rfl (by kernel_rfl) (hpCallE 19 #[.agg #[.int .i64 x26, .int .i64 x28]] (by kernel_rfl) (keys_Name_ok x26 x28 _ h25 hM) ?_)
      rintro _ h32 ⟨x33, rfl, hM⟩
      refine oS [(31, .string y5), (32, .bool (x33.toList == y5.toList))] rfl ?_
      refine oE ?_
      refine cwp_condB (x33.toList == y5.toList) (by kernel_rfl) (fun hc34 => ?_) (fun hc34 => ?_)
      · replace hM := ifT hc34 hM
        refine cR ?_
        obtain ⟨x35, hc36, hM⟩ := hM
        obtain ⟨x37, hc38, hM⟩ := hM
        refine owp_rdG (.agg #[.int .i64 x35, .int .i64 x37]) rfl (by kernel_rfl) (Eq.trans (b := (cellH h32 ⟨b22, 0, none⟩).bind fun v39 => (cellH h32 ⟨b22, 1, none⟩).bind fun v40 => some (.value (.agg #[v39, v40]))) (by kernel_rfl) ((bindE hc36 _).trans (bindE hc38 _))) ?_
        refine owp_hpD rfl (by kernel_rfl) (hpSt ⟨y6, 0, none⟩ [.int .i64 x35, .int .i64 x37] (fun _ => by kernel_rfl) rfl hM ?_)
        intro h41 hM
        refine oS [(3, .int .i64 0)] rfl ?_
        refine oE (cwp_ret (blockE_r (thenE_r ?_)))
        exact q_at (Q := Q .ret) 2 (.pointer (some ⟨y6, 0, none⟩)) (by kernel_rfl) (q_at (Q := Q .ret) 3 (.int .i64 0) (by kernel_rfl) (hKr y6 0 _ _ hM))
      replace hM := ifF hc34 hM
      refine cwp_skip (blockE_n (thenE_n (cwp_region ?_)))
      refine oS [(10, .int .i64 y7), (11, .int .i64 (IntKind.wrap .i64 (y7 + 1))), (4, .int .i64 (IntKind.wrap .i64 (y7 + 1)))] rfl ?_
      refine owp_nil ?_
      exact lwp_at 0 (.string y5) (by kernel_rfl) (lwp_at 2 (.pointer (some ⟨y6, 0, none⟩)) (by kernel_rfl) (lwp_at 4 (.int .i64 (IntKind.wrap .i64 (y7 + 1))) (by kernel_rfl) (ih y5 y6 (IntKind.wrap .i64 (y7 + 1)) _ _ hM)))
    replace hM := ifF hc8 hM
    refine cwp_exit (thenE_x ?_)
    exact q_at (Q := Q (.exit 0)) 2 (.pointer (some ⟨y6, 0, none⟩)) (by kernel_rfl) (hK0 y6 _ _ hM)
def keys_Read (a1 : ByteArray) (K : Int → Int → Int → Heap → Prop) (h : Heap) : Prop :=
 newB h #[.int .i64 0, .int .i64 0] 36 fun b2 h3 =>
 ∃ k71, keys_Read_l0
  (fun z51 h52 =>
    stN ⟨z51, 0, none⟩ [.int .i64 0, .int .i64 0] 0 h52 fun h53 =>
    ldI h53 .i64 ⟨z51, 0, none⟩ fun x54 =>
    ldI h53 .i64 ⟨z51, 1, none⟩ fun x56 =>
      K x54 x56 210 h53)
  (fun z61 z62 h63 =>
    ldI h63 .i64 ⟨z61, 0, none⟩ fun x64 =>
    ldI h63 .i64 ⟨z61, 1, none⟩ fun x66 =>
      K x64 x66 z62 h63) k71 a1 b2 0 h3
theorem keys_Read_ok (a1 : ByteArray) (K : Int → Int → Int → Heap → Prop) (h : Heap) (hM : keys_Read a1 K h) : CallsH Tryd.prog 23 #[.string a1] (fun v h' => ∃ (r72 : Int) (r73 : Int) (r74 : Int), v = .tuple #[.agg #[.int .i64 r72, .int .i64 r73], .int .i64 r74] ∧ K r72 r73 r74 h') h := by
 unfold keys_Read at hM
 refine callsH_intro (n := 35) Tryd.func23 rfl rfl (by kernel_rfl) ?_
 refine cR ?_
 refine owp_hpG rfl (by kernel_rfl) (hpNew #[.int .i64 0, .int .i64 0] 36 (fun _ => by kernel_rfl) ?_)
 intro b2 h3 hN4
 replace hM := newB_of hN4 hM
 refine oS [(3, .int .i64 0)] rfl ?_
 refine oE (cwp_seq (cR ?_))
 refine oS [(4, .int .i64 0)] rfl ?_
 refine oE (cwp_block ?_)
 obtain ⟨k_, hM⟩ := hM
 refine cwp_loop k_ (lwp_of_part (fn := Tryd.f23) (p := [1, 0, 1, 0, 0]) (by kernel_rfl) (lwp_at 0 (.string a1) (by kernel_rfl) (lwp_at 2 (.pointer (some ⟨b2, 0, none⟩)) (by kernel_rfl) (lwp_at 4 (.int .i64 0) (by kernel_rfl) (keys_Read_l0_ok _ ?_ _ ?_ k_ a1 b2 0 _ _ hM)))))
 · intro z51 b60 h52 hM
   refine blockE_h (thenE_n (cR ?_))
   refine oS [(34, .agg #[.int .i64 0, .int .i64 0])] rfl ?_
   refine owp_hpD rfl (by kernel_rfl) (hpSt ⟨z51, 0, none⟩ [.int .i64 0, .int .i64 0] (fun _ => by kernel_rfl) rfl hM ?_)
   intro h53 hM
   refine oS [(3, .int .i64 210)] rfl ?_
   refine oE (cwp_ret ?_)
   obtain ⟨x54, hc55, hM⟩ := hM
   obtain ⟨x56, hc57, hM⟩ := hM
   exact ret_ (.tuple #[.agg #[.int .i64 x54, .int .i64 x56], .int .i64 210]) (Eq.trans (b := (cellH h53 ⟨z51, 0, none⟩).bind fun v58 => (cellH h53 ⟨z51, 1, none⟩).bind fun v59 => some (.tuple #[.agg #[v58, v59], .int .i64 210])) (by kernel_rfl) ((bindE hc55 _).trans (bindE hc57 _))) ⟨_, _, _, rfl, hM⟩
 · intro z61 z62 b70 h63 hM
   refine blockE_r (thenE_r ?_)
   obtain ⟨x64, hc65, hM⟩ := hM
   obtain ⟨x66, hc67, hM⟩ := hM
   exact ret_ (.tuple #[.agg #[.int .i64 x64, .int .i64 x66], .int .i64 z62]) (Eq.trans (b := (cellH h63 ⟨z61, 0, none⟩).bind fun v68 => (cellH h63 ⟨z61, 1, none⟩).bind fun v69 => some (.tuple #[.agg #[v68, v69], .int .i64 z62])) (by kernel_rfl) ((bindE hc65 _).trans (bindE hc67 _))) ⟨_, _, _, rfl, hM⟩
/- mullion/mullionref21.Read -/
def ref21_Read_l0 (K0 : ByteArray → Nat → Heap → Prop) (Kr : Nat → Int → Heap → Prop) : Nat → ByteArray → Nat → Option Addr → Nat → Nat → Int → Heap → Prop
  | 0, _, _, _, _, _, _, _ => False
  | k + 1, y7, y8, y9, y9n, y9c, y10, h =>
  if y10 < (y9n : Int) then
   nz y9 fun p14 =>
   0 ≤ y10 ∧
   y10 < (y9n : Int) ∧
   ldI h .i64 (p14.add ((y10).toNat * 2)) fun x15 =>
   ldI h .i64 ((p14.add ((y10).toNat * 2)).add 1) fun x17 =>
   if (ref21_Valid x15 x17) = true then
    0 ≤ y10 ∧
    y10 < (y9n : Int) ∧
    gap h fun h21 =>
    ldI h21 .i64 (p14.add ((y10).toNat * 2)) fun x34 =>
    ldI h21 .i64 ((p14.add ((y10).toNat * 2)).add 1) fun x36 =>
    ref21_Name x34 x36 (fun x41 h40 =>
     if (x41.toList == y7.toList) = true then
      0 ≤ y10 ∧
      y10 < (y9n : Int) ∧
      ldI h40 .i64 (p14.add ((y10).toNat * 2)) fun x45 =>
      ldI h40 .i64 ((p14.add ((y10).toNat * 2)).add 1) fun x47 =>
      stN ⟨y8, 0, none⟩ [.int .i64 x45, .int .i64 x47] 0 h40 fun h51 =>
      Kr y8 0 h51
     else
      ref21_Read_l0 K0 Kr k y7 y8 (some p14) y9n y9c (IntKind.wrap .i64 (y10 + 1)) h40) h21
   else
   gap h fun h21 =>
   ref21_Read_l0 K0 Kr k y7 y8 (some p14) y9n y9c (IntKind.wrap .i64 (y10 + 1)) h21
  else
  K0 y7 y8 h
theorem ref21_Read_l0_ok {Q : Exit → Env → Heap → Prop} (K0 : ByteArray → Nat → Heap → Prop) (hK0 : ∀ (z58 : ByteArray) (z59 : Nat) (b : Env) (h : Heap), K0 z58 z59 h → Q (.exit 0) (upd (upd b 0 (.string z58)) 2 (.pointer (some ⟨z59, 0, none⟩))) h) (Kr : Nat → Int → Heap → Prop) (hKr : ∀ (z62 : Nat) (z63 : Int) (b : Env) (h : Heap), Kr z62 z63 h → Q .ret (upd (upd b 2 (.pointer (some ⟨z62, 0, none⟩))) 3 (.int .i64 z63)) h) : ∀ (k : Nat) (y7 : ByteArray) (y8 : Nat) (y9 : Option Addr) (y9n : Nat) (y9c : Nat) (y10 : Int) (b : Env) (h : Heap) (hM : ref21_Read_l0 K0 Kr k y7 y8 y9 y9n y9c y10 h), lwp Tryd.prog (partC Tryd.f24 [1, 1, 0, 1, 0, 0]) 76 Q k (upd (upd (upd (upd b 0 (.string y7)) 2 (.pointer (some ⟨y8, 0, none⟩))) 4 (.slice y9 y9n y9c)) 5 (.int .i64 y10)) h := by
  intro k
  induction k with
  | zero => intro y7 y8 y9 y9n y9c y10 b h hM; exact (show False from hM).elim
  | succ k ih =>
    intro y7 y8 y9 y9n y9c y10 b h hM
    unfold ref21_Read_l0 at hM
    refine lwp_succ (cwp_part rfl ?_)
    refine cwp_seq (cR ?_)
    refine oS [(12, .int .i64 y10), (13, .slice y9 y9n y9c), (14, .int .i64 (y9n : Int)), (15, .bool (decide (y10 < (y9n : Int))))] rfl ?_
    refine oE ?_
    refine cwp_condD (y10 < (y9n : Int)) (by kernel_rfl) (fun hc11 => ?_) (fun hc11 => ?_)
    · replace hM := ifT hc11 hM
      refine cwp_skip (thenE_n (cwp_seq (cwp_block (cR ?_))))
      refine oS [(18, .slice y9 y9n y9c), (19, .int .i64 y10)] rfl ?_
      obtain ⟨p14, rfl, hM⟩ := hM
      obtain ⟨hc12, hM⟩ := hM
      obtain ⟨hc13, hM⟩ := hM
      refine owp_rdG (.pointer (some (p14.add ((y10).toNat * 2)))) rfl (by kernel_rfl) (rd_ixS (P := Tryd.prog) (h := h) (t := 27) (el := 36) (sz := 2) (ad := p14) (len := y9n) (c := y9c) (k := .i64) (i := y10) (by kernel_rfl) (by kernel_rfl) hc12 hc13 (by kernel_rfl)) ?_
      obtain ⟨x15, hc16, hM⟩ := hM
      obtain ⟨x17, hc18, hM⟩ := hM
      refine owp_rdG (.agg #[.int .i64 x15, .int .i64 x17]) rfl (by kernel_rfl) (Eq.trans (b := (cellH h (p14.add ((y10).toNat * 2))).bind fun v19 => (cellH h ((p14.add ((y10).toNat * 2)).add 1)).bind fun v20 => some (.value (.agg #[v19, v20]))) (by kernel_rfl) ((bindE hc16 _).trans (bindE hc18 _))) ?_
      refine owp_hpG rfl (by kernel_rfl) (hpCallP 18 #[.agg #[.int .i64 x15, .int .i64 x17]] (.bool (ref21_Valid x15 x17)) (by kernel_rfl) (ref21_Valid_ok x15 x17 _ h rfl) ?_)
      intro h21 hx22
      refine oS [(23, .bool (ref21_Valid x15 x17))] rfl ?_
      by_cases hc31 : (ref21_Valid x15 x17) = true
      · refine owp_at 22 (.bool true) (Eq.trans (b := .bool (ref21_Valid x15 x17)) (by kernel_rfl) (by rw [hc31])) ?_
        refine owp_at 23 (.bool true) (Eq.trans (b := .bool (ref21_Valid x15 x17)) (by kernel_rfl) (by rw [hc31])) ?_
        replace hM := ifT hc31 hM
        refine oS [(24, .slice (some p14) y9n y9c), (25, .int .i64 y10)] rfl ?_
        obtain ⟨hc32, hM⟩ := hM
        obtain ⟨hc33, hM⟩ := hM
        refine owp_rdG (.pointer (some (p14.add ((y10).toNat * 2)))) rfl (by kernel_rfl) (rd_ixS (P := Tryd.prog) (h := h21) (t := 27) (el := 36) (sz := 2) (ad := p14) (len := y9n) (c := y9c) (k := .i64) (i := y10) (by kernel_rfl) (by kernel_rfl) hc32 hc33 (by kernel_rfl)) ?_
        replace hM := hM _ hx22
        obtain ⟨x34, hc35, hM⟩ := hM
        obtain ⟨x36, hc37, hM⟩ := hM
        refine owp_rdG (.agg #[.int .i64 x34, .int .i64 x36]) rfl (by kernel_rfl) (Eq.trans (b := (cellH h21 (p14.add ((y10).toNat * 2))).bind fun v38 => (cellH h21 ((p14.add ((y10).toNat * 2)).add 1)).bind fun v39 => some (.value (.agg #[v38, v39]))) (by kernel_rfl) ((bindE hc35 _).trans (bindE hc37 _))) ?_
        refine owp_hpG rfl (by kernel_rfl) (hpCallE 20 #[.agg #[.int .i64 x34, .int .i64 x36]] (by kernel_rfl) (ref21_Name_ok x34 x36 _ h21 hM) ?_)
        rintro _ h40 ⟨x41, rfl, hM⟩
        refine oS [(29, .string y7), (30, .bool (x41.toList == y7.toList)), (31, .bool (x41.toList == y7.toList))] rfl ?_
        refine oE ?_
        refine cwp_condB (x41.toList == y7.toList) (by kernel_rfl) (fun hc42 => ?_) (fun hc42 => ?_)
        · replace hM := ifT hc42 hM
          refine cR ?_
          refine oS [(32, .slice (some p14) y9n y9c), (33, .int .i64 y10)] rfl ?_
          obtain ⟨hc43, hM⟩ := hM
          obtain ⟨hc44, hM⟩ := hM
          refine owp_rdG (.pointer (some (p14.add ((y10).toNat * 2)))) rfl (by kernel_rfl) (rd_ixS (P := Tryd.prog) (h := h40) (t := 27) (el := 36) (sz := 2) (ad := p14) (len := y9n) (c := y9c) (k := .i64) (i := y10) (by kernel_rfl) (by kernel_rfl) hc43 hc44 (by kernel_rfl)) ?_
          obtain ⟨x45, hc46, hM⟩ := hM
          obtain ⟨x47, hc48, hM⟩ := hM
          refine owp_rdG (.agg #[.int .i64 x45, .int .i64 x47]) rfl (by kernel_rfl) (Eq.trans (b := (cellH h40 (p14.add ((y10).toNat * 2))).bind fun v49 => (cellH h40 ((p14.add ((y10).toNat * 2)).add 1)).bind fun v50 => some (.value (.agg #[v49, v50]))) (by kernel_rfl) ((bindE hc46 _).trans (bindE hc48 _))) ?_
          refine owp_hpD rfl (by kernel_rfl) (hpSt ⟨y8, 0, none⟩ [.int .i64 x45, .int .i64 x47] (fun _ => by kernel_rfl) rfl hM ?_)
          intro h51 hM
          refine oS [(3, .int .i64 0)] rfl ?_
          refine oE (cwp_ret (blockE_r (thenE_r ?_)))
          exact q_at (Q := Q .ret) 2 (.pointer (some ⟨y8, 0, none⟩)) (by kernel_rfl) (q_at (Q := Q .ret) 3 (.int .i64 0) (by kernel_rfl) (hKr y8 0 _ _ hM))
        replace hM := ifF hc42 hM
        refine cwp_skip (blockE_n (thenE_n (cwp_region ?_)))
        refine oS [(16, .int .i64 y10), (17, .int .i64 (IntKind.wrap .i64 (y10 + 1))), (5, .int .i64 (IntKind.wrap .i64 (y10 + 1)))] rfl ?_
        refine owp_nil ?_
        exact lwp_at 0 (.string y7) (by kernel_rfl) (lwp_at 2 (.pointer (some ⟨y8, 0, none⟩)) (by kernel_rfl) (lwp_at 4 (.slice (some p14) y9n y9c) (by kernel_rfl) (lwp_at 5 (.int .i64 (IntKind.wrap .i64 (y10 + 1))) (by kernel_rfl) (ih y7 y8 (some p14) y9n y9c (IntKind.wrap .i64 (y10 + 1)) _ _ hM))))
      refine owp_at 22 (.bool false) (Eq.trans (b := .bool (ref21_Valid x15 x17)) (by kernel_rfl) (by rw [Bool.eq_false_iff.2 hc31])) ?_
      refine owp_at 23 (.bool false) (Eq.trans (b := .bool (ref21_Valid x15 x17)) (by kernel_rfl) (by rw [Bool.eq_false_iff.2 hc31])) ?_
      replace hM := ifF hc31 hM
      refine oS [(24, undef), (25, undef), (26, undef), (27, undef), (28, undef), (29, undef), (30, undef), (31, .bool false)] rfl ?_
      refine oE ?_
      refine cwp_cond (t := false) (by kernel_rfl) (fun hx_ => ?_) (fun hx_ => ?_)
      all_goals first | (cases hx_; done) | skip
      refine cwp_skip (blockE_n (thenE_n (cwp_region ?_)))
      refine oS [(16, .int .i64 y10), (17, .int .i64 (IntKind.wrap .i64 (y10 + 1))), (5, .int .i64 (IntKind.wrap .i64 (y10 + 1)))] rfl ?_
      refine owp_nil ?_
      replace hM := hM _ hx22
      exact lwp_at 0 (.string y7) (by kernel_rfl) (lwp_at 2 (.pointer (some ⟨y8, 0, none⟩)) (by kernel_rfl) (lwp_at 4 (.slice (some p14) y9n y9c) (by kernel_rfl) (lwp_at 5 (.int .i64 (IntKind.wrap .i64 (y10 + 1))) (by kernel_rfl) (ih y7 y8 (some p14) y9n y9c (IntKind.wrap .i64 (y10 + 1)) _ _ hM))))
    replace hM := ifF hc11 hM
    refine cwp_exit (thenE_x ?_)
    exact q_at (Q := Q (.exit 0)) 0 (.string y7) (by kernel_rfl) (q_at (Q := Q (.exit 0)) 2 (.pointer (some ⟨y8, 0, none⟩)) (by kernel_rfl) (hK0 y7 y8 _ _ hM))
def ref21_Read_j1 (Kr : Nat → Int → Heap → Prop) (y80 : ByteArray) (y81 : Nat) (y82 : Nat) (y83 : ByteArray) (h : Heap) : Prop :=
 ref21_first y83 (fun x85 x86 x87 h84 =>
  stN ⟨y82, 0, none⟩ [.int .i64 x85] 0 h84 fun h88 =>
  if (x87 && (decide (x86 = (y83.size : Int)))) = true then
   ldI h88 .i64 ⟨y82, 0, none⟩ fun x100 =>
   ldI h88 .i64 ⟨y82, 1, none⟩ fun x102 =>
   if (ref21_Valid x100 x102) = true then
    gap h88 fun h106 =>
    ldI h106 .i64 ⟨y82, 0, none⟩ fun x115 =>
    ldI h106 .i64 ⟨y82, 1, none⟩ fun x117 =>
    ref21_Name x115 x117 (fun x122 h121 =>
     if (x122.toList == y80.toList) = true then
      ldI h121 .i64 ⟨y82, 0, none⟩ fun x124 =>
      ldI h121 .i64 ⟨y82, 1, none⟩ fun x126 =>
      stN ⟨y81, 0, none⟩ [.int .i64 x124, .int .i64 x126] 0 h121 fun h130 =>
      Kr y81 0 h130
     else
     stN ⟨y81, 0, none⟩ [.int .i64 0, .int .i64 0] 0 h121 fun h133 =>
      Kr y81 210 h133) h106
   else
   gap h88 fun h106 =>
   stN ⟨y81, 0, none⟩ [.int .i64 0, .int .i64 0] 0 h106 fun h134 =>
   Kr y81 210 h134
  else
  stN ⟨y81, 0, none⟩ [.int .i64 0, .int .i64 0] 0 h88 fun h135 =>
   Kr y81 210 h135) h
theorem ref21_Read_j1_ok {Q : Exit → Env → Heap → Prop} (Kr : Nat → Int → Heap → Prop) (hKr : ∀ (z138 : Nat) (z139 : Int) (b : Env) (h : Heap), Kr z138 z139 h → Q .ret (upd (upd b 2 (.pointer (some ⟨z138, 0, none⟩))) 3 (.int .i64 z139)) h) (y80 : ByteArray) (y81 : Nat) (y82 : Nat) (y83 : ByteArray) (b : Env) (h : Heap) (hM : ref21_Read_j1 Kr y80 y81 y82 y83 h) : cwp Tryd.prog (partC Tryd.f24 [1, 1, 1, 1, 1, 1]) 76 Q (upd (upd (upd (upd b 0 (.string y80)) 2 (.pointer (some ⟨y81, 0, none⟩))) 6 (.pointer (some ⟨y82, 0, none⟩))) 7 (.string y83)) h := by
  unfold ref21_Read_j1 at hM
  refine cwp_part rfl ?_
  refine cR ?_
  refine oS [(50, .string y83)] rfl ?_
  refine owp_hpG rfl (by kernel_rfl) (hpCallE 45 #[.string y83] (by kernel_rfl) (ref21_first_ok y83 _ h hM) ?_)
  rintro _ h84 ⟨x85, x86, x87, rfl, hM⟩
  refine oS [(49, .tuple #[.int .i64 x85, .int .i64 x86, .bool x87]), (52, .int .i64 x85), (53, .int .i64 x86), (54, .bool x87), (8, .int .i64 x85), (9, .int .i64 x86), (10, .bool x87)] rfl ?_
  refine oE (cR ?_)
  refine oS [(55, .int .i64 x85), (56, .pointer (some ⟨y82, 0, none⟩))] rfl ?_
  refine owp_hpD rfl (by kernel_rfl) (hpSt ⟨y82, 0, none⟩ [.int .i64 x85] (fun _ => by kernel_rfl) rfl hM ?_)
  intro h88 hM
  refine oE (cwp_seq (cR ?_))
  refine oS [(57, .bool x87), (58, .bool x87)] rfl ?_
  refine oB (x87) 5 [54, 10, 57, 58] (fun b_ => [(59, iteV b_ (.int .i64 x86 : Value) undef), (60, iteV b_ (.string y83 : Value) undef), (61, iteV b_ (.int .i64 (y83.size : Int) : Value) undef), (62, iteV b_ (.bool (decide (x86 = (y83.size : Int))) : Value) undef), (63, .bool (b_ && (decide (x86 = (y83.size : Int)))))]) rfl (fun hb89 hq90 => oS [(59, .int .i64 x86), (60, .string y83), (61, .int .i64 (y83.size : Int)), (62, .bool (decide (x86 = (y83.size : Int)))), (63, .bool (decide (x86 = (y83.size : Int))))] rfl (hq90)) (fun hb91 hq92 => oS [(59, undef), (60, undef), (61, undef), (62, undef), (63, .bool false)] rfl (hq92)) ?_
  refine oS [(64, .bool (x87 && (decide (x86 = (y83.size : Int)))))] rfl ?_
  by_cases hc99 : (x87 && (decide (x86 = (y83.size : Int)))) = true
  · refine owp_at 63 (.bool true) (Eq.trans (b := .bool (x87 && (decide (x86 = (y83.size : Int))))) (by kernel_rfl) (by rw [hc99])) ?_
    refine owp_at 64 (.bool true) (Eq.trans (b := .bool (x87 && (decide (x86 = (y83.size : Int))))) (by kernel_rfl) (by rw [hc99])) ?_
    replace hM := ifT hc99 hM
    obtain ⟨x100, hc101, hM⟩ := hM
    obtain ⟨x102, hc103, hM⟩ := hM
    refine owp_rdG (.agg #[.int .i64 x100, .int .i64 x102]) rfl (by kernel_rfl) (Eq.trans (b := (cellH h88 ⟨y82, 0, none⟩).bind fun v104 => (cellH h88 ⟨y82, 1, none⟩).bind fun v105 => some (.value (.agg #[v104, v105]))) (by kernel_rfl) ((bindE hc101 _).trans (bindE hc103 _))) ?_
    refine owp_hpG rfl (by kernel_rfl) (hpCallP 18 #[.agg #[.int .i64 x100, .int .i64 x102]] (.bool (ref21_Valid x100 x102)) (by kernel_rfl) (ref21_Valid_ok x100 x102 _ h88 rfl) ?_)
    intro h106 hx107
    refine oS [(67, .bool (ref21_Valid x100 x102)), (68, .bool (ref21_Valid x100 x102))] rfl ?_
    by_cases hc114 : (ref21_Valid x100 x102) = true
    · refine owp_at 66 (.bool true) (Eq.trans (b := .bool (ref21_Valid x100 x102)) (by kernel_rfl) (by rw [hc114])) ?_
      refine owp_at 67 (.bool true) (Eq.trans (b := .bool (ref21_Valid x100 x102)) (by kernel_rfl) (by rw [hc114])) ?_
      refine owp_at 68 (.bool true) (Eq.trans (b := .bool (ref21_Valid x100 x102)) (by kernel_rfl) (by rw [hc114])) ?_
      replace hM := ifT hc114 hM
      replace hM := hM _ hx107
      obtain ⟨x115, hc116, hM⟩ := hM
      obtain ⟨x117, hc118, hM⟩ := hM
      refine owp_rdG (.agg #[.int .i64 x115, .int .i64 x117]) rfl (by kernel_rfl) (Eq.trans (b := (cellH h106 ⟨y82, 0, none⟩).bind fun v119 => (cellH h106 ⟨y82, 1, none⟩).bind fun v120 => some (.value (.agg #[v119, v120]))) (by kernel_rfl) ((bindE hc116 _).trans (bindE hc118 _))) ?_
      refine owp_hpG rfl (by kernel_rfl) (hpCallE 20 #[.agg #[.int .i64 x115, .int .i64 x117]] (by kernel_rfl) (ref21_Name_ok x115 x117 _ h106 hM) ?_)
      rintro _ h121 ⟨x122, rfl, hM⟩
      refine oS [(71, .string y80), (72, .bool (x122.toList == y80.toList)), (73, .bool (x122.toList == y80.toList))] rfl ?_
      refine oE ?_
      refine cwp_condB (x122.toList == y80.toList) (by kernel_rfl) (fun hc123 => ?_) (fun hc123 => ?_)
      · replace hM := ifT hc123 hM
        refine cR ?_
        obtain ⟨x124, hc125, hM⟩ := hM
        obtain ⟨x126, hc127, hM⟩ := hM
        refine owp_rdG (.agg #[.int .i64 x124, .int .i64 x126]) rfl (by kernel_rfl) (Eq.trans (b := (cellH h121 ⟨y82, 0, none⟩).bind fun v128 => (cellH h121 ⟨y82, 1, none⟩).bind fun v129 => some (.value (.agg #[v128, v129]))) (by kernel_rfl) ((bindE hc125 _).trans (bindE hc127 _))) ?_
        refine owp_hpD rfl (by kernel_rfl) (hpSt ⟨y81, 0, none⟩ [.int .i64 x124, .int .i64 x126] (fun _ => by kernel_rfl) rfl hM ?_)
        intro h130 hM
        refine oS [(3, .int .i64 0)] rfl ?_
        refine oE (cwp_ret (thenE_r ?_))
        exact q_at (Q := Q .ret) 2 (.pointer (some ⟨y81, 0, none⟩)) (by kernel_rfl) (q_at (Q := Q .ret) 3 (.int .i64 0) (by kernel_rfl) (hKr y81 0 _ _ hM))
      replace hM := ifF hc123 hM
      refine cwp_skip (thenE_n (cR ?_))
      refine oS [(75, .agg #[.int .i64 0, .int .i64 0])] rfl ?_
      refine owp_hpD rfl (by kernel_rfl) (hpSt ⟨y81, 0, none⟩ [.int .i64 0, .int .i64 0] (fun _ => by kernel_rfl) rfl hM ?_)
      intro h133 hM
      refine oS [(3, .int .i64 210)] rfl ?_
      refine oE (cwp_ret ?_)
      exact q_at (Q := Q .ret) 2 (.pointer (some ⟨y81, 0, none⟩)) (by kernel_rfl) (q_at (Q := Q .ret) 3 (.int .i64 210) (by kernel_rfl) (hKr y81 210 _ _ hM))
    refine owp_at 66 (.bool false) (Eq.trans (b := .bool (ref21_Valid x100 x102)) (by kernel_rfl) (by rw [Bool.eq_false_iff.2 hc114])) ?_
    refine owp_at 67 (.bool false) (Eq.trans (b := .bool (ref21_Valid x100 x102)) (by kernel_rfl) (by rw [Bool.eq_false_iff.2 hc114])) ?_
    refine owp_at 68 (.bool false) (Eq.trans (b := .bool (ref21_Valid x100 x102)) (by kernel_rfl) (by rw [Bool.eq_false_iff.2 hc114])) ?_
    replace hM := ifF hc114 hM
    refine oS [(69, undef), (70, undef), (71, undef), (72, undef), (73, .bool false)] rfl ?_
    refine oE ?_
    refine cwp_cond (t := false) (by kernel_rfl) (fun hx_ => ?_) (fun hx_ => ?_)
    all_goals first | (cases hx_; done) | skip
    refine cwp_skip (thenE_n (cR ?_))
    refine oS [(75, .agg #[.int .i64 0, .int .i64 0])] rfl ?_
    replace hM := hM _ hx107
    refine owp_hpD rfl (by kernel_rfl) (hpSt ⟨y81, 0, none⟩ [.int .i64 0, .int .i64 0] (fun _ => by kernel_rfl) rfl hM ?_)
    intro h134 hM
    refine oS [(3, .int .i64 210)] rfl ?_
    refine oE (cwp_ret ?_)
    exact q_at (Q := Q .ret) 2 (.pointer (some ⟨y81, 0, none⟩)) (by kernel_rfl) (q_at (Q := Q .ret) 3 (.int .i64 210) (by kernel_rfl) (hKr y81 210 _ _ hM))
  refine owp_at 63 (.bool false) (Eq.trans (b := .bool (x87 && (decide (x86 = (y83.size : Int))))) (by kernel_rfl) (by rw [Bool.eq_false_iff.2 hc99])) ?_
  refine owp_at 64 (.bool false) (Eq.trans (b := .bool (x87 && (decide (x86 = (y83.size : Int))))) (by kernel_rfl) (by rw [Bool.eq_false_iff.2 hc99])) ?_
  replace hM := ifF hc99 hM
  refine oS [(65, undef), (66, undef), (67, .bool false), (68, .bool false), (69, undef), (70, undef), (71, undef), (72, undef), (73, .bool false)] rfl ?_
  refine oE ?_
  refine cwp_cond (t := false) (by kernel_rfl) (fun hx_ => ?_) (fun hx_ => ?_)
  all_goals first | (cases hx_; done) | skip
  refine cwp_skip (thenE_n (cR ?_))
  refine oS [(75, .agg #[.int .i64 0, .int .i64 0])] rfl ?_
  refine owp_hpD rfl (by kernel_rfl) (hpSt ⟨y81, 0, none⟩ [.int .i64 0, .int .i64 0] (fun _ => by kernel_rfl) rfl hM ?_)
  intro h135 hM
  refine oS [(3, .int .i64 210)] rfl ?_
  refine oE (cwp_ret ?_)
  exact q_at (Q := Q .ret) 2 (.pointer (some ⟨y81, 0, none⟩)) (by kernel_rfl) (q_at (Q := Q .ret) 3 (.int .i64 210) (by kernel_rfl) (hKr y81 210 _ _ hM))
def ref21_Read (a1 : ByteArray) (K : Int → Int → Int → Heap → Prop) (h : Heap) : Prop :=
 newB h #[.int .i64 0, .int .i64 0] 36 fun b2 h3 =>
 ref21_all  (fun x6 x6n x6c h5 =>
  ∃ k173, ref21_Read_l0
   (fun z64 z65 h66 =>
     newB h66 #[.int .i64 0, .int .i64 0] 36 fun b67 h68 =>
     stN ⟨b67, 0, none⟩ [.int .i64 0, .int .i64 0] 0 h68 fun h70 =>
     ((decide (2 < (z64.size : Int))) = true → (2 : Int) ≤ (z64.size : Int)) ∧
     if ((decide (2 < (z64.size : Int))) && ((z64.extract 0 ((2 : Int).toNat)).toList == (⟨#[77, 45]⟩ : ByteArray).toList)) = true then
      stN ⟨b67, 1, none⟩ [.int .i64 2] 0 h70 fun h78 =>
      (2 : Int) ≤ (z64.size : Int) ∧
      ref21_Read_j1
       (fun z140 z141 h142 =>
         ldI h142 .i64 ⟨z140, 0, none⟩ fun x143 =>
         ldI h142 .i64 ⟨z140, 1, none⟩ fun x145 =>
           K x143 x145 z141 h142) z64 z65 b67 (z64.extract ((2 : Int).toNat) z64.size) h78
     else
     ref21_Read_j1
      (fun z151 z152 h153 =>
        ldI h153 .i64 ⟨z151, 0, none⟩ fun x154 =>
        ldI h153 .i64 ⟨z151, 1, none⟩ fun x156 =>
            K x154 x156 z152 h153) z64 z65 b67 z64 h70)
   (fun z163 z164 h165 =>
     ldI h165 .i64 ⟨z163, 0, none⟩ fun x166 =>
     ldI h165 .i64 ⟨z163, 1, none⟩ fun x168 =>
        K x166 x168 z164 h165) k173 a1 b2 x6 x6n x6c 0 h5) h3
theorem ref21_Read_ok (a1 : ByteArray) (K : Int → Int → Int → Heap → Prop) (h : Heap) (hM : ref21_Read a1 K h) : CallsH Tryd.prog 24 #[.string a1] (fun v h' => ∃ (r174 : Int) (r175 : Int) (r176 : Int), v = .tuple #[.agg #[.int .i64 r174, .int .i64 r175], .int .i64 r176] ∧ K r174 r175 r176 h') h := by
 unfold ref21_Read at hM
 refine callsH_intro (n := 76) Tryd.func24 rfl rfl (by kernel_rfl) ?_
 refine cR ?_
 refine owp_hpG rfl (by kernel_rfl) (hpNew #[.int .i64 0, .int .i64 0] 36 (fun _ => by kernel_rfl) ?_)
 intro b2 h3 hN4
 replace hM := newB_of hN4 hM
 refine oS [(3, .int .i64 0)] rfl ?_
 refine oE (cR ?_)
 refine owp_hpG rfl (by kernel_rfl) (hpCallE 44 #[] (by kernel_rfl) (ref21_all_ok  _ h3 hM) ?_)
 rintro _ h5 ⟨x6, x6n, x6c, rfl, hM⟩
 refine oS [(4, .slice x6 x6n x6c)] rfl ?_
 refine oE (cwp_seq (cR ?_))
 refine oS [(5, .int .i64 0)] rfl ?_
 refine oE (cwp_block ?_)
 obtain ⟨k_, hM⟩ := hM
 refine cwp_loop k_ (lwp_of_part (fn := Tryd.f24) (p := [1, 1, 0, 1, 0, 0]) (by kernel_rfl) (lwp_at 0 (.string a1) (by kernel_rfl) (lwp_at 2 (.pointer (some ⟨b2, 0, none⟩)) (by kernel_rfl) (lwp_at 4 (.slice x6 x6n x6c) (by kernel_rfl) (lwp_at 5 (.int .i64 0) (by kernel_rfl) (ref21_Read_l0_ok _ ?_ _ ?_ k_ a1 b2 x6 x6n x6c 0 _ _ hM))))))
 · intro z64 z65 b162 h66 hM
   refine blockE_h (thenE_n (cR ?_))
   refine oS [(36, .agg #[.int .i64 0, .int .i64 0])] rfl ?_
   refine owp_hpG rfl (by kernel_rfl) (hpNew #[.int .i64 0, .int .i64 0] 36 (fun _ => by kernel_rfl) ?_)
   intro b67 h68 hN69
   replace hM := newB_of hN69 hM
   refine owp_hpD rfl (by kernel_rfl) (hpSt ⟨b67, 0, none⟩ [.int .i64 0, .int .i64 0] (fun _ => by kernel_rfl) rfl hM ?_)
   intro h70 hM
   refine oE (cR ?_)
   refine oS [(37, .string z64), (7, .string z64)] rfl ?_
   refine oE (cwp_seq (cR ?_))
   refine oS [(38, .string z64), (39, .int .i64 (z64.size : Int)), (40, .bool (decide (2 < (z64.size : Int)))), (41, .bool (decide (2 < (z64.size : Int))))] rfl ?_
   obtain ⟨hc74, hM⟩ := hM
   refine oB (decide (2 < (z64.size : Int))) 4 [40, 41] (fun b_ => [(42, iteV b_ (.string z64 : Value) undef), (43, iteV b_ (.string (z64.extract 0 ((2 : Int).toNat)) : Value) undef), (44, iteV b_ (.bool ((z64.extract 0 ((2 : Int).toNat)).toList == (⟨#[77, 45]⟩ : ByteArray).toList) : Value) undef), (45, .bool (b_ && ((z64.extract 0 ((2 : Int).toNat)).toList == (⟨#[77, 45]⟩ : ByteArray).toList)))]) rfl (fun hb72 hq73 => have hc71 := hc74 hb72; oS [(42, .string z64)] rfl (owp_rdG (.string (z64.extract 0 ((2 : Int).toNat))) rfl (by kernel_rfl) (rd_slHi (P := Tryd.prog) (h := h70) (t := 9) (s := z64) (k := .i64) (i := (2 : Int)) (by kernel_rfl) (by decide) hc71 (by kernel_rfl)) (oS [(44, .bool ((z64.extract 0 ((2 : Int).toNat)).toList == (⟨#[77, 45]⟩ : ByteArray).toList)), (45, .bool ((z64.extract 0 ((2 : Int).toNat)).toList == (⟨#[77, 45]⟩ : ByteArray).toList))] rfl (hq73)))) (fun hb75 hq76 => oS [(42, undef), (43, undef), (44, undef), (45, .bool false)] rfl (hq76)) ?_
   refine oE ?_
   refine cwp_condB ((decide (2 < (z64.size : Int))) && ((z64.extract 0 ((2 : Int).toNat)).toList == (⟨#[77, 45]⟩ : ByteArray).toList)) (by kernel_rfl) (fun hc77 => ?_) (fun hc77 => ?_)
   · replace hM := ifT hc77 hM
     refine cR ?_
     refine oS [(46, .pointer (some ⟨b67, 1, none⟩))] rfl ?_
     refine owp_hpD rfl (by kernel_rfl) (hpSt ⟨b67, 1, none⟩ [.int .i64 2] (fun _ => by kernel_rfl) rfl hM ?_)
     intro h78 hM
     refine oE (cwp_region ?_)
     refine oS [(47, .string z64)] rfl ?_
     obtain ⟨hc79, hM⟩ := hM
     refine owp_rdG (.string (z64.extract ((2 : Int).toNat) z64.size)) rfl (by kernel_rfl) (rd_slLo (P := Tryd.prog) (h := h78) (t := 9) (s := z64) (k := .i64) (i := (2 : Int)) (by kernel_rfl) (by decide) hc79 (by kernel_rfl)) ?_
     refine oS [(7, .string (z64.extract ((2 : Int).toNat) z64.size))] rfl ?_
     refine oE ?_
     refine cwp_of_part (fn := Tryd.f24) (p := [1, 1, 1, 1, 1, 1]) (by kernel_rfl) (cwp_at 0 (.string z64) (by kernel_rfl) (cwp_at 2 (.pointer (some ⟨z65, 0, none⟩)) (by kernel_rfl) (cwp_at 6 (.pointer (some ⟨b67, 0, none⟩)) (by kernel_rfl) (cwp_at 7 (.string (z64.extract ((2 : Int).toNat) z64.size)) (by kernel_rfl) (ref21_Read_j1_ok _ ?_ z64 z65 b67 (z64.extract ((2 : Int).toNat) z64.size) _ _ hM)))))
     · intro z140 z141 b149 h142 hM
       obtain ⟨x143, hc144, hM⟩ := hM
       obtain ⟨x145, hc146, hM⟩ := hM
       exact ret_ (.tuple #[.agg #[.int .i64 x143, .int .i64 x145], .int .i64 z141]) (Eq.trans (b := (cellH h142 ⟨z140, 0, none⟩).bind fun v147 => (cellH h142 ⟨z140, 1, none⟩).bind fun v148 => some (.tuple #[.agg #[v147, v148], .int .i64 z141])) (by kernel_rfl) ((bindE hc144 _).trans (bindE hc146 _))) ⟨_, _, _, rfl, hM⟩
   replace hM := ifF hc77 hM
   refine cwp_skip (thenE_n ?_)
   refine cwp_of_part (fn := Tryd.f24) (p := [1, 1, 1, 1, 1, 1]) (by kernel_rfl) (cwp_at 0 (.string z64) (by kernel_rfl) (cwp_at 2 (.pointer (some ⟨z65, 0, none⟩)) (by kernel_rfl) (cwp_at 6 (.pointer (some ⟨b67, 0, none⟩)) (by kernel_rfl) (cwp_at 7 (.string z64) (by kernel_rfl) (ref21_Read_j1_ok _ ?_ z64 z65 b67 z64 _ _ hM)))))
   · intro z151 z152 b160 h153 hM
     obtain ⟨x154, hc155, hM⟩ := hM
     obtain ⟨x156, hc157, hM⟩ := hM
     exact ret_ (.tuple #[.agg #[.int .i64 x154, .int .i64 x156], .int .i64 z152]) (Eq.trans (b := (cellH h153 ⟨z151, 0, none⟩).bind fun v158 => (cellH h153 ⟨z151, 1, none⟩).bind fun v159 => some (.tuple #[.agg #[v158, v159], .int .i64 z152])) (by kernel_rfl) ((bindE hc155 _).trans (bindE hc157 _))) ⟨_, _, _, rfl, hM⟩
 · intro z163 z164 b172 h165 hM
   refine blockE_r (thenE_r ?_)
   obtain ⟨x166, hc167, hM⟩ := hM
   obtain ⟨x168, hc169, hM⟩ := hM
   exact ret_ (.tuple #[.agg #[.int .i64 x166, .int .i64 x168], .int .i64 z164]) (Eq.trans (b := (cellH h165 ⟨z163, 0, none⟩).bind fun v170 => (cellH h165 ⟨z163, 1, none⟩).bind fun v171 => some (.tuple #[.agg #[v170, v171], .int .i64 z164])) (by kernel_rfl) ((bindE hc167 _).trans (bindE hc169 _))) ⟨_, _, _, rfl, hM⟩
/- mullion/mullionlaw21.KeysReads -/
def law21_KeysReads (a1 : ByteArray) (K : Bool → Heap → Prop) (h : Heap) : Prop :=
 keys_Read a1 (fun x3 x4 x5 h2 =>
  newB h2 #[.int .i64 0, .int .i64 0] 36 fun b6 h7 =>
  stN ⟨b6, 0, none⟩ [.int .i64 x3, .int .i64 x4] 0 h7 fun h9 =>
  ref21_Read a1 (fun x11 x12 x13 h10 =>
   gap h10 fun h17 =>
   ldI h17 .i64 ⟨b6, 0, none⟩ fun x20 =>
   ldI h17 .i64 ⟨b6, 1, none⟩ fun x22 =>
   if (((x20 == x11) && (x22 == x12)) && (decide (x5 = x13))) = true then
    law21_sure  (fun x36 h35 =>
      K x36 h35) h17
   else
     K false h17) h9) h
theorem law21_KeysReads_ok (a1 : ByteArray) (K : Bool → Heap → Prop) (h : Heap) (hM : law21_KeysReads a1 K h) : CallsH Tryd.prog 7 #[.string a1] (fun v h' => ∃ (r37 : Bool), v = .bool r37 ∧ K r37 h') h := by
 unfold law21_KeysReads at hM
 refine callsH_intro (n := 28) Tryd.func7 rfl rfl (by kernel_rfl) ?_
 refine cR ?_
 refine oS [(2, .bool false)] rfl ?_
 refine oE (cR ?_)
 refine oS [(8, .string a1)] rfl ?_
 refine owp_hpG rfl (by kernel_rfl) (hpCallE 23 #[.string a1] (by kernel_rfl) (keys_Read_ok a1 _ h hM) ?_)
 rintro _ h2 ⟨x3, x4, x5, rfl, hM⟩
 refine oS [(7, .tuple #[.agg #[.int .i64 x3, .int .i64 x4], .int .i64 x5]), (10, .agg #[.int .i64 x3, .int .i64 x4]), (11, .int .i64 x5)] rfl ?_
 refine owp_hpG rfl (by kernel_rfl) (hpNew #[.int .i64 0, .int .i64 0] 36 (fun _ => by kernel_rfl) ?_)
 intro b6 h7 hN8
 replace hM := newB_of hN8 hM
 refine owp_hpD rfl (by kernel_rfl) (hpSt ⟨b6, 0, none⟩ [.int .i64 x3, .int .i64 x4] (fun _ => by kernel_rfl) rfl hM ?_)
 intro h9 hM
 refine oS [(4, .int .i64 x5)] rfl ?_
 refine oE (cR ?_)
 refine oS [(13, .string a1)] rfl ?_
 refine owp_hpG rfl (by kernel_rfl) (hpCallE 24 #[.string a1] (by kernel_rfl) (ref21_Read_ok a1 _ h9 hM) ?_)
 rintro _ h10 ⟨x11, x12, x13, rfl, hM⟩
 refine oS [(12, .tuple #[.agg #[.int .i64 x11, .int .i64 x12], .int .i64 x13]), (15, .agg #[.int .i64 x11, .int .i64 x12]), (16, .int .i64 x13)] rfl ?_
 refine owp_hpG rfl (by kernel_rfl) (hpNew #[.int .i64 0, .int .i64 0] 36 (fun _ => by kernel_rfl) ?_)
 intro b14 h15 hN16
 refine owp_hpD rfl (by kernel_rfl) (hpStB b14 0 [.int .i64 x11, .int .i64 x12] (New.blk hN16) (fun _ => by kernel_rfl) rfl rfl ?_)
 intro h17 hP18
 have f19 : Blk h17 b14 #[.int .i64 x11, .int .i64 x12] 36 := hP18.blk
 refine oS [(6, .int .i64 x13)] rfl ?_
 refine oE (cR ?_)
 replace hM := hM _ (Put.ext hP18 (New.ext hN16) (New.ge hN16 (Ext.refl _)))
 obtain ⟨x20, hc21, hM⟩ := hM
 obtain ⟨x22, hc23, hM⟩ := hM
 refine owp_rdG (.agg #[.int .i64 x20, .int .i64 x22]) rfl (by kernel_rfl) (Eq.trans (b := (cellH h17 ⟨b6, 0, none⟩).bind fun v24 => (cellH h17 ⟨b6, 1, none⟩).bind fun v25 => some (.value (.agg #[v24, v25]))) (by kernel_rfl) ((bindE hc21 _).trans (bindE hc23 _))) ?_
 refine owp_rdG (.agg #[.int .i64 x11, .int .i64 x12]) rfl (by kernel_rfl) (Eq.trans (b := (cellH h17 ⟨b14, 0, none⟩).bind fun v26 => (cellH h17 ⟨b14, 1, none⟩).bind fun v27 => some (.value (.agg #[v26, v27]))) (by kernel_rfl) ((bindE (Blk.cell f19 0 (by kernel_rfl)) _).trans (bindE (Blk.cell f19 1 (by kernel_rfl)) _))) ?_
 refine owp_rdG (.bool ((x20 == x11) && (x22 == x12))) rfl (by kernel_rfl) ((by kernel_rfl : _ = rd Tryd.prog (toVal ((Op.equal 36 (.agg #[.int .i64 x20, .int .i64 x22]) (.agg #[.int .i64 x11, .int .i64 x12])).bind fun v_ => Sem.pure (.bool v_))) h17).trans (rd_eqB (eq_T36 9998))) ?_
 refine oS [(20, .bool ((x20 == x11) && (x22 == x12)))] rfl ?_
 refine oB ((x20 == x11) && (x22 == x12)) 4 [19, 20] (fun b_ => [(21, iteV b_ (.int .i64 x5 : Value) undef), (22, iteV b_ (.int .i64 x13 : Value) undef), (23, iteV b_ (.bool (decide (x5 = x13)) : Value) undef), (24, .bool (b_ && (decide (x5 = x13))))]) rfl (fun hb28 hq29 => oS [(21, .int .i64 x5), (22, .int .i64 x13), (23, .bool (decide (x5 = x13))), (24, .bool (decide (x5 = x13)))] rfl (hq29)) (fun hb30 hq31 => oS [(21, undef), (22, undef), (23, undef), (24, .bool false)] rfl (hq31)) ?_
 refine oS [(25, .bool (((x20 == x11) && (x22 == x12)) && (decide (x5 = x13))))] rfl ?_
 by_cases hc34 : (((x20 == x11) && (x22 == x12)) && (decide (x5 = x13))) = true
 · refine owp_at 24 (.bool true) (Eq.trans (b := .bool (((x20 == x11) && (x22 == x12)) && (decide (x5 = x13)))) (by kernel_rfl) (by rw [hc34])) ?_
   refine owp_at 25 (.bool true) (Eq.trans (b := .bool (((x20 == x11) && (x22 == x12)) && (decide (x5 = x13)))) (by kernel_rfl) (by rw [hc34])) ?_
   replace hM := ifT hc34 hM
   refine owp_hpG rfl (by kernel_rfl) (hpCallE 16 #[] (by kernel_rfl) (law21_sure_ok  _ h17 hM) ?_)
   rintro _ h35 ⟨x36, rfl, hM⟩
   refine oS [(27, .bool x36), (2, .bool x36)] rfl ?_
   refine oE (cwp_ret ?_)
   exact ret_ (.bool x36) (by kernel_rfl) ⟨_, rfl, hM⟩
 refine owp_at 24 (.bool false) (Eq.trans (b := .bool (((x20 == x11) && (x22 == x12)) && (decide (x5 = x13)))) (by kernel_rfl) (by rw [Bool.eq_false_iff.2 hc34])) ?_
 refine owp_at 25 (.bool false) (Eq.trans (b := .bool (((x20 == x11) && (x22 == x12)) && (decide (x5 = x13)))) (by kernel_rfl) (by rw [Bool.eq_false_iff.2 hc34])) ?_
 replace hM := ifF hc34 hM
 refine oS [(26, undef), (27, .bool false), (2, .bool false)] rfl ?_
 refine oE (cwp_ret ?_)
 exact ret_ (.bool false) (by kernel_rfl) ⟨_, rfl, hM⟩
/- mullion/mullionlaw21.KeysBack -/
def law21_KeysBack_j0 (Kr : Bool → Heap → Prop) (y70 : ByteArray) (h : Heap) : Prop :=
 keys_Read y70 (fun x72 x73 x74 h71 =>
  newB h71 #[.int .i64 0, .int .i64 0] 36 fun b75 h76 =>
  stN ⟨b75, 0, none⟩ [.int .i64 x72, .int .i64 x73] 0 h76 fun h78 =>
  if x74 = 0 then
   ldI h78 .i64 ⟨b75, 0, none⟩ fun x86 =>
   ldI h78 .i64 ⟨b75, 1, none⟩ fun x88 =>
   keys_Name x86 x88 (fun x93 h92 =>
    if (!(x93.toList == y70.toList)) = true then
     Kr false h92
    else
    ldI h92 .i64 ⟨b75, 0, none⟩ fun x102 =>
    ldI h92 .i64 ⟨b75, 1, none⟩ fun x104 =>
    if (!(keys_Valid x102 x104)) = true then
     gap h92 fun h108 =>
     Kr false h108
    else
    gap h92 fun h108 =>
    law21_sure  (fun x118 h117 =>
       Kr x118 h117) h108) h78
  else
  ldI h78 .i64 ⟨b75, 0, none⟩ fun x119 =>
  ldI h78 .i64 ⟨b75, 1, none⟩ fun x121 =>
  if (!((x119 == 0) && (x121 == 0))) = true then
   Kr false h78
  else
  law21_sure  (fun x127 h126 =>
     Kr x127 h126) h78) h
theorem law21_KeysBack_j0_ok {Q : Exit → Env → Heap → Prop} (Kr : Bool → Heap → Prop) (hKr : ∀ (z129 : Bool) (b : Env) (h : Heap), Kr z129 h → Q .ret (upd b 4 (.bool z129)) h) (y70 : ByteArray) (b : Env) (h : Heap) (hM : law21_KeysBack_j0 Kr y70 h) : cwp Tryd.prog (partC Tryd.f8 [1, 1, 1]) 58 Q (upd b 1 (.string y70)) h := by
  unfold law21_KeysBack_j0 at hM
  refine cwp_part rfl ?_
  refine cR ?_
  refine oS [(31, .string y70)] rfl ?_
  refine owp_hpG rfl (by kernel_rfl) (hpCallE 23 #[.string y70] (by kernel_rfl) (keys_Read_ok y70 _ h hM) ?_)
  rintro _ h71 ⟨x72, x73, x74, rfl, hM⟩
  refine oS [(30, .tuple #[.agg #[.int .i64 x72, .int .i64 x73], .int .i64 x74]), (33, .agg #[.int .i64 x72, .int .i64 x73]), (34, .int .i64 x74)] rfl ?_
  refine owp_hpG rfl (by kernel_rfl) (hpNew #[.int .i64 0, .int .i64 0] 36 (fun _ => by kernel_rfl) ?_)
  intro b75 h76 hN77
  replace hM := newB_of hN77 hM
  refine owp_hpD rfl (by kernel_rfl) (hpSt ⟨b75, 0, none⟩ [.int .i64 x72, .int .i64 x73] (fun _ => by kernel_rfl) rfl hM ?_)
  intro h78 hM
  refine oS [(8, .int .i64 x74)] rfl ?_
  refine oE (cwp_seq (cR ?_))
  refine oS [(35, .int .i64 x74), (36, .bool (decide (x74 = 0))), (37, .bool (decide (x74 = 0)))] rfl ?_
  by_cases hc85 : x74 = 0
  · refine owp_at 36 (.bool true) (Eq.trans (b := .bool (decide (x74 = 0))) (by kernel_rfl) (by rw [decide_eq_true hc85])) ?_
    refine owp_at 37 (.bool true) (Eq.trans (b := .bool (decide (x74 = 0))) (by kernel_rfl) (by rw [decide_eq_true hc85])) ?_
    replace hM := ifT hc85 hM
    obtain ⟨x86, hc87, hM⟩ := hM
    obtain ⟨x88, hc89, hM⟩ := hM
    refine owp_rdG (.agg #[.int .i64 x86, .int .i64 x88]) rfl (by kernel_rfl) (Eq.trans (b := (cellH h78 ⟨b75, 0, none⟩).bind fun v90 => (cellH h78 ⟨b75, 1, none⟩).bind fun v91 => some (.value (.agg #[v90, v91]))) (by kernel_rfl) ((bindE hc87 _).trans (bindE hc89 _))) ?_
    refine owp_hpG rfl (by kernel_rfl) (hpCallE 19 #[.agg #[.int .i64 x86, .int .i64 x88]] (by kernel_rfl) (keys_Name_ok x86 x88 _ h78 hM) ?_)
    rintro _ h92 ⟨x93, rfl, hM⟩
    refine oS [(40, .string y70), (41, .bool (!(x93.toList == y70.toList))), (42, .bool (!(x93.toList == y70.toList)))] rfl ?_
    by_cases hc100 : (!(x93.toList == y70.toList)) = true
    · refine owp_at 41 (.bool true) (Eq.trans (b := .bool (!(x93.toList == y70.toList))) (by kernel_rfl) (by rw [hc100])) ?_
      refine owp_at 42 (.bool true) (Eq.trans (b := .bool (!(x93.toList == y70.toList))) (by kernel_rfl) (by rw [hc100])) ?_
      replace hM := ifT hc100 hM
      refine oS [(43, undef), (44, undef), (45, undef), (46, .bool true), (47, .bool true), (48, .bool true), (49, undef), (50, undef), (51, undef), (52, undef), (53, undef), (54, undef), (55, undef), (56, .bool true)] rfl ?_
      refine oE ?_
      refine cwp_cond (t := true) (by kernel_rfl) (fun hx_ => ?_) (fun hx_ => ?_)
      all_goals first | (cases hx_; done) | skip
      refine cR ?_
      refine oS [(4, .bool false)] rfl ?_
      refine oE (cwp_ret (thenE_r ?_))
      exact q_at (Q := Q .ret) 4 (.bool false) (by kernel_rfl) (hKr false _ _ hM)
    refine owp_at 41 (.bool false) (Eq.trans (b := .bool (!(x93.toList == y70.toList))) (by kernel_rfl) (by rw [Bool.eq_false_iff.2 hc100])) ?_
    refine owp_at 42 (.bool false) (Eq.trans (b := .bool (!(x93.toList == y70.toList))) (by kernel_rfl) (by rw [Bool.eq_false_iff.2 hc100])) ?_
    replace hM := ifF hc100 hM
    obtain ⟨x102, hc103, hM⟩ := hM
    obtain ⟨x104, hc105, hM⟩ := hM
    refine owp_rdG (.agg #[.int .i64 x102, .int .i64 x104]) rfl (by kernel_rfl) (Eq.trans (b := (cellH h92 ⟨b75, 0, none⟩).bind fun v106 => (cellH h92 ⟨b75, 1, none⟩).bind fun v107 => some (.value (.agg #[v106, v107]))) (by kernel_rfl) ((bindE hc103 _).trans (bindE hc105 _))) ?_
    refine owp_hpG rfl (by kernel_rfl) (hpCallP 17 #[.agg #[.int .i64 x102, .int .i64 x104]] (.bool (keys_Valid x102 x104)) (by kernel_rfl) (keys_Valid_ok x102 x104 _ h92 rfl) ?_)
    intro h108 hx109
    refine oS [(45, .bool (!(keys_Valid x102 x104))), (46, .bool (!(keys_Valid x102 x104))), (47, .bool (!(keys_Valid x102 x104))), (48, .bool (!(keys_Valid x102 x104)))] rfl ?_
    by_cases hc116 : (!(keys_Valid x102 x104)) = true
    · refine owp_at 45 (.bool true) (Eq.trans (b := .bool (!(keys_Valid x102 x104))) (by kernel_rfl) (by rw [hc116])) ?_
      refine owp_at 46 (.bool true) (Eq.trans (b := .bool (!(keys_Valid x102 x104))) (by kernel_rfl) (by rw [hc116])) ?_
      refine owp_at 47 (.bool true) (Eq.trans (b := .bool (!(keys_Valid x102 x104))) (by kernel_rfl) (by rw [hc116])) ?_
      refine owp_at 48 (.bool true) (Eq.trans (b := .bool (!(keys_Valid x102 x104))) (by kernel_rfl) (by rw [hc116])) ?_
      replace hM := ifT hc116 hM
      refine oS [(49, undef), (50, undef), (51, undef), (52, undef), (53, undef), (54, undef), (55, undef), (56, .bool true)] rfl ?_
      refine oE ?_
      refine cwp_cond (t := true) (by kernel_rfl) (fun hx_ => ?_) (fun hx_ => ?_)
      all_goals first | (cases hx_; done) | skip
      refine cR ?_
      refine oS [(4, .bool false)] rfl ?_
      refine oE (cwp_ret (thenE_r ?_))
      replace hM := hM _ hx109
      exact q_at (Q := Q .ret) 4 (.bool false) (by kernel_rfl) (hKr false _ _ hM)
    refine owp_at 45 (.bool false) (Eq.trans (b := .bool (!(keys_Valid x102 x104))) (by kernel_rfl) (by rw [Bool.eq_false_iff.2 hc116])) ?_
    refine owp_at 46 (.bool false) (Eq.trans (b := .bool (!(keys_Valid x102 x104))) (by kernel_rfl) (by rw [Bool.eq_false_iff.2 hc116])) ?_
    refine owp_at 47 (.bool false) (Eq.trans (b := .bool (!(keys_Valid x102 x104))) (by kernel_rfl) (by rw [Bool.eq_false_iff.2 hc116])) ?_
    refine owp_at 48 (.bool false) (Eq.trans (b := .bool (!(keys_Valid x102 x104))) (by kernel_rfl) (by rw [Bool.eq_false_iff.2 hc116])) ?_
    replace hM := ifF hc116 hM
    refine oS [(49, .int .i64 x74), (50, .bool (!decide (x74 = 0))), (51, .bool (!decide (x74 = 0)))] rfl ?_
    refine owp_at 50 (.bool false) (Eq.trans (b := .bool (!decide (x74 = 0))) (by kernel_rfl) (by rw [decide_eq_true hc85]; rfl)) ?_
    refine owp_at 51 (.bool false) (Eq.trans (b := .bool (!decide (x74 = 0))) (by kernel_rfl) (by rw [decide_eq_true hc85]; rfl)) ?_
    refine oS [(52, undef), (53, undef), (54, undef), (55, .bool false), (56, .bool false)] rfl ?_
    refine oE ?_
    refine cwp_cond (t := false) (by kernel_rfl) (fun hx_ => ?_) (fun hx_ => ?_)
    all_goals first | (cases hx_; done) | skip
    refine cwp_skip (thenE_n (cR ?_))
    replace hM := hM _ hx109
    refine owp_hpG rfl (by kernel_rfl) (hpCallE 16 #[] (by kernel_rfl) (law21_sure_ok  _ h108 hM) ?_)
    rintro _ h117 ⟨x118, rfl, hM⟩
    refine oS [(4, .bool x118)] rfl ?_
    refine oE (cwp_ret ?_)
    exact q_at (Q := Q .ret) 4 (.bool x118) (by kernel_rfl) (hKr x118 _ _ hM)
  refine owp_at 36 (.bool false) (Eq.trans (b := .bool (decide (x74 = 0))) (by kernel_rfl) (by rw [decide_eq_false hc85])) ?_
  refine owp_at 37 (.bool false) (Eq.trans (b := .bool (decide (x74 = 0))) (by kernel_rfl) (by rw [decide_eq_false hc85])) ?_
  replace hM := ifF hc85 hM
  refine oS [(38, undef), (39, undef), (40, undef), (41, undef), (42, undef), (43, undef), (44, undef), (45, undef), (46, undef), (47, .bool false), (48, .bool false), (49, .int .i64 x74), (50, .bool (!decide (x74 = 0))), (51, .bool (!decide (x74 = 0)))] rfl ?_
  refine owp_at 50 (.bool true) (Eq.trans (b := .bool (!decide (x74 = 0))) (by kernel_rfl) (by rw [decide_eq_false hc85]; rfl)) ?_
  refine owp_at 51 (.bool true) (Eq.trans (b := .bool (!decide (x74 = 0))) (by kernel_rfl) (by rw [decide_eq_false hc85]; rfl)) ?_
  obtain ⟨x119, hc120, hM⟩ := hM
  obtain ⟨x121, hc122, hM⟩ := hM
  refine owp_rdG (.agg #[.int .i64 x119, .int .i64 x121]) rfl (by kernel_rfl) (Eq.trans (b := (cellH h78 ⟨b75, 0, none⟩).bind fun v123 => (cellH h78 ⟨b75, 1, none⟩).bind fun v124 => some (.value (.agg #[v123, v124]))) (by kernel_rfl) ((bindE hc120 _).trans (bindE hc122 _))) ?_
  refine oS [(53, .agg #[.int .i64 0, .int .i64 0])] rfl ?_
  refine owp_rdG (.bool (!((x119 == 0) && (x121 == 0)))) rfl (by kernel_rfl) ((by kernel_rfl : _ = rd Tryd.prog (toVal ((Op.equal 36 (.agg #[.int .i64 x119, .int .i64 x121]) (.agg #[.int .i64 0, .int .i64 0])).bind fun v_ => Sem.pure (.bool (!v_)))) h78).trans (rd_neB (eq_T36 9998))) ?_
  refine oS [(55, .bool (!((x119 == 0) && (x121 == 0)))), (56, .bool (!((x119 == 0) && (x121 == 0))))] rfl ?_
  refine oE ?_
  refine cwp_condB (!((x119 == 0) && (x121 == 0))) (by kernel_rfl) (fun hc125 => ?_) (fun hc125 => ?_)
  · replace hM := ifT hc125 hM
    refine cR ?_
    refine oS [(4, .bool false)] rfl ?_
    refine oE (cwp_ret (thenE_r ?_))
    exact q_at (Q := Q .ret) 4 (.bool false) (by kernel_rfl) (hKr false _ _ hM)
  replace hM := ifF hc125 hM
  refine cwp_skip (thenE_n (cR ?_))
  refine owp_hpG rfl (by kernel_rfl) (hpCallE 16 #[] (by kernel_rfl) (law21_sure_ok  _ h78 hM) ?_)
  rintro _ h126 ⟨x127, rfl, hM⟩
  refine oS [(4, .bool x127)] rfl ?_
  refine oE (cwp_ret ?_)
  exact q_at (Q := Q .ret) 4 (.bool x127) (by kernel_rfl) (hKr x127 _ _ hM)
def law21_KeysBack (a1 : Int) (a2 : Int) (a3 : ByteArray) (K : Bool → Heap → Prop) (h : Heap) : Prop :=
 newB h #[.int .i64 a1, .int .i64 a2] 36 fun b4 h5 =>
 ldI h5 .i64 ⟨b4, 0, none⟩ fun x7 =>
 ldI h5 .i64 ⟨b4, 1, none⟩ fun x9 =>
 ldI h5 .i64 ⟨b4, 0, none⟩ fun x15 =>
 ldI h5 .i64 ⟨b4, 1, none⟩ fun x17 =>
 gap h5 fun h23 =>
 (cellH h23 ⟨b4, 0, none⟩ = some (.int .i64 x15) ∧ cellH h23 ⟨b4, 1, none⟩ = some (.int .i64 x17)) ∧
 keys_Name x15 x17 (fun x28 h27 =>
  if (!((keys_Valid x7 x9) == (!(x28.toList == (⟨#[]⟩ : ByteArray).toList)))) = true then
   K false h27
  else
  ldI h27 .i64 ⟨b4, 0, none⟩ fun x30 =>
  ldI h27 .i64 ⟨b4, 1, none⟩ fun x32 =>
  if (keys_Valid x30 x32) = true then
   gap h27 fun h36 =>
   ldI h36 .i64 ⟨b4, 0, none⟩ fun x39 =>
   ldI h36 .i64 ⟨b4, 1, none⟩ fun x41 =>
   keys_Name x39 x41 (fun x46 h45 =>
    keys_Read x46 (fun x48 x49 x50 h47 =>
     gap h47 fun h54 =>
     ldI h54 .i64 ⟨b4, 0, none⟩ fun x59 =>
     ldI h54 .i64 ⟨b4, 1, none⟩ fun x61 =>
     if ((!((x48 == x59) && (x49 == x61))) || (!decide (x50 = 0))) = true then
      K false h54
     else
     law21_KeysBack_j0
      (fun z130 h131 =>
            K z130 h131) a3 h54) h45) h36
  else
  gap h27 fun h36 =>
  law21_KeysBack_j0
   (fun z134 h135 =>
        K z134 h135) a3 h36) h23
theorem law21_KeysBack_ok (a1 : Int) (a2 : Int) (a3 : ByteArray) (K : Bool → Heap → Prop) (h : Heap) (hM : law21_KeysBack a1 a2 a3 K h) : CallsH Tryd.prog 8 #[.agg #[.int .i64 a1, .int .i64 a2], .string a3] (fun v h' => ∃ (r138 : Bool), v = .bool r138 ∧ K r138 h') h := by
 unfold law21_KeysBack at hM
 refine callsH_intro (n := 58) Tryd.func8 rfl rfl (by kernel_rfl) ?_
 refine cR ?_
 refine owp_hpG rfl (by kernel_rfl) (hpNew #[.int .i64 a1, .int .i64 a2] 36 (fun _ => by kernel_rfl) ?_)
 intro b4 h5 hN6
 replace hM := newB_of hN6 hM
 refine oS [(4, .bool false)] rfl ?_
 refine oE (cwp_seq (cwp_seq ?_))
 refine cwp_draw (by kernel_rfl) ?_
 obtain ⟨x7, hc8, hM⟩ := hM
 obtain ⟨x9, hc10, hM⟩ := hM
 refine k_load (i := 0) (.agg #[.int .i64 x7, .int .i64 x9]) (fun h' => cellH h' ⟨b4, 0, none⟩ = some (.int .i64 x7) ∧ cellH h' ⟨b4, 1, none⟩ = some (.int .i64 x9) ∧ True) [1, 3, 4, 5] [1, 3] (by kernel_rfl) (by kernel_rfl) rfl rfl (by kernel_rfl) (fun h' hS => Eq.trans (b := (cellH h' ⟨b4, 0, none⟩).bind fun v13 => (cellH h' ⟨b4, 1, none⟩).bind fun v14 => some (.value (.agg #[v13, v14]))) (by kernel_rfl) ((bindE hS.1 _).trans (bindE hS.2.1 _))) ⟨hc8, hc10, trivial⟩ (by kernel_rfl) ?_
 obtain ⟨x15, hc16, hM⟩ := hM
 obtain ⟨x17, hc18, hM⟩ := hM
 refine k_load (i := 2) (.agg #[.int .i64 x15, .int .i64 x17]) (fun h' => cellH h' ⟨b4, 0, none⟩ = some (.int .i64 x15) ∧ cellH h' ⟨b4, 1, none⟩ = some (.int .i64 x17) ∧ True) [3, 4, 5] [3] (by kernel_rfl) (by kernel_rfl) rfl rfl (by kernel_rfl) (fun h' hS => Eq.trans (b := (cellH h' ⟨b4, 0, none⟩).bind fun v21 => (cellH h' ⟨b4, 1, none⟩).bind fun v22 => some (.value (.agg #[v21, v22]))) (by kernel_rfl) ((bindE hS.1 _).trans (bindE hS.2.1 _))) ⟨hc16, hc18, trivial⟩ (by kernel_rfl) ?_
 refine k_eff (j := 1) (by kernel_rfl) rfl rfl (by kernel_rfl) (hpCallP 17 #[.agg #[.int .i64 x7, .int .i64 x9]] (.bool (keys_Valid x7 x9)) (by kernel_rfl) (keys_Valid_ok x7 x9 _ h5 rfl) ?_)
 intro h23 hx24
 replace hM := hM _ hx24
 obtain ⟨⟨hk25, hk26⟩, hM⟩ := hM
 refine ⟨⟨⟨hk25, hk26, trivial⟩, trivial⟩, ?_⟩
 refine k_eff (j := 3) (by kernel_rfl) rfl rfl (by kernel_rfl) (hpCallE 19 #[.agg #[.int .i64 x15, .int .i64 x17]] (by kernel_rfl) (keys_Name_ok x15 x17 _ h23 hM) ?_)
 rintro _ h27 ⟨x28, rfl, hM⟩
 refine ⟨trivial, ?_⟩
 refine k_pure (i := 4) [5] (.bool (!(x28.toList == (⟨#[]⟩ : ByteArray).toList))) (by kernel_rfl) rfl rfl (by kernel_rfl) (fun h' => by kernel_rfl) (by kernel_rfl) ?_
 refine k_pure (i := 5) [] (.bool (!((keys_Valid x7 x9) == (!(x28.toList == (⟨#[]⟩ : ByteArray).toList))))) (by kernel_rfl) rfl rfl (by kernel_rfl) (fun h' => by kernel_rfl) (by kernel_rfl) ?_
 refine k_done (by kernel_rfl) ?_
 refine thenE_n ?_
 refine cwp_condB (!((keys_Valid x7 x9) == (!(x28.toList == (⟨#[]⟩ : ByteArray).toList)))) (by kernel_rfl) (fun hc29 => ?_) (fun hc29 => ?_)
 · replace hM := ifT hc29 hM
   refine cR ?_
   refine oS [(4, .bool false)] rfl ?_
   refine oE (cwp_ret (thenE_r ?_))
   exact ret_ (.bool false) (by kernel_rfl) ⟨_, rfl, hM⟩
 replace hM := ifF hc29 hM
 refine cwp_skip (thenE_n (cwp_seq (cR ?_)))
 obtain ⟨x30, hc31, hM⟩ := hM
 obtain ⟨x32, hc33, hM⟩ := hM
 refine owp_rdG (.agg #[.int .i64 x30, .int .i64 x32]) rfl (by kernel_rfl) (Eq.trans (b := (cellH h27 ⟨b4, 0, none⟩).bind fun v34 => (cellH h27 ⟨b4, 1, none⟩).bind fun v35 => some (.value (.agg #[v34, v35]))) (by kernel_rfl) ((bindE hc31 _).trans (bindE hc33 _))) ?_
 refine owp_hpG rfl (by kernel_rfl) (hpCallP 17 #[.agg #[.int .i64 x30, .int .i64 x32]] (.bool (keys_Valid x30 x32)) (by kernel_rfl) (keys_Valid_ok x30 x32 _ h27 rfl) ?_)
 intro h36 hx37
 refine oE ?_
 refine cwp_condB (keys_Valid x30 x32) (by kernel_rfl) (fun hc38 => ?_) (fun hc38 => ?_)
 · replace hM := ifT hc38 hM
   refine cR ?_
   replace hM := hM _ hx37
   obtain ⟨x39, hc40, hM⟩ := hM
   obtain ⟨x41, hc42, hM⟩ := hM
   refine owp_rdG (.agg #[.int .i64 x39, .int .i64 x41]) rfl (by kernel_rfl) (Eq.trans (b := (cellH h36 ⟨b4, 0, none⟩).bind fun v43 => (cellH h36 ⟨b4, 1, none⟩).bind fun v44 => some (.value (.agg #[v43, v44]))) (by kernel_rfl) ((bindE hc40 _).trans (bindE hc42 _))) ?_
   refine owp_hpG rfl (by kernel_rfl) (hpCallE 19 #[.agg #[.int .i64 x39, .int .i64 x41]] (by kernel_rfl) (keys_Name_ok x39 x41 _ h36 hM) ?_)
   rintro _ h45 ⟨x46, rfl, hM⟩
   refine owp_hpG rfl (by kernel_rfl) (hpCallE 23 #[.string x46] (by kernel_rfl) (keys_Read_ok x46 _ h45 hM) ?_)
   rintro _ h47 ⟨x48, x49, x50, rfl, hM⟩
   refine oS [(17, .tuple #[.agg #[.int .i64 x48, .int .i64 x49], .int .i64 x50]), (21, .agg #[.int .i64 x48, .int .i64 x49]), (22, .int .i64 x50)] rfl ?_
   refine owp_hpG rfl (by kernel_rfl) (hpNew #[.int .i64 0, .int .i64 0] 36 (fun _ => by kernel_rfl) ?_)
   intro b51 h52 hN53
   refine owp_hpD rfl (by kernel_rfl) (hpStB b51 0 [.int .i64 x48, .int .i64 x49] (New.blk hN53) (fun _ => by kernel_rfl) rfl rfl ?_)
   intro h54 hP55
   have f56 : Blk h54 b51 #[.int .i64 x48, .int .i64 x49] 36 := hP55.blk
   refine oS [(6, .int .i64 x50)] rfl ?_
   refine oE (cR ?_)
   refine owp_rdG (.agg #[.int .i64 x48, .int .i64 x49]) rfl (by kernel_rfl) (Eq.trans (b := (cellH h54 ⟨b51, 0, none⟩).bind fun v57 => (cellH h54 ⟨b51, 1, none⟩).bind fun v58 => some (.value (.agg #[v57, v58]))) (by kernel_rfl) ((bindE (Blk.cell f56 0 (by kernel_rfl)) _).trans (bindE (Blk.cell f56 1 (by kernel_rfl)) _))) ?_
   replace hM := hM _ (Put.ext hP55 (New.ext hN53) (New.ge hN53 (Ext.refl _)))
   obtain ⟨x59, hc60, hM⟩ := hM
   obtain ⟨x61, hc62, hM⟩ := hM
   refine owp_rdG (.agg #[.int .i64 x59, .int .i64 x61]) rfl (by kernel_rfl) (Eq.trans (b := (cellH h54 ⟨b4, 0, none⟩).bind fun v63 => (cellH h54 ⟨b4, 1, none⟩).bind fun v64 => some (.value (.agg #[v63, v64]))) (by kernel_rfl) ((bindE hc60 _).trans (bindE hc62 _))) ?_
   refine owp_rdG (.bool (!((x48 == x59) && (x49 == x61)))) rfl (by kernel_rfl) ((by kernel_rfl : _ = rd Tryd.prog (toVal ((Op.equal 36 (.agg #[.int .i64 x48, .int .i64 x49]) (.agg #[.int .i64 x59, .int .i64 x61])).bind fun v_ => Sem.pure (.bool (!v_)))) h54).trans (rd_neB (eq_T36 9998))) ?_
   refine oS [(26, .bool (!((x48 == x59) && (x49 == x61))))] rfl ?_
   refine oB (!((x48 == x59) && (x49 == x61))) 3 [25, 26] (fun b_ => [(27, iteV b_ undef (.int .i64 x50 : Value)), (28, iteV b_ undef (.bool (!decide (x50 = 0)) : Value)), (29, .bool (b_ || (!decide (x50 = 0))))]) rfl (fun hb65 hq66 => oS [(27, undef), (28, undef), (29, .bool true)] rfl (hq66)) (fun hb67 hq68 => oS [(27, .int .i64 x50), (28, .bool (!decide (x50 = 0))), (29, .bool (!decide (x50 = 0)))] rfl (hq68)) ?_
   refine oE ?_
   refine cwp_condB ((!((x48 == x59) && (x49 == x61))) || (!decide (x50 = 0))) (by kernel_rfl) (fun hc69 => ?_) (fun hc69 => ?_)
   · replace hM := ifT hc69 hM
     refine cR ?_
     refine oS [(4, .bool false)] rfl ?_
     refine oE (cwp_ret (thenE_r ?_))
     exact ret_ (.bool false) (by kernel_rfl) ⟨_, rfl, hM⟩
   replace hM := ifF hc69 hM
   refine cwp_skip (thenE_n ?_)
   refine cwp_of_part (fn := Tryd.f8) (p := [1, 1, 1]) (by kernel_rfl) (cwp_at 1 (.string a3) (by kernel_rfl) (law21_KeysBack_j0_ok _ ?_ a3 _ _ hM))
   · intro z130 b132 h131 hM
     exact ret_ (.bool z130) (by kernel_rfl) ⟨_, rfl, hM⟩
 replace hM := ifF hc38 hM
 refine cwp_skip (thenE_n ?_)
 replace hM := hM _ hx37
 refine cwp_of_part (fn := Tryd.f8) (p := [1, 1, 1]) (by kernel_rfl) (cwp_at 1 (.string a3) (by kernel_rfl) (law21_KeysBack_j0_ok _ ?_ a3 _ _ hM))
 · intro z134 b136 h135 hM
   exact ret_ (.bool z134) (by kernel_rfl) ⟨_, rfl, hM⟩
end Go.Proofs.YtkbpnmgkdodcmaaDoor.M
