/-
  PRINTED BY A PROGRAM OF THIS CLAIM'S (gen.py): for each Go function a Lean function over memory, and the proof that the code comes to what it says.
-/
import Derived.Test.YthjdnhhifjpidaaGreatDoorF4
import Derived.Test.YthjdnhhifjpidaaGreatDoorProg
set_option linter.unusedVariables false
set_option linter.unusedSimpArgs false
set_option maxRecDepth 100000
set_option maxHeartbeats 1000000
namespace Go.Proofs.YthjdnhhifjpidaaGreatDoor.M
open Go Go.Hp
/- strings.TrimRight -/
def strings_TrimRight (a1 : ByteArray) (a2 : ByteArray) (K : ByteArray → Heap → Prop) (h : Heap) : Prop :=
 if ((a1.toList == (⟨#[]⟩ : ByteArray).toList) || (a2.toList == (⟨#[]⟩ : ByteArray).toList)) = true then
  K a1 h
 else
 if (a2.size : Int) = 1 then
  (0 : Int) < (a2.size : Int) ∧
  if (byteAt a2 0) < 128 then
   (0 : Int) < (a2.size : Int) ∧
   strings_trimRightByte a1 (byteAt a2 0) (fun x17 h16 =>
     K x17 h16) h
  else
  False
 else
 False
theorem strings_TrimRight_ok (a1 : ByteArray) (a2 : ByteArray) (K : ByteArray → Heap → Prop) (h : Heap) (hM : strings_TrimRight a1 a2 K h) : CallsH Tryz.prog 65 #[.string a1, .string a2] (fun v h' => ∃ (r18 : ByteArray), v = .string r18 ∧ K r18 h') h := by
 unfold strings_TrimRight at hM
 refine callsH_intro (n := 37) Tryz.func65 rfl rfl (by kernel_rfl) ?_
 refine cR ?_
 refine oZ [(4, .string (⟨#[]⟩ : ByteArray))] ?_
 refine oE (cwp_seq (cR ?_))
 refine oZ [(7, .string a1), (8, .bool (a1.toList == (⟨#[]⟩ : ByteArray).toList)), (9, .bool (a1.toList == (⟨#[]⟩ : ByteArray).toList))] ?_
 refine oB (a1.toList == (⟨#[]⟩ : ByteArray).toList) 3 [8, 9] (fun b_ => [(10, iteV b_ undef (.string a2 : Value)), (11, iteV b_ undef (.bool (a2.toList == (⟨#[]⟩ : ByteArray).toList) : Value)), (12, .bool (b_ || (a2.toList == (⟨#[]⟩ : ByteArray).toList)))]) rfl (fun hb3 hq4 => oS [(10, undef), (11, undef), (12, .bool true)] rfl (hq4)) (fun hb5 hq6 => oS [(10, .string a2), (11, .bool (a2.toList == (⟨#[]⟩ : ByteArray).toList)), (12, .bool (a2.toList == (⟨#[]⟩ : ByteArray).toList))] rfl (hq6)) ?_
 refine oE ?_
 refine cwp_condB ((a1.toList == (⟨#[]⟩ : ByteArray).toList) || (a2.toList == (⟨#[]⟩ : ByteArray).toList)) (by kernel_rfl) (fun hc7 => ?_) (fun hc7 => ?_)
 · replace hM := ifT hc7 hM
   refine cR ?_
   refine oZ [(13, .string a1), (4, .string a1)] ?_
   refine oE (cwp_ret (thenE_r ?_))
   exact ret_ (.string a1) (by kernel_rfl) ⟨_, rfl, hM⟩
 replace hM := ifF hc7 hM
 refine cwp_skip (thenE_n (cwp_seq (cR ?_)))
 refine oZ [(14, .string a2), (15, .int .i64 (a2.size : Int)), (16, .bool (decide ((a2.size : Int) = 1))), (17, .bool (decide ((a2.size : Int) = 1)))] ?_
 by_cases hc10 : (a2.size : Int) = 1
 · refine oA 16 true (decide ((a2.size : Int) = 1)) (by rw [decide_eq_true hc10]) ?_
   refine oA 17 true (decide ((a2.size : Int) = 1)) (by rw [decide_eq_true hc10]) ?_
   replace hM := ifT hc10 hM
   refine oZ [(18, .string a2)] ?_
   have hc11 : 0 ≤ (0 : Int) := by decide
   obtain ⟨hc12, hM⟩ := hM
   refine owp_rdG (.int .u8 (byteAt a2 0)) rfl (by kernel_rfl) (rd_ixStr (P := Tryz.prog) (h := h) (t := 9) (s := a2) (k := .i64) (i := 0) (by kernel_rfl) hc11 hc12 (by kernel_rfl)) ?_
   refine oZ [(20, .bool (decide ((byteAt a2 0) < 128))), (21, .bool (decide ((byteAt a2 0) < 128)))] ?_
   refine oE ?_
   refine cwp_condD ((byteAt a2 0) < 128) (by kernel_rfl) (fun hc13 => ?_) (fun hc13 => ?_)
   · replace hM := ifT hc13 hM
     refine cR ?_
     refine oZ [(22, .string a1), (23, .string a2)] ?_
     have hc14 : 0 ≤ (0 : Int) := by decide
     obtain ⟨hc15, hM⟩ := hM
     refine owp_rdG (.int .u8 (byteAt a2 0)) rfl (by kernel_rfl) (rd_ixStr (P := Tryz.prog) (h := h) (t := 9) (s := a2) (k := .i64) (i := 0) (by kernel_rfl) hc14 hc15 (by kernel_rfl)) ?_
     refine oG (hpCallE 92 #[.string a1, .int .u8 (byteAt a2 0)] (by kernel_rfl) (strings_trimRightByte_ok a1 (byteAt a2 0) _ h hM) ?_)
     clear hM
     rintro _ h16 ⟨x17, rfl, hM⟩
     refine oZ [(4, .string x17)] ?_
     refine oE (cwp_ret (thenE_r ?_))
     exact ret_ (.string x17) (by kernel_rfl) ⟨_, rfl, hM⟩
   replace hM := ifF hc13 hM
   refine cwp_skip (thenE_n (cwp_seq (cR ?_)))
   exact hM.elim
 refine oA 16 false (decide ((a2.size : Int) = 1)) (by rw [decide_eq_false hc10]) ?_
 refine oA 17 false (decide ((a2.size : Int) = 1)) (by rw [decide_eq_false hc10]) ?_
 replace hM := ifF hc10 hM
 refine oZ [(18, undef), (19, undef), (20, undef), (21, .bool false)] ?_
 refine oE ?_
 refine cwp_cond (t := false) (by kernel_rfl) (fun hx_ => ?_) (fun hx_ => ?_)
 all_goals first | (cases hx_; done) | skip
 refine cwp_skip (thenE_n (cwp_seq (cR ?_)))
 exact hM.elim
/- (mullion/vt.row).text -/
def vt_row_text_l0 (K0 : Nat → Heap → Prop) : Nat → Nat → Option Addr → Nat → Nat → Int → Int → Heap → Prop
  | 0, _, _, _, _, _, _, _ => False
  | k + 1, y5, y6, y6n, y6c, y7, y8, h =>
  if y8 < y7 then
   nz y6 fun p12 =>
   0 ≤ y8 ∧
   y8 < (y6n : Int) ∧
   ldS h (p12.add ((y8).toNat * 5)) fun x13 =>
   ldI h .i64 ((p12.add ((y8).toNat * 5)).add 1) fun x15 =>
   ldI h .i64 ((p12.add ((y8).toNat * 5)).add 2) fun x17 =>
   ldI h .i64 ((p12.add ((y8).toNat * 5)).add 3) fun x19 =>
   ldI h .i64 ((p12.add ((y8).toNat * 5)).add 4) fun x21 =>
   gap h fun h31 =>
   strings_Builder_WriteString (some ⟨y5, 0, none⟩) x13 (fun x36 x37 h35 =>
     vt_row_text_l0 K0 k y5 (some p12) y6n y6c y7 (IntKind.wrap .i64 (y8 + 1)) h35) h31
  else
  K0 y5 h
theorem vt_row_text_l0_ok {Q : Exit → Env → Heap → Prop} (K0 : Nat → Heap → Prop) (hK0 : ∀ (z40 : Nat) (b : Env) (h : Heap), K0 z40 h → Q (.exit 0) (upd b 3 (.pointer (some ⟨z40, 0, none⟩))) h) : ∀ (k : Nat) (y5 : Nat) (y6 : Option Addr) (y6n : Nat) (y6c : Nat) (y7 : Int) (y8 : Int) (b : Env) (h : Heap) (hM : vt_row_text_l0 K0 k y5 y6 y6n y6c y7 y8 h), lwp Tryz.prog (partC Tryz.f41 [1, 1, 0, 1, 0, 0]) 18 Q k (upd (upd (upd (upd b 3 (.pointer (some ⟨y5, 0, none⟩))) 6 (.slice y6 y6n y6c)) 7 (.int .i64 y7)) 8 (.int .i64 y8)) h := by
  intro k
  induction k with
  | zero => intro y5 y6 y6n y6c y7 y8 b h hM; exact (show False from hM).elim
  | succ k ih =>
    intro y5 y6 y6n y6c y7 y8 b h hM
    unfold vt_row_text_l0 at hM
    refine lwp_succ (cwp_part rfl ?_)
    refine cR ?_
    refine oZ [(9, .bool (decide (y8 < y7)))] ?_
    refine oE (cwp_seq ?_)
    refine cwp_condD (y8 < y7) (by kernel_rfl) (fun hc9 => ?_) (fun hc9 => ?_)
    · replace hM := ifT hc9 hM
      refine cwp_skip (thenE_n (cwp_seq (cwp_block (cR ?_))))
      obtain ⟨p12, rfl, hM⟩ := hM
      obtain ⟨hc10, hM⟩ := hM
      obtain ⟨hc11, hM⟩ := hM
      refine owp_rdG (.pointer (some (p12.add ((y8).toNat * 5)))) rfl (by kernel_rfl) (rd_ixS (P := Tryz.prog) (h := h) (t := 81) (el := 52) (sz := 5) (ad := p12) (len := y6n) (c := y6c) (k := .i64) (i := y8) (by kernel_rfl) (by kernel_rfl) hc10 hc11 (by kernel_rfl)) ?_
      obtain ⟨x13, hc14, hM⟩ := hM
      obtain ⟨x15, hc16, hM⟩ := hM
      obtain ⟨x17, hc18, hM⟩ := hM
      obtain ⟨x19, hc20, hM⟩ := hM
      obtain ⟨x21, hc22, hM⟩ := hM
      refine owp_rdG (.agg #[.string x13, .int .i64 x15, .int .i64 x17, .int .i64 x19, .int .i64 x21]) rfl (by kernel_rfl) (Eq.trans (b := (cellH h (p12.add ((y8).toNat * 5))).bind fun v23 => (cellH h ((p12.add ((y8).toNat * 5)).add 1)).bind fun v24 => (cellH h ((p12.add ((y8).toNat * 5)).add 2)).bind fun v25 => (cellH h ((p12.add ((y8).toNat * 5)).add 3)).bind fun v26 => (cellH h ((p12.add ((y8).toNat * 5)).add 4)).bind fun v27 => some (.value (.agg #[v23, v24, v25, v26, v27]))) (by kernel_rfl) ((bindE hc14 _).trans ((bindE hc16 _).trans ((bindE hc18 _).trans ((bindE hc20 _).trans (bindE hc22 _)))))) ?_
      refine oG (hpNew #[.string (⟨#[]⟩ : ByteArray), .int .i64 0, .int .i64 0, .int .i64 0, .int .i64 0] 52 (fun _ => by kernel_rfl) ?_)
      intro b28 h29 hN30
      refine owp_hpD rfl (by kernel_rfl) (hpStB b28 0 [.string x13, .int .i64 x15, .int .i64 x17, .int .i64 x19, .int .i64 x21] (New.blk hN30) (fun _ => by kernel_rfl) rfl rfl ?_)
      intro h31 hP32
      have f33 : Blk h31 b28 #[.string x13, .int .i64 x15, .int .i64 x17, .int .i64 x19, .int .i64 x21] 52 := hP32.blk
      refine oE (cwp_region ?_)
      refine oZ [(12, .pointer (some ⟨b28, 0, none⟩))] ?_
      refine owp_rdG (.string x13) rfl (by kernel_rfl) (Eq.trans (b := (cellH h31 ⟨b28, 0, none⟩).bind fun v34 => some (.value v34)) (by kernel_rfl) (bindE (Blk.cell f33 0 (by kernel_rfl)) _)) ?_
      replace hM := hM _ (Put.ext hP32 (New.ext hN30) (New.ge hN30 (Ext.refl _)))
      refine oG (hpCallE 64 #[.pointer (some ⟨y5, 0, none⟩), .string x13] (by kernel_rfl) (strings_Builder_WriteString_ok (some ⟨y5, 0, none⟩) x13 _ h31 hM) ?_)
      clear hM
      rintro _ h35 ⟨x36, x37, rfl, hM⟩
      refine owp_nil (blockE_n (thenE_n (cwp_region ?_)))
      refine oZ [(15, .int .i64 (IntKind.wrap .i64 (y8 + 1))), (8, .int .i64 (IntKind.wrap .i64 (y8 + 1)))] ?_
      refine owp_nil ?_
      exact lA 3 (.pointer (some ⟨y5, 0, none⟩)) (lA 6 (.slice (some p12) y6n y6c) (lA 7 (.int .i64 y7) (lA 8 (.int .i64 (IntKind.wrap .i64 (y8 + 1))) (ih y5 (some p12) y6n y6c y7 (IntKind.wrap .i64 (y8 + 1)) _ _ hM))))
    replace hM := ifF hc9 hM
    refine cwp_exit (thenE_x ?_)
    exact q_at (Q := Q (.exit 0)) 3 (.pointer (some ⟨y5, 0, none⟩)) (by kernel_rfl) (hK0 y5 _ _ hM)
def vt_row_text (a1 : Option Addr) (a1n : Nat) (a1c : Nat) (K : ByteArray → Heap → Prop) (h : Heap) : Prop :=
 newB h #[.pointer none, .slice none 0 0] 107 fun b2 h3 =>
 ∃ k48, vt_row_text_l0
  (fun z41 h42 =>
    strings_Builder_String (some ⟨z41, 0, none⟩) (fun x44 h43 =>
     strings_TrimRight x44 (⟨#[32]⟩ : ByteArray) (fun x46 h45 =>
          K x46 h45) h43) h42) k48 b2 a1 a1n a1c (a1n : Int) 0 h3
theorem vt_row_text_ok (a1 : Option Addr) (a1n : Nat) (a1c : Nat) (K : ByteArray → Heap → Prop) (h : Heap) (hM : vt_row_text a1 a1n a1c K h) : CallsH Tryz.prog 41 #[.slice a1 a1n a1c] (fun v h' => ∃ (r49 : ByteArray), v = .string r49 ∧ K r49 h') h := by
 unfold vt_row_text at hM
 refine callsH_intro (n := 18) Tryz.func41 rfl rfl (by kernel_rfl) ?_
 refine cR ?_
 refine oZ [(2, .string (⟨#[]⟩ : ByteArray))] ?_
 refine oE (cR ?_)
 refine oG (hpNew #[.pointer none, .slice none 0 0] 107 (fun _ => by kernel_rfl) ?_)
 intro b2 h3 hN4
 replace hM := newB_of hN4 hM
 refine oE (cwp_seq (cR ?_))
 refine oZ [(6, .slice a1 a1n a1c), (7, .int .i64 (a1n : Int)), (8, .int .i64 0)] ?_
 refine oE (cwp_block ?_)
 obtain ⟨k_, hM⟩ := hM
 refine cwp_loop k_ (lwp_of_part (fn := Tryz.f41) (p := [1, 1, 0, 1, 0, 0]) (by kernel_rfl) (lA 3 (.pointer (some ⟨b2, 0, none⟩)) (lA 6 (.slice a1 a1n a1c) (lA 7 (.int .i64 (a1n : Int)) (lA 8 (.int .i64 0) (vt_row_text_l0_ok _ ?_ k_ b2 a1 a1n a1c (a1n : Int) 0 _ _ hM))))))
 · intro z41 b47 h42 hM
   refine blockE_h (thenE_n (cR ?_))
   refine oG (hpCallE 66 #[.pointer (some ⟨z41, 0, none⟩)] (by kernel_rfl) (strings_Builder_String_ok (some ⟨z41, 0, none⟩) _ h42 hM) ?_)
   clear hM
   rintro _ h43 ⟨x44, rfl, hM⟩
   refine oG (hpCallE 65 #[.string x44, .string (⟨#[32]⟩ : ByteArray)] (by kernel_rfl) (strings_TrimRight_ok x44 (⟨#[32]⟩ : ByteArray) _ h43 hM) ?_)
   clear hM
   rintro _ h45 ⟨x46, rfl, hM⟩
   refine oZ [(2, .string x46)] ?_
   refine oE (cwp_ret ?_)
   exact ret_ (.string x46) (by kernel_rfl) ⟨_, rfl, hM⟩
/- (*mullion/vt.Screen).Lines -/
def vt_Screen_Lines_l0 (K0 : Addr → Option Addr → Nat → Nat → Heap → Prop) : Nat → Addr → Option Addr → Nat → Nat → Option Addr → Nat → Nat → Int → Int → Heap → Prop
  | 0, _, _, _, _, _, _, _, _, _, _ => False
  | k + 1, y10, y11, y11n, y11c, y12, y12n, y12c, y13, y14, h =>
  if y14 < y13 then
   nz y12 fun p18 =>
   0 ≤ y14 ∧
   y14 < (y12n : Int) ∧
   ldL h (p18.add ((y14).toNat * 1)) fun x19 x19n x19c =>
   vt_row_text x19 x19n x19c (fun x23 h22 =>
    gap h22 fun h25 =>
    appH h25 9 16 [.string (⟨#[]⟩ : ByteArray)] y11 y11n y11c [.string x23] 1 fun s28 s28c h27 =>
     vt_Screen_Lines_l0 K0 k y10 s28 (y11n + 1) s28c (some p18) y12n y12c y13 (IntKind.wrap .i64 (y14 + 1)) h27) h
  else
  K0 y10 y11 y11n y11c h
theorem vt_Screen_Lines_l0_ok {Q : Exit → Env → Heap → Prop} (K0 : Addr → Option Addr → Nat → Nat → Heap → Prop) (hK0 : ∀ (z33 : Addr) (z34 : Option Addr) (z34n : Nat) (z34c : Nat) (b : Env) (h : Heap), K0 z33 z34 z34n z34c h → Q (.exit 0) (upd (upd b 0 (.pointer (some z33))) 3 (.slice z34 z34n z34c)) h) : ∀ (k : Nat) (y10 : Addr) (y11 : Option Addr) (y11n : Nat) (y11c : Nat) (y12 : Option Addr) (y12n : Nat) (y12c : Nat) (y13 : Int) (y14 : Int) (b : Env) (h : Heap) (hM : vt_Screen_Lines_l0 K0 k y10 y11 y11n y11c y12 y12n y12c y13 y14 h), lwp Tryz.prog (partC Tryz.f17 [1, 1, 0, 1, 0, 1, 0, 0]) 45 Q k (upd (upd (upd (upd (upd b 0 (.pointer (some y10))) 3 (.slice y11 y11n y11c)) 16 (.slice y12 y12n y12c)) 17 (.int .i64 y13)) 18 (.int .i64 y14)) h := by
  intro k
  induction k with
  | zero => intro y10 y11 y11n y11c y12 y12n y12c y13 y14 b h hM; exact (show False from hM).elim
  | succ k ih =>
    intro y10 y11 y11n y11c y12 y12n y12c y13 y14 b h hM
    unfold vt_Screen_Lines_l0 at hM
    refine lwp_succ (cwp_part rfl ?_)
    refine cR ?_
    refine oZ [(19, .bool (decide (y14 < y13)))] ?_
    refine oE (cwp_seq ?_)
    refine cwp_condD (y14 < y13) (by kernel_rfl) (fun hc15 => ?_) (fun hc15 => ?_)
    · replace hM := ifT hc15 hM
      refine cwp_skip (thenE_n (cwp_seq (cwp_block (cR ?_))))
      obtain ⟨p18, rfl, hM⟩ := hM
      obtain ⟨hc16, hM⟩ := hM
      obtain ⟨hc17, hM⟩ := hM
      refine owp_rdG (.pointer (some (p18.add ((y14).toNat * 1)))) rfl (by kernel_rfl) (rd_ixS (P := Tryz.prog) (h := h) (t := 68) (el := 81) (sz := 1) (ad := p18) (len := y12n) (c := y12c) (k := .i64) (i := y14) (by kernel_rfl) (by kernel_rfl) hc16 hc17 (by kernel_rfl)) ?_
      obtain ⟨x19, x19n, x19c, hc20, hM⟩ := hM
      refine oL (.slice x19 x19n x19c) (p18.add ((y14).toNat * 1)) hc20 ?_
      refine oZ [(5, .slice x19 x19n x19c)] ?_
      refine oE (cwp_region ?_)
      refine oZ [(22, .slice y11 y11n y11c), (23, .slice x19 x19n x19c)] ?_
      refine oG (hpCallE 41 #[.slice x19 x19n x19c] (by kernel_rfl) (vt_row_text_ok x19 x19n x19c _ h hM) ?_)
      clear hM
      rintro _ h22 ⟨x23, rfl, hM⟩
      refine oG (hpNewS #[.string x23] 9 1 (fun _ => by kernel_rfl) ?_)
      intro b24 h25 hN26
      replace hM := hM _ (New.ext hN26)
      refine oG (hpApp (t := 41) (ty := 41) (et := 9) (zv := .string (⟨#[]⟩ : ByteArray)) (sz := 1) (by_ := 16) (base := y11) (n' := y11n) (c := y11c) (xb := (some ⟨b24, 0, none⟩)) (m := 1) (xc := 1) (new := [.string x23]) (fun _ => by kernel_rfl) (by kernel_rfl) (by kernel_rfl) [.string (⟨#[]⟩ : ByteArray)] rfl rfl (by decide) rfl rfl ⟨Blk.cell (New.blk hN26) 0 (by kernel_rfl), trivial⟩ hM ?_)
      clear hM
      intro s28 s28c h27 hM
      refine oZ [(3, .slice s28 (y11n + 1) s28c)] ?_
      refine owp_nil (blockE_n (thenE_n (cwp_region ?_)))
      refine oZ [(27, .int .i64 (IntKind.wrap .i64 (y14 + 1))), (18, .int .i64 (IntKind.wrap .i64 (y14 + 1)))] ?_
      refine owp_nil ?_
      exact lA 0 (.pointer (some y10)) (lA 3 (.slice s28 (y11n + 1) s28c) (lA 16 (.slice (some p18) y12n y12c) (lA 17 (.int .i64 y13) (lA 18 (.int .i64 (IntKind.wrap .i64 (y14 + 1))) (ih y10 s28 (y11n + 1) s28c (some p18) y12n y12c y13 (IntKind.wrap .i64 (y14 + 1)) _ _ hM)))))
    replace hM := ifF hc15 hM
    refine cwp_exit (thenE_x ?_)
    exact q_at (Q := Q (.exit 0)) 0 (.pointer (some y10)) (by kernel_rfl) (q_at (Q := Q (.exit 0)) 3 (.slice y11 y11n y11c) (by kernel_rfl) (hK0 y10 y11 y11n y11c _ _ hM))
def vt_Screen_Lines_l2 (K2 : Option Addr → Nat → Nat → Heap → Prop) : Nat → Option Addr → Nat → Nat → Option Addr → Nat → Nat → Int → Int → Heap → Prop
  | 0, _, _, _, _, _, _, _, _, _ => False
  | k + 1, y46, y46n, y46c, y47, y47n, y47c, y48, y49, h =>
  if y49 < y48 then
   nz y47 fun p53 =>
   0 ≤ y49 ∧
   y49 < (y47n : Int) ∧
   ldL h (p53.add ((y49).toNat * 1)) fun x54 x54n x54c =>
   vt_row_text x54 x54n x54c (fun x58 h57 =>
    gap h57 fun h60 =>
    appH h60 9 16 [.string (⟨#[]⟩ : ByteArray)] y46 y46n y46c [.string x58] 1 fun s63 s63c h62 =>
     vt_Screen_Lines_l2 K2 k s63 (y46n + 1) s63c (some p53) y47n y47c y48 (IntKind.wrap .i64 (y49 + 1)) h62) h
  else
  K2 y46 y46n y46c h
theorem vt_Screen_Lines_l2_ok {Q : Exit → Env → Heap → Prop} (K2 : Option Addr → Nat → Nat → Heap → Prop) (hK2 : ∀ (z66 : Option Addr) (z66n : Nat) (z66c : Nat) (b : Env) (h : Heap), K2 z66 z66n z66c h → Q (.exit 2) (upd b 3 (.slice z66 z66n z66c)) h) : ∀ (k : Nat) (y46 : Option Addr) (y46n : Nat) (y46c : Nat) (y47 : Option Addr) (y47n : Nat) (y47c : Nat) (y48 : Int) (y49 : Int) (b : Env) (h : Heap) (hM : vt_Screen_Lines_l2 K2 k y46 y46n y46c y47 y47n y47c y48 y49 h), lwp Tryz.prog (partC Tryz.f17 [1, 1, 1, 0, 1, 0, 0]) 45 Q k (upd (upd (upd (upd b 3 (.slice y46 y46n y46c)) 32 (.slice y47 y47n y47c)) 33 (.int .i64 y48)) 34 (.int .i64 y49)) h := by
  intro k
  induction k with
  | zero => intro y46 y46n y46c y47 y47n y47c y48 y49 b h hM; exact (show False from hM).elim
  | succ k ih =>
    intro y46 y46n y46c y47 y47n y47c y48 y49 b h hM
    unfold vt_Screen_Lines_l2 at hM
    refine lwp_succ (cwp_part rfl ?_)
    refine cR ?_
    refine oZ [(35, .bool (decide (y49 < y48)))] ?_
    refine oE (cwp_seq ?_)
    refine cwp_condD (y49 < y48) (by kernel_rfl) (fun hc50 => ?_) (fun hc50 => ?_)
    · replace hM := ifT hc50 hM
      refine cwp_skip (thenE_n (cwp_seq (cwp_block (cR ?_))))
      obtain ⟨p53, rfl, hM⟩ := hM
      obtain ⟨hc51, hM⟩ := hM
      obtain ⟨hc52, hM⟩ := hM
      refine owp_rdG (.pointer (some (p53.add ((y49).toNat * 1)))) rfl (by kernel_rfl) (rd_ixS (P := Tryz.prog) (h := h) (t := 68) (el := 81) (sz := 1) (ad := p53) (len := y47n) (c := y47c) (k := .i64) (i := y49) (by kernel_rfl) (by kernel_rfl) hc51 hc52 (by kernel_rfl)) ?_
      obtain ⟨x54, x54n, x54c, hc55, hM⟩ := hM
      refine oL (.slice x54 x54n x54c) (p53.add ((y49).toNat * 1)) hc55 ?_
      refine oZ [(7, .slice x54 x54n x54c)] ?_
      refine oE (cwp_region ?_)
      refine oZ [(38, .slice y46 y46n y46c), (39, .slice x54 x54n x54c)] ?_
      refine oG (hpCallE 41 #[.slice x54 x54n x54c] (by kernel_rfl) (vt_row_text_ok x54 x54n x54c _ h hM) ?_)
      clear hM
      rintro _ h57 ⟨x58, rfl, hM⟩
      refine oG (hpNewS #[.string x58] 9 1 (fun _ => by kernel_rfl) ?_)
      intro b59 h60 hN61
      replace hM := hM _ (New.ext hN61)
      refine oG (hpApp (t := 41) (ty := 41) (et := 9) (zv := .string (⟨#[]⟩ : ByteArray)) (sz := 1) (by_ := 16) (base := y46) (n' := y46n) (c := y46c) (xb := (some ⟨b59, 0, none⟩)) (m := 1) (xc := 1) (new := [.string x58]) (fun _ => by kernel_rfl) (by kernel_rfl) (by kernel_rfl) [.string (⟨#[]⟩ : ByteArray)] rfl rfl (by decide) rfl rfl ⟨Blk.cell (New.blk hN61) 0 (by kernel_rfl), trivial⟩ hM ?_)
      clear hM
      intro s63 s63c h62 hM
      refine oZ [(3, .slice s63 (y46n + 1) s63c)] ?_
      refine owp_nil (blockE_n (thenE_n (cwp_region ?_)))
      refine oZ [(43, .int .i64 (IntKind.wrap .i64 (y49 + 1))), (34, .int .i64 (IntKind.wrap .i64 (y49 + 1)))] ?_
      refine owp_nil ?_
      exact lA 3 (.slice s63 (y46n + 1) s63c) (lA 32 (.slice (some p53) y47n y47c) (lA 33 (.int .i64 y48) (lA 34 (.int .i64 (IntKind.wrap .i64 (y49 + 1))) (ih s63 (y46n + 1) s63c (some p53) y47n y47c y48 (IntKind.wrap .i64 (y49 + 1)) _ _ hM))))
    replace hM := ifF hc50 hM
    refine cwp_exit (thenE_x ?_)
    exact q_at (Q := Q (.exit 2)) 3 (.slice y46 y46n y46c) (by kernel_rfl) (hK2 y46 y46n y46c _ _ hM)
def vt_Screen_Lines_j1 (Kr : Option Addr → Nat → Nat → Heap → Prop) (y38 : Addr) (y39 : Option Addr) (y39n : Nat) (y39c : Nat) (h : Heap) : Prop :=
 vt_Screen_shown (some y38) (fun x41 h40 =>
  nz x41 fun p42 =>
  ldL h40 p42 fun x43 x43n x43c =>
  ∃ k71, vt_Screen_Lines_l2
   (fun z67 z67n z67c h68 =>
        Kr z67 z67n z67c h68) k71 y39 y39n y39c x43 x43n x43c (x43n : Int) 0 h40) h
theorem vt_Screen_Lines_j1_ok {Q : Exit → Env → Heap → Prop} (Kr : Option Addr → Nat → Nat → Heap → Prop) (hKr : ∀ (z73 : Option Addr) (z73n : Nat) (z73c : Nat) (b : Env) (h : Heap), Kr z73 z73n z73c h → Q .ret (upd b 2 (.slice z73 z73n z73c)) h) (y38 : Addr) (y39 : Option Addr) (y39n : Nat) (y39c : Nat) (b : Env) (h : Heap) (hM : vt_Screen_Lines_j1 Kr y38 y39 y39n y39c h) : cwp Tryz.prog (partC Tryz.f17 [1, 1, 1]) 45 Q (upd (upd b 0 (.pointer (some y38))) 3 (.slice y39 y39n y39c)) h := by
  unfold vt_Screen_Lines_j1 at hM
  refine cwp_part rfl ?_
  refine cwp_seq (cR ?_)
  refine oZ [(28, .pointer (some y38))] ?_
  refine oG (hpCallE 39 #[.pointer (some y38)] (by kernel_rfl) (vt_Screen_shown_ok (some y38) _ h hM) ?_)
  clear hM
  rintro _ h40 ⟨x41, rfl, hM⟩
  obtain ⟨p42, rfl, hM⟩ := hM
  refine owp_rdG (.pointer (some p42)) rfl (by kernel_rfl) (by kernel_rfl) ?_
  refine oZ [(31, .pointer (some p42))] ?_
  obtain ⟨x43, x43n, x43c, hc44, hM⟩ := hM
  refine oL (.slice x43 x43n x43c) p42 hc44 ?_
  refine oZ [(33, .int .i64 (x43n : Int)), (34, .int .i64 0)] ?_
  refine oE (cwp_block ?_)
  obtain ⟨k_, hM⟩ := hM
  refine cwp_loop k_ (lwp_of_part (fn := Tryz.f17) (p := [1, 1, 1, 0, 1, 0, 0]) (by kernel_rfl) (lA 3 (.slice y39 y39n y39c) (lA 32 (.slice x43 x43n x43c) (lA 33 (.int .i64 (x43n : Int)) (lA 34 (.int .i64 0) (vt_Screen_Lines_l2_ok _ ?_ k_ y39 y39n y39c x43 x43n x43c (x43n : Int) 0 _ _ hM))))))
  · intro z67 z67n z67c b70 h68 hM
    refine blockE_h (thenE_n (cR ?_))
    refine oZ [(44, .slice z67 z67n z67c), (2, .slice z67 z67n z67c)] ?_
    refine oE (cwp_ret ?_)
    exact q_at (Q := Q .ret) 2 (.slice z67 z67n z67c) (by kernel_rfl) (hKr z67 z67n z67c _ _ hM)
def vt_Screen_Lines (a1 : Option Addr) (K : Option Addr → Nat → Nat → Heap → Prop) (h : Heap) : Prop :=
 nz a1 fun p2 =>
 ldB h (p2.add 7) fun x3 =>
 if (!x3) = true then
  ldL h (p2.add 8) fun x7 x7n x7c =>
  ∃ k79, vt_Screen_Lines_l0
   (fun z35 z36 z36n z36c h37 =>
     vt_Screen_Lines_j1
      (fun z74 z74n z74c h75 =>
            K z74 z74n z74c h75) z35 z36 z36n z36c h37) k79 p2 none 0 0 x7 x7n x7c (x7n : Int) 0 h
 else
 vt_Screen_Lines_j1
  (fun z80 z80n z80c h81 =>
      K z80 z80n z80c h81) p2 none 0 0 h
theorem vt_Screen_Lines_ok (a1 : Option Addr) (K : Option Addr → Nat → Nat → Heap → Prop) (h : Heap) (hM : vt_Screen_Lines a1 K h) : CallsH Tryz.prog 17 #[.pointer a1] (fun v h' => ∃ (r84 : Option Addr) (r84n : Nat) (r84c : Nat), v = .slice r84 r84n r84c ∧ K r84 r84n r84c h') h := by
 unfold vt_Screen_Lines at hM
 refine callsH_intro (n := 45) Tryz.func17 rfl rfl (by kernel_rfl) ?_
 refine cR ?_
 refine oZ [(2, .slice none 0 0)] ?_
 refine oE (cR ?_)
 refine oZ [(3, .slice none 0 0)] ?_
 refine oE (cwp_seq (cR ?_))
 refine oZ [(8, .pointer a1)] ?_
 obtain ⟨p2, rfl, hM⟩ := hM
 refine owp_rdG (.pointer (some p2)) rfl (by kernel_rfl) (by kernel_rfl) ?_
 refine oZ [(10, .pointer (some (p2.add 7)))] ?_
 obtain ⟨x3, hc4, hM⟩ := hM
 refine oL (.bool x3) (p2.add 7) hc4 ?_
 refine oZ [(12, .bool (!x3))] ?_
 refine oE ?_
 refine cwp_condB (!x3) (by kernel_rfl) (fun hc6 => ?_) (fun hc6 => ?_)
 · replace hM := ifT hc6 hM
   refine cR ?_
   refine oZ [(13, .pointer (some p2)), (14, .pointer (some p2)), (15, .pointer (some (p2.add 8)))] ?_
   obtain ⟨x7, x7n, x7c, hc8, hM⟩ := hM
   refine oL (.slice x7 x7n x7c) (p2.add 8) hc8 ?_
   refine oZ [(17, .int .i64 (x7n : Int)), (18, .int .i64 0)] ?_
   refine oE (cwp_block ?_)
   obtain ⟨k_, hM⟩ := hM
   refine cwp_loop k_ (lwp_of_part (fn := Tryz.f17) (p := [1, 1, 0, 1, 0, 1, 0, 0]) (by kernel_rfl) (lA 0 (.pointer (some p2)) (lA 3 (.slice none 0 0) (lA 16 (.slice x7 x7n x7c) (lA 17 (.int .i64 (x7n : Int)) (lA 18 (.int .i64 0) (vt_Screen_Lines_l0_ok _ ?_ k_ p2 none 0 0 x7 x7n x7c (x7n : Int) 0 _ _ hM)))))))
   · intro z35 z36 z36n z36c b78 h37 hM
     refine blockE_h (thenE_n ?_)
     refine cwp_of_part (fn := Tryz.f17) (p := [1, 1, 1]) (by kernel_rfl) (cA 0 (.pointer (some z35)) (cA 3 (.slice z36 z36n z36c) (vt_Screen_Lines_j1_ok _ ?_ z35 z36 z36n z36c _ _ hM)))
     · intro z74 z74n z74c b76 h75 hM
       exact ret_ (.slice z74 z74n z74c) (by kernel_rfl) ⟨_, _, _, rfl, hM⟩
 replace hM := ifF hc6 hM
 refine cwp_skip (thenE_n ?_)
 refine cwp_of_part (fn := Tryz.f17) (p := [1, 1, 1]) (by kernel_rfl) (cA 0 (.pointer (some p2)) (cA 3 (.slice none 0 0) (vt_Screen_Lines_j1_ok _ ?_ p2 none 0 0 _ _ hM)))
 · intro z80 z80n z80c b82 h81 hM
   exact ret_ (.slice z80 z80n z80c) (by kernel_rfl) ⟨_, _, _, rfl, hM⟩
/- mullion/mullionlaw19.sameTexts -/
def law19_sameTexts_l0 (K0 : Heap → Prop) (Kr : Bool → Heap → Prop) : Nat → Option Addr → Nat → Nat → Option Addr → Nat → Nat → Int → Heap → Prop
  | 0, _, _, _, _, _, _, _, _ => False
  | k + 1, y4, y4n, y4c, y5, y5n, y5c, y6, h =>
  if y6 < (y4n : Int) then
   nz y4 fun p10 =>
   0 ≤ y6 ∧
   y6 < (y4n : Int) ∧
   ldS h (p10.add ((y6).toNat * 1)) fun x11 =>
   nz y5 fun p17 =>
   0 ≤ y6 ∧
   y6 < (y5n : Int) ∧
   ldS h (p17.add ((y6).toNat * 1)) fun x18 =>
   if (!(x11.toList == x18.toList)) = true then
    Kr false h
   else
   law19_sameTexts_l0 K0 Kr k (some p10) y4n y4c (some p17) y5n y5c (IntKind.wrap .i64 (y6 + 1)) h
  else
  K0  h
theorem law19_sameTexts_l0_ok {Q : Exit → Env → Heap → Prop} (K0 : Heap → Prop) (hK0 : ∀  (b : Env) (h : Heap), K0  h → Q (.exit 0) b h) (Kr : Bool → Heap → Prop) (hKr : ∀ (z25 : Bool) (b : Env) (h : Heap), Kr z25 h → Q .ret (upd b 4 (.bool z25)) h) : ∀ (k : Nat) (y4 : Option Addr) (y4n : Nat) (y4c : Nat) (y5 : Option Addr) (y5n : Nat) (y5c : Nat) (y6 : Int) (b : Env) (h : Heap) (hM : law19_sameTexts_l0 K0 Kr k y4 y4n y4c y5 y5n y5c y6 h), lwp Tryz.prog (partC Tryz.f23 [1, 1, 0, 1, 0, 0]) 26 Q k (upd (upd (upd b 0 (.slice y4 y4n y4c)) 1 (.slice y5 y5n y5c)) 5 (.int .i64 y6)) h := by
  intro k
  induction k with
  | zero => intro y4 y4n y4c y5 y5n y5c y6 b h hM; exact (show False from hM).elim
  | succ k ih =>
    intro y4 y4n y4c y5 y5n y5c y6 b h hM
    unfold law19_sameTexts_l0 at hM
    refine lwp_succ (cwp_part rfl ?_)
    refine cwp_seq (cR ?_)
    refine oZ [(11, .int .i64 y6), (12, .slice y4 y4n y4c), (13, .int .i64 (y4n : Int)), (14, .bool (decide (y6 < (y4n : Int))))] ?_
    refine oE ?_
    refine cwp_condD (y6 < (y4n : Int)) (by kernel_rfl) (fun hc7 => ?_) (fun hc7 => ?_)
    · replace hM := ifT hc7 hM
      refine cwp_skip (thenE_n (cwp_seq (cwp_block (cwp_seq ?_))))
      refine cwp_draw (by kernel_rfl) ?_
      refine kq 0 (.slice y4 y4n y4c) ?_
      refine kq 1 (.int .i64 y6) ?_
      obtain ⟨p10, rfl, hM⟩ := hM
      obtain ⟨hc8, hM⟩ := hM
      obtain ⟨hc9, hM⟩ := hM
      refine k_pure (i := 2) [3, 8] (.pointer (some (p10.add ((y6).toNat * 1)))) (by kernel_rfl) rfl rfl (by kernel_rfl) (fun h' => rd_ixS (P := Tryz.prog) (h := h') (t := 41) (el := 9) (sz := 1) (ad := p10) (len := y4n) (c := y4c) (k := .i64) (i := y6) (by kernel_rfl) (by kernel_rfl) hc8 hc9 (by kernel_rfl)) (by kernel_rfl) ?_
      obtain ⟨x11, hc12, hM⟩ := hM
      refine kl 3 (.string x11) (p10.add ((y6).toNat * 1)) [8] [] hc12 ?_
      refine kq 4 (.slice y5 y5n y5c) ?_
      refine kq 5 (.int .i64 y6) ?_
      obtain ⟨p17, rfl, hM⟩ := hM
      obtain ⟨hc15, hM⟩ := hM
      obtain ⟨hc16, hM⟩ := hM
      refine k_pure (i := 6) [7, 8] (.pointer (some (p17.add ((y6).toNat * 1)))) (by kernel_rfl) rfl rfl (by kernel_rfl) (fun h' => rd_ixS (P := Tryz.prog) (h := h') (t := 41) (el := 9) (sz := 1) (ad := p17) (len := y5n) (c := y5c) (k := .i64) (i := y6) (by kernel_rfl) (by kernel_rfl) hc15 hc16 (by kernel_rfl)) (by kernel_rfl) ?_
      obtain ⟨x18, hc19, hM⟩ := hM
      refine kl 7 (.string x18) (p17.add ((y6).toNat * 1)) [8] [] hc19 ?_
      refine kq 8 (.bool (!(x11.toList == x18.toList))) ?_
      refine k_done (by kernel_rfl) ?_
      refine thenE_n ?_
      refine cwp_condB (!(x11.toList == x18.toList)) (by kernel_rfl) (fun hc22 => ?_) (fun hc22 => ?_)
      · replace hM := ifT hc22 hM
        refine cR ?_
        refine oZ [(4, .bool false)] ?_
        refine oE (cwp_ret (blockE_r (thenE_r ?_)))
        exact q_at (Q := Q .ret) 4 (.bool false) (by kernel_rfl) (hKr false _ _ hM)
      replace hM := ifF hc22 hM
      refine cwp_skip (blockE_n (thenE_n (cwp_region ?_)))
      refine oZ [(15, .int .i64 y6), (16, .int .i64 (IntKind.wrap .i64 (y6 + 1))), (5, .int .i64 (IntKind.wrap .i64 (y6 + 1)))] ?_
      refine owp_nil ?_
      exact lA 0 (.slice (some p10) y4n y4c) (lA 1 (.slice (some p17) y5n y5c) (lA 5 (.int .i64 (IntKind.wrap .i64 (y6 + 1))) (ih (some p10) y4n y4c (some p17) y5n y5c (IntKind.wrap .i64 (y6 + 1)) _ _ hM)))
    replace hM := ifF hc7 hM
    refine cwp_exit (thenE_x ?_)
    exact hK0  _ _ hM
def law19_sameTexts (a1 : Option Addr) (a1n : Nat) (a1c : Nat) (a2 : Option Addr) (a2n : Nat) (a2c : Nat) (K : Bool → Heap → Prop) (h : Heap) : Prop :=
 if (a1n : Int) = (a2n : Int) then
  ∃ k31, law19_sameTexts_l0
   (fun  h26 =>
       K true h26)
   (fun z28 h29 =>
       K z28 h29) k31 a1 a1n a1c a2 a2n a2c 0 h
 else
 K false h
theorem law19_sameTexts_ok (a1 : Option Addr) (a1n : Nat) (a1c : Nat) (a2 : Option Addr) (a2n : Nat) (a2c : Nat) (K : Bool → Heap → Prop) (h : Heap) (hM : law19_sameTexts a1 a1n a1c a2 a2n a2c K h) : CallsH Tryz.prog 23 #[.slice a1 a1n a1c, .slice a2 a2n a2c] (fun v h' => ∃ (r32 : Bool), v = .bool r32 ∧ K r32 h') h := by
 unfold law19_sameTexts at hM
 refine callsH_intro (n := 26) Tryz.func23 rfl rfl (by kernel_rfl) ?_
 refine cR ?_
 refine oZ [(4, .bool false)] ?_
 refine oE (cwp_seq (cR ?_))
 refine oZ [(6, .slice a1 a1n a1c), (7, .int .i64 (a1n : Int)), (8, .slice a2 a2n a2c), (9, .int .i64 (a2n : Int)), (10, .bool (!decide ((a1n : Int) = (a2n : Int))))] ?_
 refine oE ?_
 refine cwp_condN ((a1n : Int) = (a2n : Int)) (by kernel_rfl) (fun hc3 => ?_) (fun hc3 => ?_)
 · replace hM := ifT hc3 hM
   refine cwp_skip (thenE_n (cwp_seq (cR ?_)))
   refine oZ [(5, .int .i64 0)] ?_
   refine oE (cwp_block ?_)
   obtain ⟨k_, hM⟩ := hM
   refine cwp_loop k_ (lwp_of_part (fn := Tryz.f23) (p := [1, 1, 0, 1, 0, 0]) (by kernel_rfl) (lA 0 (.slice a1 a1n a1c) (lA 1 (.slice a2 a2n a2c) (lA 5 (.int .i64 0) (law19_sameTexts_l0_ok _ ?_ _ ?_ k_ a1 a1n a1c a2 a2n a2c 0 _ _ hM)))))
   · intro  b27 h26 hM
     refine blockE_h (thenE_n (cR ?_))
     refine oZ [(4, .bool true)] ?_
     refine oE (cwp_ret ?_)
     exact ret_ (.bool true) (by kernel_rfl) ⟨_, rfl, hM⟩
   · intro z28 b30 h29 hM
     refine blockE_r (thenE_r ?_)
     exact ret_ (.bool z28) (by kernel_rfl) ⟨_, rfl, hM⟩
 replace hM := ifF hc3 hM
 refine cR ?_
 refine oZ [(4, .bool false)] ?_
 refine oE (cwp_ret (thenE_r ?_))
 exact ret_ (.bool false) (by kernel_rfl) ⟨_, rfl, hM⟩
/- mullion/mullionlaw19.same -/
def law19_same_l0 (K0 : Heap → Prop) (Kr : Bool → Heap → Prop) : Nat → Nat → Nat → Int → Heap → Prop
  | 0, _, _, _, _ => False
  | k + 1, y88, y89, y90, h =>
  ldL h ⟨y88, 2, none⟩ fun x91 x91n x91c =>
  if y90 < (x91n : Int) then
   ldL h ⟨y88, 2, none⟩ fun x95 x95n x95c =>
   nz x95 fun p101 =>
   0 ≤ y90 ∧
   y90 < (x95n : Int) ∧
   ldS h (p101.add ((y90).toNat * 5)) fun x102 =>
   ldI h .i64 ((p101.add ((y90).toNat * 5)).add 1) fun x104 =>
   ldI h .i64 ((p101.add ((y90).toNat * 5)).add 2) fun x106 =>
   ldI h .i64 ((p101.add ((y90).toNat * 5)).add 3) fun x108 =>
   ldI h .i64 ((p101.add ((y90).toNat * 5)).add 4) fun x110 =>
   ldL h ⟨y89, 2, none⟩ fun x122 x122n x122c =>
   nz x122 fun p128 =>
   0 ≤ y90 ∧
   y90 < (x122n : Int) ∧
   ldS h (p128.add ((y90).toNat * 5)) fun x129 =>
   ldI h .i64 ((p128.add ((y90).toNat * 5)).add 1) fun x131 =>
   ldI h .i64 ((p128.add ((y90).toNat * 5)).add 2) fun x133 =>
   ldI h .i64 ((p128.add ((y90).toNat * 5)).add 3) fun x135 =>
   ldI h .i64 ((p128.add ((y90).toNat * 5)).add 4) fun x137 =>
   if (!((x102 == x129) && ((x104 == x131) && ((x106 == x133) && ((x108 == x135) && (x110 == x137)))))) = true then
    Kr false h
   else
   law19_same_l0 K0 Kr k y88 y89 (IntKind.wrap .i64 (y90 + 1)) h
  else
  K0  h
theorem law19_same_l0_ok {Q : Exit → Env → Heap → Prop} (K0 : Heap → Prop) (hK0 : ∀  (b : Env) (h : Heap), K0  h → Q (.exit 0) b h) (Kr : Bool → Heap → Prop) (hKr : ∀ (z152 : Bool) (b : Env) (h : Heap), Kr z152 h → Q .ret (upd b 4 (.bool z152)) h) : ∀ (k : Nat) (y88 : Nat) (y89 : Nat) (y90 : Int) (b : Env) (h : Heap) (hM : law19_same_l0 K0 Kr k y88 y89 y90 h), lwp Tryz.prog (partC Tryz.f28 [1, 1, 0, 1, 0, 0]) 73 Q k (upd (upd (upd b 2 (.pointer (some ⟨y88, 0, none⟩))) 3 (.pointer (some ⟨y89, 0, none⟩))) 5 (.int .i64 y90)) h := by
  intro k
  induction k with
  | zero => intro y88 y89 y90 b h hM; exact (show False from hM).elim
  | succ k ih =>
    intro y88 y89 y90 b h hM
    unfold law19_same_l0 at hM
    refine lwp_succ (cwp_part rfl ?_)
    refine cwp_seq (cR ?_)
    refine oZ [(55, .int .i64 y90), (56, .pointer (some ⟨y88, 2, none⟩))] ?_
    obtain ⟨x91, x91n, x91c, hc92, hM⟩ := hM
    refine oL (.slice x91 x91n x91c) ⟨y88, 2, none⟩ hc92 ?_
    refine oZ [(58, .int .i64 (x91n : Int)), (59, .bool (decide (y90 < (x91n : Int))))] ?_
    refine oE ?_
    refine cwp_condD (y90 < (x91n : Int)) (by kernel_rfl) (fun hc94 => ?_) (fun hc94 => ?_)
    · replace hM := ifT hc94 hM
      refine cwp_skip (thenE_n (cwp_seq (cwp_block (cwp_seq ?_))))
      refine cwp_draw (by kernel_rfl) ?_
      refine kq 0 (.pointer (some ⟨y88, 2, none⟩)) ?_
      obtain ⟨x95, x95n, x95c, hc96, hM⟩ := hM
      refine kl 1 (.slice x95 x95n x95c) ⟨y88, 2, none⟩ [3, 4, 10] [] hc96 ?_
      refine kq 2 (.int .i64 y90) ?_
      obtain ⟨p101, rfl, hM⟩ := hM
      obtain ⟨hc99, hM⟩ := hM
      obtain ⟨hc100, hM⟩ := hM
      refine k_pure (i := 3) [4, 10] (.pointer (some (p101.add ((y90).toNat * 5)))) (by kernel_rfl) rfl rfl (by kernel_rfl) (fun h' => rd_ixS (P := Tryz.prog) (h := h') (t := 34) (el := 52) (sz := 5) (ad := p101) (len := x95n) (c := x95c) (k := .i64) (i := y90) (by kernel_rfl) (by kernel_rfl) hc99 hc100 (by kernel_rfl)) (by kernel_rfl) ?_
      obtain ⟨x102, hc103, hM⟩ := hM
      obtain ⟨x104, hc105, hM⟩ := hM
      obtain ⟨x106, hc107, hM⟩ := hM
      obtain ⟨x108, hc109, hM⟩ := hM
      obtain ⟨x110, hc111, hM⟩ := hM
      refine k_load (i := 4) (.agg #[.string x102, .int .i64 x104, .int .i64 x106, .int .i64 x108, .int .i64 x110]) (fun h' => cellH h' (p101.add ((y90).toNat * 5)) = some (.string x102) ∧ cellH h' ((p101.add ((y90).toNat * 5)).add 1) = some (.int .i64 x104) ∧ cellH h' ((p101.add ((y90).toNat * 5)).add 2) = some (.int .i64 x106) ∧ cellH h' ((p101.add ((y90).toNat * 5)).add 3) = some (.int .i64 x108) ∧ cellH h' ((p101.add ((y90).toNat * 5)).add 4) = some (.int .i64 x110) ∧ True) [10] [] (by kernel_rfl) (by kernel_rfl) rfl rfl (by kernel_rfl) (fun h' hS => Eq.trans (b := (cellH h' (p101.add ((y90).toNat * 5))).bind fun v117 => (cellH h' ((p101.add ((y90).toNat * 5)).add 1)).bind fun v118 => (cellH h' ((p101.add ((y90).toNat * 5)).add 2)).bind fun v119 => (cellH h' ((p101.add ((y90).toNat * 5)).add 3)).bind fun v120 => (cellH h' ((p101.add ((y90).toNat * 5)).add 4)).bind fun v121 => some (.value (.agg #[v117, v118, v119, v120, v121]))) (by kernel_rfl) ((bindE hS.1 _).trans ((bindE hS.2.1 _).trans ((bindE hS.2.2.1 _).trans ((bindE hS.2.2.2.1 _).trans (bindE hS.2.2.2.2.1 _)))))) ⟨hc103, hc105, hc107, hc109, hc111, trivial⟩ (by kernel_rfl) ?_
      refine kq 5 (.pointer (some ⟨y89, 2, none⟩)) ?_
      obtain ⟨x122, x122n, x122c, hc123, hM⟩ := hM
      refine kl 6 (.slice x122 x122n x122c) ⟨y89, 2, none⟩ [8, 9, 10] [] hc123 ?_
      refine kq 7 (.int .i64 y90) ?_
      obtain ⟨p128, rfl, hM⟩ := hM
      obtain ⟨hc126, hM⟩ := hM
      obtain ⟨hc127, hM⟩ := hM
      refine k_pure (i := 8) [9, 10] (.pointer (some (p128.add ((y90).toNat * 5)))) (by kernel_rfl) rfl rfl (by kernel_rfl) (fun h' => rd_ixS (P := Tryz.prog) (h := h') (t := 34) (el := 52) (sz := 5) (ad := p128) (len := x122n) (c := x122c) (k := .i64) (i := y90) (by kernel_rfl) (by kernel_rfl) hc126 hc127 (by kernel_rfl)) (by kernel_rfl) ?_
      obtain ⟨x129, hc130, hM⟩ := hM
      obtain ⟨x131, hc132, hM⟩ := hM
      obtain ⟨x133, hc134, hM⟩ := hM
      obtain ⟨x135, hc136, hM⟩ := hM
      obtain ⟨x137, hc138, hM⟩ := hM
      refine k_load (i := 9) (.agg #[.string x129, .int .i64 x131, .int .i64 x133, .int .i64 x135, .int .i64 x137]) (fun h' => cellH h' (p128.add ((y90).toNat * 5)) = some (.string x129) ∧ cellH h' ((p128.add ((y90).toNat * 5)).add 1) = some (.int .i64 x131) ∧ cellH h' ((p128.add ((y90).toNat * 5)).add 2) = some (.int .i64 x133) ∧ cellH h' ((p128.add ((y90).toNat * 5)).add 3) = some (.int .i64 x135) ∧ cellH h' ((p128.add ((y90).toNat * 5)).add 4) = some (.int .i64 x137) ∧ True) [10] [] (by kernel_rfl) (by kernel_rfl) rfl rfl (by kernel_rfl) (fun h' hS => Eq.trans (b := (cellH h' (p128.add ((y90).toNat * 5))).bind fun v144 => (cellH h' ((p128.add ((y90).toNat * 5)).add 1)).bind fun v145 => (cellH h' ((p128.add ((y90).toNat * 5)).add 2)).bind fun v146 => (cellH h' ((p128.add ((y90).toNat * 5)).add 3)).bind fun v147 => (cellH h' ((p128.add ((y90).toNat * 5)).add 4)).bind fun v148 => some (.value (.agg #[v144, v145, v146, v147, v148]))) (by kernel_rfl) ((bindE hS.1 _).trans ((bindE hS.2.1 _).trans ((bindE hS.2.2.1 _).trans ((bindE hS.2.2.2.1 _).trans (bindE hS.2.2.2.2.1 _)))))) ⟨hc130, hc132, hc134, hc136, hc138, trivial⟩ (by kernel_rfl) ?_
      refine k_pure (i := 10) [] (.bool (!((x102 == x129) && ((x104 == x131) && ((x106 == x133) && ((x108 == x135) && (x110 == x137))))))) (by kernel_rfl) rfl rfl (by kernel_rfl) (fun h' => (by kernel_rfl : _ = rd Tryz.prog (toVal ((Op.equal 52 (.agg #[.string x102, .int .i64 x104, .int .i64 x106, .int .i64 x108, .int .i64 x110]) (.agg #[.string x129, .int .i64 x131, .int .i64 x133, .int .i64 x135, .int .i64 x137])).bind fun v_ => Sem.pure (.bool (!v_)))) h').trans (rd_neB (eq_T52 9997))) (by kernel_rfl) ?_
      refine k_done (by kernel_rfl) ?_
      refine thenE_n ?_
      refine cwp_condB (!((x102 == x129) && ((x104 == x131) && ((x106 == x133) && ((x108 == x135) && (x110 == x137)))))) (by kernel_rfl) (fun hc149 => ?_) (fun hc149 => ?_)
      · replace hM := ifT hc149 hM
        refine cR ?_
        refine oZ [(4, .bool false)] ?_
        refine oE (cwp_ret (blockE_r (thenE_r ?_)))
        exact q_at (Q := Q .ret) 4 (.bool false) (by kernel_rfl) (hKr false _ _ hM)
      replace hM := ifF hc149 hM
      refine cwp_skip (blockE_n (thenE_n (cwp_region ?_)))
      refine oZ [(60, .int .i64 y90), (61, .int .i64 (IntKind.wrap .i64 (y90 + 1))), (5, .int .i64 (IntKind.wrap .i64 (y90 + 1)))] ?_
      refine owp_nil ?_
      exact lA 2 (.pointer (some ⟨y88, 0, none⟩)) (lA 3 (.pointer (some ⟨y89, 0, none⟩)) (lA 5 (.int .i64 (IntKind.wrap .i64 (y90 + 1))) (ih y88 y89 (IntKind.wrap .i64 (y90 + 1)) _ _ hM)))
    replace hM := ifF hc94 hM
    refine cwp_exit (thenE_x ?_)
    exact hK0  _ _ hM
def law19_same (a1 : Int) (a2 : Int) (a3 : Option Addr) (a3n : Nat) (a3c : Nat) (a4 : Int) (a5 : Int) (a6 : Bool) (a7 : ByteArray) (a8 : Int) (a9 : Int) (a10 : Option Addr) (a10n : Nat) (a10c : Nat) (a11 : Int) (a12 : Int) (a13 : Bool) (a14 : ByteArray) (K : Bool → Heap → Prop) (h : Heap) : Prop :=
 newB h #[.int .i64 a1, .int .i64 a2, .slice a3 a3n a3c, .int .i64 a4, .int .i64 a5, .bool a6, .string a7] 36 fun b15 h16 =>
 newB h16 #[.int .i64 a8, .int .i64 a9, .slice a10 a10n a10c, .int .i64 a11, .int .i64 a12, .bool a13, .string a14] 36 fun b18 h19 =>
 ldI h19 .i64 ⟨b15, 0, none⟩ fun x21 =>
 ldI h19 .i64 ⟨b18, 0, none⟩ fun x24 =>
 if x21 = x24 then
  ldI h19 .i64 ⟨b15, 1, none⟩ fun x31 =>
  ldI h19 .i64 ⟨b18, 1, none⟩ fun x34 =>
  if x31 = x34 then
   ldI h19 .i64 ⟨b15, 3, none⟩ fun x41 =>
   ldI h19 .i64 ⟨b18, 3, none⟩ fun x44 =>
   if x41 = x44 then
    ldI h19 .i64 ⟨b15, 4, none⟩ fun x51 =>
    ldI h19 .i64 ⟨b18, 4, none⟩ fun x54 =>
    if x51 = x54 then
     ldB h19 ⟨b15, 5, none⟩ fun x61 =>
     ldB h19 ⟨b18, 5, none⟩ fun x64 =>
     if (!(x61 == x64)) = true then
      K false h19
     else
     ldS h19 ⟨b15, 6, none⟩ fun x71 =>
     ldS h19 ⟨b18, 6, none⟩ fun x74 =>
     if (!(x71.toList == x74.toList)) = true then
      K false h19
     else
     ldL h19 ⟨b15, 2, none⟩ fun x81 x81n x81c =>
     ldL h19 ⟨b18, 2, none⟩ fun x84 x84n x84c =>
     if (x81n : Int) = (x84n : Int) then
      ∃ k158, law19_same_l0
       (fun  h153 =>
           K true h153)
       (fun z155 h156 =>
           K z155 h156) k158 b15 b18 0 h19
     else
     K false h19
    else
    K false h19
   else
   K false h19
  else
  K false h19
 else
 K false h19
theorem law19_same_ok (a1 : Int) (a2 : Int) (a3 : Option Addr) (a3n : Nat) (a3c : Nat) (a4 : Int) (a5 : Int) (a6 : Bool) (a7 : ByteArray) (a8 : Int) (a9 : Int) (a10 : Option Addr) (a10n : Nat) (a10c : Nat) (a11 : Int) (a12 : Int) (a13 : Bool) (a14 : ByteArray) (K : Bool → Heap → Prop) (h : Heap) (hM : law19_same a1 a2 a3 a3n a3c a4 a5 a6 a7 a8 a9 a10 a10n a10c a11 a12 a13 a14 K h) : CallsH Tryz.prog 28 #[.agg #[.int .i64 a1, .int .i64 a2, .slice a3 a3n a3c, .int .i64 a4, .int .i64 a5, .bool a6, .string a7], .agg #[.int .i64 a8, .int .i64 a9, .slice a10 a10n a10c, .int .i64 a11, .int .i64 a12, .bool a13, .string a14]] (fun v h' => ∃ (r159 : Bool), v = .bool r159 ∧ K r159 h') h := by
 unfold law19_same at hM
 refine callsH_intro (n := 73) Tryz.func28 rfl rfl (by kernel_rfl) ?_
 refine cR ?_
 refine oG (hpNew #[.int .i64 a1, .int .i64 a2, .slice a3 a3n a3c, .int .i64 a4, .int .i64 a5, .bool a6, .string a7] 36 (fun _ => by kernel_rfl) ?_)
 intro b15 h16 hN17
 replace hM := newB_of hN17 hM
 refine oG (hpNew #[.int .i64 a8, .int .i64 a9, .slice a10 a10n a10c, .int .i64 a11, .int .i64 a12, .bool a13, .string a14] 36 (fun _ => by kernel_rfl) ?_)
 intro b18 h19 hN20
 replace hM := newB_of hN20 hM
 refine oZ [(4, .bool false)] ?_
 refine oE (cwp_seq (cR ?_))
 refine oZ [(6, .pointer (some ⟨b15, 0, none⟩))] ?_
 obtain ⟨x21, hc22, hM⟩ := hM
 refine oL (.int .i64 x21) ⟨b15, 0, none⟩ hc22 ?_
 refine oZ [(8, .pointer (some ⟨b18, 0, none⟩))] ?_
 obtain ⟨x24, hc25, hM⟩ := hM
 refine oL (.int .i64 x24) ⟨b18, 0, none⟩ hc25 ?_
 refine oZ [(10, .bool (!decide (x21 = x24))), (11, .bool (!decide (x21 = x24)))] ?_
 by_cases hc30 : x21 = x24
 · refine oA 10 false (!decide (x21 = x24)) (by rw [decide_eq_true hc30]; rfl) ?_
   refine oA 11 false (!decide (x21 = x24)) (by rw [decide_eq_true hc30]; rfl) ?_
   replace hM := ifT hc30 hM
   refine oZ [(12, .pointer (some ⟨b15, 1, none⟩))] ?_
   obtain ⟨x31, hc32, hM⟩ := hM
   refine oL (.int .i64 x31) ⟨b15, 1, none⟩ hc32 ?_
   refine oZ [(14, .pointer (some ⟨b18, 1, none⟩))] ?_
   obtain ⟨x34, hc35, hM⟩ := hM
   refine oL (.int .i64 x34) ⟨b18, 1, none⟩ hc35 ?_
   refine oZ [(16, .bool (!decide (x31 = x34))), (17, .bool (!decide (x31 = x34))), (18, .bool (!decide (x31 = x34)))] ?_
   by_cases hc40 : x31 = x34
   · refine oA 16 false (!decide (x31 = x34)) (by rw [decide_eq_true hc40]; rfl) ?_
     refine oA 17 false (!decide (x31 = x34)) (by rw [decide_eq_true hc40]; rfl) ?_
     refine oA 18 false (!decide (x31 = x34)) (by rw [decide_eq_true hc40]; rfl) ?_
     replace hM := ifT hc40 hM
     refine oZ [(19, .pointer (some ⟨b15, 3, none⟩))] ?_
     obtain ⟨x41, hc42, hM⟩ := hM
     refine oL (.int .i64 x41) ⟨b15, 3, none⟩ hc42 ?_
     refine oZ [(21, .pointer (some ⟨b18, 3, none⟩))] ?_
     obtain ⟨x44, hc45, hM⟩ := hM
     refine oL (.int .i64 x44) ⟨b18, 3, none⟩ hc45 ?_
     refine oZ [(23, .bool (!decide (x41 = x44))), (24, .bool (!decide (x41 = x44))), (25, .bool (!decide (x41 = x44)))] ?_
     by_cases hc50 : x41 = x44
     · refine oA 23 false (!decide (x41 = x44)) (by rw [decide_eq_true hc50]; rfl) ?_
       refine oA 24 false (!decide (x41 = x44)) (by rw [decide_eq_true hc50]; rfl) ?_
       refine oA 25 false (!decide (x41 = x44)) (by rw [decide_eq_true hc50]; rfl) ?_
       replace hM := ifT hc50 hM
       refine oZ [(26, .pointer (some ⟨b15, 4, none⟩))] ?_
       obtain ⟨x51, hc52, hM⟩ := hM
       refine oL (.int .i64 x51) ⟨b15, 4, none⟩ hc52 ?_
       refine oZ [(28, .pointer (some ⟨b18, 4, none⟩))] ?_
       obtain ⟨x54, hc55, hM⟩ := hM
       refine oL (.int .i64 x54) ⟨b18, 4, none⟩ hc55 ?_
       refine oZ [(30, .bool (!decide (x51 = x54))), (31, .bool (!decide (x51 = x54))), (32, .bool (!decide (x51 = x54)))] ?_
       by_cases hc60 : x51 = x54
       · refine oA 30 false (!decide (x51 = x54)) (by rw [decide_eq_true hc60]; rfl) ?_
         refine oA 31 false (!decide (x51 = x54)) (by rw [decide_eq_true hc60]; rfl) ?_
         refine oA 32 false (!decide (x51 = x54)) (by rw [decide_eq_true hc60]; rfl) ?_
         replace hM := ifT hc60 hM
         refine oZ [(33, .pointer (some ⟨b15, 5, none⟩))] ?_
         obtain ⟨x61, hc62, hM⟩ := hM
         refine oL (.bool x61) ⟨b15, 5, none⟩ hc62 ?_
         refine oZ [(35, .pointer (some ⟨b18, 5, none⟩))] ?_
         obtain ⟨x64, hc65, hM⟩ := hM
         refine oL (.bool x64) ⟨b18, 5, none⟩ hc65 ?_
         refine oZ [(37, .bool (!(x61 == x64))), (38, .bool (!(x61 == x64))), (39, .bool (!(x61 == x64)))] ?_
         by_cases hc70 : (!(x61 == x64)) = true
         · refine oA 37 true (!(x61 == x64)) (by rw [hc70]) ?_
           refine oA 38 true (!(x61 == x64)) (by rw [hc70]) ?_
           refine oA 39 true (!(x61 == x64)) (by rw [hc70]) ?_
           replace hM := ifT hc70 hM
           refine oZ [(40, undef), (41, undef), (42, undef), (43, undef), (44, undef), (45, .bool true), (46, .bool true), (47, undef), (48, undef), (49, undef), (50, undef), (51, undef), (52, undef), (53, undef), (54, .bool true)] ?_
           refine oE ?_
           refine cwp_cond (t := true) (by kernel_rfl) (fun hx_ => ?_) (fun hx_ => ?_)
           all_goals first | (cases hx_; done) | skip
           refine cR ?_
           refine oZ [(4, .bool false)] ?_
           refine oE (cwp_ret (thenE_r ?_))
           exact ret_ (.bool false) (by kernel_rfl) ⟨_, rfl, hM⟩
         refine oA 37 false (!(x61 == x64)) (by rw [Bool.eq_false_iff.2 hc70]) ?_
         refine oA 38 false (!(x61 == x64)) (by rw [Bool.eq_false_iff.2 hc70]) ?_
         refine oA 39 false (!(x61 == x64)) (by rw [Bool.eq_false_iff.2 hc70]) ?_
         replace hM := ifF hc70 hM
         refine oZ [(40, .pointer (some ⟨b15, 6, none⟩))] ?_
         obtain ⟨x71, hc72, hM⟩ := hM
         refine oL (.string x71) ⟨b15, 6, none⟩ hc72 ?_
         refine oZ [(42, .pointer (some ⟨b18, 6, none⟩))] ?_
         obtain ⟨x74, hc75, hM⟩ := hM
         refine oL (.string x74) ⟨b18, 6, none⟩ hc75 ?_
         refine oZ [(44, .bool (!(x71.toList == x74.toList))), (45, .bool (!(x71.toList == x74.toList))), (46, .bool (!(x71.toList == x74.toList)))] ?_
         by_cases hc80 : (!(x71.toList == x74.toList)) = true
         · refine oA 44 true (!(x71.toList == x74.toList)) (by rw [hc80]) ?_
           refine oA 45 true (!(x71.toList == x74.toList)) (by rw [hc80]) ?_
           refine oA 46 true (!(x71.toList == x74.toList)) (by rw [hc80]) ?_
           replace hM := ifT hc80 hM
           refine oZ [(47, undef), (48, undef), (49, undef), (50, undef), (51, undef), (52, undef), (53, undef), (54, .bool true)] ?_
           refine oE ?_
           refine cwp_cond (t := true) (by kernel_rfl) (fun hx_ => ?_) (fun hx_ => ?_)
           all_goals first | (cases hx_; done) | skip
           refine cR ?_
           refine oZ [(4, .bool false)] ?_
           refine oE (cwp_ret (thenE_r ?_))
           exact ret_ (.bool false) (by kernel_rfl) ⟨_, rfl, hM⟩
         refine oA 44 false (!(x71.toList == x74.toList)) (by rw [Bool.eq_false_iff.2 hc80]) ?_
         refine oA 45 false (!(x71.toList == x74.toList)) (by rw [Bool.eq_false_iff.2 hc80]) ?_
         refine oA 46 false (!(x71.toList == x74.toList)) (by rw [Bool.eq_false_iff.2 hc80]) ?_
         replace hM := ifF hc80 hM
         refine oZ [(47, .pointer (some ⟨b15, 2, none⟩))] ?_
         obtain ⟨x81, x81n, x81c, hc82, hM⟩ := hM
         refine oL (.slice x81 x81n x81c) ⟨b15, 2, none⟩ hc82 ?_
         refine oZ [(49, .int .i64 (x81n : Int)), (50, .pointer (some ⟨b18, 2, none⟩))] ?_
         obtain ⟨x84, x84n, x84c, hc85, hM⟩ := hM
         refine oL (.slice x84 x84n x84c) ⟨b18, 2, none⟩ hc85 ?_
         refine oZ [(52, .int .i64 (x84n : Int)), (53, .bool (!decide ((x81n : Int) = (x84n : Int)))), (54, .bool (!decide ((x81n : Int) = (x84n : Int))))] ?_
         refine oE ?_
         refine cwp_condN ((x81n : Int) = (x84n : Int)) (by kernel_rfl) (fun hc87 => ?_) (fun hc87 => ?_)
         · replace hM := ifT hc87 hM
           refine cwp_skip (thenE_n (cwp_seq (cR ?_)))
           refine oZ [(5, .int .i64 0)] ?_
           refine oE (cwp_block ?_)
           obtain ⟨k_, hM⟩ := hM
           refine cwp_loop k_ (lwp_of_part (fn := Tryz.f28) (p := [1, 1, 0, 1, 0, 0]) (by kernel_rfl) (lA 2 (.pointer (some ⟨b15, 0, none⟩)) (lA 3 (.pointer (some ⟨b18, 0, none⟩)) (lA 5 (.int .i64 0) (law19_same_l0_ok _ ?_ _ ?_ k_ b15 b18 0 _ _ hM)))))
           · intro  b154 h153 hM
             refine blockE_h (thenE_n (cR ?_))
             refine oZ [(4, .bool true)] ?_
             refine oE (cwp_ret ?_)
             exact ret_ (.bool true) (by kernel_rfl) ⟨_, rfl, hM⟩
           · intro z155 b157 h156 hM
             refine blockE_r (thenE_r ?_)
             exact ret_ (.bool z155) (by kernel_rfl) ⟨_, rfl, hM⟩
         replace hM := ifF hc87 hM
         refine cR ?_
         refine oZ [(4, .bool false)] ?_
         refine oE (cwp_ret (thenE_r ?_))
         exact ret_ (.bool false) (by kernel_rfl) ⟨_, rfl, hM⟩
       refine oA 30 true (!decide (x51 = x54)) (by rw [decide_eq_false hc60]; rfl) ?_
       refine oA 31 true (!decide (x51 = x54)) (by rw [decide_eq_false hc60]; rfl) ?_
       refine oA 32 true (!decide (x51 = x54)) (by rw [decide_eq_false hc60]; rfl) ?_
       replace hM := ifF hc60 hM
       refine oZ [(33, undef), (34, undef), (35, undef), (36, undef), (37, undef), (38, .bool true), (39, .bool true), (40, undef), (41, undef), (42, undef), (43, undef), (44, undef), (45, .bool true), (46, .bool true), (47, undef), (48, undef), (49, undef), (50, undef), (51, undef), (52, undef), (53, undef), (54, .bool true)] ?_
       refine oE ?_
       refine cwp_cond (t := true) (by kernel_rfl) (fun hx_ => ?_) (fun hx_ => ?_)
       all_goals first | (cases hx_; done) | skip
       refine cR ?_
       refine oZ [(4, .bool false)] ?_
       refine oE (cwp_ret (thenE_r ?_))
       exact ret_ (.bool false) (by kernel_rfl) ⟨_, rfl, hM⟩
     refine oA 23 true (!decide (x41 = x44)) (by rw [decide_eq_false hc50]; rfl) ?_
     refine oA 24 true (!decide (x41 = x44)) (by rw [decide_eq_false hc50]; rfl) ?_
     refine oA 25 true (!decide (x41 = x44)) (by rw [decide_eq_false hc50]; rfl) ?_
     replace hM := ifF hc50 hM
     refine oZ [(26, undef), (27, undef), (28, undef), (29, undef), (30, undef), (31, .bool true), (32, .bool true), (33, undef), (34, undef), (35, undef), (36, undef), (37, undef), (38, .bool true), (39, .bool true), (40, undef), (41, undef), (42, undef), (43, undef), (44, undef), (45, .bool true), (46, .bool true), (47, undef), (48, undef), (49, undef), (50, undef), (51, undef), (52, undef), (53, undef), (54, .bool true)] ?_
     refine oE ?_
     refine cwp_cond (t := true) (by kernel_rfl) (fun hx_ => ?_) (fun hx_ => ?_)
     all_goals first | (cases hx_; done) | skip
     refine cR ?_
     refine oZ [(4, .bool false)] ?_
     refine oE (cwp_ret (thenE_r ?_))
     exact ret_ (.bool false) (by kernel_rfl) ⟨_, rfl, hM⟩
   refine oA 16 true (!decide (x31 = x34)) (by rw [decide_eq_false hc40]; rfl) ?_
   refine oA 17 true (!decide (x31 = x34)) (by rw [decide_eq_false hc40]; rfl) ?_
   refine oA 18 true (!decide (x31 = x34)) (by rw [decide_eq_false hc40]; rfl) ?_
   replace hM := ifF hc40 hM
   refine oZ [(19, undef), (20, undef), (21, undef), (22, undef), (23, undef), (24, .bool true), (25, .bool true), (26, undef), (27, undef), (28, undef), (29, undef), (30, undef), (31, .bool true), (32, .bool true), (33, undef), (34, undef), (35, undef), (36, undef), (37, undef), (38, .bool true), (39, .bool true), (40, undef), (41, undef), (42, undef), (43, undef), (44, undef), (45, .bool true), (46, .bool true), (47, undef), (48, undef), (49, undef), (50, undef), (51, undef), (52, undef), (53, undef), (54, .bool true)] ?_
   refine oE ?_
   refine cwp_cond (t := true) (by kernel_rfl) (fun hx_ => ?_) (fun hx_ => ?_)
   all_goals first | (cases hx_; done) | skip
   refine cR ?_
   refine oZ [(4, .bool false)] ?_
   refine oE (cwp_ret (thenE_r ?_))
   exact ret_ (.bool false) (by kernel_rfl) ⟨_, rfl, hM⟩
 refine oA 10 true (!decide (x21 = x24)) (by rw [decide_eq_false hc30]; rfl) ?_
 refine oA 11 true (!decide (x21 = x24)) (by rw [decide_eq_false hc30]; rfl) ?_
 replace hM := ifF hc30 hM
 refine oZ [(12, undef), (13, undef), (14, undef), (15, undef), (16, undef), (17, .bool true), (18, .bool true), (19, undef), (20, undef), (21, undef), (22, undef), (23, undef), (24, .bool true), (25, .bool true), (26, undef), (27, undef), (28, undef), (29, undef), (30, undef), (31, .bool true), (32, .bool true), (33, undef), (34, undef), (35, undef), (36, undef), (37, undef), (38, .bool true), (39, .bool true), (40, undef), (41, undef), (42, undef), (43, undef), (44, undef), (45, .bool true), (46, .bool true), (47, undef), (48, undef), (49, undef), (50, undef), (51, undef), (52, undef), (53, undef), (54, .bool true)] ?_
 refine oE ?_
 refine cwp_cond (t := true) (by kernel_rfl) (fun hx_ => ?_) (fun hx_ => ?_)
 all_goals first | (cases hx_; done) | skip
 refine cR ?_
 refine oZ [(4, .bool false)] ?_
 refine oE (cwp_ret (thenE_r ?_))
 exact ret_ (.bool false) (by kernel_rfl) ⟨_, rfl, hM⟩
/- (*mullion/vt.Screen).Bells -/
def vt_Screen_Bells (a1 : Option Addr) (K : Int → Heap → Prop) (h : Heap) : Prop :=
 nz a1 fun p2 =>
 ldI h .i64 (p2.add 29) fun x3 =>
 K x3 h
theorem vt_Screen_Bells_ok (a1 : Option Addr) (K : Int → Heap → Prop) (h : Heap) (hM : vt_Screen_Bells a1 K h) : CallsH Tryz.prog 49 #[.pointer a1] (fun v h' => ∃ (r6 : Int), v = .int .i64 r6 ∧ K r6 h') h := by
 unfold vt_Screen_Bells at hM
 refine callsH_intro (n := 7) Tryz.func49 rfl rfl (by kernel_rfl) ?_
 refine cR ?_
 refine oZ [(2, .int .i64 0)] ?_
 refine oE (cR ?_)
 refine oZ [(3, .pointer a1)] ?_
 obtain ⟨p2, rfl, hM⟩ := hM
 refine owp_rdG (.pointer (some p2)) rfl (by kernel_rfl) (by kernel_rfl) ?_
 refine oZ [(5, .pointer (some (p2.add 29)))] ?_
 obtain ⟨x3, hc4, hM⟩ := hM
 refine oL (.int .i64 x3) (p2.add 29) hc4 ?_
 refine oZ [(2, .int .i64 x3)] ?_
 refine oE (cwp_ret ?_)
 exact ret_ (.int .i64 x3) (by kernel_rfl) ⟨_, rfl, hM⟩
/- (*mullion/vt.Screen).App -/
def vt_Screen_App (a1 : Option Addr) (K : Bool → Heap → Prop) (h : Heap) : Prop :=
 nz a1 fun p2 =>
 ldB h (p2.add 25) fun x3 =>
 K x3 h
theorem vt_Screen_App_ok (a1 : Option Addr) (K : Bool → Heap → Prop) (h : Heap) (hM : vt_Screen_App a1 K h) : CallsH Tryz.prog 50 #[.pointer a1] (fun v h' => ∃ (r6 : Bool), v = .bool r6 ∧ K r6 h') h := by
 unfold vt_Screen_App at hM
 refine callsH_intro (n := 7) Tryz.func50 rfl rfl (by kernel_rfl) ?_
 refine cR ?_
 refine oZ [(2, .bool false)] ?_
 refine oE (cR ?_)
 refine oZ [(3, .pointer a1)] ?_
 obtain ⟨p2, rfl, hM⟩ := hM
 refine owp_rdG (.pointer (some p2)) rfl (by kernel_rfl) (by kernel_rfl) ?_
 refine oZ [(5, .pointer (some (p2.add 25)))] ?_
 obtain ⟨x3, hc4, hM⟩ := hM
 refine oL (.bool x3) (p2.add 25) hc4 ?_
 refine oZ [(2, .bool x3)] ?_
 refine oE (cwp_ret ?_)
 exact ret_ (.bool x3) (by kernel_rfl) ⟨_, rfl, hM⟩
/- (*mullion/vt.Screen).Bracket -/
def vt_Screen_Bracket (a1 : Option Addr) (K : Bool → Heap → Prop) (h : Heap) : Prop :=
 nz a1 fun p2 =>
 ldB h (p2.add 26) fun x3 =>
 K x3 h
theorem vt_Screen_Bracket_ok (a1 : Option Addr) (K : Bool → Heap → Prop) (h : Heap) (hM : vt_Screen_Bracket a1 K h) : CallsH Tryz.prog 51 #[.pointer a1] (fun v h' => ∃ (r6 : Bool), v = .bool r6 ∧ K r6 h') h := by
 unfold vt_Screen_Bracket at hM
 refine callsH_intro (n := 7) Tryz.func51 rfl rfl (by kernel_rfl) ?_
 refine cR ?_
 refine oZ [(2, .bool false)] ?_
 refine oE (cR ?_)
 refine oZ [(3, .pointer a1)] ?_
 obtain ⟨p2, rfl, hM⟩ := hM
 refine owp_rdG (.pointer (some p2)) rfl (by kernel_rfl) (by kernel_rfl) ?_
 refine oZ [(5, .pointer (some (p2.add 26)))] ?_
 obtain ⟨x3, hc4, hM⟩ := hM
 refine oL (.bool x3) (p2.add 26) hc4 ?_
 refine oZ [(2, .bool x3)] ?_
 refine oE (cwp_ret ?_)
 exact ret_ (.bool x3) (by kernel_rfl) ⟨_, rfl, hM⟩
/- mullion/mullionlaw19.alike -/
def law19_alike (a1 : Option Addr) (a2 : Option Addr) (K : Bool → Heap → Prop) (h : Heap) : Prop :=
 vt_Screen_Picture a1 (fun x4 x5 x6 x6n x6c x7 x8 x9 x10 h3 =>
  vt_Screen_Picture a2 (fun x12 x13 x14 x14n x14c x15 x16 x17 x18 h11 =>
   law19_same x4 x5 x6 x6n x6c x7 x8 x9 x10 x12 x13 x14 x14n x14c x15 x16 x17 x18 (fun x20 h19 =>
    if x20 = true then
     vt_Screen_Bells a1 (fun x25 h24 =>
      vt_Screen_Bells a2 (fun x27 h26 =>
       if x25 = x27 then
        vt_Screen_History a1 (fun x32 h31 =>
         vt_Screen_History a2 (fun x34 h33 =>
          if x32 = x34 then
           vt_Screen_App a1 (fun x39 h38 =>
            vt_Screen_App a2 (fun x41 h40 =>
             if (x39 == x41) = true then
              vt_Screen_Bracket a1 (fun x46 h45 =>
               vt_Screen_Bracket a2 (fun x48 h47 =>
                if (x46 == x48) = true then
                 vt_Screen_Alternate a1 (fun x53 h52 =>
                  vt_Screen_Alternate a2 (fun x55 h54 =>
                   if (x53 == x55) = true then
                    vt_Screen_Lines a1 (fun x60 x60n x60c h59 =>
                     vt_Screen_Lines a2 (fun x62 x62n x62c h61 =>
                      law19_sameTexts x60 x60n x60c x62 x62n x62c (fun x64 h63 =>
                       if x64 = true then
                        vt_Screen_Answer a1 (fun x69 h68 =>
                         vt_Screen_Answer a2 (fun x71 h70 =>
                            K (x69.toList == x71.toList) h70) h68) h63
                       else
                          K false h63) h61) h59) h54
                   else
                     K false h54) h52) h47
                else
                  K false h47) h45) h40
             else
               K false h40) h38) h33
          else
            K false h33) h31) h26
       else
         K false h26) h24) h19
    else
       K false h19) h11) h3) h
theorem law19_alike_ok (a1 : Option Addr) (a2 : Option Addr) (K : Bool → Heap → Prop) (h : Heap) (hM : law19_alike a1 a2 K h) : CallsH Tryz.prog 25 #[.pointer a1, .pointer a2] (fun v h' => ∃ (r72 : Bool), v = .bool r72 ∧ K r72 h') h := by
 unfold law19_alike at hM
 refine callsH_intro (n := 59) Tryz.func25 rfl rfl (by kernel_rfl) ?_
 refine cR ?_
 refine oZ [(4, .bool false)] ?_
 refine oE (cR ?_)
 refine oZ [(5, .pointer a1)] ?_
 refine oG (hpCallE 13 #[.pointer a1] (by kernel_rfl) (vt_Screen_Picture_ok a1 _ h hM) ?_)
 clear hM
 rintro _ h3 ⟨x4, x5, x6, x6n, x6c, x7, x8, x9, x10, rfl, hM⟩
 refine oZ [(7, .pointer a2)] ?_
 refine oG (hpCallE 13 #[.pointer a2] (by kernel_rfl) (vt_Screen_Picture_ok a2 _ h3 hM) ?_)
 clear hM
 rintro _ h11 ⟨x12, x13, x14, x14n, x14c, x15, x16, x17, x18, rfl, hM⟩
 refine oG (hpCallE 28 #[.agg #[.int .i64 x4, .int .i64 x5, .slice x6 x6n x6c, .int .i64 x7, .int .i64 x8, .bool x9, .string x10], .agg #[.int .i64 x12, .int .i64 x13, .slice x14 x14n x14c, .int .i64 x15, .int .i64 x16, .bool x17, .string x18]] (by kernel_rfl) (law19_same_ok x4 x5 x6 x6n x6c x7 x8 x9 x10 x12 x13 x14 x14n x14c x15 x16 x17 x18 _ h11 hM) ?_)
 clear hM
 rintro _ h19 ⟨x20, rfl, hM⟩
 refine oZ [(10, .bool x20)] ?_
 by_cases hc23 : x20 = true
 · refine oA 9 true x20 (by rw [hc23]) ?_
   refine oA 10 true x20 (by rw [hc23]) ?_
   replace hM := ifT hc23 hM
   refine oZ [(11, .pointer a1)] ?_
   refine oG (hpCallE 49 #[.pointer a1] (by kernel_rfl) (vt_Screen_Bells_ok a1 _ h19 hM) ?_)
   clear hM
   rintro _ h24 ⟨x25, rfl, hM⟩
   refine oZ [(13, .pointer a2)] ?_
   refine oG (hpCallE 49 #[.pointer a2] (by kernel_rfl) (vt_Screen_Bells_ok a2 _ h24 hM) ?_)
   clear hM
   rintro _ h26 ⟨x27, rfl, hM⟩
   refine oZ [(15, .bool (decide (x25 = x27))), (16, .bool (decide (x25 = x27))), (17, .bool (decide (x25 = x27)))] ?_
   by_cases hc30 : x25 = x27
   · refine oA 15 true (decide (x25 = x27)) (by rw [decide_eq_true hc30]) ?_
     refine oA 16 true (decide (x25 = x27)) (by rw [decide_eq_true hc30]) ?_
     refine oA 17 true (decide (x25 = x27)) (by rw [decide_eq_true hc30]) ?_
     replace hM := ifT hc30 hM
     refine oZ [(18, .pointer a1)] ?_
     refine oG (hpCallE 15 #[.pointer a1] (by kernel_rfl) (vt_Screen_History_ok a1 _ h26 hM) ?_)
     clear hM
     rintro _ h31 ⟨x32, rfl, hM⟩
     refine oZ [(20, .pointer a2)] ?_
     refine oG (hpCallE 15 #[.pointer a2] (by kernel_rfl) (vt_Screen_History_ok a2 _ h31 hM) ?_)
     clear hM
     rintro _ h33 ⟨x34, rfl, hM⟩
     refine oZ [(22, .bool (decide (x32 = x34))), (23, .bool (decide (x32 = x34))), (24, .bool (decide (x32 = x34)))] ?_
     by_cases hc37 : x32 = x34
     · refine oA 22 true (decide (x32 = x34)) (by rw [decide_eq_true hc37]) ?_
       refine oA 23 true (decide (x32 = x34)) (by rw [decide_eq_true hc37]) ?_
       refine oA 24 true (decide (x32 = x34)) (by rw [decide_eq_true hc37]) ?_
       replace hM := ifT hc37 hM
       refine oZ [(25, .pointer a1)] ?_
       refine oG (hpCallE 50 #[.pointer a1] (by kernel_rfl) (vt_Screen_App_ok a1 _ h33 hM) ?_)
       clear hM
       rintro _ h38 ⟨x39, rfl, hM⟩
       refine oZ [(27, .pointer a2)] ?_
       refine oG (hpCallE 50 #[.pointer a2] (by kernel_rfl) (vt_Screen_App_ok a2 _ h38 hM) ?_)
       clear hM
       rintro _ h40 ⟨x41, rfl, hM⟩
       refine oZ [(29, .bool (x39 == x41)), (30, .bool (x39 == x41)), (31, .bool (x39 == x41))] ?_
       by_cases hc44 : (x39 == x41) = true
       · refine oA 29 true (x39 == x41) (by rw [hc44]) ?_
         refine oA 30 true (x39 == x41) (by rw [hc44]) ?_
         refine oA 31 true (x39 == x41) (by rw [hc44]) ?_
         replace hM := ifT hc44 hM
         refine oZ [(32, .pointer a1)] ?_
         refine oG (hpCallE 51 #[.pointer a1] (by kernel_rfl) (vt_Screen_Bracket_ok a1 _ h40 hM) ?_)
         clear hM
         rintro _ h45 ⟨x46, rfl, hM⟩
         refine oZ [(34, .pointer a2)] ?_
         refine oG (hpCallE 51 #[.pointer a2] (by kernel_rfl) (vt_Screen_Bracket_ok a2 _ h45 hM) ?_)
         clear hM
         rintro _ h47 ⟨x48, rfl, hM⟩
         refine oZ [(36, .bool (x46 == x48)), (37, .bool (x46 == x48)), (38, .bool (x46 == x48))] ?_
         by_cases hc51 : (x46 == x48) = true
         · refine oA 36 true (x46 == x48) (by rw [hc51]) ?_
           refine oA 37 true (x46 == x48) (by rw [hc51]) ?_
           refine oA 38 true (x46 == x48) (by rw [hc51]) ?_
           replace hM := ifT hc51 hM
           refine oZ [(39, .pointer a1)] ?_
           refine oG (hpCallE 14 #[.pointer a1] (by kernel_rfl) (vt_Screen_Alternate_ok a1 _ h47 hM) ?_)
           clear hM
           rintro _ h52 ⟨x53, rfl, hM⟩
           refine oZ [(41, .pointer a2)] ?_
           refine oG (hpCallE 14 #[.pointer a2] (by kernel_rfl) (vt_Screen_Alternate_ok a2 _ h52 hM) ?_)
           clear hM
           rintro _ h54 ⟨x55, rfl, hM⟩
           refine oZ [(43, .bool (x53 == x55)), (44, .bool (x53 == x55)), (45, .bool (x53 == x55))] ?_
           by_cases hc58 : (x53 == x55) = true
           · refine oA 43 true (x53 == x55) (by rw [hc58]) ?_
             refine oA 44 true (x53 == x55) (by rw [hc58]) ?_
             refine oA 45 true (x53 == x55) (by rw [hc58]) ?_
             replace hM := ifT hc58 hM
             refine oZ [(46, .pointer a1)] ?_
             refine oG (hpCallE 17 #[.pointer a1] (by kernel_rfl) (vt_Screen_Lines_ok a1 _ h54 hM) ?_)
             clear hM
             rintro _ h59 ⟨x60, x60n, x60c, rfl, hM⟩
             refine oZ [(48, .pointer a2)] ?_
             refine oG (hpCallE 17 #[.pointer a2] (by kernel_rfl) (vt_Screen_Lines_ok a2 _ h59 hM) ?_)
             clear hM
             rintro _ h61 ⟨x62, x62n, x62c, rfl, hM⟩
             refine oG (hpCallE 23 #[.slice x60 x60n x60c, .slice x62 x62n x62c] (by kernel_rfl) (law19_sameTexts_ok x60 x60n x60c x62 x62n x62c _ h61 hM) ?_)
             clear hM
             rintro _ h63 ⟨x64, rfl, hM⟩
             refine oZ [(51, .bool x64), (52, .bool x64)] ?_
             by_cases hc67 : x64 = true
             · refine oA 50 true x64 (by rw [hc67]) ?_
               refine oA 51 true x64 (by rw [hc67]) ?_
               refine oA 52 true x64 (by rw [hc67]) ?_
               replace hM := ifT hc67 hM
               refine oZ [(53, .pointer a1)] ?_
               refine oG (hpCallE 20 #[.pointer a1] (by kernel_rfl) (vt_Screen_Answer_ok a1 _ h63 hM) ?_)
               clear hM
               rintro _ h68 ⟨x69, rfl, hM⟩
               refine oZ [(55, .pointer a2)] ?_
               refine oG (hpCallE 20 #[.pointer a2] (by kernel_rfl) (vt_Screen_Answer_ok a2 _ h68 hM) ?_)
               clear hM
               rintro _ h70 ⟨x71, rfl, hM⟩
               refine oZ [(57, .bool (x69.toList == x71.toList)), (58, .bool (x69.toList == x71.toList)), (4, .bool (x69.toList == x71.toList))] ?_
               refine oE (cwp_ret ?_)
               exact ret_ (.bool (x69.toList == x71.toList)) (by kernel_rfl) ⟨_, rfl, hM⟩
             refine oA 50 false x64 (by rw [Bool.eq_false_iff.2 hc67]) ?_
             refine oA 51 false x64 (by rw [Bool.eq_false_iff.2 hc67]) ?_
             refine oA 52 false x64 (by rw [Bool.eq_false_iff.2 hc67]) ?_
             replace hM := ifF hc67 hM
             refine oZ [(53, undef), (54, undef), (55, undef), (56, undef), (57, undef), (58, .bool false), (4, .bool false)] ?_
             refine oE (cwp_ret ?_)
             exact ret_ (.bool false) (by kernel_rfl) ⟨_, rfl, hM⟩
           refine oA 43 false (x53 == x55) (by rw [Bool.eq_false_iff.2 hc58]) ?_
           refine oA 44 false (x53 == x55) (by rw [Bool.eq_false_iff.2 hc58]) ?_
           refine oA 45 false (x53 == x55) (by rw [Bool.eq_false_iff.2 hc58]) ?_
           replace hM := ifF hc58 hM
           refine oZ [(46, undef), (47, undef), (48, undef), (49, undef), (50, undef), (51, .bool false), (52, .bool false), (53, undef), (54, undef), (55, undef), (56, undef), (57, undef), (58, .bool false), (4, .bool false)] ?_
           refine oE (cwp_ret ?_)
           exact ret_ (.bool false) (by kernel_rfl) ⟨_, rfl, hM⟩
         refine oA 36 false (x46 == x48) (by rw [Bool.eq_false_iff.2 hc51]) ?_
         refine oA 37 false (x46 == x48) (by rw [Bool.eq_false_iff.2 hc51]) ?_
         refine oA 38 false (x46 == x48) (by rw [Bool.eq_false_iff.2 hc51]) ?_
         replace hM := ifF hc51 hM
         refine oZ [(39, undef), (40, undef), (41, undef), (42, undef), (43, undef), (44, .bool false), (45, .bool false), (46, undef), (47, undef), (48, undef), (49, undef), (50, undef), (51, .bool false), (52, .bool false), (53, undef), (54, undef), (55, undef), (56, undef), (57, undef), (58, .bool false), (4, .bool false)] ?_
         refine oE (cwp_ret ?_)
         exact ret_ (.bool false) (by kernel_rfl) ⟨_, rfl, hM⟩
       refine oA 29 false (x39 == x41) (by rw [Bool.eq_false_iff.2 hc44]) ?_
       refine oA 30 false (x39 == x41) (by rw [Bool.eq_false_iff.2 hc44]) ?_
       refine oA 31 false (x39 == x41) (by rw [Bool.eq_false_iff.2 hc44]) ?_
       replace hM := ifF hc44 hM
       refine oZ [(32, undef), (33, undef), (34, undef), (35, undef), (36, undef), (37, .bool false), (38, .bool false), (39, undef), (40, undef), (41, undef), (42, undef), (43, undef), (44, .bool false), (45, .bool false), (46, undef), (47, undef), (48, undef), (49, undef), (50, undef), (51, .bool false), (52, .bool false), (53, undef), (54, undef), (55, undef), (56, undef), (57, undef), (58, .bool false), (4, .bool false)] ?_
       refine oE (cwp_ret ?_)
       exact ret_ (.bool false) (by kernel_rfl) ⟨_, rfl, hM⟩
     refine oA 22 false (decide (x32 = x34)) (by rw [decide_eq_false hc37]) ?_
     refine oA 23 false (decide (x32 = x34)) (by rw [decide_eq_false hc37]) ?_
     refine oA 24 false (decide (x32 = x34)) (by rw [decide_eq_false hc37]) ?_
     replace hM := ifF hc37 hM
     refine oZ [(25, undef), (26, undef), (27, undef), (28, undef), (29, undef), (30, .bool false), (31, .bool false), (32, undef), (33, undef), (34, undef), (35, undef), (36, undef), (37, .bool false), (38, .bool false), (39, undef), (40, undef), (41, undef), (42, undef), (43, undef), (44, .bool false), (45, .bool false), (46, undef), (47, undef), (48, undef), (49, undef), (50, undef), (51, .bool false), (52, .bool false), (53, undef), (54, undef), (55, undef), (56, undef), (57, undef), (58, .bool false), (4, .bool false)] ?_
     refine oE (cwp_ret ?_)
     exact ret_ (.bool false) (by kernel_rfl) ⟨_, rfl, hM⟩
   refine oA 15 false (decide (x25 = x27)) (by rw [decide_eq_false hc30]) ?_
   refine oA 16 false (decide (x25 = x27)) (by rw [decide_eq_false hc30]) ?_
   refine oA 17 false (decide (x25 = x27)) (by rw [decide_eq_false hc30]) ?_
   replace hM := ifF hc30 hM
   refine oZ [(18, undef), (19, undef), (20, undef), (21, undef), (22, undef), (23, .bool false), (24, .bool false), (25, undef), (26, undef), (27, undef), (28, undef), (29, undef), (30, .bool false), (31, .bool false), (32, undef), (33, undef), (34, undef), (35, undef), (36, undef), (37, .bool false), (38, .bool false), (39, undef), (40, undef), (41, undef), (42, undef), (43, undef), (44, .bool false), (45, .bool false), (46, undef), (47, undef), (48, undef), (49, undef), (50, undef), (51, .bool false), (52, .bool false), (53, undef), (54, undef), (55, undef), (56, undef), (57, undef), (58, .bool false), (4, .bool false)] ?_
   refine oE (cwp_ret ?_)
   exact ret_ (.bool false) (by kernel_rfl) ⟨_, rfl, hM⟩
 refine oA 9 false x20 (by rw [Bool.eq_false_iff.2 hc23]) ?_
 refine oA 10 false x20 (by rw [Bool.eq_false_iff.2 hc23]) ?_
 replace hM := ifF hc23 hM
 refine oZ [(11, undef), (12, undef), (13, undef), (14, undef), (15, undef), (16, .bool false), (17, .bool false), (18, undef), (19, undef), (20, undef), (21, undef), (22, undef), (23, .bool false), (24, .bool false), (25, undef), (26, undef), (27, undef), (28, undef), (29, undef), (30, .bool false), (31, .bool false), (32, undef), (33, undef), (34, undef), (35, undef), (36, undef), (37, .bool false), (38, .bool false), (39, undef), (40, undef), (41, undef), (42, undef), (43, undef), (44, .bool false), (45, .bool false), (46, undef), (47, undef), (48, undef), (49, undef), (50, undef), (51, .bool false), (52, .bool false), (53, undef), (54, undef), (55, undef), (56, undef), (57, undef), (58, .bool false), (4, .bool false)] ?_
 refine oE (cwp_ret ?_)
 exact ret_ (.bool false) (by kernel_rfl) ⟨_, rfl, hM⟩
/- mullion/mullionlaw19.VtChunks -/
def law19_VtChunks_l0 (K0 : ByteArray → Option Addr → Option Addr → Option Addr → ByteArray → Heap → Prop) : Nat → ByteArray → Option Addr → Nat → Nat → Option Addr → Option Addr → Option Addr → ByteArray → Int → Heap → Prop
  | 0, _, _, _, _, _, _, _, _, _, _ => False
  | k + 1, y78, y79, y79n, y79c, y80, y81, y82, y83, y84, h =>
  if y84 < (y79n : Int) then
   nz y79 fun p88 =>
   0 ≤ y84 ∧
   y84 < (y79n : Int) ∧
   ldI h .i64 (p88.add ((y84).toNat * 1)) fun x89 =>
   law19_pos x89 (IntKind.wrap .i64 ((y83.size : Int) + 1)) (fun x93 h92 =>
    0 ≤ x93 ∧
    x93 ≤ (y83.size : Int) ∧
    vt_Screen_Feed y81 (y83.extract 0 x93.toNat) (fun  h96 =>
     0 ≤ x93 ∧
     x93 ≤ (y83.size : Int) ∧
       law19_VtChunks_l0 K0 k y78 (some p88) y79n y79c y80 y81 y82 (y83.extract x93.toNat y83.size) (IntKind.wrap .i64 (y84 + 1)) h96) h92) h
  else
  K0 y78 y80 y81 y82 y83 h
theorem law19_VtChunks_l0_ok {Q : Exit → Env → Heap → Prop} (K0 : ByteArray → Option Addr → Option Addr → Option Addr → ByteArray → Heap → Prop) (hK0 : ∀ (z109 : ByteArray) (z110 : Option Addr) (z111 : Option Addr) (z112 : Option Addr) (z113 : ByteArray) (b : Env) (h : Heap), K0 z109 z110 z111 z112 z113 h → Q (.exit 0) (upd (upd (upd (upd (upd b 1 (.string z109)) 7 (.pointer z110)) 10 (.pointer z111)) 13 (.pointer z112)) 16 (.string z113)) h) : ∀ (k : Nat) (y78 : ByteArray) (y79 : Option Addr) (y79n : Nat) (y79c : Nat) (y80 : Option Addr) (y81 : Option Addr) (y82 : Option Addr) (y83 : ByteArray) (y84 : Int) (b : Env) (h : Heap) (hM : law19_VtChunks_l0 K0 k y78 y79 y79n y79c y80 y81 y82 y83 y84 h), lwp Tryz.prog (partC Tryz.f8 [1, 1, 1, 1, 1, 1, 1, 0, 1, 0, 0]) 160 Q k (upd (upd (upd (upd (upd (upd (upd b 1 (.string y78)) 2 (.slice y79 y79n y79c)) 7 (.pointer y80)) 10 (.pointer y81)) 13 (.pointer y82)) 16 (.string y83)) 17 (.int .i64 y84)) h := by
  intro k
  induction k with
  | zero => intro y78 y79 y79n y79c y80 y81 y82 y83 y84 b h hM; exact (show False from hM).elim
  | succ k ih =>
    intro y78 y79 y79n y79c y80 y81 y82 y83 y84 b h hM
    unfold law19_VtChunks_l0 at hM
    refine lwp_succ (cwp_part rfl ?_)
    refine cwp_seq (cR ?_)
    refine oZ [(75, .int .i64 y84), (76, .slice y79 y79n y79c), (77, .int .i64 (y79n : Int)), (78, .bool (decide (y84 < (y79n : Int))))] ?_
    refine oE ?_
    refine cwp_condD (y84 < (y79n : Int)) (by kernel_rfl) (fun hc85 => ?_) (fun hc85 => ?_)
    · replace hM := ifT hc85 hM
      refine cwp_skip (thenE_n (cwp_seq (cwp_block (cR ?_))))
      refine oZ [(81, .slice y79 y79n y79c), (82, .int .i64 y84)] ?_
      obtain ⟨p88, rfl, hM⟩ := hM
      obtain ⟨hc86, hM⟩ := hM
      obtain ⟨hc87, hM⟩ := hM
      refine owp_rdG (.pointer (some (p88.add ((y84).toNat * 1)))) rfl (by kernel_rfl) (rd_ixS (P := Tryz.prog) (h := h) (t := 54) (el := 3) (sz := 1) (ad := p88) (len := y79n) (c := y79c) (k := .i64) (i := y84) (by kernel_rfl) (by kernel_rfl) hc86 hc87 (by kernel_rfl)) ?_
      obtain ⟨x89, hc90, hM⟩ := hM
      refine oL (.int .i64 x89) (p88.add ((y84).toNat * 1)) hc90 ?_
      refine oZ [(85, .string y83), (86, .int .i64 (y83.size : Int)), (87, .int .i64 (IntKind.wrap .i64 ((y83.size : Int) + 1)))] ?_
      refine oG (hpCallE 24 #[.int .i64 x89, .int .i64 (IntKind.wrap .i64 ((y83.size : Int) + 1))] (by kernel_rfl) (law19_pos_ok x89 (IntKind.wrap .i64 ((y83.size : Int) + 1)) _ h hM) ?_)
      clear hM
      rintro _ h92 ⟨x93, rfl, hM⟩
      refine oZ [(18, .int .i64 x93)] ?_
      refine oE (cR ?_)
      refine oZ [(89, .pointer y81), (90, .string y83), (91, .int .i64 x93)] ?_
      obtain ⟨hc94, hM⟩ := hM
      obtain ⟨hc95, hM⟩ := hM
      refine owp_rdG (.string (y83.extract 0 x93.toNat)) rfl (by kernel_rfl) (rd_slHi (P := Tryz.prog) (h := h92) (t := 9) (s := y83) (k := .i64) (i := x93) (by kernel_rfl) hc94 hc95 (by kernel_rfl)) ?_
      refine oG (hpCallE 12 #[.pointer y81, .string (y83.extract 0 x93.toNat)] (by kernel_rfl) (vt_Screen_Feed_ok y81 (y83.extract 0 x93.toNat) _ h92 hM) ?_)
      clear hM
      rintro _ h96 ⟨rfl, hM⟩
      refine oE (cwp_region ?_)
      refine oZ [(94, .string y83), (95, .int .i64 x93)] ?_
      obtain ⟨hc97, hM⟩ := hM
      obtain ⟨hc98, hM⟩ := hM
      refine owp_rdG (.string (y83.extract x93.toNat y83.size)) rfl (by kernel_rfl) (rd_slLo (P := Tryz.prog) (h := h96) (t := 9) (s := y83) (k := .i64) (i := x93) (by kernel_rfl) hc97 hc98 (by kernel_rfl)) ?_
      refine oZ [(16, .string (y83.extract x93.toNat y83.size))] ?_
      refine owp_nil (blockE_n (thenE_n (cwp_region ?_)))
      refine oZ [(79, .int .i64 y84), (80, .int .i64 (IntKind.wrap .i64 (y84 + 1))), (17, .int .i64 (IntKind.wrap .i64 (y84 + 1)))] ?_
      refine owp_nil ?_
      exact lA 1 (.string y78) (lA 2 (.slice (some p88) y79n y79c) (lA 7 (.pointer y80) (lA 10 (.pointer y81) (lA 13 (.pointer y82) (lA 16 (.string (y83.extract x93.toNat y83.size)) (lA 17 (.int .i64 (IntKind.wrap .i64 (y84 + 1))) (ih y78 (some p88) y79n y79c y80 y81 y82 (y83.extract x93.toNat y83.size) (IntKind.wrap .i64 (y84 + 1)) _ _ hM)))))))
    replace hM := ifF hc85 hM
    refine cwp_exit (thenE_x ?_)
    exact q_at (Q := Q (.exit 0)) 1 (.string y78) (by kernel_rfl) (q_at (Q := Q (.exit 0)) 7 (.pointer y80) (by kernel_rfl) (q_at (Q := Q (.exit 0)) 10 (.pointer y81) (by kernel_rfl) (q_at (Q := Q (.exit 0)) 13 (.pointer y82) (by kernel_rfl) (q_at (Q := Q (.exit 0)) 16 (.string y83) (by kernel_rfl) (hK0 y78 y80 y81 y82 y83 _ _ hM)))))
def law19_VtChunks_l1 (K2 : Option Addr → Option Addr → Option Addr → Heap → Prop) : Nat → ByteArray → Option Addr → Option Addr → Option Addr → Int → Heap → Prop
  | 0, _, _, _, _, _, _ => False
  | k + 1, y121, y122, y123, y124, y125, h =>
  if y125 < (y121.size : Int) then
   0 ≤ (IntKind.wrap .i64 (y125 + 1)) ∧
   (IntKind.wrap .i64 (y125 + 1)) ≤ (y121.size : Int) ∧
   0 ≤ y125 ∧
   y125 ≤ (IntKind.wrap .i64 (y125 + 1)) ∧
   vt_Screen_Feed y124 (y121.extract y125.toNat ((IntKind.wrap .i64 (y125 + 1)).toNat)) (fun  h131 =>
     law19_VtChunks_l1 K2 k y121 y122 y123 y124 (IntKind.wrap .i64 (y125 + 1)) h131) h
  else
  K2 y122 y123 y124 h
theorem law19_VtChunks_l1_ok {Q : Exit → Env → Heap → Prop} (K2 : Option Addr → Option Addr → Option Addr → Heap → Prop) (hK2 : ∀ (z138 : Option Addr) (z139 : Option Addr) (z140 : Option Addr) (b : Env) (h : Heap), K2 z138 z139 z140 h → Q (.exit 2) (upd (upd (upd b 7 (.pointer z138)) 10 (.pointer z139)) 13 (.pointer z140)) h) : ∀ (k : Nat) (y121 : ByteArray) (y122 : Option Addr) (y123 : Option Addr) (y124 : Option Addr) (y125 : Int) (b : Env) (h : Heap) (hM : law19_VtChunks_l1 K2 k y121 y122 y123 y124 y125 h), lwp Tryz.prog (partC Tryz.f8 [1, 1, 1, 1, 1, 1, 1, 1, 1, 0, 1, 0, 0]) 160 Q k (upd (upd (upd (upd (upd b 1 (.string y121)) 7 (.pointer y122)) 10 (.pointer y123)) 13 (.pointer y124)) 19 (.int .i64 y125)) h := by
  intro k
  induction k with
  | zero => intro y121 y122 y123 y124 y125 b h hM; exact (show False from hM).elim
  | succ k ih =>
    intro y121 y122 y123 y124 y125 b h hM
    unfold law19_VtChunks_l1 at hM
    refine lwp_succ (cwp_part rfl ?_)
    refine cwp_seq (cR ?_)
    refine oZ [(100, .int .i64 y125), (101, .string y121), (102, .int .i64 (y121.size : Int)), (103, .bool (decide (y125 < (y121.size : Int))))] ?_
    refine oE ?_
    refine cwp_condD (y125 < (y121.size : Int)) (by kernel_rfl) (fun hc126 => ?_) (fun hc126 => ?_)
    · replace hM := ifT hc126 hM
      refine cwp_skip (thenE_n (cwp_seq (cwp_block (cwp_region ?_))))
      refine oZ [(106, .pointer y124), (107, .string y121), (108, .int .i64 y125), (109, .int .i64 y125), (110, .int .i64 (IntKind.wrap .i64 (y125 + 1)))] ?_
      obtain ⟨hc127, hM⟩ := hM
      obtain ⟨hc128, hM⟩ := hM
      obtain ⟨hc129, hM⟩ := hM
      obtain ⟨hc130, hM⟩ := hM
      refine owp_rdG (.string (y121.extract y125.toNat ((IntKind.wrap .i64 (y125 + 1)).toNat))) rfl (by kernel_rfl) (rd_slLH (P := Tryz.prog) (h := h) (t := 9) (s := y121) (k := .i64) (k' := .i64) (i := y125) (j := (IntKind.wrap .i64 (y125 + 1))) (by kernel_rfl) hc127 hc128 hc129 hc130 (by kernel_rfl)) ?_
      refine oG (hpCallE 12 #[.pointer y124, .string (y121.extract y125.toNat ((IntKind.wrap .i64 (y125 + 1)).toNat))] (by kernel_rfl) (vt_Screen_Feed_ok y124 (y121.extract y125.toNat ((IntKind.wrap .i64 (y125 + 1)).toNat)) _ h hM) ?_)
      clear hM
      rintro _ h131 ⟨rfl, hM⟩
      refine owp_nil (blockE_n (thenE_n (cwp_region ?_)))
      refine oZ [(104, .int .i64 y125), (105, .int .i64 (IntKind.wrap .i64 (y125 + 1))), (19, .int .i64 (IntKind.wrap .i64 (y125 + 1)))] ?_
      refine owp_nil ?_
      exact lA 1 (.string y121) (lA 7 (.pointer y122) (lA 10 (.pointer y123) (lA 13 (.pointer y124) (lA 19 (.int .i64 (IntKind.wrap .i64 (y125 + 1))) (ih y121 y122 y123 y124 (IntKind.wrap .i64 (y125 + 1)) _ _ hM)))))
    replace hM := ifF hc126 hM
    refine cwp_exit (thenE_x ?_)
    exact q_at (Q := Q (.exit 2)) 7 (.pointer y122) (by kernel_rfl) (q_at (Q := Q (.exit 2)) 10 (.pointer y123) (by kernel_rfl) (q_at (Q := Q (.exit 2)) 13 (.pointer y124) (by kernel_rfl) (hK2 y122 y123 y124 _ _ hM)))
def law19_VtChunks (a1 : Int) (a2 : Int) (a3 : Int) (a4 : ByteArray) (a5 : Option Addr) (a5n : Nat) (a5c : Nat) (K : Bool → Heap → Prop) (h : Heap) : Prop :=
 newB h #[.int .i64 a1, .int .i64 a2, .int .i64 a3] 23 fun b6 h7 =>
 ldI h7 .i64 ⟨b6, 0, none⟩ fun x9 =>
 ldI h7 .i64 ⟨b6, 1, none⟩ fun x11 =>
 ldI h7 .i64 ⟨b6, 2, none⟩ fun x13 =>
 law19_made x9 x11 x13 (fun x19 x20 x21 h18 =>
  ldI h18 .i64 ⟨b6, 0, none⟩ fun x22 =>
  ldI h18 .i64 ⟨b6, 1, none⟩ fun x24 =>
  ldI h18 .i64 ⟨b6, 2, none⟩ fun x26 =>
  law19_made x22 x24 x26 (fun x32 x33 x34 h31 =>
   ldI h31 .i64 ⟨b6, 0, none⟩ fun x35 =>
   ldI h31 .i64 ⟨b6, 1, none⟩ fun x37 =>
   ldI h31 .i64 ⟨b6, 2, none⟩ fun x39 =>
   law19_made x35 x37 x39 (fun x45 x46 x47 h44 =>
    if ((((((!x21) || (!x34)) || (!x47)) || x19.isNone) || x32.isNone) || x45.isNone) = true then
     K ((x21 && x34) && x47) h44
    else
    vt_Screen_Feed x19 a4 (fun  h77 =>
     ∃ k184, law19_VtChunks_l0
      (fun z114 z115 z116 z117 z118 h119 =>
        vt_Screen_Feed z116 z118 (fun  h120 =>
         ∃ k182, law19_VtChunks_l1
          (fun z141 z142 z143 h144 =>
            vt_Screen_Answer z141 (fun x146 h145 =>
             vt_Screen_Feed z141 (⟨#[27, 91, 54, 110]⟩ : ByteArray) (fun  h147 =>
              vt_Screen_Feed z142 (⟨#[27, 91, 54, 110]⟩ : ByteArray) (fun  h148 =>
               vt_Screen_Feed z143 (⟨#[27, 91, 54, 110]⟩ : ByteArray) (fun  h149 =>
                vt_Screen_Answer z141 (fun x151 h150 =>
                 vt_Screen_Answer z142 (fun x153 h152 =>
                  vt_Screen_Answer z143 (fun x155 h154 =>
                   (((x153.toList == x155.toList) && (decide ((x153.size : Int) ≤ 4096))) = true → ((decide (4096 < (IntKind.wrap .i64 ((x146.size : Int) + (x151.size : Int))))) = false → x146.size + x151.size ≤ 9223372036854775807)) ∧
                   if (((x153.toList == x155.toList) && (decide ((x153.size : Int) ≤ 4096))) && ((decide (4096 < (IntKind.wrap .i64 ((x146.size : Int) + (x151.size : Int))))) || (x153.toList == (x146 ++ x151).toList))) = true then
                    law19_alike z141 z142 (fun x175 h174 =>
                     if x175 = true then
                      law19_alike z141 z143 (fun x180 h179 =>
                        K x180 h179) h174
                     else
                      K false h174) h154
                   else
                                   K false h154) h152) h150) h149) h148) h147) h145) h144) k182 z114 z115 z116 z117 0 h120) h119) k184 a4 a5 a5n a5c x19 x32 x45 a4 0 h77) h44) h31) h18) h7
theorem law19_VtChunks_ok (a1 : Int) (a2 : Int) (a3 : Int) (a4 : ByteArray) (a5 : Option Addr) (a5n : Nat) (a5c : Nat) (K : Bool → Heap → Prop) (h : Heap) (hM : law19_VtChunks a1 a2 a3 a4 a5 a5n a5c K h) : CallsH Tryz.prog 8 #[.agg #[.int .i64 a1, .int .i64 a2, .int .i64 a3], .string a4, .slice a5 a5n a5c] (fun v h' => ∃ (r185 : Bool), v = .bool r185 ∧ K r185 h') h := by
 unfold law19_VtChunks at hM
 refine callsH_intro (n := 160) Tryz.func8 rfl rfl (by kernel_rfl) ?_
 refine cR ?_
 refine oG (hpNew #[.int .i64 a1, .int .i64 a2, .int .i64 a3] 23 (fun _ => by kernel_rfl) ?_)
 intro b6 h7 hN8
 replace hM := newB_of hN8 hM
 refine oZ [(6, .bool false)] ?_
 refine oE (cR ?_)
 obtain ⟨x9, hc10, hM⟩ := hM
 obtain ⟨x11, hc12, hM⟩ := hM
 obtain ⟨x13, hc14, hM⟩ := hM
 refine owp_rdG (.agg #[.int .i64 x9, .int .i64 x11, .int .i64 x13]) rfl (by kernel_rfl) (Eq.trans (b := (cellH h7 ⟨b6, 0, none⟩).bind fun v15 => (cellH h7 ⟨b6, 1, none⟩).bind fun v16 => (cellH h7 ⟨b6, 2, none⟩).bind fun v17 => some (.value (.agg #[v15, v16, v17]))) (by kernel_rfl) ((bindE hc10 _).trans ((bindE hc12 _).trans (bindE hc14 _)))) ?_
 refine oG (hpCallE 10 #[.agg #[.int .i64 x9, .int .i64 x11, .int .i64 x13]] (by kernel_rfl) (law19_made_ok x9 x11 x13 _ h7 hM) ?_)
 clear hM
 rintro _ h18 ⟨x19, x20, x21, rfl, hM⟩
 refine oZ [(24, .tuple #[.pointer x19, .pointer x20, .bool x21]), (27, .pointer x19), (28, .pointer x20), (29, .bool x21), (7, .pointer x19), (8, .pointer x20), (9, .bool x21)] ?_
 refine oE (cR ?_)
 obtain ⟨x22, hc23, hM⟩ := hM
 obtain ⟨x24, hc25, hM⟩ := hM
 obtain ⟨x26, hc27, hM⟩ := hM
 refine owp_rdG (.agg #[.int .i64 x22, .int .i64 x24, .int .i64 x26]) rfl (by kernel_rfl) (Eq.trans (b := (cellH h18 ⟨b6, 0, none⟩).bind fun v28 => (cellH h18 ⟨b6, 1, none⟩).bind fun v29 => (cellH h18 ⟨b6, 2, none⟩).bind fun v30 => some (.value (.agg #[v28, v29, v30]))) (by kernel_rfl) ((bindE hc23 _).trans ((bindE hc25 _).trans (bindE hc27 _)))) ?_
 refine oG (hpCallE 10 #[.agg #[.int .i64 x22, .int .i64 x24, .int .i64 x26]] (by kernel_rfl) (law19_made_ok x22 x24 x26 _ h18 hM) ?_)
 clear hM
 rintro _ h31 ⟨x32, x33, x34, rfl, hM⟩
 refine oZ [(30, .tuple #[.pointer x32, .pointer x33, .bool x34]), (33, .pointer x32), (34, .pointer x33), (35, .bool x34), (10, .pointer x32), (11, .pointer x33), (12, .bool x34)] ?_
 refine oE (cR ?_)
 obtain ⟨x35, hc36, hM⟩ := hM
 obtain ⟨x37, hc38, hM⟩ := hM
 obtain ⟨x39, hc40, hM⟩ := hM
 refine owp_rdG (.agg #[.int .i64 x35, .int .i64 x37, .int .i64 x39]) rfl (by kernel_rfl) (Eq.trans (b := (cellH h31 ⟨b6, 0, none⟩).bind fun v41 => (cellH h31 ⟨b6, 1, none⟩).bind fun v42 => (cellH h31 ⟨b6, 2, none⟩).bind fun v43 => some (.value (.agg #[v41, v42, v43]))) (by kernel_rfl) ((bindE hc36 _).trans ((bindE hc38 _).trans (bindE hc40 _)))) ?_
 refine oG (hpCallE 10 #[.agg #[.int .i64 x35, .int .i64 x37, .int .i64 x39]] (by kernel_rfl) (law19_made_ok x35 x37 x39 _ h31 hM) ?_)
 clear hM
 rintro _ h44 ⟨x45, x46, x47, rfl, hM⟩
 refine oZ [(36, .tuple #[.pointer x45, .pointer x46, .bool x47]), (39, .pointer x45), (40, .pointer x46), (41, .bool x47), (13, .pointer x45), (14, .pointer x46), (15, .bool x47)] ?_
 refine oE (cwp_seq (cR ?_))
 refine oZ [(42, .bool x21), (43, .bool (!x21)), (44, .bool (!x21))] ?_
 refine oB (!x21) 3 [43, 44] (fun b_ => [(45, iteV b_ undef (.bool x34 : Value)), (46, iteV b_ undef (.bool (!x34) : Value)), (47, .bool (b_ || (!x34)))]) rfl (fun hb48 hq49 => oS [(45, undef), (46, undef), (47, .bool true)] rfl (hq49)) (fun hb50 hq51 => oS [(45, .bool x34), (46, .bool (!x34)), (47, .bool (!x34))] rfl (hq51)) ?_
 refine oZ [(48, .bool ((!x21) || (!x34)))] ?_
 refine oB ((!x21) || (!x34)) 3 [47, 48] (fun b_ => [(49, iteV b_ undef (.bool x47 : Value)), (50, iteV b_ undef (.bool (!x47) : Value)), (51, .bool (b_ || (!x47)))]) rfl (fun hb52 hq53 => oS [(49, undef), (50, undef), (51, .bool true)] rfl (hq53)) (fun hb54 hq55 => oS [(49, .bool x47), (50, .bool (!x47)), (51, .bool (!x47))] rfl (hq55)) ?_
 refine oZ [(52, .bool (((!x21) || (!x34)) || (!x47)))] ?_
 refine oB (((!x21) || (!x34)) || (!x47)) 3 [51, 52] (fun b_ => [(53, iteV b_ undef (.pointer x19 : Value)), (54, iteV b_ undef (.bool x19.isNone : Value)), (55, .bool (b_ || x19.isNone))]) rfl (fun hb56 hq57 => oS [(53, undef), (54, undef), (55, .bool true)] rfl (hq57)) (fun hb58 hq59 => oS [(53, .pointer x19)] rfl (owp_rdG (.bool x19.isNone) rfl (by kernel_rfl) (rd_eqNil (P := Tryz.prog) (h := h44) (t := 25) (el := 80) (by kernel_rfl) (by kernel_rfl)) (oS [(55, .bool x19.isNone)] rfl (hq59)))) ?_
 refine oZ [(56, .bool ((((!x21) || (!x34)) || (!x47)) || x19.isNone))] ?_
 refine oB ((((!x21) || (!x34)) || (!x47)) || x19.isNone) 3 [55, 56] (fun b_ => [(57, iteV b_ undef (.pointer x32 : Value)), (58, iteV b_ undef (.bool x32.isNone : Value)), (59, .bool (b_ || x32.isNone))]) rfl (fun hb60 hq61 => oS [(57, undef), (58, undef), (59, .bool true)] rfl (hq61)) (fun hb62 hq63 => oS [(57, .pointer x32)] rfl (owp_rdG (.bool x32.isNone) rfl (by kernel_rfl) (rd_eqNil (P := Tryz.prog) (h := h44) (t := 25) (el := 80) (by kernel_rfl) (by kernel_rfl)) (oS [(59, .bool x32.isNone)] rfl (hq63)))) ?_
 refine oZ [(60, .bool (((((!x21) || (!x34)) || (!x47)) || x19.isNone) || x32.isNone))] ?_
 refine oB (((((!x21) || (!x34)) || (!x47)) || x19.isNone) || x32.isNone) 3 [59, 60] (fun b_ => [(61, iteV b_ undef (.pointer x45 : Value)), (62, iteV b_ undef (.bool x45.isNone : Value)), (63, .bool (b_ || x45.isNone))]) rfl (fun hb64 hq65 => oS [(61, undef), (62, undef), (63, .bool true)] rfl (hq65)) (fun hb66 hq67 => oS [(61, .pointer x45)] rfl (owp_rdG (.bool x45.isNone) rfl (by kernel_rfl) (rd_eqNil (P := Tryz.prog) (h := h44) (t := 25) (el := 80) (by kernel_rfl) (by kernel_rfl)) (oS [(63, .bool x45.isNone)] rfl (hq67)))) ?_
 refine oE ?_
 refine cwp_condB ((((((!x21) || (!x34)) || (!x47)) || x19.isNone) || x32.isNone) || x45.isNone) (by kernel_rfl) (fun hc68 => ?_) (fun hc68 => ?_)
 · replace hM := ifT hc68 hM
   refine cR ?_
   refine oZ [(64, .bool x21), (65, .bool x21)] ?_
   refine oB (x21) 2 [29, 9, 42, 64, 65] (fun b_ => [(66, iteV b_ (.bool x34 : Value) undef), (67, .bool (b_ && x34))]) rfl (fun hb69 hq70 => oS [(66, .bool x34), (67, .bool x34)] rfl (hq70)) (fun hb71 hq72 => oS [(66, undef), (67, .bool false)] rfl (hq72)) ?_
   refine oZ [(68, .bool (x21 && x34))] ?_
   refine oB (x21 && x34) 2 [67, 68] (fun b_ => [(69, iteV b_ (.bool x47 : Value) undef), (70, .bool (b_ && x47))]) rfl (fun hb73 hq74 => oS [(69, .bool x47), (70, .bool x47)] rfl (hq74)) (fun hb75 hq76 => oS [(69, undef), (70, .bool false)] rfl (hq76)) ?_
   refine oZ [(6, .bool ((x21 && x34) && x47))] ?_
   refine oE (cwp_ret (thenE_r ?_))
   exact ret_ (.bool ((x21 && x34) && x47)) (by kernel_rfl) ⟨_, rfl, hM⟩
 replace hM := ifF hc68 hM
 refine cwp_skip (thenE_n (cR ?_))
 refine oZ [(71, .pointer x19), (72, .string a4)] ?_
 refine oG (hpCallE 12 #[.pointer x19, .string a4] (by kernel_rfl) (vt_Screen_Feed_ok x19 a4 _ h44 hM) ?_)
 clear hM
 rintro _ h77 ⟨rfl, hM⟩
 refine oE (cR ?_)
 refine oZ [(74, .string a4), (16, .string a4)] ?_
 refine oE (cwp_seq (cR ?_))
 refine oZ [(17, .int .i64 0)] ?_
 refine oE (cwp_block ?_)
 obtain ⟨k_, hM⟩ := hM
 refine cwp_loop k_ (lwp_of_part (fn := Tryz.f8) (p := [1, 1, 1, 1, 1, 1, 1, 0, 1, 0, 0]) (by kernel_rfl) (lA 1 (.string a4) (lA 2 (.slice a5 a5n a5c) (lA 7 (.pointer x19) (lA 10 (.pointer x32) (lA 13 (.pointer x45) (lA 16 (.string a4) (lA 17 (.int .i64 0) (law19_VtChunks_l0_ok _ ?_ k_ a4 a5 a5n a5c x19 x32 x45 a4 0 _ _ hM)))))))))
 · intro z114 z115 z116 z117 z118 b183 h119 hM
   refine blockE_h (thenE_n (cR ?_))
   refine oZ [(97, .pointer z116), (98, .string z118)] ?_
   refine oG (hpCallE 12 #[.pointer z116, .string z118] (by kernel_rfl) (vt_Screen_Feed_ok z116 z118 _ h119 hM) ?_)
   clear hM
   rintro _ h120 ⟨rfl, hM⟩
   refine oE (cwp_seq (cR ?_))
   refine oZ [(19, .int .i64 0)] ?_
   refine oE (cwp_block ?_)
   obtain ⟨k_, hM⟩ := hM
   refine cwp_loop k_ (lwp_of_part (fn := Tryz.f8) (p := [1, 1, 1, 1, 1, 1, 1, 1, 1, 0, 1, 0, 0]) (by kernel_rfl) (lA 1 (.string z114) (lA 7 (.pointer z115) (lA 10 (.pointer z116) (lA 13 (.pointer z117) (lA 19 (.int .i64 0) (law19_VtChunks_l1_ok _ ?_ k_ z114 z115 z116 z117 0 _ _ hM)))))))
   · intro z141 z142 z143 b181 h144 hM
     refine blockE_h (thenE_n (cR ?_))
     refine oZ [(113, .pointer z141)] ?_
     refine oG (hpCallE 20 #[.pointer z141] (by kernel_rfl) (vt_Screen_Answer_ok z141 _ h144 hM) ?_)
     clear hM
     rintro _ h145 ⟨x146, rfl, hM⟩
     refine oZ [(20, .string x146)] ?_
     refine oE (cR ?_)
     refine oZ [(115, .pointer z141)] ?_
     refine oG (hpCallE 12 #[.pointer z141, .string (⟨#[27, 91, 54, 110]⟩ : ByteArray)] (by kernel_rfl) (vt_Screen_Feed_ok z141 (⟨#[27, 91, 54, 110]⟩ : ByteArray) _ h145 hM) ?_)
     clear hM
     rintro _ h147 ⟨rfl, hM⟩
     refine oE (cR ?_)
     refine oZ [(117, .pointer z142)] ?_
     refine oG (hpCallE 12 #[.pointer z142, .string (⟨#[27, 91, 54, 110]⟩ : ByteArray)] (by kernel_rfl) (vt_Screen_Feed_ok z142 (⟨#[27, 91, 54, 110]⟩ : ByteArray) _ h147 hM) ?_)
     clear hM
     rintro _ h148 ⟨rfl, hM⟩
     refine oE (cR ?_)
     refine oZ [(119, .pointer z143)] ?_
     refine oG (hpCallE 12 #[.pointer z143, .string (⟨#[27, 91, 54, 110]⟩ : ByteArray)] (by kernel_rfl) (vt_Screen_Feed_ok z143 (⟨#[27, 91, 54, 110]⟩ : ByteArray) _ h148 hM) ?_)
     clear hM
     rintro _ h149 ⟨rfl, hM⟩
     refine oE (cR ?_)
     refine oZ [(121, .pointer z141)] ?_
     refine oG (hpCallE 20 #[.pointer z141] (by kernel_rfl) (vt_Screen_Answer_ok z141 _ h149 hM) ?_)
     clear hM
     rintro _ h150 ⟨x151, rfl, hM⟩
     refine oZ [(21, .string x151)] ?_
     refine oE (cR ?_)
     refine oZ [(123, .pointer z142)] ?_
     refine oG (hpCallE 20 #[.pointer z142] (by kernel_rfl) (vt_Screen_Answer_ok z142 _ h150 hM) ?_)
     clear hM
     rintro _ h152 ⟨x153, rfl, hM⟩
     refine oZ [(125, .pointer z143)] ?_
     refine oG (hpCallE 20 #[.pointer z143] (by kernel_rfl) (vt_Screen_Answer_ok z143 _ h152 hM) ?_)
     clear hM
     rintro _ h154 ⟨x155, rfl, hM⟩
     refine oZ [(22, .string x153), (23, .string x155)] ?_
     refine oE (cR ?_)
     refine oZ [(127, .string x153), (128, .string x155), (129, .bool (x153.toList == x155.toList)), (130, .bool (x153.toList == x155.toList))] ?_
     refine oB (x153.toList == x155.toList) 4 [129, 130] (fun b_ => [(131, iteV b_ (.string x153 : Value) undef), (132, iteV b_ (.int .i64 (x153.size : Int) : Value) undef), (133, iteV b_ (.bool (decide ((x153.size : Int) ≤ 4096)) : Value) undef), (134, .bool (b_ && (decide ((x153.size : Int) ≤ 4096))))]) rfl (fun hb156 hq157 => oS [(131, .string x153), (132, .int .i64 (x153.size : Int)), (133, .bool (decide ((x153.size : Int) ≤ 4096))), (134, .bool (decide ((x153.size : Int) ≤ 4096)))] rfl (hq157)) (fun hb158 hq159 => oS [(131, undef), (132, undef), (133, undef), (134, .bool false)] rfl (hq159)) ?_
     refine oZ [(135, .bool ((x153.toList == x155.toList) && (decide ((x153.size : Int) ≤ 4096))))] ?_
     obtain ⟨hc168, hM⟩ := hM
     refine oB ((x153.toList == x155.toList) && (decide ((x153.size : Int) ≤ 4096))) 14 [134, 135] (fun b_ => [(136, iteV b_ (.string x146 : Value) undef), (137, iteV b_ (.int .i64 (x146.size : Int) : Value) undef), (138, iteV b_ (.string x151 : Value) undef), (139, iteV b_ (.int .i64 (x151.size : Int) : Value) undef), (140, iteV b_ (.int .i64 (IntKind.wrap .i64 ((x146.size : Int) + (x151.size : Int))) : Value) undef), (141, iteV b_ (.bool (decide (4096 < (IntKind.wrap .i64 ((x146.size : Int) + (x151.size : Int))))) : Value) undef), (142, iteV b_ (.bool (decide (4096 < (IntKind.wrap .i64 ((x146.size : Int) + (x151.size : Int))))) : Value) undef), (143, iteV b_ (iteV (decide (4096 < (IntKind.wrap .i64 ((x146.size : Int) + (x151.size : Int))))) undef (.string x153 : Value)) undef), (144, iteV b_ (iteV (decide (4096 < (IntKind.wrap .i64 ((x146.size : Int) + (x151.size : Int))))) undef (.string x146 : Value)) undef), (145, iteV b_ (iteV (decide (4096 < (IntKind.wrap .i64 ((x146.size : Int) + (x151.size : Int))))) undef (.string x151 : Value)) undef), (146, iteV b_ (iteV (decide (4096 < (IntKind.wrap .i64 ((x146.size : Int) + (x151.size : Int))))) undef (.string (x146 ++ x151) : Value)) undef), (147, iteV b_ (iteV (decide (4096 < (IntKind.wrap .i64 ((x146.size : Int) + (x151.size : Int))))) undef (.bool (x153.toList == (x146 ++ x151).toList) : Value)) undef), (148, iteV b_ (.bool ((decide (4096 < (IntKind.wrap .i64 ((x146.size : Int) + (x151.size : Int))))) || (x153.toList == (x146 ++ x151).toList)) : Value) undef), (149, .bool (b_ && ((decide (4096 < (IntKind.wrap .i64 ((x146.size : Int) + (x151.size : Int))))) || (x153.toList == (x146 ++ x151).toList))))]) rfl (fun hb166 hq167 => have hc165 := hc168 hb166; oS [(136, .string x146), (137, .int .i64 (x146.size : Int)), (138, .string x151), (139, .int .i64 (x151.size : Int)), (140, .int .i64 (IntKind.wrap .i64 ((x146.size : Int) + (x151.size : Int)))), (141, .bool (decide (4096 < (IntKind.wrap .i64 ((x146.size : Int) + (x151.size : Int)))))), (142, .bool (decide (4096 < (IntKind.wrap .i64 ((x146.size : Int) + (x151.size : Int))))))] rfl (oB (decide (4096 < (IntKind.wrap .i64 ((x146.size : Int) + (x151.size : Int))))) 6 [141, 142] (fun b_ => [(143, iteV b_ undef (.string x153 : Value)), (144, iteV b_ undef (.string x146 : Value)), (145, iteV b_ undef (.string x151 : Value)), (146, iteV b_ undef (.string (x146 ++ x151) : Value)), (147, iteV b_ undef (.bool (x153.toList == (x146 ++ x151).toList) : Value)), (148, .bool (b_ || (x153.toList == (x146 ++ x151).toList)))]) rfl (fun hb161 hq162 => oS [(143, undef), (144, undef), (145, undef), (146, undef), (147, undef), (148, .bool true)] rfl (hq162)) (fun hb163 hq164 => have hc160 := hc165 hb163; oS [(143, .string x153), (144, .string x146), (145, .string x151)] rfl (owp_rdG (.string (x146 ++ x151)) rfl (by kernel_rfl) (rd_cat (P := Tryz.prog) (h := h154) (x := x146) (y := x151) hc160 (by kernel_rfl)) (oS [(147, .bool (x153.toList == (x146 ++ x151).toList)), (148, .bool (x153.toList == (x146 ++ x151).toList))] rfl (hq164)))) (oS [(149, .bool ((decide (4096 < (IntKind.wrap .i64 ((x146.size : Int) + (x151.size : Int))))) || (x153.toList == (x146 ++ x151).toList)))] rfl (hq167)))) (fun hb169 hq170 => oS [(136, undef), (137, undef), (138, undef), (139, undef), (140, undef), (141, undef), (142, undef), (143, undef), (144, undef), (145, undef), (146, undef), (147, undef), (148, undef), (149, .bool false)] rfl (hq170)) ?_
     refine oZ [(150, .bool (((x153.toList == x155.toList) && (decide ((x153.size : Int) ≤ 4096))) && ((decide (4096 < (IntKind.wrap .i64 ((x146.size : Int) + (x151.size : Int))))) || (x153.toList == (x146 ++ x151).toList))))] ?_
     by_cases hc173 : (((x153.toList == x155.toList) && (decide ((x153.size : Int) ≤ 4096))) && ((decide (4096 < (IntKind.wrap .i64 ((x146.size : Int) + (x151.size : Int))))) || (x153.toList == (x146 ++ x151).toList))) = true
     · refine oA 149 true (((x153.toList == x155.toList) && (decide ((x153.size : Int) ≤ 4096))) && ((decide (4096 < (IntKind.wrap .i64 ((x146.size : Int) + (x151.size : Int))))) || (x153.toList == (x146 ++ x151).toList))) (by rw [hc173]) ?_
       refine oA 150 true (((x153.toList == x155.toList) && (decide ((x153.size : Int) ≤ 4096))) && ((decide (4096 < (IntKind.wrap .i64 ((x146.size : Int) + (x151.size : Int))))) || (x153.toList == (x146 ++ x151).toList))) (by rw [hc173]) ?_
       replace hM := ifT hc173 hM
       refine oZ [(151, .pointer z141), (152, .pointer z142)] ?_
       refine oG (hpCallE 25 #[.pointer z141, .pointer z142] (by kernel_rfl) (law19_alike_ok z141 z142 _ h154 hM) ?_)
       clear hM
       rintro _ h174 ⟨x175, rfl, hM⟩
       refine oZ [(154, .bool x175), (155, .bool x175)] ?_
       by_cases hc178 : x175 = true
       · refine oA 153 true x175 (by rw [hc178]) ?_
         refine oA 154 true x175 (by rw [hc178]) ?_
         refine oA 155 true x175 (by rw [hc178]) ?_
         replace hM := ifT hc178 hM
         refine oZ [(156, .pointer z141), (157, .pointer z143)] ?_
         refine oG (hpCallE 25 #[.pointer z141, .pointer z143] (by kernel_rfl) (law19_alike_ok z141 z143 _ h174 hM) ?_)
         clear hM
         rintro _ h179 ⟨x180, rfl, hM⟩
         refine oZ [(159, .bool x180), (6, .bool x180)] ?_
         refine oE (cwp_ret ?_)
         exact ret_ (.bool x180) (by kernel_rfl) ⟨_, rfl, hM⟩
       refine oA 153 false x175 (by rw [Bool.eq_false_iff.2 hc178]) ?_
       refine oA 154 false x175 (by rw [Bool.eq_false_iff.2 hc178]) ?_
       refine oA 155 false x175 (by rw [Bool.eq_false_iff.2 hc178]) ?_
       replace hM := ifF hc178 hM
       refine oZ [(156, undef), (157, undef), (158, undef), (159, .bool false), (6, .bool false)] ?_
       refine oE (cwp_ret ?_)
       exact ret_ (.bool false) (by kernel_rfl) ⟨_, rfl, hM⟩
     refine oA 149 false (((x153.toList == x155.toList) && (decide ((x153.size : Int) ≤ 4096))) && ((decide (4096 < (IntKind.wrap .i64 ((x146.size : Int) + (x151.size : Int))))) || (x153.toList == (x146 ++ x151).toList))) (by rw [Bool.eq_false_iff.2 hc173]) ?_
     refine oA 150 false (((x153.toList == x155.toList) && (decide ((x153.size : Int) ≤ 4096))) && ((decide (4096 < (IntKind.wrap .i64 ((x146.size : Int) + (x151.size : Int))))) || (x153.toList == (x146 ++ x151).toList))) (by rw [Bool.eq_false_iff.2 hc173]) ?_
     replace hM := ifF hc173 hM
     refine oZ [(151, undef), (152, undef), (153, undef), (154, .bool false), (155, .bool false), (156, undef), (157, undef), (158, undef), (159, .bool false), (6, .bool false)] ?_
     refine oE (cwp_ret ?_)
     exact ret_ (.bool false) (by kernel_rfl) ⟨_, rfl, hM⟩
/- (mullion/vt.row).blankRow -/
/- (mullion/vt.row).width -/
/- (*mullion/vt.Screen).Resize -/
end Go.Proofs.YthjdnhhifjpidaaGreatDoor.M
