/-
  PRINTED BY A PROGRAM OF THIS CLAIM'S (gen.py): for each Go function a Lean function over memory, and the proof that the code comes to what it says.
-/
import Derived.Test.YthjdnhhifjpidaaDoorF5
import Derived.Test.YthjdnhhifjpidaaDoorProg
set_option linter.unusedVariables false
set_option linter.unusedSimpArgs false
set_option maxRecDepth 100000
set_option maxHeartbeats 1000000
namespace Go.Proofs.YthjdnhhifjpidaaDoor.M
open Go Go.Hp
/- mullion/mullionlaw19.made -/
def law19_made (a1 : Int) (a2 : Int) (a3 : Int) (K : Option Addr → Option Addr → Bool → Heap → Prop) (h : Heap) : Prop :=
 newB h #[.int .i64 a1, .int .i64 a2, .int .i64 a3] 26 fun b4 h5 =>
 ldI h5 .i64 ⟨b4, 0, none⟩ fun x7 =>
 ldI h5 .i64 ⟨b4, 1, none⟩ fun x10 =>
 ldI h5 .i64 ⟨b4, 2, none⟩ fun x13 =>
 vt_New x7 x10 x13 (fun x17 x18 h16 =>
  ldI h16 .i64 ⟨b4, 0, none⟩ fun x19 =>
  ldI h16 .i64 ⟨b4, 1, none⟩ fun x22 =>
  ldI h16 .i64 ⟨b4, 2, none⟩ fun x25 =>
  ref19_New x19 x22 x25 (fun x29 x30 h28 =>
   law19_works  (fun x32 h31 =>
       K x17 x29 ((x32 && (decide (x18 = x30))) && (x17.isNone == x29.isNone)) h31) h28) h16) h5
theorem law19_made_ok (a1 : Int) (a2 : Int) (a3 : Int) (K : Option Addr → Option Addr → Bool → Heap → Prop) (h : Heap) (hM : law19_made a1 a2 a3 K h) : CallsH Tryd.prog 8 #[.agg #[.int .i64 a1, .int .i64 a2, .int .i64 a3]] (fun v h' => ∃ (r41 : Option Addr) (r42 : Option Addr) (r43 : Bool), v = .tuple #[.pointer r41, .pointer r42, .bool r43] ∧ K r41 r42 r43 h') h := by
 unfold law19_made at hM
 refine callsH_intro (n := 44) Tryd.func8 rfl rfl (by kernel_rfl) ?_
 refine cR ?_
 refine oG (hpNew #[.int .i64 a1, .int .i64 a2, .int .i64 a3] 26 (fun _ => by kernel_rfl) ?_)
 intro b4 h5 hN6
 replace hM := newB_of hN6 hM
 refine oS [(2, .pointer none), (3, .pointer none), (4, .bool false)] rfl ?_
 refine oE (cR ?_)
 refine oS [(10, .pointer (some ⟨b4, 0, none⟩))] rfl ?_
 obtain ⟨x7, hc8, hM⟩ := hM
 refine oL (.int .i64 x7) ⟨b4, 0, none⟩ hc8 ?_
 refine oS [(12, .pointer (some ⟨b4, 1, none⟩))] rfl ?_
 obtain ⟨x10, hc11, hM⟩ := hM
 refine oL (.int .i64 x10) ⟨b4, 1, none⟩ hc11 ?_
 refine oS [(14, .pointer (some ⟨b4, 2, none⟩))] rfl ?_
 obtain ⟨x13, hc14, hM⟩ := hM
 refine oL (.int .i64 x13) ⟨b4, 2, none⟩ hc14 ?_
 refine oG (hpCallE 17 #[.int .i64 x7, .int .i64 x10, .int .i64 x13] (by kernel_rfl) (vt_New_ok x7 x10 x13 _ h5 hM) ?_)
 clear hM
 rintro _ h16 ⟨x17, x18, rfl, hM⟩
 refine oS [(9, .tuple #[.pointer x17, .int .i64 x18]), (17, .pointer x17), (18, .int .i64 x18), (5, .pointer x17), (6, .int .i64 x18)] rfl ?_
 refine oE (cR ?_)
 refine oS [(20, .pointer (some ⟨b4, 0, none⟩))] rfl ?_
 obtain ⟨x19, hc20, hM⟩ := hM
 refine oL (.int .i64 x19) ⟨b4, 0, none⟩ hc20 ?_
 refine oS [(22, .pointer (some ⟨b4, 1, none⟩))] rfl ?_
 obtain ⟨x22, hc23, hM⟩ := hM
 refine oL (.int .i64 x22) ⟨b4, 1, none⟩ hc23 ?_
 refine oS [(24, .pointer (some ⟨b4, 2, none⟩))] rfl ?_
 obtain ⟨x25, hc26, hM⟩ := hM
 refine oL (.int .i64 x25) ⟨b4, 2, none⟩ hc26 ?_
 refine oG (hpCallE 20 #[.int .i64 x19, .int .i64 x22, .int .i64 x25] (by kernel_rfl) (ref19_New_ok x19 x22 x25 _ h16 hM) ?_)
 clear hM
 rintro _ h28 ⟨x29, x30, rfl, hM⟩
 refine oS [(19, .tuple #[.pointer x29, .int .i64 x30]), (27, .pointer x29), (28, .int .i64 x30), (7, .pointer x29), (8, .int .i64 x30)] rfl ?_
 refine oE (cR ?_)
 refine oS [(29, .pointer x17), (30, .pointer x29)] rfl ?_
 refine oG (hpCallE 5 #[] (by kernel_rfl) (law19_works_ok  _ h28 hM) ?_)
 clear hM
 rintro _ h31 ⟨x32, rfl, hM⟩
 refine oS [(32, .bool x32)] rfl ?_
 refine oB (x32) 4 [31, 32] (fun b_ => [(33, iteV b_ (.int .i64 x18 : Value) undef), (34, iteV b_ (.int .i64 x30 : Value) undef), (35, iteV b_ (.bool (decide (x18 = x30)) : Value) undef), (36, .bool (b_ && (decide (x18 = x30))))]) rfl (fun hb33 hq34 => oS [(33, .int .i64 x18), (34, .int .i64 x30), (35, .bool (decide (x18 = x30))), (36, .bool (decide (x18 = x30)))] rfl (hq34)) (fun hb35 hq36 => oS [(33, undef), (34, undef), (35, undef), (36, .bool false)] rfl (hq36)) ?_
 refine oS [(37, .bool (x32 && (decide (x18 = x30))))] rfl ?_
 refine oB (x32 && (decide (x18 = x30))) 6 [36, 37] (fun b_ => [(38, iteV b_ (.pointer x17 : Value) undef), (39, iteV b_ (.bool x17.isNone : Value) undef), (40, iteV b_ (.pointer x29 : Value) undef), (41, iteV b_ (.bool x29.isNone : Value) undef), (42, iteV b_ (.bool (x17.isNone == x29.isNone) : Value) undef), (43, .bool (b_ && (x17.isNone == x29.isNone)))]) rfl (fun hb37 hq38 => oS [(38, .pointer x17)] rfl (owp_rdG (.bool x17.isNone) rfl (by kernel_rfl) (rd_eqNil (P := Tryd.prog) (h := h31) (t := 27) (el := 69) (by kernel_rfl) (by kernel_rfl)) (oS [(40, .pointer x29)] rfl (owp_rdG (.bool x29.isNone) rfl (by kernel_rfl) (rd_eqNil (P := Tryd.prog) (h := h31) (t := 28) (el := 79) (by kernel_rfl) (by kernel_rfl)) (oS [(42, .bool (x17.isNone == x29.isNone)), (43, .bool (x17.isNone == x29.isNone))] rfl (hq38)))))) (fun hb39 hq40 => oS [(38, undef), (39, undef), (40, undef), (41, undef), (42, undef), (43, .bool false)] rfl (hq40)) ?_
 refine oS [(2, .pointer x17), (3, .pointer x29), (4, .bool ((x32 && (decide (x18 = x30))) && (x17.isNone == x29.isNone)))] rfl ?_
 refine oE (cwp_ret ?_)
 exact ret_ (.tuple #[.pointer x17, .pointer x29, .bool ((x32 && (decide (x18 = x30))) && (x17.isNone == x29.isNone))]) (by kernel_rfl) ⟨_, _, _, rfl, hM⟩
/- (*mullion/vt.Screen).Bells -/
def vt_Screen_Bells (a1 : Option Addr) (K : Int → Heap → Prop) (h : Heap) : Prop :=
 nz a1 fun p2 =>
 ldI h .i64 (p2.add 29) fun x3 =>
 K x3 h
theorem vt_Screen_Bells_ok (a1 : Option Addr) (K : Int → Heap → Prop) (h : Heap) (hM : vt_Screen_Bells a1 K h) : CallsH Tryd.prog 10 #[.pointer a1] (fun v h' => ∃ (r6 : Int), v = .int .i64 r6 ∧ K r6 h') h := by
 unfold vt_Screen_Bells at hM
 refine callsH_intro (n := 7) Tryd.func10 rfl rfl (by kernel_rfl) ?_
 refine cR ?_
 refine oS [(2, .int .i64 0)] rfl ?_
 refine oE (cR ?_)
 refine oS [(3, .pointer a1)] rfl ?_
 obtain ⟨p2, rfl, hM⟩ := hM
 refine owp_rdG (.pointer (some p2)) rfl (by kernel_rfl) (by kernel_rfl) ?_
 refine oS [(5, .pointer (some (p2.add 29)))] rfl ?_
 obtain ⟨x3, hc4, hM⟩ := hM
 refine oL (.int .i64 x3) (p2.add 29) hc4 ?_
 refine oS [(2, .int .i64 x3)] rfl ?_
 refine oE (cwp_ret ?_)
 exact ret_ (.int .i64 x3) (by kernel_rfl) ⟨_, rfl, hM⟩
/- mullion/vt.Blank -/
def vt_Blank (a1 : Int) (a2 : Int) (K : Int → Int → Option Addr → Nat → Nat → Int → Int → Bool → ByteArray → Int → Heap → Prop) (h : Heap) : Prop :=
 newB h #[.int .i64 0, .int .i64 0, .slice none 0 0, .int .i64 0, .int .i64 0, .bool false, .string (⟨#[]⟩ : ByteArray)] 35 fun b3 h4 =>
 vt_New a1 a2 0 (fun x7 x8 h6 =>
  if x8 = 0 then
   vt_Screen_Picture x7 (fun x11 x12 x13 x13n x13c x14 x15 x16 x17 h10 =>
    stN ⟨b3, 0, none⟩ [.int .i64 x11, .int .i64 x12, .slice x13 x13n x13c, .int .i64 x14, .int .i64 x15, .bool x16, .string x17] 0 h10 fun h18 =>
    ldI h18 .i64 ⟨b3, 0, none⟩ fun x19 =>
    ldI h18 .i64 ⟨b3, 1, none⟩ fun x21 =>
    ldL h18 ⟨b3, 2, none⟩ fun x23 x23n x23c =>
    ldI h18 .i64 ⟨b3, 3, none⟩ fun x25 =>
    ldI h18 .i64 ⟨b3, 4, none⟩ fun x27 =>
    ldB h18 ⟨b3, 5, none⟩ fun x29 =>
    ldS h18 ⟨b3, 6, none⟩ fun x31 =>
     K x19 x21 x23 x23n x23c x25 x27 x29 x31 0 h18) h6
  else
  stN ⟨b3, 0, none⟩ [.int .i64 0, .int .i64 0, .slice none 0 0, .int .i64 0, .int .i64 0, .bool false, .string (⟨#[]⟩ : ByteArray)] 0 h6 fun h40 =>
  ldI h40 .i64 ⟨b3, 0, none⟩ fun x41 =>
  ldI h40 .i64 ⟨b3, 1, none⟩ fun x43 =>
  ldL h40 ⟨b3, 2, none⟩ fun x45 x45n x45c =>
  ldI h40 .i64 ⟨b3, 3, none⟩ fun x47 =>
  ldI h40 .i64 ⟨b3, 4, none⟩ fun x49 =>
  ldB h40 ⟨b3, 5, none⟩ fun x51 =>
  ldS h40 ⟨b3, 6, none⟩ fun x53 =>
   K x41 x43 x45 x45n x45c x47 x49 x51 x53 x8 h40) h4
theorem vt_Blank_ok (a1 : Int) (a2 : Int) (K : Int → Int → Option Addr → Nat → Nat → Int → Int → Bool → ByteArray → Int → Heap → Prop) (h : Heap) (hM : vt_Blank a1 a2 K h) : CallsH Tryd.prog 11 #[.int .i64 a1, .int .i64 a2] (fun v h' => ∃ (r62 : Int) (r63 : Int) (r64 : Option Addr) (r64n : Nat) (r64c : Nat) (r65 : Int) (r66 : Int) (r67 : Bool) (r68 : ByteArray) (r69 : Int), v = .tuple #[.agg #[.int .i64 r62, .int .i64 r63, .slice r64 r64n r64c, .int .i64 r65, .int .i64 r66, .bool r67, .string r68], .int .i64 r69] ∧ K r62 r63 r64 r64n r64c r65 r66 r67 r68 r69 h') h := by
 unfold vt_Blank at hM
 refine callsH_intro (n := 20) Tryd.func11 rfl rfl (by kernel_rfl) ?_
 refine cR ?_
 refine oG (hpNew #[.int .i64 0, .int .i64 0, .slice none 0 0, .int .i64 0, .int .i64 0, .bool false, .string (⟨#[]⟩ : ByteArray)] 35 (fun _ => by kernel_rfl) ?_)
 intro b3 h4 hN5
 replace hM := newB_of hN5 hM
 refine oS [(5, .int .i64 0)] rfl ?_
 refine oE (cR ?_)
 refine oS [(9, .int .i64 a1), (10, .int .i64 a2)] rfl ?_
 refine oG (hpCallE 17 #[.int .i64 a1, .int .i64 a2, .int .i64 0] (by kernel_rfl) (vt_New_ok a1 a2 0 _ h4 hM) ?_)
 clear hM
 rintro _ h6 ⟨x7, x8, rfl, hM⟩
 refine oS [(8, .tuple #[.pointer x7, .int .i64 x8]), (12, .pointer x7), (13, .int .i64 x8), (6, .pointer x7), (7, .int .i64 x8)] rfl ?_
 refine oE (cwp_seq (cR ?_))
 refine oS [(14, .int .i64 x8), (15, .bool (!decide (x8 = 0)))] rfl ?_
 refine oE ?_
 refine cwp_condN (x8 = 0) (by kernel_rfl) (fun hc9 => ?_) (fun hc9 => ?_)
 · replace hM := ifT hc9 hM
   refine cwp_skip (thenE_n (cR ?_))
   refine oS [(18, .pointer x7)] rfl ?_
   refine oG (hpCallE 12 #[.pointer x7] (by kernel_rfl) (vt_Screen_Picture_ok x7 _ h6 hM) ?_)
   clear hM
   rintro _ h10 ⟨x11, x12, x13, x13n, x13c, x14, x15, x16, x17, rfl, hM⟩
   refine oT ⟨b3, 0, none⟩ [.int .i64 x11, .int .i64 x12, .slice x13 x13n x13c, .int .i64 x14, .int .i64 x15, .bool x16, .string x17] hM ?_
   clear hM
   intro h18 hM
   refine oS [(5, .int .i64 0)] rfl ?_
   refine oE (cwp_ret ?_)
   obtain ⟨x19, hc20, hM⟩ := hM
   obtain ⟨x21, hc22, hM⟩ := hM
   obtain ⟨x23, x23n, x23c, hc24, hM⟩ := hM
   obtain ⟨x25, hc26, hM⟩ := hM
   obtain ⟨x27, hc28, hM⟩ := hM
   obtain ⟨x29, hc30, hM⟩ := hM
   obtain ⟨x31, hc32, hM⟩ := hM
   exact ret_ (.tuple #[.agg #[.int .i64 x19, .int .i64 x21, .slice x23 x23n x23c, .int .i64 x25, .int .i64 x27, .bool x29, .string x31], .int .i64 0]) (Eq.trans (b := (cellH h18 ⟨b3, 0, none⟩).bind fun v33 => (cellH h18 ⟨b3, 1, none⟩).bind fun v34 => (cellH h18 ⟨b3, 2, none⟩).bind fun v35 => (cellH h18 ⟨b3, 3, none⟩).bind fun v36 => (cellH h18 ⟨b3, 4, none⟩).bind fun v37 => (cellH h18 ⟨b3, 5, none⟩).bind fun v38 => (cellH h18 ⟨b3, 6, none⟩).bind fun v39 => some (.tuple #[.agg #[v33, v34, v35, v36, v37, v38, v39], .int .i64 0])) (by kernel_rfl) ((bindE hc20 _).trans ((bindE hc22 _).trans ((bindE hc24 _).trans ((bindE hc26 _).trans ((bindE hc28 _).trans ((bindE hc30 _).trans (bindE hc32 _)))))))) ⟨_, _, _, _, _, _, _, _, _, _, rfl, hM⟩
 replace hM := ifF hc9 hM
 refine cR ?_
 refine oS [(16, .agg #[.int .i64 0, .int .i64 0, .slice none 0 0, .int .i64 0, .int .i64 0, .bool false, .string (⟨#[]⟩ : ByteArray)]), (17, .int .i64 x8)] rfl ?_
 refine oT ⟨b3, 0, none⟩ [.int .i64 0, .int .i64 0, .slice none 0 0, .int .i64 0, .int .i64 0, .bool false, .string (⟨#[]⟩ : ByteArray)] hM ?_
 clear hM
 intro h40 hM
 refine oS [(5, .int .i64 x8)] rfl ?_
 refine oE (cwp_ret (thenE_r ?_))
 obtain ⟨x41, hc42, hM⟩ := hM
 obtain ⟨x43, hc44, hM⟩ := hM
 obtain ⟨x45, x45n, x45c, hc46, hM⟩ := hM
 obtain ⟨x47, hc48, hM⟩ := hM
 obtain ⟨x49, hc50, hM⟩ := hM
 obtain ⟨x51, hc52, hM⟩ := hM
 obtain ⟨x53, hc54, hM⟩ := hM
 exact ret_ (.tuple #[.agg #[.int .i64 x41, .int .i64 x43, .slice x45 x45n x45c, .int .i64 x47, .int .i64 x49, .bool x51, .string x53], .int .i64 x8]) (Eq.trans (b := (cellH h40 ⟨b3, 0, none⟩).bind fun v55 => (cellH h40 ⟨b3, 1, none⟩).bind fun v56 => (cellH h40 ⟨b3, 2, none⟩).bind fun v57 => (cellH h40 ⟨b3, 3, none⟩).bind fun v58 => (cellH h40 ⟨b3, 4, none⟩).bind fun v59 => (cellH h40 ⟨b3, 5, none⟩).bind fun v60 => (cellH h40 ⟨b3, 6, none⟩).bind fun v61 => some (.tuple #[.agg #[v55, v56, v57, v58, v59, v60, v61], .int .i64 x8])) (by kernel_rfl) ((bindE hc42 _).trans ((bindE hc44 _).trans ((bindE hc46 _).trans ((bindE hc48 _).trans ((bindE hc50 _).trans ((bindE hc52 _).trans (bindE hc54 _)))))))) ⟨_, _, _, _, _, _, _, _, _, _, rfl, hM⟩
/- mullion/mullionlaw19.same -/
def law19_same_l0 (K0 : Heap → Prop) (Kr : Bool → Heap → Prop) : Nat → Nat → Nat → Int → Heap → Prop
  | 0, _, _, _, _ => False
  | k + 1, y88, y89, y90, h =>
  ldL h ⟨y88, 2, none⟩ fun x91 x91n x91c =>
  if y90 < (x91n : Int) then
   ldL h ⟨y88, 2, none⟩ fun x95 x95n x95c =>
   nz x95 fun p101 =>
   0 ≤ y90 ∧
   y90 < (x95n : Int) ∧
   ldS h (p101.add ((y90).toNat * 5)) fun x102 =>
   ldI h .i64 ((p101.add ((y90).toNat * 5)).add 1) fun x104 =>
   ldI h .i64 ((p101.add ((y90).toNat * 5)).add 2) fun x106 =>
   ldI h .i64 ((p101.add ((y90).toNat * 5)).add 3) fun x108 =>
   ldI h .i64 ((p101.add ((y90).toNat * 5)).add 4) fun x110 =>
   ldL h ⟨y89, 2, none⟩ fun x122 x122n x122c =>
   nz x122 fun p128 =>
   0 ≤ y90 ∧
   y90 < (x122n : Int) ∧
   ldS h (p128.add ((y90).toNat * 5)) fun x129 =>
   ldI h .i64 ((p128.add ((y90).toNat * 5)).add 1) fun x131 =>
   ldI h .i64 ((p128.add ((y90).toNat * 5)).add 2) fun x133 =>
   ldI h .i64 ((p128.add ((y90).toNat * 5)).add 3) fun x135 =>
   ldI h .i64 ((p128.add ((y90).toNat * 5)).add 4) fun x137 =>
   if (!((x102 == x129) && ((x104 == x131) && ((x106 == x133) && ((x108 == x135) && (x110 == x137)))))) = true then
    Kr false h
   else
   law19_same_l0 K0 Kr k y88 y89 (IntKind.wrap .i64 (y90 + 1)) h
  else
  K0  h
theorem law19_same_l0_ok {Q : Exit → Env → Heap → Prop} (K0 : Heap → Prop) (hK0 : ∀  (b : Env) (h : Heap), K0  h → Q (.exit 0) b h) (Kr : Bool → Heap → Prop) (hKr : ∀ (z152 : Bool) (b : Env) (h : Heap), Kr z152 h → Q .ret (upd b 4 (.bool z152)) h) : ∀ (k : Nat) (y88 : Nat) (y89 : Nat) (y90 : Int) (b : Env) (h : Heap) (hM : law19_same_l0 K0 Kr k y88 y89 y90 h), lwp Tryd.prog (partC Tryd.f13 [1, 1, 0, 1, 0, 0]) 73 Q k (upd (upd (upd b 2 (.pointer (some ⟨y88, 0, none⟩))) 3 (.pointer (some ⟨y89, 0, none⟩))) 5 (.int .i64 y90)) h := by
  intro k
  induction k with
  | zero => intro y88 y89 y90 b h hM; exact (show False from hM).elim
  | succ k ih =>
    intro y88 y89 y90 b h hM
    unfold law19_same_l0 at hM
    refine lwp_succ (cwp_part rfl ?_)
    refine cwp_seq (cR ?_)
    refine oS [(55, .int .i64 y90), (56, .pointer (some ⟨y88, 2, none⟩))] rfl ?_
    obtain ⟨x91, x91n, x91c, hc92, hM⟩ := hM
    refine oL (.slice x91 x91n x91c) ⟨y88, 2, none⟩ hc92 ?_
    refine oS [(58, .int .i64 (x91n : Int)), (59, .bool (decide (y90 < (x91n : Int))))] rfl ?_
    refine oE ?_
    refine cwp_condD (y90 < (x91n : Int)) (by kernel_rfl) (fun hc94 => ?_) (fun hc94 => ?_)
    · replace hM := ifT hc94 hM
      refine cwp_skip (thenE_n (cwp_seq (cwp_block (cwp_seq ?_))))
      refine cwp_draw (by kernel_rfl) ?_
      refine kp 0 [1, 3, 4, 10] (.pointer (some ⟨y88, 2, none⟩)) ?_
      obtain ⟨x95, x95n, x95c, hc96, hM⟩ := hM
      refine kl 1 (.slice x95 x95n x95c) ⟨y88, 2, none⟩ [3, 4, 10] [] hc96 ?_
      refine kp 2 [3, 4, 10] (.int .i64 y90) ?_
      obtain ⟨p101, rfl, hM⟩ := hM
      obtain ⟨hc99, hM⟩ := hM
      obtain ⟨hc100, hM⟩ := hM
      refine k_pure (i := 3) [4, 10] (.pointer (some (p101.add ((y90).toNat * 5)))) (by kernel_rfl) rfl rfl (by kernel_rfl) (fun h' => rd_ixS (P := Tryd.prog) (h := h') (t := 33) (el := 43) (sz := 5) (ad := p101) (len := x95n) (c := x95c) (k := .i64) (i := y90) (by kernel_rfl) (by kernel_rfl) hc99 hc100 (by kernel_rfl)) (by kernel_rfl) ?_
      obtain ⟨x102, hc103, hM⟩ := hM
      obtain ⟨x104, hc105, hM⟩ := hM
      obtain ⟨x106, hc107, hM⟩ := hM
      obtain ⟨x108, hc109, hM⟩ := hM
      obtain ⟨x110, hc111, hM⟩ := hM
      refine k_load (i := 4) (.agg #[.string x102, .int .i64 x104, .int .i64 x106, .int .i64 x108, .int .i64 x110]) (fun h' => cellH h' (p101.add ((y90).toNat * 5)) = some (.string x102) ∧ cellH h' ((p101.add ((y90).toNat * 5)).add 1) = some (.int .i64 x104) ∧ cellH h' ((p101.add ((y90).toNat * 5)).add 2) = some (.int .i64 x106) ∧ cellH h' ((p101.add ((y90).toNat * 5)).add 3) = some (.int .i64 x108) ∧ cellH h' ((p101.add ((y90).toNat * 5)).add 4) = some (.int .i64 x110) ∧ True) [10] [] (by kernel_rfl) (by kernel_rfl) rfl rfl (by kernel_rfl) (fun h' hS => Eq.trans (b := (cellH h' (p101.add ((y90).toNat * 5))).bind fun v117 => (cellH h' ((p101.add ((y90).toNat * 5)).add 1)).bind fun v118 => (cellH h' ((p101.add ((y90).toNat * 5)).add 2)).bind fun v119 => (cellH h' ((p101.add ((y90).toNat * 5)).add 3)).bind fun v120 => (cellH h' ((p101.add ((y90).toNat * 5)).add 4)).bind fun v121 => some (.value (.agg #[v117, v118, v119, v120, v121]))) (by kernel_rfl) ((bindE hS.1 _).trans ((bindE hS.2.1 _).trans ((bindE hS.2.2.1 _).trans ((bindE hS.2.2.2.1 _).trans (bindE hS.2.2.2.2.1 _)))))) ⟨hc103, hc105, hc107, hc109, hc111, trivial⟩ (by kernel_rfl) ?_
      refine kp 5 [6, 8, 9, 10] (.pointer (some ⟨y89, 2, none⟩)) ?_
      obtain ⟨x122, x122n, x122c, hc123, hM⟩ := hM
      refine kl 6 (.slice x122 x122n x122c) ⟨y89, 2, none⟩ [8, 9, 10] [] hc123 ?_
      refine kp 7 [8, 9, 10] (.int .i64 y90) ?_
      obtain ⟨p128, rfl, hM⟩ := hM
      obtain ⟨hc126, hM⟩ := hM
      obtain ⟨hc127, hM⟩ := hM
      refine k_pure (i := 8) [9, 10] (.pointer (some (p128.add ((y90).toNat * 5)))) (by kernel_rfl) rfl rfl (by kernel_rfl) (fun h' => rd_ixS (P := Tryd.prog) (h := h') (t := 33) (el := 43) (sz := 5) (ad := p128) (len := x122n) (c := x122c) (k := .i64) (i := y90) (by kernel_rfl) (by kernel_rfl) hc126 hc127 (by kernel_rfl)) (by kernel_rfl) ?_
      obtain ⟨x129, hc130, hM⟩ := hM
      obtain ⟨x131, hc132, hM⟩ := hM
      obtain ⟨x133, hc134, hM⟩ := hM
      obtain ⟨x135, hc136, hM⟩ := hM
      obtain ⟨x137, hc138, hM⟩ := hM
      refine k_load (i := 9) (.agg #[.string x129, .int .i64 x131, .int .i64 x133, .int .i64 x135, .int .i64 x137]) (fun h' => cellH h' (p128.add ((y90).toNat * 5)) = some (.string x129) ∧ cellH h' ((p128.add ((y90).toNat * 5)).add 1) = some (.int .i64 x131) ∧ cellH h' ((p128.add ((y90).toNat * 5)).add 2) = some (.int .i64 x133) ∧ cellH h' ((p128.add ((y90).toNat * 5)).add 3) = some (.int .i64 x135) ∧ cellH h' ((p128.add ((y90).toNat * 5)).add 4) = some (.int .i64 x137) ∧ True) [10] [] (by kernel_rfl) (by kernel_rfl) rfl rfl (by kernel_rfl) (fun h' hS => Eq.trans (b := (cellH h' (p128.add ((y90).toNat * 5))).bind fun v144 => (cellH h' ((p128.add ((y90).toNat * 5)).add 1)).bind fun v145 => (cellH h' ((p128.add ((y90).toNat * 5)).add 2)).bind fun v146 => (cellH h' ((p128.add ((y90).toNat * 5)).add 3)).bind fun v147 => (cellH h' ((p128.add ((y90).toNat * 5)).add 4)).bind fun v148 => some (.value (.agg #[v144, v145, v146, v147, v148]))) (by kernel_rfl) ((bindE hS.1 _).trans ((bindE hS.2.1 _).trans ((bindE hS.2.2.1 _).trans ((bindE hS.2.2.2.1 _).trans (bindE hS.2.2.2.2.1 _)))))) ⟨hc130, hc132, hc134, hc136, hc138, trivial⟩ (by kernel_rfl) ?_
      refine k_pure (i := 10) [] (.bool (!((x102 == x129) && ((x104 == x131) && ((x106 == x133) && ((x108 == x135) && (x110 == x137))))))) (by kernel_rfl) rfl rfl (by kernel_rfl) (fun h' => (by kernel_rfl : _ = rd Tryd.prog (toVal ((Op.equal 43 (.agg #[.string x102, .int .i64 x104, .int .i64 x106, .int .i64 x108, .int .i64 x110]) (.agg #[.string x129, .int .i64 x131, .int .i64 x133, .int .i64 x135, .int .i64 x137])).bind fun v_ => Sem.pure (.bool (!v_)))) h').trans (rd_neB (eq_T43 9997))) (by kernel_rfl) ?_
      refine k_done (by kernel_rfl) ?_
      refine thenE_n ?_
      refine cwp_condB (!((x102 == x129) && ((x104 == x131) && ((x106 == x133) && ((x108 == x135) && (x110 == x137)))))) (by kernel_rfl) (fun hc149 => ?_) (fun hc149 => ?_)
      · replace hM := ifT hc149 hM
        refine cR ?_
        refine oS [(4, .bool false)] rfl ?_
        refine oE (cwp_ret (blockE_r (thenE_r ?_)))
        exact q_at (Q := Q .ret) 4 (.bool false) (by kernel_rfl) (hKr false _ _ hM)
      replace hM := ifF hc149 hM
      refine cwp_skip (blockE_n (thenE_n (cwp_region ?_)))
      refine oS [(60, .int .i64 y90), (61, .int .i64 (IntKind.wrap .i64 (y90 + 1))), (5, .int .i64 (IntKind.wrap .i64 (y90 + 1)))] rfl ?_
      refine owp_nil ?_
      exact lwp_at 2 (.pointer (some ⟨y88, 0, none⟩)) (by kernel_rfl) (lwp_at 3 (.pointer (some ⟨y89, 0, none⟩)) (by kernel_rfl) (lwp_at 5 (.int .i64 (IntKind.wrap .i64 (y90 + 1))) (by kernel_rfl) (ih y88 y89 (IntKind.wrap .i64 (y90 + 1)) _ _ hM)))
    replace hM := ifF hc94 hM
    refine cwp_exit (thenE_x ?_)
    exact hK0  _ _ hM
def law19_same (a1 : Int) (a2 : Int) (a3 : Option Addr) (a3n : Nat) (a3c : Nat) (a4 : Int) (a5 : Int) (a6 : Bool) (a7 : ByteArray) (a8 : Int) (a9 : Int) (a10 : Option Addr) (a10n : Nat) (a10c : Nat) (a11 : Int) (a12 : Int) (a13 : Bool) (a14 : ByteArray) (K : Bool → Heap → Prop) (h : Heap) : Prop :=
 newB h #[.int .i64 a1, .int .i64 a2, .slice a3 a3n a3c, .int .i64 a4, .int .i64 a5, .bool a6, .string a7] 35 fun b15 h16 =>
 newB h16 #[.int .i64 a8, .int .i64 a9, .slice a10 a10n a10c, .int .i64 a11, .int .i64 a12, .bool a13, .string a14] 35 fun b18 h19 =>
 ldI h19 .i64 ⟨b15, 0, none⟩ fun x21 =>
 ldI h19 .i64 ⟨b18, 0, none⟩ fun x24 =>
 if x21 = x24 then
  ldI h19 .i64 ⟨b15, 1, none⟩ fun x31 =>
  ldI h19 .i64 ⟨b18, 1, none⟩ fun x34 =>
  if x31 = x34 then
   ldI h19 .i64 ⟨b15, 3, none⟩ fun x41 =>
   ldI h19 .i64 ⟨b18, 3, none⟩ fun x44 =>
   if x41 = x44 then
    ldI h19 .i64 ⟨b15, 4, none⟩ fun x51 =>
    ldI h19 .i64 ⟨b18, 4, none⟩ fun x54 =>
    if x51 = x54 then
     ldB h19 ⟨b15, 5, none⟩ fun x61 =>
     ldB h19 ⟨b18, 5, none⟩ fun x64 =>
     if (!(x61 == x64)) = true then
      K false h19
     else
     ldS h19 ⟨b15, 6, none⟩ fun x71 =>
     ldS h19 ⟨b18, 6, none⟩ fun x74 =>
     if (!(x71.toList == x74.toList)) = true then
      K false h19
     else
     ldL h19 ⟨b15, 2, none⟩ fun x81 x81n x81c =>
     ldL h19 ⟨b18, 2, none⟩ fun x84 x84n x84c =>
     if (x81n : Int) = (x84n : Int) then
      ∃ k158, law19_same_l0
       (fun  h153 =>
           K true h153)
       (fun z155 h156 =>
           K z155 h156) k158 b15 b18 0 h19
     else
     K false h19
    else
    K false h19
   else
   K false h19
  else
  K false h19
 else
 K false h19
theorem law19_same_ok (a1 : Int) (a2 : Int) (a3 : Option Addr) (a3n : Nat) (a3c : Nat) (a4 : Int) (a5 : Int) (a6 : Bool) (a7 : ByteArray) (a8 : Int) (a9 : Int) (a10 : Option Addr) (a10n : Nat) (a10c : Nat) (a11 : Int) (a12 : Int) (a13 : Bool) (a14 : ByteArray) (K : Bool → Heap → Prop) (h : Heap) (hM : law19_same a1 a2 a3 a3n a3c a4 a5 a6 a7 a8 a9 a10 a10n a10c a11 a12 a13 a14 K h) : CallsH Tryd.prog 13 #[.agg #[.int .i64 a1, .int .i64 a2, .slice a3 a3n a3c, .int .i64 a4, .int .i64 a5, .bool a6, .string a7], .agg #[.int .i64 a8, .int .i64 a9, .slice a10 a10n a10c, .int .i64 a11, .int .i64 a12, .bool a13, .string a14]] (fun v h' => ∃ (r159 : Bool), v = .bool r159 ∧ K r159 h') h := by
 unfold law19_same at hM
 refine callsH_intro (n := 73) Tryd.func13 rfl rfl (by kernel_rfl) ?_
 refine cR ?_
 refine oG (hpNew #[.int .i64 a1, .int .i64 a2, .slice a3 a3n a3c, .int .i64 a4, .int .i64 a5, .bool a6, .string a7] 35 (fun _ => by kernel_rfl) ?_)
 intro b15 h16 hN17
 replace hM := newB_of hN17 hM
 refine oG (hpNew #[.int .i64 a8, .int .i64 a9, .slice a10 a10n a10c, .int .i64 a11, .int .i64 a12, .bool a13, .string a14] 35 (fun _ => by kernel_rfl) ?_)
 intro b18 h19 hN20
 replace hM := newB_of hN20 hM
 refine oS [(4, .bool false)] rfl ?_
 refine oE (cwp_seq (cR ?_))
 refine oS [(6, .pointer (some ⟨b15, 0, none⟩))] rfl ?_
 obtain ⟨x21, hc22, hM⟩ := hM
 refine oL (.int .i64 x21) ⟨b15, 0, none⟩ hc22 ?_
 refine oS [(8, .pointer (some ⟨b18, 0, none⟩))] rfl ?_
 obtain ⟨x24, hc25, hM⟩ := hM
 refine oL (.int .i64 x24) ⟨b18, 0, none⟩ hc25 ?_
 refine oS [(10, .bool (!decide (x21 = x24))), (11, .bool (!decide (x21 = x24)))] rfl ?_
 by_cases hc30 : x21 = x24
 · refine oA 10 false (!decide (x21 = x24)) (by rw [decide_eq_true hc30]; rfl) ?_
   refine oA 11 false (!decide (x21 = x24)) (by rw [decide_eq_true hc30]; rfl) ?_
   replace hM := ifT hc30 hM
   refine oS [(12, .pointer (some ⟨b15, 1, none⟩))] rfl ?_
   obtain ⟨x31, hc32, hM⟩ := hM
   refine oL (.int .i64 x31) ⟨b15, 1, none⟩ hc32 ?_
   refine oS [(14, .pointer (some ⟨b18, 1, none⟩))] rfl ?_
   obtain ⟨x34, hc35, hM⟩ := hM
   refine oL (.int .i64 x34) ⟨b18, 1, none⟩ hc35 ?_
   refine oS [(16, .bool (!decide (x31 = x34))), (17, .bool (!decide (x31 = x34))), (18, .bool (!decide (x31 = x34)))] rfl ?_
   by_cases hc40 : x31 = x34
   · refine oA 16 false (!decide (x31 = x34)) (by rw [decide_eq_true hc40]; rfl) ?_
     refine oA 17 false (!decide (x31 = x34)) (by rw [decide_eq_true hc40]; rfl) ?_
     refine oA 18 false (!decide (x31 = x34)) (by rw [decide_eq_true hc40]; rfl) ?_
     replace hM := ifT hc40 hM
     refine oS [(19, .pointer (some ⟨b15, 3, none⟩))] rfl ?_
     obtain ⟨x41, hc42, hM⟩ := hM
     refine oL (.int .i64 x41) ⟨b15, 3, none⟩ hc42 ?_
     refine oS [(21, .pointer (some ⟨b18, 3, none⟩))] rfl ?_
     obtain ⟨x44, hc45, hM⟩ := hM
     refine oL (.int .i64 x44) ⟨b18, 3, none⟩ hc45 ?_
     refine oS [(23, .bool (!decide (x41 = x44))), (24, .bool (!decide (x41 = x44))), (25, .bool (!decide (x41 = x44)))] rfl ?_
     by_cases hc50 : x41 = x44
     · refine oA 23 false (!decide (x41 = x44)) (by rw [decide_eq_true hc50]; rfl) ?_
       refine oA 24 false (!decide (x41 = x44)) (by rw [decide_eq_true hc50]; rfl) ?_
       refine oA 25 false (!decide (x41 = x44)) (by rw [decide_eq_true hc50]; rfl) ?_
       replace hM := ifT hc50 hM
       refine oS [(26, .pointer (some ⟨b15, 4, none⟩))] rfl ?_
       obtain ⟨x51, hc52, hM⟩ := hM
       refine oL (.int .i64 x51) ⟨b15, 4, none⟩ hc52 ?_
       refine oS [(28, .pointer (some ⟨b18, 4, none⟩))] rfl ?_
       obtain ⟨x54, hc55, hM⟩ := hM
       refine oL (.int .i64 x54) ⟨b18, 4, none⟩ hc55 ?_
       refine oS [(30, .bool (!decide (x51 = x54))), (31, .bool (!decide (x51 = x54))), (32, .bool (!decide (x51 = x54)))] rfl ?_
       by_cases hc60 : x51 = x54
       · refine oA 30 false (!decide (x51 = x54)) (by rw [decide_eq_true hc60]; rfl) ?_
         refine oA 31 false (!decide (x51 = x54)) (by rw [decide_eq_true hc60]; rfl) ?_
         refine oA 32 false (!decide (x51 = x54)) (by rw [decide_eq_true hc60]; rfl) ?_
         replace hM := ifT hc60 hM
         refine oS [(33, .pointer (some ⟨b15, 5, none⟩))] rfl ?_
         obtain ⟨x61, hc62, hM⟩ := hM
         refine oL (.bool x61) ⟨b15, 5, none⟩ hc62 ?_
         refine oS [(35, .pointer (some ⟨b18, 5, none⟩))] rfl ?_
         obtain ⟨x64, hc65, hM⟩ := hM
         refine oL (.bool x64) ⟨b18, 5, none⟩ hc65 ?_
         refine oS [(37, .bool (!(x61 == x64))), (38, .bool (!(x61 == x64))), (39, .bool (!(x61 == x64)))] rfl ?_
         by_cases hc70 : (!(x61 == x64)) = true
         · refine oA 37 true (!(x61 == x64)) (by rw [hc70]) ?_
           refine oA 38 true (!(x61 == x64)) (by rw [hc70]) ?_
           refine oA 39 true (!(x61 == x64)) (by rw [hc70]) ?_
           replace hM := ifT hc70 hM
           refine oS [(40, undef), (41, undef), (42, undef), (43, undef), (44, undef), (45, .bool true), (46, .bool true), (47, undef), (48, undef), (49, undef), (50, undef), (51, undef), (52, undef), (53, undef), (54, .bool true)] rfl ?_
           refine oE ?_
           refine cwp_cond (t := true) (by kernel_rfl) (fun hx_ => ?_) (fun hx_ => ?_)
           all_goals first | (cases hx_; done) | skip
           refine cR ?_
           refine oS [(4, .bool false)] rfl ?_
           refine oE (cwp_ret (thenE_r ?_))
           exact ret_ (.bool false) (by kernel_rfl) ⟨_, rfl, hM⟩
         refine oA 37 false (!(x61 == x64)) (by rw [Bool.eq_false_iff.2 hc70]) ?_
         refine oA 38 false (!(x61 == x64)) (by rw [Bool.eq_false_iff.2 hc70]) ?_
         refine oA 39 false (!(x61 == x64)) (by rw [Bool.eq_false_iff.2 hc70]) ?_
         replace hM := ifF hc70 hM
         refine oS [(40, .pointer (some ⟨b15, 6, none⟩))] rfl ?_
         obtain ⟨x71, hc72, hM⟩ := hM
         refine oL (.string x71) ⟨b15, 6, none⟩ hc72 ?_
         refine oS [(42, .pointer (some ⟨b18, 6, none⟩))] rfl ?_
         obtain ⟨x74, hc75, hM⟩ := hM
         refine oL (.string x74) ⟨b18, 6, none⟩ hc75 ?_
         refine oS [(44, .bool (!(x71.toList == x74.toList))), (45, .bool (!(x71.toList == x74.toList))), (46, .bool (!(x71.toList == x74.toList)))] rfl ?_
         by_cases hc80 : (!(x71.toList == x74.toList)) = true
         · refine oA 44 true (!(x71.toList == x74.toList)) (by rw [hc80]) ?_
           refine oA 45 true (!(x71.toList == x74.toList)) (by rw [hc80]) ?_
           refine oA 46 true (!(x71.toList == x74.toList)) (by rw [hc80]) ?_
           replace hM := ifT hc80 hM
           refine oS [(47, undef), (48, undef), (49, undef), (50, undef), (51, undef), (52, undef), (53, undef), (54, .bool true)] rfl ?_
           refine oE ?_
           refine cwp_cond (t := true) (by kernel_rfl) (fun hx_ => ?_) (fun hx_ => ?_)
           all_goals first | (cases hx_; done) | skip
           refine cR ?_
           refine oS [(4, .bool false)] rfl ?_
           refine oE (cwp_ret (thenE_r ?_))
           exact ret_ (.bool false) (by kernel_rfl) ⟨_, rfl, hM⟩
         refine oA 44 false (!(x71.toList == x74.toList)) (by rw [Bool.eq_false_iff.2 hc80]) ?_
         refine oA 45 false (!(x71.toList == x74.toList)) (by rw [Bool.eq_false_iff.2 hc80]) ?_
         refine oA 46 false (!(x71.toList == x74.toList)) (by rw [Bool.eq_false_iff.2 hc80]) ?_
         replace hM := ifF hc80 hM
         refine oS [(47, .pointer (some ⟨b15, 2, none⟩))] rfl ?_
         obtain ⟨x81, x81n, x81c, hc82, hM⟩ := hM
         refine oL (.slice x81 x81n x81c) ⟨b15, 2, none⟩ hc82 ?_
         refine oS [(49, .int .i64 (x81n : Int)), (50, .pointer (some ⟨b18, 2, none⟩))] rfl ?_
         obtain ⟨x84, x84n, x84c, hc85, hM⟩ := hM
         refine oL (.slice x84 x84n x84c) ⟨b18, 2, none⟩ hc85 ?_
         refine oS [(52, .int .i64 (x84n : Int)), (53, .bool (!decide ((x81n : Int) = (x84n : Int)))), (54, .bool (!decide ((x81n : Int) = (x84n : Int))))] rfl ?_
         refine oE ?_
         refine cwp_condN ((x81n : Int) = (x84n : Int)) (by kernel_rfl) (fun hc87 => ?_) (fun hc87 => ?_)
         · replace hM := ifT hc87 hM
           refine cwp_skip (thenE_n (cwp_seq (cR ?_)))
           refine oS [(5, .int .i64 0)] rfl ?_
           refine oE (cwp_block ?_)
           obtain ⟨k_, hM⟩ := hM
           refine cwp_loop k_ (lwp_of_part (fn := Tryd.f13) (p := [1, 1, 0, 1, 0, 0]) (by kernel_rfl) (lwp_at 2 (.pointer (some ⟨b15, 0, none⟩)) (by kernel_rfl) (lwp_at 3 (.pointer (some ⟨b18, 0, none⟩)) (by kernel_rfl) (lwp_at 5 (.int .i64 0) (by kernel_rfl) (law19_same_l0_ok _ ?_ _ ?_ k_ b15 b18 0 _ _ hM)))))
           · intro  b154 h153 hM
             refine blockE_h (thenE_n (cR ?_))
             refine oS [(4, .bool true)] rfl ?_
             refine oE (cwp_ret ?_)
             exact ret_ (.bool true) (by kernel_rfl) ⟨_, rfl, hM⟩
           · intro z155 b157 h156 hM
             refine blockE_r (thenE_r ?_)
             exact ret_ (.bool z155) (by kernel_rfl) ⟨_, rfl, hM⟩
         replace hM := ifF hc87 hM
         refine cR ?_
         refine oS [(4, .bool false)] rfl ?_
         refine oE (cwp_ret (thenE_r ?_))
         exact ret_ (.bool false) (by kernel_rfl) ⟨_, rfl, hM⟩
       refine oA 30 true (!decide (x51 = x54)) (by rw [decide_eq_false hc60]; rfl) ?_
       refine oA 31 true (!decide (x51 = x54)) (by rw [decide_eq_false hc60]; rfl) ?_
       refine oA 32 true (!decide (x51 = x54)) (by rw [decide_eq_false hc60]; rfl) ?_
       replace hM := ifF hc60 hM
       refine oS [(33, undef), (34, undef), (35, undef), (36, undef), (37, undef), (38, .bool true), (39, .bool true), (40, undef), (41, undef), (42, undef), (43, undef), (44, undef), (45, .bool true), (46, .bool true), (47, undef), (48, undef), (49, undef), (50, undef), (51, undef), (52, undef), (53, undef), (54, .bool true)] rfl ?_
       refine oE ?_
       refine cwp_cond (t := true) (by kernel_rfl) (fun hx_ => ?_) (fun hx_ => ?_)
       all_goals first | (cases hx_; done) | skip
       refine cR ?_
       refine oS [(4, .bool false)] rfl ?_
       refine oE (cwp_ret (thenE_r ?_))
       exact ret_ (.bool false) (by kernel_rfl) ⟨_, rfl, hM⟩
     refine oA 23 true (!decide (x41 = x44)) (by rw [decide_eq_false hc50]; rfl) ?_
     refine oA 24 true (!decide (x41 = x44)) (by rw [decide_eq_false hc50]; rfl) ?_
     refine oA 25 true (!decide (x41 = x44)) (by rw [decide_eq_false hc50]; rfl) ?_
     replace hM := ifF hc50 hM
     refine oS [(26, undef), (27, undef), (28, undef), (29, undef), (30, undef), (31, .bool true), (32, .bool true), (33, undef), (34, undef), (35, undef), (36, undef), (37, undef), (38, .bool true), (39, .bool true), (40, undef), (41, undef), (42, undef), (43, undef), (44, undef), (45, .bool true), (46, .bool true), (47, undef), (48, undef), (49, undef), (50, undef), (51, undef), (52, undef), (53, undef), (54, .bool true)] rfl ?_
     refine oE ?_
     refine cwp_cond (t := true) (by kernel_rfl) (fun hx_ => ?_) (fun hx_ => ?_)
     all_goals first | (cases hx_; done) | skip
     refine cR ?_
     refine oS [(4, .bool false)] rfl ?_
     refine oE (cwp_ret (thenE_r ?_))
     exact ret_ (.bool false) (by kernel_rfl) ⟨_, rfl, hM⟩
   refine oA 16 true (!decide (x31 = x34)) (by rw [decide_eq_false hc40]; rfl) ?_
   refine oA 17 true (!decide (x31 = x34)) (by rw [decide_eq_false hc40]; rfl) ?_
   refine oA 18 true (!decide (x31 = x34)) (by rw [decide_eq_false hc40]; rfl) ?_
   replace hM := ifF hc40 hM
   refine oS [(19, undef), (20, undef), (21, undef), (22, undef), (23, undef), (24, .bool true), (25, .bool true), (26, undef), (27, undef), (28, undef), (29, undef), (30, undef), (31, .bool true), (32, .bool true), (33, undef), (34, undef), (35, undef), (36, undef), (37, undef), (38, .bool true), (39, .bool true), (40, undef), (41, undef), (42, undef), (43, undef), (44, undef), (45, .bool true), (46, .bool true), (47, undef), (48, undef), (49, undef), (50, undef), (51, undef), (52, undef), (53, undef), (54, .bool true)] rfl ?_
   refine oE ?_
   refine cwp_cond (t := true) (by kernel_rfl) (fun hx_ => ?_) (fun hx_ => ?_)
   all_goals first | (cases hx_; done) | skip
   refine cR ?_
   refine oS [(4, .bool false)] rfl ?_
   refine oE (cwp_ret (thenE_r ?_))
   exact ret_ (.bool false) (by kernel_rfl) ⟨_, rfl, hM⟩
 refine oA 10 true (!decide (x21 = x24)) (by rw [decide_eq_false hc30]; rfl) ?_
 refine oA 11 true (!decide (x21 = x24)) (by rw [decide_eq_false hc30]; rfl) ?_
 replace hM := ifF hc30 hM
 refine oS [(12, undef), (13, undef), (14, undef), (15, undef), (16, undef), (17, .bool true), (18, .bool true), (19, undef), (20, undef), (21, undef), (22, undef), (23, undef), (24, .bool true), (25, .bool true), (26, undef), (27, undef), (28, undef), (29, undef), (30, undef), (31, .bool true), (32, .bool true), (33, undef), (34, undef), (35, undef), (36, undef), (37, undef), (38, .bool true), (39, .bool true), (40, undef), (41, undef), (42, undef), (43, undef), (44, undef), (45, .bool true), (46, .bool true), (47, undef), (48, undef), (49, undef), (50, undef), (51, undef), (52, undef), (53, undef), (54, .bool true)] rfl ?_
 refine oE ?_
 refine cwp_cond (t := true) (by kernel_rfl) (fun hx_ => ?_) (fun hx_ => ?_)
 all_goals first | (cases hx_; done) | skip
 refine cR ?_
 refine oS [(4, .bool false)] rfl ?_
 refine oE (cwp_ret (thenE_r ?_))
 exact ret_ (.bool false) (by kernel_rfl) ⟨_, rfl, hM⟩
/- (*mullion/vt.Screen).App -/
def vt_Screen_App (a1 : Option Addr) (K : Bool → Heap → Prop) (h : Heap) : Prop :=
 nz a1 fun p2 =>
 ldB h (p2.add 25) fun x3 =>
 K x3 h
theorem vt_Screen_App_ok (a1 : Option Addr) (K : Bool → Heap → Prop) (h : Heap) (hM : vt_Screen_App a1 K h) : CallsH Tryd.prog 14 #[.pointer a1] (fun v h' => ∃ (r6 : Bool), v = .bool r6 ∧ K r6 h') h := by
 unfold vt_Screen_App at hM
 refine callsH_intro (n := 7) Tryd.func14 rfl rfl (by kernel_rfl) ?_
 refine cR ?_
 refine oS [(2, .bool false)] rfl ?_
 refine oE (cR ?_)
 refine oS [(3, .pointer a1)] rfl ?_
 obtain ⟨p2, rfl, hM⟩ := hM
 refine owp_rdG (.pointer (some p2)) rfl (by kernel_rfl) (by kernel_rfl) ?_
 refine oS [(5, .pointer (some (p2.add 25)))] rfl ?_
 obtain ⟨x3, hc4, hM⟩ := hM
 refine oL (.bool x3) (p2.add 25) hc4 ?_
 refine oS [(2, .bool x3)] rfl ?_
 refine oE (cwp_ret ?_)
 exact ret_ (.bool x3) (by kernel_rfl) ⟨_, rfl, hM⟩
/- (*mullion/vt.Screen).Bracket -/
def vt_Screen_Bracket (a1 : Option Addr) (K : Bool → Heap → Prop) (h : Heap) : Prop :=
 nz a1 fun p2 =>
 ldB h (p2.add 26) fun x3 =>
 K x3 h
theorem vt_Screen_Bracket_ok (a1 : Option Addr) (K : Bool → Heap → Prop) (h : Heap) (hM : vt_Screen_Bracket a1 K h) : CallsH Tryd.prog 15 #[.pointer a1] (fun v h' => ∃ (r6 : Bool), v = .bool r6 ∧ K r6 h') h := by
 unfold vt_Screen_Bracket at hM
 refine callsH_intro (n := 7) Tryd.func15 rfl rfl (by kernel_rfl) ?_
 refine cR ?_
 refine oS [(2, .bool false)] rfl ?_
 refine oE (cR ?_)
 refine oS [(3, .pointer a1)] rfl ?_
 obtain ⟨p2, rfl, hM⟩ := hM
 refine owp_rdG (.pointer (some p2)) rfl (by kernel_rfl) (by kernel_rfl) ?_
 refine oS [(5, .pointer (some (p2.add 26)))] rfl ?_
 obtain ⟨x3, hc4, hM⟩ := hM
 refine oL (.bool x3) (p2.add 26) hc4 ?_
 refine oS [(2, .bool x3)] rfl ?_
 refine oE (cwp_ret ?_)
 exact ret_ (.bool x3) (by kernel_rfl) ⟨_, rfl, hM⟩
/- (*mullion/vt.Screen).Alternate -/
def vt_Screen_Alternate (a1 : Option Addr) (K : Bool → Heap → Prop) (h : Heap) : Prop :=
 nz a1 fun p2 =>
 ldB h (p2.add 7) fun x3 =>
 K x3 h
theorem vt_Screen_Alternate_ok (a1 : Option Addr) (K : Bool → Heap → Prop) (h : Heap) (hM : vt_Screen_Alternate a1 K h) : CallsH Tryd.prog 16 #[.pointer a1] (fun v h' => ∃ (r6 : Bool), v = .bool r6 ∧ K r6 h') h := by
 unfold vt_Screen_Alternate at hM
 refine callsH_intro (n := 7) Tryd.func16 rfl rfl (by kernel_rfl) ?_
 refine cR ?_
 refine oS [(2, .bool false)] rfl ?_
 refine oE (cR ?_)
 refine oS [(3, .pointer a1)] rfl ?_
 obtain ⟨p2, rfl, hM⟩ := hM
 refine owp_rdG (.pointer (some p2)) rfl (by kernel_rfl) (by kernel_rfl) ?_
 refine oS [(5, .pointer (some (p2.add 7)))] rfl ?_
 obtain ⟨x3, hc4, hM⟩ := hM
 refine oL (.bool x3) (p2.add 7) hc4 ?_
 refine oS [(2, .bool x3)] rfl ?_
 refine oE (cwp_ret ?_)
 exact ret_ (.bool x3) (by kernel_rfl) ⟨_, rfl, hM⟩
/- mullion/mullionlaw19.VtReset -/
def law19_VtReset (a1 : Int) (a2 : Int) (a3 : Int) (a4 : ByteArray) (K : Bool → Heap → Prop) (h : Heap) : Prop :=
 newB h #[.int .i64 a1, .int .i64 a2, .int .i64 a3] 26 fun b5 h6 =>
 ldI h6 .i64 ⟨b5, 0, none⟩ fun x8 =>
 ldI h6 .i64 ⟨b5, 1, none⟩ fun x10 =>
 ldI h6 .i64 ⟨b5, 2, none⟩ fun x12 =>
 law19_made x8 x10 x12 (fun x18 x19 x20 h17 =>
  if ((!x20) || x18.isNone) = true then
   K x20 h17
  else
  vt_Screen_Feed x18 a4 (fun  h26 =>
   vt_Screen_Bells x18 (fun x28 h27 =>
    vt_Screen_Feed x18 (⟨#[27, 99]⟩ : ByteArray) (fun  h29 =>
     ldI h29 .i64 ⟨b5, 0, none⟩ fun x30 =>
     ldI h29 .i64 ⟨b5, 1, none⟩ fun x33 =>
     vt_Blank x30 x33 (fun x37 x38 x39 x39n x39c x40 x41 x42 x43 x44 h36 =>
      newB h36 #[.int .i64 0, .int .i64 0, .slice none 0 0, .int .i64 0, .int .i64 0, .bool false, .string (⟨#[]⟩ : ByteArray)] 35 fun b45 h46 =>
      stN ⟨b45, 0, none⟩ [.int .i64 x37, .int .i64 x38, .slice x39 x39n x39c, .int .i64 x40, .int .i64 x41, .bool x42, .string x43] 0 h46 fun h48 =>
      vt_Screen_Picture x18 (fun x50 x51 x52 x52n x52c x53 x54 x55 x56 h49 =>
       newB h49 #[.int .i64 0, .int .i64 0, .slice none 0 0, .int .i64 0, .int .i64 0, .bool false, .string (⟨#[]⟩ : ByteArray)] 35 fun b57 h58 =>
       stN ⟨b57, 0, none⟩ [.int .i64 x50, .int .i64 x51, .slice x52 x52n x52c, .int .i64 x53, .int .i64 x54, .bool x55, .string x56] 0 h58 fun h60 =>
       vt_Screen_Feed x18 (⟨#[120]⟩ : ByteArray) (fun  h61 =>
        vt_Screen_Picture x18 (fun x63 x64 x65 x65n x65c x66 x67 x68 x69 h62 =>
         nz x65 fun p72 =>
         0 ≤ (0 : Int) ∧
         (0 : Int) < (x65n : Int) ∧
         ldS h62 (p72.add (((0 : Int)).toNat * 5)) fun x73 =>
         ldI h62 .i64 ((p72.add (((0 : Int)).toNat * 5)).add 1) fun x75 =>
         ldI h62 .i64 ((p72.add (((0 : Int)).toNat * 5)).add 2) fun x77 =>
         ldI h62 .i64 ((p72.add (((0 : Int)).toNat * 5)).add 3) fun x79 =>
         ldI h62 .i64 ((p72.add (((0 : Int)).toNat * 5)).add 4) fun x81 =>
         newB h62 #[.string (⟨#[]⟩ : ByteArray), .int .i64 0, .int .i64 0, .int .i64 0, .int .i64 0] 43 fun b88 h89 =>
         stN ⟨b88, 0, none⟩ [.string x73, .int .i64 x75, .int .i64 x77, .int .i64 x79, .int .i64 x81] 0 h89 fun h91 =>
         ldI h91 .i64 ⟨b45, 0, none⟩ fun x92 =>
         ldI h91 .i64 ⟨b45, 1, none⟩ fun x94 =>
         ldL h91 ⟨b45, 2, none⟩ fun x96 x96n x96c =>
         ldI h91 .i64 ⟨b45, 3, none⟩ fun x98 =>
         ldI h91 .i64 ⟨b45, 4, none⟩ fun x100 =>
         ldB h91 ⟨b45, 5, none⟩ fun x102 =>
         ldS h91 ⟨b45, 6, none⟩ fun x104 =>
         ldI h91 .i64 ⟨b57, 0, none⟩ fun x113 =>
         ldI h91 .i64 ⟨b57, 1, none⟩ fun x115 =>
         ldL h91 ⟨b57, 2, none⟩ fun x117 x117n x117c =>
         ldI h91 .i64 ⟨b57, 3, none⟩ fun x119 =>
         ldI h91 .i64 ⟨b57, 4, none⟩ fun x121 =>
         ldB h91 ⟨b57, 5, none⟩ fun x123 =>
         ldS h91 ⟨b57, 6, none⟩ fun x125 =>
         law19_same x92 x94 x96 x96n x96c x98 x100 x102 x104 x113 x115 x117 x117n x117c x119 x121 x123 x125 (fun x135 h134 =>
          if x135 = true then
           vt_Screen_App x18 (fun x140 h139 =>
            if (!x140) = true then
             vt_Screen_Bracket x18 (fun x145 h144 =>
              if (!x145) = true then
               vt_Screen_Alternate x18 (fun x150 h149 =>
                if (!x150) = true then
                 vt_Screen_Bells x18 (fun x155 h154 =>
                  if x155 = x28 then
                   ldS h154 ⟨b88, 0, none⟩ fun x172 =>
                   ldI h154 .i64 ⟨b88, 1, none⟩ fun x174 =>
                   ldI h154 .i64 ⟨b88, 2, none⟩ fun x176 =>
                   ldI h154 .i64 ⟨b88, 3, none⟩ fun x178 =>
                   ldI h154 .i64 ⟨b88, 4, none⟩ fun x180 =>
                   K ((x172 == (⟨#[120]⟩ : ByteArray)) && ((x174 == 1) && ((x176 == 0) && ((x178 == 0) && (x180 == 0))))) h154
                  else
                   K false h154) h149
                else
                 K false h149) h144
              else
               K false h144) h139
            else
             K false h139) h134
          else
                   K false h134) h91) h61) h60) h48) h29) h27) h26) h17) h6
theorem law19_VtReset_ok (a1 : Int) (a2 : Int) (a3 : Int) (a4 : ByteArray) (K : Bool → Heap → Prop) (h : Heap) (hM : law19_VtReset a1 a2 a3 a4 K h) : CallsH Tryd.prog 4 #[.agg #[.int .i64 a1, .int .i64 a2, .int .i64 a3], .string a4] (fun v h' => ∃ (r187 : Bool), v = .bool r187 ∧ K r187 h') h := by
 unfold law19_VtReset at hM
 refine callsH_intro (n := 79) Tryd.func4 rfl rfl (by kernel_rfl) ?_
 refine cR ?_
 refine oG (hpNew #[.int .i64 a1, .int .i64 a2, .int .i64 a3] 26 (fun _ => by kernel_rfl) ?_)
 intro b5 h6 hN7
 replace hM := newB_of hN7 hM
 refine oS [(4, .bool false)] rfl ?_
 refine oE (cR ?_)
 obtain ⟨x8, hc9, hM⟩ := hM
 obtain ⟨x10, hc11, hM⟩ := hM
 obtain ⟨x12, hc13, hM⟩ := hM
 refine owp_rdG (.agg #[.int .i64 x8, .int .i64 x10, .int .i64 x12]) rfl (by kernel_rfl) (Eq.trans (b := (cellH h6 ⟨b5, 0, none⟩).bind fun v14 => (cellH h6 ⟨b5, 1, none⟩).bind fun v15 => (cellH h6 ⟨b5, 2, none⟩).bind fun v16 => some (.value (.agg #[v14, v15, v16]))) (by kernel_rfl) ((bindE hc9 _).trans ((bindE hc11 _).trans (bindE hc13 _)))) ?_
 refine oG (hpCallE 8 #[.agg #[.int .i64 x8, .int .i64 x10, .int .i64 x12]] (by kernel_rfl) (law19_made_ok x8 x10 x12 _ h6 hM) ?_)
 clear hM
 rintro _ h17 ⟨x18, x19, x20, rfl, hM⟩
 refine oS [(13, .tuple #[.pointer x18, .pointer x19, .bool x20]), (16, .pointer x18), (17, .pointer x19), (18, .bool x20), (5, .pointer x18), (6, .pointer x19), (7, .bool x20)] rfl ?_
 refine oE (cwp_seq (cR ?_))
 refine oS [(19, .bool x20), (20, .bool (!x20)), (21, .bool (!x20))] rfl ?_
 refine oB (!x20) 3 [20, 21] (fun b_ => [(22, iteV b_ undef (.pointer x18 : Value)), (23, iteV b_ undef (.bool x18.isNone : Value)), (24, .bool (b_ || x18.isNone))]) rfl (fun hb21 hq22 => oS [(22, undef), (23, undef), (24, .bool true)] rfl (hq22)) (fun hb23 hq24 => oS [(22, .pointer x18)] rfl (owp_rdG (.bool x18.isNone) rfl (by kernel_rfl) (rd_eqNil (P := Tryd.prog) (h := h17) (t := 27) (el := 69) (by kernel_rfl) (by kernel_rfl)) (oS [(24, .bool x18.isNone)] rfl (hq24)))) ?_
 refine oE ?_
 refine cwp_condB ((!x20) || x18.isNone) (by kernel_rfl) (fun hc25 => ?_) (fun hc25 => ?_)
 · replace hM := ifT hc25 hM
   refine cR ?_
   refine oS [(25, .bool x20), (4, .bool x20)] rfl ?_
   refine oE (cwp_ret (thenE_r ?_))
   exact ret_ (.bool x20) (by kernel_rfl) ⟨_, rfl, hM⟩
 replace hM := ifF hc25 hM
 refine cwp_skip (thenE_n (cR ?_))
 refine oS [(26, .pointer x18), (27, .string a4)] rfl ?_
 refine oG (hpCallE 9 #[.pointer x18, .string a4] (by kernel_rfl) (vt_Screen_Feed_ok x18 a4 _ h17 hM) ?_)
 clear hM
 rintro _ h26 ⟨rfl, hM⟩
 refine oE (cR ?_)
 refine oS [(29, .pointer x18)] rfl ?_
 refine oG (hpCallE 10 #[.pointer x18] (by kernel_rfl) (vt_Screen_Bells_ok x18 _ h26 hM) ?_)
 clear hM
 rintro _ h27 ⟨x28, rfl, hM⟩
 refine oS [(8, .int .i64 x28)] rfl ?_
 refine oE (cR ?_)
 refine oS [(31, .pointer x18)] rfl ?_
 refine oG (hpCallE 9 #[.pointer x18, .string (⟨#[27, 99]⟩ : ByteArray)] (by kernel_rfl) (vt_Screen_Feed_ok x18 (⟨#[27, 99]⟩ : ByteArray) _ h27 hM) ?_)
 clear hM
 rintro _ h29 ⟨rfl, hM⟩
 refine oE (cR ?_)
 refine oS [(34, .pointer (some ⟨b5, 0, none⟩))] rfl ?_
 obtain ⟨x30, hc31, hM⟩ := hM
 refine oL (.int .i64 x30) ⟨b5, 0, none⟩ hc31 ?_
 refine oS [(36, .pointer (some ⟨b5, 1, none⟩))] rfl ?_
 obtain ⟨x33, hc34, hM⟩ := hM
 refine oL (.int .i64 x33) ⟨b5, 1, none⟩ hc34 ?_
 refine oG (hpCallE 11 #[.int .i64 x30, .int .i64 x33] (by kernel_rfl) (vt_Blank_ok x30 x33 _ h29 hM) ?_)
 clear hM
 rintro _ h36 ⟨x37, x38, x39, x39n, x39c, x40, x41, x42, x43, x44, rfl, hM⟩
 refine oS [(33, .tuple #[.agg #[.int .i64 x37, .int .i64 x38, .slice x39 x39n x39c, .int .i64 x40, .int .i64 x41, .bool x42, .string x43], .int .i64 x44]), (39, .agg #[.int .i64 x37, .int .i64 x38, .slice x39 x39n x39c, .int .i64 x40, .int .i64 x41, .bool x42, .string x43]), (40, .int .i64 x44)] rfl ?_
 refine oG (hpNew #[.int .i64 0, .int .i64 0, .slice none 0 0, .int .i64 0, .int .i64 0, .bool false, .string (⟨#[]⟩ : ByteArray)] 35 (fun _ => by kernel_rfl) ?_)
 intro b45 h46 hN47
 replace hM := newB_of hN47 hM
 refine oT ⟨b45, 0, none⟩ [.int .i64 x37, .int .i64 x38, .slice x39 x39n x39c, .int .i64 x40, .int .i64 x41, .bool x42, .string x43] hM ?_
 clear hM
 intro h48 hM
 refine oS [(10, .int .i64 x44)] rfl ?_
 refine oE (cR ?_)
 refine oS [(41, .pointer x18)] rfl ?_
 refine oG (hpCallE 12 #[.pointer x18] (by kernel_rfl) (vt_Screen_Picture_ok x18 _ h48 hM) ?_)
 clear hM
 rintro _ h49 ⟨x50, x51, x52, x52n, x52c, x53, x54, x55, x56, rfl, hM⟩
 refine oG (hpNew #[.int .i64 0, .int .i64 0, .slice none 0 0, .int .i64 0, .int .i64 0, .bool false, .string (⟨#[]⟩ : ByteArray)] 35 (fun _ => by kernel_rfl) ?_)
 intro b57 h58 hN59
 replace hM := newB_of hN59 hM
 refine oT ⟨b57, 0, none⟩ [.int .i64 x50, .int .i64 x51, .slice x52 x52n x52c, .int .i64 x53, .int .i64 x54, .bool x55, .string x56] hM ?_
 clear hM
 intro h60 hM
 refine oE (cR ?_)
 refine oS [(43, .pointer x18)] rfl ?_
 refine oG (hpCallE 9 #[.pointer x18, .string (⟨#[120]⟩ : ByteArray)] (by kernel_rfl) (vt_Screen_Feed_ok x18 (⟨#[120]⟩ : ByteArray) _ h60 hM) ?_)
 clear hM
 rintro _ h61 ⟨rfl, hM⟩
 refine oE (cR ?_)
 refine oS [(45, .pointer x18)] rfl ?_
 refine oG (hpCallE 12 #[.pointer x18] (by kernel_rfl) (vt_Screen_Picture_ok x18 _ h61 hM) ?_)
 clear hM
 rintro _ h62 ⟨x63, x64, x65, x65n, x65c, x66, x67, x68, x69, rfl, hM⟩
 refine oS [(47, .slice x65 x65n x65c)] rfl ?_
 obtain ⟨p72, rfl, hM⟩ := hM
 obtain ⟨hc70, hM⟩ := hM
 obtain ⟨hc71, hM⟩ := hM
 refine owp_rdG (.pointer (some (p72.add (((0 : Int)).toNat * 5)))) rfl (by kernel_rfl) (rd_ixS (P := Tryd.prog) (h := h62) (t := 33) (el := 43) (sz := 5) (ad := p72) (len := x65n) (c := x65c) (k := .i64) (i := 0) (by kernel_rfl) (by kernel_rfl) hc70 hc71 (by kernel_rfl)) ?_
 obtain ⟨x73, hc74, hM⟩ := hM
 obtain ⟨x75, hc76, hM⟩ := hM
 obtain ⟨x77, hc78, hM⟩ := hM
 obtain ⟨x79, hc80, hM⟩ := hM
 obtain ⟨x81, hc82, hM⟩ := hM
 refine owp_rdG (.agg #[.string x73, .int .i64 x75, .int .i64 x77, .int .i64 x79, .int .i64 x81]) rfl (by kernel_rfl) (Eq.trans (b := (cellH h62 (p72.add (((0 : Int)).toNat * 5))).bind fun v83 => (cellH h62 ((p72.add (((0 : Int)).toNat * 5)).add 1)).bind fun v84 => (cellH h62 ((p72.add (((0 : Int)).toNat * 5)).add 2)).bind fun v85 => (cellH h62 ((p72.add (((0 : Int)).toNat * 5)).add 3)).bind fun v86 => (cellH h62 ((p72.add (((0 : Int)).toNat * 5)).add 4)).bind fun v87 => some (.value (.agg #[v83, v84, v85, v86, v87]))) (by kernel_rfl) ((bindE hc74 _).trans ((bindE hc76 _).trans ((bindE hc78 _).trans ((bindE hc80 _).trans (bindE hc82 _)))))) ?_
 refine oG (hpNew #[.string (⟨#[]⟩ : ByteArray), .int .i64 0, .int .i64 0, .int .i64 0, .int .i64 0] 43 (fun _ => by kernel_rfl) ?_)
 intro b88 h89 hN90
 replace hM := newB_of hN90 hM
 refine oT ⟨b88, 0, none⟩ [.string x73, .int .i64 x75, .int .i64 x77, .int .i64 x79, .int .i64 x81] hM ?_
 clear hM
 intro h91 hM
 refine oE (cR ?_)
 obtain ⟨x92, hc93, hM⟩ := hM
 obtain ⟨x94, hc95, hM⟩ := hM
 obtain ⟨x96, x96n, x96c, hc97, hM⟩ := hM
 obtain ⟨x98, hc99, hM⟩ := hM
 obtain ⟨x100, hc101, hM⟩ := hM
 obtain ⟨x102, hc103, hM⟩ := hM
 obtain ⟨x104, hc105, hM⟩ := hM
 refine owp_rdG (.agg #[.int .i64 x92, .int .i64 x94, .slice x96 x96n x96c, .int .i64 x98, .int .i64 x100, .bool x102, .string x104]) rfl (by kernel_rfl) (Eq.trans (b := (cellH h91 ⟨b45, 0, none⟩).bind fun v106 => (cellH h91 ⟨b45, 1, none⟩).bind fun v107 => (cellH h91 ⟨b45, 2, none⟩).bind fun v108 => (cellH h91 ⟨b45, 3, none⟩).bind fun v109 => (cellH h91 ⟨b45, 4, none⟩).bind fun v110 => (cellH h91 ⟨b45, 5, none⟩).bind fun v111 => (cellH h91 ⟨b45, 6, none⟩).bind fun v112 => some (.value (.agg #[v106, v107, v108, v109, v110, v111, v112]))) (by kernel_rfl) ((bindE hc93 _).trans ((bindE hc95 _).trans ((bindE hc97 _).trans ((bindE hc99 _).trans ((bindE hc101 _).trans ((bindE hc103 _).trans (bindE hc105 _)))))))) ?_
 obtain ⟨x113, hc114, hM⟩ := hM
 obtain ⟨x115, hc116, hM⟩ := hM
 obtain ⟨x117, x117n, x117c, hc118, hM⟩ := hM
 obtain ⟨x119, hc120, hM⟩ := hM
 obtain ⟨x121, hc122, hM⟩ := hM
 obtain ⟨x123, hc124, hM⟩ := hM
 obtain ⟨x125, hc126, hM⟩ := hM
 refine owp_rdG (.agg #[.int .i64 x113, .int .i64 x115, .slice x117 x117n x117c, .int .i64 x119, .int .i64 x121, .bool x123, .string x125]) rfl (by kernel_rfl) (Eq.trans (b := (cellH h91 ⟨b57, 0, none⟩).bind fun v127 => (cellH h91 ⟨b57, 1, none⟩).bind fun v128 => (cellH h91 ⟨b57, 2, none⟩).bind fun v129 => (cellH h91 ⟨b57, 3, none⟩).bind fun v130 => (cellH h91 ⟨b57, 4, none⟩).bind fun v131 => (cellH h91 ⟨b57, 5, none⟩).bind fun v132 => (cellH h91 ⟨b57, 6, none⟩).bind fun v133 => some (.value (.agg #[v127, v128, v129, v130, v131, v132, v133]))) (by kernel_rfl) ((bindE hc114 _).trans ((bindE hc116 _).trans ((bindE hc118 _).trans ((bindE hc120 _).trans ((bindE hc122 _).trans ((bindE hc124 _).trans (bindE hc126 _)))))))) ?_
 refine oG (hpCallE 13 #[.agg #[.int .i64 x92, .int .i64 x94, .slice x96 x96n x96c, .int .i64 x98, .int .i64 x100, .bool x102, .string x104], .agg #[.int .i64 x113, .int .i64 x115, .slice x117 x117n x117c, .int .i64 x119, .int .i64 x121, .bool x123, .string x125]] (by kernel_rfl) (law19_same_ok x92 x94 x96 x96n x96c x98 x100 x102 x104 x113 x115 x117 x117n x117c x119 x121 x123 x125 _ h91 hM) ?_)
 clear hM
 rintro _ h134 ⟨x135, rfl, hM⟩
 refine oS [(53, .bool x135)] rfl ?_
 by_cases hc138 : x135 = true
 · refine oA 52 true x135 (by rw [hc138]) ?_
   refine oA 53 true x135 (by rw [hc138]) ?_
   replace hM := ifT hc138 hM
   refine oS [(54, .pointer x18)] rfl ?_
   refine oG (hpCallE 14 #[.pointer x18] (by kernel_rfl) (vt_Screen_App_ok x18 _ h134 hM) ?_)
   clear hM
   rintro _ h139 ⟨x140, rfl, hM⟩
   refine oS [(56, .bool (!x140)), (57, .bool (!x140)), (58, .bool (!x140))] rfl ?_
   by_cases hc143 : (!x140) = true
   · refine oA 56 true (!x140) (by rw [hc143]) ?_
     refine oA 57 true (!x140) (by rw [hc143]) ?_
     refine oA 58 true (!x140) (by rw [hc143]) ?_
     replace hM := ifT hc143 hM
     refine oS [(59, .pointer x18)] rfl ?_
     refine oG (hpCallE 15 #[.pointer x18] (by kernel_rfl) (vt_Screen_Bracket_ok x18 _ h139 hM) ?_)
     clear hM
     rintro _ h144 ⟨x145, rfl, hM⟩
     refine oS [(61, .bool (!x145)), (62, .bool (!x145)), (63, .bool (!x145))] rfl ?_
     by_cases hc148 : (!x145) = true
     · refine oA 61 true (!x145) (by rw [hc148]) ?_
       refine oA 62 true (!x145) (by rw [hc148]) ?_
       refine oA 63 true (!x145) (by rw [hc148]) ?_
       replace hM := ifT hc148 hM
       refine oS [(64, .pointer x18)] rfl ?_
       refine oG (hpCallE 16 #[.pointer x18] (by kernel_rfl) (vt_Screen_Alternate_ok x18 _ h144 hM) ?_)
       clear hM
       rintro _ h149 ⟨x150, rfl, hM⟩
       refine oS [(66, .bool (!x150)), (67, .bool (!x150)), (68, .bool (!x150))] rfl ?_
       by_cases hc153 : (!x150) = true
       · refine oA 66 true (!x150) (by rw [hc153]) ?_
         refine oA 67 true (!x150) (by rw [hc153]) ?_
         refine oA 68 true (!x150) (by rw [hc153]) ?_
         replace hM := ifT hc153 hM
         refine oS [(69, .pointer x18)] rfl ?_
         refine oG (hpCallE 10 #[.pointer x18] (by kernel_rfl) (vt_Screen_Bells_ok x18 _ h149 hM) ?_)
         clear hM
         rintro _ h154 ⟨x155, rfl, hM⟩
         refine oS [(71, .int .i64 x28), (72, .bool (decide (x155 = x28))), (73, .bool (decide (x155 = x28))), (74, .bool (decide (x155 = x28)))] rfl ?_
         by_cases hc171 : x155 = x28
         · refine oA 72 true (decide (x155 = x28)) (by rw [decide_eq_true hc171]) ?_
           refine oA 73 true (decide (x155 = x28)) (by rw [decide_eq_true hc171]) ?_
           refine oA 74 true (decide (x155 = x28)) (by rw [decide_eq_true hc171]) ?_
           replace hM := ifT hc171 hM
           obtain ⟨x172, hc173, hM⟩ := hM
           obtain ⟨x174, hc175, hM⟩ := hM
           obtain ⟨x176, hc177, hM⟩ := hM
           obtain ⟨x178, hc179, hM⟩ := hM
           obtain ⟨x180, hc181, hM⟩ := hM
           refine owp_rdG (.agg #[.string x172, .int .i64 x174, .int .i64 x176, .int .i64 x178, .int .i64 x180]) rfl (by kernel_rfl) (Eq.trans (b := (cellH h154 ⟨b88, 0, none⟩).bind fun v182 => (cellH h154 ⟨b88, 1, none⟩).bind fun v183 => (cellH h154 ⟨b88, 2, none⟩).bind fun v184 => (cellH h154 ⟨b88, 3, none⟩).bind fun v185 => (cellH h154 ⟨b88, 4, none⟩).bind fun v186 => some (.value (.agg #[v182, v183, v184, v185, v186]))) (by kernel_rfl) ((bindE hc173 _).trans ((bindE hc175 _).trans ((bindE hc177 _).trans ((bindE hc179 _).trans (bindE hc181 _)))))) ?_
           refine oS [(76, .agg #[.string (⟨#[120]⟩ : ByteArray), .int .i64 1, .int .i64 0, .int .i64 0, .int .i64 0])] rfl ?_
           refine owp_rdG (.bool ((x172 == (⟨#[120]⟩ : ByteArray)) && ((x174 == 1) && ((x176 == 0) && ((x178 == 0) && (x180 == 0)))))) rfl (by kernel_rfl) ((by kernel_rfl : _ = rd Tryd.prog (toVal ((Op.equal 43 (.agg #[.string x172, .int .i64 x174, .int .i64 x176, .int .i64 x178, .int .i64 x180]) (.agg #[.string (⟨#[120]⟩ : ByteArray), .int .i64 1, .int .i64 0, .int .i64 0, .int .i64 0])).bind fun v_ => Sem.pure (.bool v_))) h154).trans (rd_eqB (eq_T43 9997))) ?_
           refine oS [(78, .bool ((x172 == (⟨#[120]⟩ : ByteArray)) && ((x174 == 1) && ((x176 == 0) && ((x178 == 0) && (x180 == 0)))))), (4, .bool ((x172 == (⟨#[120]⟩ : ByteArray)) && ((x174 == 1) && ((x176 == 0) && ((x178 == 0) && (x180 == 0))))))] rfl ?_
           refine oE (cwp_ret ?_)
           exact ret_ (.bool ((x172 == (⟨#[120]⟩ : ByteArray)) && ((x174 == 1) && ((x176 == 0) && ((x178 == 0) && (x180 == 0)))))) (by kernel_rfl) ⟨_, rfl, hM⟩
         refine oA 72 false (decide (x155 = x28)) (by rw [decide_eq_false hc171]) ?_
         refine oA 73 false (decide (x155 = x28)) (by rw [decide_eq_false hc171]) ?_
         refine oA 74 false (decide (x155 = x28)) (by rw [decide_eq_false hc171]) ?_
         replace hM := ifF hc171 hM
         refine oS [(75, undef), (76, undef), (77, undef), (78, .bool false), (4, .bool false)] rfl ?_
         refine oE (cwp_ret ?_)
         exact ret_ (.bool false) (by kernel_rfl) ⟨_, rfl, hM⟩
       refine oA 66 false (!x150) (by rw [Bool.eq_false_iff.2 hc153]) ?_
       refine oA 67 false (!x150) (by rw [Bool.eq_false_iff.2 hc153]) ?_
       refine oA 68 false (!x150) (by rw [Bool.eq_false_iff.2 hc153]) ?_
       replace hM := ifF hc153 hM
       refine oS [(69, undef), (70, undef), (71, undef), (72, undef), (73, .bool false), (74, .bool false), (75, undef), (76, undef), (77, undef), (78, .bool false), (4, .bool false)] rfl ?_
       refine oE (cwp_ret ?_)
       exact ret_ (.bool false) (by kernel_rfl) ⟨_, rfl, hM⟩
     refine oA 61 false (!x145) (by rw [Bool.eq_false_iff.2 hc148]) ?_
     refine oA 62 false (!x145) (by rw [Bool.eq_false_iff.2 hc148]) ?_
     refine oA 63 false (!x145) (by rw [Bool.eq_false_iff.2 hc148]) ?_
     replace hM := ifF hc148 hM
     refine oS [(64, undef), (65, undef), (66, undef), (67, .bool false), (68, .bool false), (69, undef), (70, undef), (71, undef), (72, undef), (73, .bool false), (74, .bool false), (75, undef), (76, undef), (77, undef), (78, .bool false), (4, .bool false)] rfl ?_
     refine oE (cwp_ret ?_)
     exact ret_ (.bool false) (by kernel_rfl) ⟨_, rfl, hM⟩
   refine oA 56 false (!x140) (by rw [Bool.eq_false_iff.2 hc143]) ?_
   refine oA 57 false (!x140) (by rw [Bool.eq_false_iff.2 hc143]) ?_
   refine oA 58 false (!x140) (by rw [Bool.eq_false_iff.2 hc143]) ?_
   replace hM := ifF hc143 hM
   refine oS [(59, undef), (60, undef), (61, undef), (62, .bool false), (63, .bool false), (64, undef), (65, undef), (66, undef), (67, .bool false), (68, .bool false), (69, undef), (70, undef), (71, undef), (72, undef), (73, .bool false), (74, .bool false), (75, undef), (76, undef), (77, undef), (78, .bool false), (4, .bool false)] rfl ?_
   refine oE (cwp_ret ?_)
   exact ret_ (.bool false) (by kernel_rfl) ⟨_, rfl, hM⟩
 refine oA 52 false x135 (by rw [Bool.eq_false_iff.2 hc138]) ?_
 refine oA 53 false x135 (by rw [Bool.eq_false_iff.2 hc138]) ?_
 replace hM := ifF hc138 hM
 refine oS [(54, undef), (55, undef), (56, undef), (57, .bool false), (58, .bool false), (59, undef), (60, undef), (61, undef), (62, .bool false), (63, .bool false), (64, undef), (65, undef), (66, undef), (67, .bool false), (68, .bool false), (69, undef), (70, undef), (71, undef), (72, undef), (73, .bool false), (74, .bool false), (75, undef), (76, undef), (77, undef), (78, .bool false), (4, .bool false)] rfl ?_
 refine oE (cwp_ret ?_)
 exact ret_ (.bool false) (by kernel_rfl) ⟨_, rfl, hM⟩
end Go.Proofs.YthjdnhhifjpidaaDoor.M
