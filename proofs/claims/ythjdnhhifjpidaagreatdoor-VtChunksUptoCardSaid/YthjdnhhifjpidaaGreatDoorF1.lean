/-
  PRINTED BY A PROGRAM OF THIS CLAIM'S (gen.py): for each Go function a Lean function over memory, and the proof that the code comes to what it says.
-/
import Derived.Test.YthjdnhhifjpidaaGreatDoorGA
import Derived.Test.YthjdnhhifjpidaaGreatDoorProg
set_option linter.unusedVariables false
set_option linter.unusedSimpArgs false
set_option maxRecDepth 100000
set_option maxHeartbeats 1000000
namespace Go.Proofs.YthjdnhhifjpidaaGreatDoor.M
open Go Go.Hp
def tab1 : List (Int × Int) := [(128, 191),
  (160, 191),
  (128, 159),
  (144, 191),
  (128, 143),
  (0, 0),
  (0, 0),
  (0, 0),
  (0, 0),
  (0, 0),
  (0, 0),
  (0, 0),
  (0, 0),
  (0, 0),
  (0, 0),
  (0, 0)]
def tab1d : Int × Int := (128, 191)
def tab1f (r : Int × Int) : List Value := [.int .u8 r.1, .int .u8 r.2]
/- mullion/vt.fits -/
def vt_fits (a1 : Int) : Bool :=
 ((decide (1 ≤ a1)) && (decide (a1 ≤ 1000)))
theorem vt_fits_ok (a1 : Int) (r : Bool) (h : Heap) (hM : vt_fits a1 = r) : CallsH Tryz.prog 32 #[.int .i64 a1] (fun v h' => v = .bool r ∧ Ext h h') h := by
 unfold vt_fits at hM
 refine callsH_intro (n := 9) Tryz.func32 rfl rfl (by kernel_rfl) ?_
 refine cR ?_
 refine oZ [(2, .bool false)] ?_
 refine oE (cR ?_)
 refine oZ [(3, .int .i64 a1), (4, .bool (decide (1 ≤ a1))), (5, .bool (decide (1 ≤ a1)))] ?_
 refine oB (decide (1 ≤ a1)) 3 [4, 5] (fun b_ => [(6, iteV b_ (.int .i64 a1 : Value) undef), (7, iteV b_ (.bool (decide (a1 ≤ 1000)) : Value) undef), (8, .bool (b_ && (decide (a1 ≤ 1000))))]) rfl (fun hb2 hq3 => oS [(6, .int .i64 a1), (7, .bool (decide (a1 ≤ 1000))), (8, .bool (decide (a1 ≤ 1000)))] rfl (hq3)) (fun hb4 hq5 => oS [(6, undef), (7, undef), (8, .bool false)] rfl (hq5)) ?_
 refine oZ [(2, .bool ((decide (1 ≤ a1)) && (decide (a1 ≤ 1000))))] ?_
 refine oE (cwp_ret ?_)
 subst hM
 exact ret_ (.bool ((decide (1 ≤ a1)) && (decide (a1 ≤ 1000)))) (by kernel_rfl) ⟨rfl, Ext.refl _⟩
/- (*mullion/vt.Screen).stops -/
def vt_Screen_stops_l0 (K0 : Heap → Prop) : Nat → Addr → Int → Heap → Prop
  | 0, _, _, _ => False
  | k + 1, y9, y10, h =>
  ldI h .i64 y9 fun x11 =>
  if y10 < x11 then
   ldL h (y9.add 21) fun x15 x15n x15c =>
   nz x15 fun p20 =>
   0 ≤ y10 ∧
   y10 < (x15n : Int) ∧
   stN (p20.add ((y10).toNat * 1)) [.bool true] 0 h fun h21 =>
   vt_Screen_stops_l0 K0 k y9 (IntKind.wrap .i64 (y10 + 8)) h21
  else
  K0  h
theorem vt_Screen_stops_l0_ok {Q : Exit → Env → Heap → Prop} (K0 : Heap → Prop) (hK0 : ∀  (b : Env) (h : Heap), K0  h → Q (.exit 0) b h) : ∀ (k : Nat) (y9 : Addr) (y10 : Int) (b : Env) (h : Heap) (hM : vt_Screen_stops_l0 K0 k y9 y10 h), lwp Tryz.prog (partC Tryz.f37 [1, 1, 0, 0]) 25 Q k (upd (upd b 0 (.pointer (some y9))) 2 (.int .i64 y10)) h := by
  intro k
  induction k with
  | zero => intro y9 y10 b h hM; exact (show False from hM).elim
  | succ k ih =>
    intro y9 y10 b h hM
    unfold vt_Screen_stops_l0 at hM
    refine lwp_succ (cwp_part rfl ?_)
    refine cwp_seq (cR ?_)
    refine oZ [(11, .int .i64 y10), (12, .pointer (some y9)), (13, .pointer (some y9)), (14, .pointer (some y9))] ?_
    obtain ⟨x11, hc12, hM⟩ := hM
    refine oL (.int .i64 x11) y9 hc12 ?_
    refine oZ [(16, .bool (decide (y10 < x11)))] ?_
    refine oE ?_
    refine cwp_condD (y10 < x11) (by kernel_rfl) (fun hc14 => ?_) (fun hc14 => ?_)
    · replace hM := ifT hc14 hM
      refine cwp_skip (thenE_n (cwp_seq (cwp_block (cwp_region ?_))))
      refine oZ [(19, .pointer (some y9)), (20, .pointer (some y9)), (21, .pointer (some (y9.add 21)))] ?_
      obtain ⟨x15, x15n, x15c, hc16, hM⟩ := hM
      refine oL (.slice x15 x15n x15c) (y9.add 21) hc16 ?_
      refine oZ [(23, .int .i64 y10)] ?_
      obtain ⟨p20, rfl, hM⟩ := hM
      obtain ⟨hc18, hM⟩ := hM
      obtain ⟨hc19, hM⟩ := hM
      refine owp_rdG (.pointer (some (p20.add ((y10).toNat * 1)))) rfl (by kernel_rfl) (rd_ixS (P := Tryz.prog) (h := h) (t := 75) (el := 4) (sz := 1) (ad := p20) (len := x15n) (c := x15c) (k := .i64) (i := y10) (by kernel_rfl) (by kernel_rfl) hc18 hc19 (by kernel_rfl)) ?_
      refine oT (p20.add ((y10).toNat * 1)) [.bool true] hM ?_
      clear hM
      intro h21 hM
      refine owp_nil (blockE_n (thenE_n (cwp_region ?_)))
      refine oZ [(17, .int .i64 y10), (18, .int .i64 (IntKind.wrap .i64 (y10 + 8))), (2, .int .i64 (IntKind.wrap .i64 (y10 + 8)))] ?_
      refine owp_nil ?_
      exact lA 0 (.pointer (some y9)) (lA 2 (.int .i64 (IntKind.wrap .i64 (y10 + 8))) (ih y9 (IntKind.wrap .i64 (y10 + 8)) _ _ hM))
    replace hM := ifF hc14 hM
    refine cwp_exit (thenE_x ?_)
    exact hK0  _ _ hM
def vt_Screen_stops (a1 : Option Addr) (K : Heap → Prop) (h : Heap) : Prop :=
 nz a1 fun p2 =>
 ldI h .i64 p2 fun x3 =>
 mkM h 4 1 [.bool false] x3 fun b6 h7 =>
 stN (p2.add 21) [.slice (some ⟨b6, 0, none⟩) x3.toNat x3.toNat] 0 h7 fun h8 =>
 ∃ k24, vt_Screen_stops_l0
  (fun  h22 =>
      K h22) k24 p2 8 h8
theorem vt_Screen_stops_ok (a1 : Option Addr) (K : Heap → Prop) (h : Heap) (hM : vt_Screen_stops a1 K h) : CallsH Tryz.prog 37 #[.pointer a1] (fun v h' => v = .tuple #[] ∧ K h') h := by
 unfold vt_Screen_stops at hM
 refine callsH_intro (n := 25) Tryz.func37 rfl rfl (by kernel_rfl) ?_
 refine cR ?_
 refine oZ [(3, .pointer a1), (4, .pointer a1)] ?_
 obtain ⟨p2, rfl, hM⟩ := hM
 refine owp_rdG (.pointer (some p2)) rfl (by kernel_rfl) (by kernel_rfl) ?_
 refine oZ [(6, .pointer (some p2))] ?_
 obtain ⟨x3, hc4, hM⟩ := hM
 refine oL (.int .i64 x3) p2 hc4 ?_
 refine oG (hpMk (t := 75) (et := 4) (zv := .bool false) (by_ := 1) (sz := 1) (x := x3) [.bool false] (fun _ => by kernel_rfl) (by kernel_rfl) (by kernel_rfl) rfl rfl (by decide) hM ?_)
 clear hM
 intro b6 h7 hM
 refine oZ [(9, .pointer (some p2)), (10, .pointer (some (p2.add 21)))] ?_
 refine oT (p2.add 21) [.slice (some ⟨b6, 0, none⟩) x3.toNat x3.toNat] hM ?_
 clear hM
 intro h8 hM
 refine oE (cR ?_)
 refine oZ [(2, .int .i64 8)] ?_
 refine oE (cwp_block ?_)
 obtain ⟨k_, hM⟩ := hM
 refine cwp_loop k_ (lwp_of_part (fn := Tryz.f37) (p := [1, 1, 0, 0]) (by kernel_rfl) (lA 0 (.pointer (some p2)) (lA 2 (.int .i64 8) (vt_Screen_stops_l0_ok _ ?_ k_ p2 8 _ _ hM))))
 · intro  b23 h22 hM
   refine blockE_h ?_
   exact end_ (.tuple #[]) (by kernel_rfl) ⟨rfl, hM⟩
/- mullion/vt.blank -/
def vt_blank (a1 : Int) (a2 : Int) (a3 : Int) : ByteArray × Int × Int × Int × Int :=
 ((⟨#[32]⟩ : ByteArray), 1, a1, a2, a3)
theorem vt_blank_ok (a1 : Int) (a2 : Int) (a3 : Int) (r : ByteArray × Int × Int × Int × Int) (h : Heap) (hM : vt_blank a1 a2 a3 = r) : CallsH Tryz.prog 55 #[.agg #[.int .i64 a1, .int .i64 a2, .int .i64 a3]] (fun v h' => v = .agg #[.string r.1, .int .i64 r.2.1, .int .i64 r.2.2.1, .int .i64 r.2.2.2.1, .int .i64 r.2.2.2.2] ∧ Ext h h') h := by
 unfold vt_blank at hM
 refine callsH_intro (n := 5) Tryz.func55 rfl rfl (by kernel_rfl) ?_
 refine cR ?_
 refine oG (hpNew #[.int .i64 a1, .int .i64 a2, .int .i64 a3] 50 (fun _ => by kernel_rfl) ?_)
 intro b4 h5 hN6
 refine oG (hpNew #[.string (⟨#[]⟩ : ByteArray), .int .i64 0, .int .i64 0, .int .i64 0, .int .i64 0] 52 (fun _ => by kernel_rfl) ?_)
 intro b7 h8 hN9
 have f10 := Blk.ext (New.blk hN6) (New.ext hN9)
 refine oE (cR ?_)
 refine owp_rdG (.agg #[.int .i64 a1, .int .i64 a2, .int .i64 a3]) rfl (by kernel_rfl) (Eq.trans (b := (cellH h8 ⟨b4, 0, none⟩).bind fun v11 => (cellH h8 ⟨b4, 1, none⟩).bind fun v12 => (cellH h8 ⟨b4, 2, none⟩).bind fun v13 => some (.value (.agg #[v11, v12, v13]))) (by kernel_rfl) ((bindE (Blk.cell f10 0 (by kernel_rfl)) _).trans ((bindE (Blk.cell f10 1 (by kernel_rfl)) _).trans (bindE (Blk.cell f10 2 (by kernel_rfl)) _)))) ?_
 refine oZ [(4, .agg #[.string (⟨#[32]⟩ : ByteArray), .int .i64 1, .int .i64 a1, .int .i64 a2, .int .i64 a3])] ?_
 refine owp_hpD rfl (by kernel_rfl) (hpStB b7 0 [.string (⟨#[32]⟩ : ByteArray), .int .i64 1, .int .i64 a1, .int .i64 a2, .int .i64 a3] (New.blk hN9) (fun _ => by kernel_rfl) rfl rfl ?_)
 intro h14 hP15
 have f17 := Put.old hP15 f10 (Ne.symm (New.ne hN9 (New.blk hN6)))
 have f16 : Blk h14 b7 #[.string (⟨#[32]⟩ : ByteArray), .int .i64 1, .int .i64 a1, .int .i64 a2, .int .i64 a3] 52 := hP15.blk
 refine oE (cwp_ret ?_)
 subst hM
 exact ret_ (.agg #[.string (⟨#[32]⟩ : ByteArray), .int .i64 1, .int .i64 a1, .int .i64 a2, .int .i64 a3]) (Eq.trans (b := (cellH h14 ⟨b7, 0, none⟩).bind fun v18 => (cellH h14 ⟨b7, 1, none⟩).bind fun v19 => (cellH h14 ⟨b7, 2, none⟩).bind fun v20 => (cellH h14 ⟨b7, 3, none⟩).bind fun v21 => (cellH h14 ⟨b7, 4, none⟩).bind fun v22 => some (.agg #[v18, v19, v20, v21, v22])) (by kernel_rfl) ((bindE (Blk.cell f16 0 (by kernel_rfl)) _).trans ((bindE (Blk.cell f16 1 (by kernel_rfl)) _).trans ((bindE (Blk.cell f16 2 (by kernel_rfl)) _).trans ((bindE (Blk.cell f16 3 (by kernel_rfl)) _).trans (bindE (Blk.cell f16 4 (by kernel_rfl)) _)))))) ⟨rfl, (Put.ext hP15 (Ext.trans (New.ext hN6) (New.ext hN9)) (New.ge hN9 (New.ext hN6)))⟩
/- mullion/vt.fresh -/
def vt_fresh_l0 (K0 : Option Addr → Nat → Nat → Heap → Prop) : Nat → Nat → Option Addr → Nat → Nat → Int → Int → Heap → Prop
  | 0, _, _, _, _, _, _, _ => False
  | k + 1, y10, y11, y11n, y11c, y12, y13, h =>
  if y13 < y12 then
   ldI h .i64 ⟨y10, 0, none⟩ fun x15 =>
   ldI h .i64 ⟨y10, 1, none⟩ fun x17 =>
   ldI h .i64 ⟨y10, 2, none⟩ fun x19 =>
   nz y11 fun p28 =>
   0 ≤ y13 ∧
   y13 < (y11n : Int) ∧
   gap h fun h24 =>
   stN (p28.add ((y13).toNat * 5)) [.string ((vt_blank x15 x17 x19).1), .int .i64 ((vt_blank x15 x17 x19).2.1), .int .i64 ((vt_blank x15 x17 x19).2.2.1), .int .i64 ((vt_blank x15 x17 x19).2.2.2.1), .int .i64 ((vt_blank x15 x17 x19).2.2.2.2)] 0 h24 fun h29 =>
   vt_fresh_l0 K0 k y10 (some p28) y11n y11c y12 (IntKind.wrap .i64 (y13 + 1)) h29
  else
  K0 y11 y11n y11c h
theorem vt_fresh_l0_ok {Q : Exit → Env → Heap → Prop} (K0 : Option Addr → Nat → Nat → Heap → Prop) (hK0 : ∀ (z32 : Option Addr) (z32n : Nat) (z32c : Nat) (b : Env) (h : Heap), K0 z32 z32n z32c h → Q (.exit 0) (upd b 5 (.slice z32 z32n z32c)) h) : ∀ (k : Nat) (y10 : Nat) (y11 : Option Addr) (y11n : Nat) (y11c : Nat) (y12 : Int) (y13 : Int) (b : Env) (h : Heap) (hM : vt_fresh_l0 K0 k y10 y11 y11n y11c y12 y13 h), lwp Tryz.prog (partC Tryz.f33 [1, 1, 0, 1, 0, 0]) 21 Q k (upd (upd (upd (upd b 3 (.pointer (some ⟨y10, 0, none⟩))) 5 (.slice y11 y11n y11c)) 10 (.int .i64 y12)) 11 (.int .i64 y13)) h := by
  intro k
  induction k with
  | zero => intro y10 y11 y11n y11c y12 y13 b h hM; exact (show False from hM).elim
  | succ k ih =>
    intro y10 y11 y11n y11c y12 y13 b h hM
    unfold vt_fresh_l0 at hM
    refine lwp_succ (cwp_part rfl ?_)
    refine cR ?_
    refine oZ [(12, .bool (decide (y13 < y12)))] ?_
    refine oE (cwp_seq ?_)
    refine cwp_condD (y13 < y12) (by kernel_rfl) (fun hc14 => ?_) (fun hc14 => ?_)
    · replace hM := ifT hc14 hM
      refine cwp_skip (thenE_n (cwp_seq (cwp_block (cR ?_))))
      refine oZ [(13, .int .i64 y13), (6, .int .i64 y13)] ?_
      refine oE (cwp_region ?_)
      refine oZ [(14, .slice y11 y11n y11c), (15, .int .i64 y13)] ?_
      obtain ⟨x15, hc16, hM⟩ := hM
      obtain ⟨x17, hc18, hM⟩ := hM
      obtain ⟨x19, hc20, hM⟩ := hM
      refine owp_rdG (.agg #[.int .i64 x15, .int .i64 x17, .int .i64 x19]) rfl (by kernel_rfl) (Eq.trans (b := (cellH h ⟨y10, 0, none⟩).bind fun v21 => (cellH h ⟨y10, 1, none⟩).bind fun v22 => (cellH h ⟨y10, 2, none⟩).bind fun v23 => some (.value (.agg #[v21, v22, v23]))) (by kernel_rfl) ((bindE hc16 _).trans ((bindE hc18 _).trans (bindE hc20 _)))) ?_
      refine oG (hpCallP 55 #[.agg #[.int .i64 x15, .int .i64 x17, .int .i64 x19]] (.agg #[.string ((vt_blank x15 x17 x19).1), .int .i64 ((vt_blank x15 x17 x19).2.1), .int .i64 ((vt_blank x15 x17 x19).2.2.1), .int .i64 ((vt_blank x15 x17 x19).2.2.2.1), .int .i64 ((vt_blank x15 x17 x19).2.2.2.2)]) (by kernel_rfl) (vt_blank_ok x15 x17 x19 _ h rfl) ?_)
      intro h24 hx25
      obtain ⟨p28, rfl, hM⟩ := hM
      obtain ⟨hc26, hM⟩ := hM
      obtain ⟨hc27, hM⟩ := hM
      refine owp_rdG (.pointer (some (p28.add ((y13).toNat * 5)))) rfl (by kernel_rfl) (rd_ixS (P := Tryz.prog) (h := h24) (t := 81) (el := 52) (sz := 5) (ad := p28) (len := y11n) (c := y11c) (k := .i64) (i := y13) (by kernel_rfl) (by kernel_rfl) hc26 hc27 (by kernel_rfl)) ?_
      replace hM := hM _ hx25
      refine oT (p28.add ((y13).toNat * 5)) [.string ((vt_blank x15 x17 x19).1), .int .i64 ((vt_blank x15 x17 x19).2.1), .int .i64 ((vt_blank x15 x17 x19).2.2.1), .int .i64 ((vt_blank x15 x17 x19).2.2.2.1), .int .i64 ((vt_blank x15 x17 x19).2.2.2.2)] hM ?_
      clear hM
      intro h29 hM
      refine owp_nil (blockE_n (thenE_n (cwp_region ?_)))
      refine oZ [(19, .int .i64 (IntKind.wrap .i64 (y13 + 1))), (11, .int .i64 (IntKind.wrap .i64 (y13 + 1)))] ?_
      refine owp_nil ?_
      exact lA 3 (.pointer (some ⟨y10, 0, none⟩)) (lA 5 (.slice (some p28) y11n y11c) (lA 10 (.int .i64 y12) (lA 11 (.int .i64 (IntKind.wrap .i64 (y13 + 1))) (ih y10 (some p28) y11n y11c y12 (IntKind.wrap .i64 (y13 + 1)) _ _ hM))))
    replace hM := ifF hc14 hM
    refine cwp_exit (thenE_x ?_)
    exact q_at (Q := Q (.exit 0)) 5 (.slice y11 y11n y11c) (by kernel_rfl) (hK0 y11 y11n y11c _ _ hM)
def vt_fresh (a1 : Int) (a2 : Int) (a3 : Int) (a4 : Int) (K : Option Addr → Nat → Nat → Heap → Prop) (h : Heap) : Prop :=
 newB h #[.int .i64 a2, .int .i64 a3, .int .i64 a4] 50 fun b5 h6 =>
 mkM h6 52 48 [.string (⟨#[]⟩ : ByteArray), .int .i64 0, .int .i64 0, .int .i64 0, .int .i64 0] a1 fun b8 h9 =>
 ∃ k36, vt_fresh_l0
  (fun z33 z33n z33c h34 =>
      K z33 z33n z33c h34) k36 b5 (some ⟨b8, 0, none⟩) a1.toNat a1.toNat (a1.toNat : Int) 0 h9
theorem vt_fresh_ok (a1 : Int) (a2 : Int) (a3 : Int) (a4 : Int) (K : Option Addr → Nat → Nat → Heap → Prop) (h : Heap) (hM : vt_fresh a1 a2 a3 a4 K h) : CallsH Tryz.prog 33 #[.int .i64 a1, .agg #[.int .i64 a2, .int .i64 a3, .int .i64 a4]] (fun v h' => ∃ (r37 : Option Addr) (r37n : Nat) (r37c : Nat), v = .slice r37 r37n r37c ∧ K r37 r37n r37c h') h := by
 unfold vt_fresh at hM
 refine callsH_intro (n := 21) Tryz.func33 rfl rfl (by kernel_rfl) ?_
 refine cR ?_
 refine oG (hpNew #[.int .i64 a2, .int .i64 a3, .int .i64 a4] 50 (fun _ => by kernel_rfl) ?_)
 intro b5 h6 hN7
 replace hM := newB_of hN7 hM
 refine oZ [(4, .slice none 0 0)] ?_
 refine oE (cR ?_)
 refine oZ [(7, .int .i64 a1)] ?_
 refine oG (hpMk (t := 81) (et := 52) (zv := .agg #[.string (⟨#[]⟩ : ByteArray), .int .i64 0, .int .i64 0, .int .i64 0, .int .i64 0]) (by_ := 48) (sz := 5) (x := a1) [.string (⟨#[]⟩ : ByteArray), .int .i64 0, .int .i64 0, .int .i64 0, .int .i64 0] (fun _ => by kernel_rfl) (by kernel_rfl) (by kernel_rfl) rfl rfl (by decide) hM ?_)
 clear hM
 intro b8 h9 hM
 refine oZ [(5, .slice (some ⟨b8, 0, none⟩) a1.toNat a1.toNat)] ?_
 refine oE (cwp_seq (cR ?_))
 refine oZ [(9, .slice (some ⟨b8, 0, none⟩) a1.toNat a1.toNat), (10, .int .i64 (a1.toNat : Int)), (11, .int .i64 0)] ?_
 refine oE (cwp_block ?_)
 obtain ⟨k_, hM⟩ := hM
 refine cwp_loop k_ (lwp_of_part (fn := Tryz.f33) (p := [1, 1, 0, 1, 0, 0]) (by kernel_rfl) (lA 3 (.pointer (some ⟨b5, 0, none⟩)) (lA 5 (.slice (some ⟨b8, 0, none⟩) a1.toNat a1.toNat) (lA 10 (.int .i64 (a1.toNat : Int)) (lA 11 (.int .i64 0) (vt_fresh_l0_ok _ ?_ k_ b5 (some ⟨b8, 0, none⟩) a1.toNat a1.toNat (a1.toNat : Int) 0 _ _ hM))))))
 · intro z33 z33n z33c b35 h34 hM
   refine blockE_h (thenE_n (cR ?_))
   refine oZ [(20, .slice z33 z33n z33c), (4, .slice z33 z33n z33c)] ?_
   refine oE (cwp_ret ?_)
   exact ret_ (.slice z33 z33n z33c) (by kernel_rfl) ⟨_, _, _, rfl, hM⟩
/- mullion/vt.sheetOf -/
def vt_sheetOf_l0 (K0 : Nat → Nat → Heap → Prop) : Nat → Int → Nat → Nat → Nat → Int → Int → Heap → Prop
  | 0, _, _, _, _, _, _, _ => False
  | k + 1, y15, y16, y17, y18, y19, y20, h =>
  if y20 < y19 then
   ldL h ⟨y18, 0, none⟩ fun x22 x22n x22c =>
   ldI h .i64 ⟨y16, 0, none⟩ fun x26 =>
   ldI h .i64 ⟨y16, 1, none⟩ fun x28 =>
   ldI h .i64 ⟨y16, 2, none⟩ fun x30 =>
   vt_fresh y15 x26 x28 x30 (fun x39 x39n x39c h38 =>
    (cellH h38 ⟨y18, 0, none⟩ = some (.slice x22 x22n x22c)) ∧
    gap h38 fun h42 =>
    (cellH h42 ⟨y18, 0, none⟩ = some (.slice x22 x22n x22c)) ∧
    appH h42 81 24 [.slice none 0 0] x22 x22n x22c [.slice x39 x39n x39c] 1 fun s46 s46c h45 =>
    stN ⟨y18, 0, none⟩ [.slice s46 (x22n + 1) s46c] 0 h45 fun h47 =>
     vt_sheetOf_l0 K0 k y15 y16 y17 y18 y19 (IntKind.wrap .i64 (y20 + 1)) h47) h
  else
  K0 y17 y18 h
theorem vt_sheetOf_l0_ok {Q : Exit → Env → Heap → Prop} (K0 : Nat → Nat → Heap → Prop) (hK0 : ∀ (z52 : Nat) (z53 : Nat) (b : Env) (h : Heap), K0 z52 z53 h → Q (.exit 0) (upd (upd b 6 (.pointer (some ⟨z52, 0, none⟩))) 7 (.pointer (some ⟨z53, 0, none⟩))) h) : ∀ (k : Nat) (y15 : Int) (y16 : Nat) (y17 : Nat) (y18 : Nat) (y19 : Int) (y20 : Int) (b : Env) (h : Heap) (hM : vt_sheetOf_l0 K0 k y15 y16 y17 y18 y19 y20 h), lwp Tryz.prog (partC Tryz.f80 [1, 1, 0, 1, 0, 0]) 21 Q k (upd (upd (upd (upd (upd (upd b 0 (.int .i64 y15)) 5 (.pointer (some ⟨y16, 0, none⟩))) 6 (.pointer (some ⟨y17, 0, none⟩))) 7 (.pointer (some ⟨y18, 0, none⟩))) 8 (.int .i64 y19)) 9 (.int .i64 y20)) h := by
  intro k
  induction k with
  | zero => intro y15 y16 y17 y18 y19 y20 b h hM; exact (show False from hM).elim
  | succ k ih =>
    intro y15 y16 y17 y18 y19 y20 b h hM
    unfold vt_sheetOf_l0 at hM
    refine lwp_succ (cwp_part rfl ?_)
    refine cR ?_
    refine oZ [(10, .bool (decide (y20 < y19)))] ?_
    refine oE (cwp_seq ?_)
    refine cwp_condD (y20 < y19) (by kernel_rfl) (fun hc21 => ?_) (fun hc21 => ?_)
    · replace hM := ifT hc21 hM
      refine cwp_skip (thenE_n (cwp_seq (cwp_block ?_)))
      refine cwp_draw (by kernel_rfl) ?_
      refine kq 0 (.pointer (some ⟨y18, 0, none⟩)) ?_
      obtain ⟨x22, x22n, x22c, hc23, hM⟩ := hM
      refine kl 1 (.slice x22 x22n x22c) ⟨y18, 0, none⟩ [6, 7, 8] [6, 8] hc23 ?_
      refine kq 2 (.int .i64 y15) ?_
      obtain ⟨x26, hc27, hM⟩ := hM
      obtain ⟨x28, hc29, hM⟩ := hM
      obtain ⟨x30, hc31, hM⟩ := hM
      refine k_load (i := 3) (.agg #[.int .i64 x26, .int .i64 x28, .int .i64 x30]) (fun h' => cellH h' ⟨y16, 0, none⟩ = some (.int .i64 x26) ∧ cellH h' ⟨y16, 1, none⟩ = some (.int .i64 x28) ∧ cellH h' ⟨y16, 2, none⟩ = some (.int .i64 x30) ∧ True) [4, 5, 6, 7, 8] [4, 5, 6, 8] (by kernel_rfl) (by kernel_rfl) rfl rfl (by kernel_rfl) (fun h' hS => Eq.trans (b := (cellH h' ⟨y16, 0, none⟩).bind fun v35 => (cellH h' ⟨y16, 1, none⟩).bind fun v36 => (cellH h' ⟨y16, 2, none⟩).bind fun v37 => some (.value (.agg #[v35, v36, v37]))) (by kernel_rfl) ((bindE hS.1 _).trans ((bindE hS.2.1 _).trans (bindE hS.2.2.1 _)))) ⟨hc27, hc29, hc31, trivial⟩ (by kernel_rfl) ?_
      refine kE 4 (hpCallE 33 #[.int .i64 y15, .agg #[.int .i64 x26, .int .i64 x28, .int .i64 x30]] (by kernel_rfl) (vt_fresh_ok y15 x26 x28 x30 _ h hM) ?_)
      clear hM
      rintro _ h38 ⟨x39, x39n, x39c, rfl, hM⟩
      obtain ⟨hk40, hM⟩ := hM
      refine ⟨⟨⟨hk40, trivial⟩, trivial⟩, ?_⟩
      refine kE 5 (hpNewS #[.slice x39 x39n x39c] 81 1 (fun _ => by kernel_rfl) ?_)
      intro b41 h42 hN43
      replace hM := hM _ (New.ext hN43)
      obtain ⟨hk44, hM⟩ := hM
      refine ⟨⟨⟨hk44, trivial⟩, trivial⟩, ?_⟩
      refine kE 6 (hpApp (t := 68) (ty := 68) (et := 81) (zv := .slice none 0 0) (sz := 1) (by_ := 24) (base := x22) (n' := x22n) (c := x22c) (xb := (some ⟨b41, 0, none⟩)) (m := 1) (xc := 1) (new := [.slice x39 x39n x39c]) (fun _ => by kernel_rfl) (by kernel_rfl) (by kernel_rfl) [.slice none 0 0] rfl rfl (by decide) rfl rfl ⟨Blk.cell (New.blk hN43) 0 (by kernel_rfl), trivial⟩ hM ?_)
      clear hM
      intro s46 s46c h45 hM
      refine ⟨trivial, ?_⟩
      refine kq 7 (.pointer (some ⟨y18, 0, none⟩)) ?_
      refine kD 8 (hpSt ⟨y18, 0, none⟩ [.slice s46 (x22n + 1) s46c] (fun _ => by kernel_rfl) (by kernel_rfl) hM ?_)
      clear hM
      intro h47 hM
      refine ⟨trivial, ?_⟩
      refine k_done (by kernel_rfl) ?_
      refine blockE_n (thenE_n (cwp_region ?_))
      refine oZ [(19, .int .i64 (IntKind.wrap .i64 (y20 + 1))), (9, .int .i64 (IntKind.wrap .i64 (y20 + 1)))] ?_
      refine owp_nil ?_
      exact lA 0 (.int .i64 y15) (lA 5 (.pointer (some ⟨y16, 0, none⟩)) (lA 6 (.pointer (some ⟨y17, 0, none⟩)) (lA 7 (.pointer (some ⟨y18, 0, none⟩)) (lA 8 (.int .i64 y19) (lA 9 (.int .i64 (IntKind.wrap .i64 (y20 + 1))) (ih y15 y16 y17 y18 y19 (IntKind.wrap .i64 (y20 + 1)) _ _ hM))))))
    replace hM := ifF hc21 hM
    refine cwp_exit (thenE_x ?_)
    exact q_at (Q := Q (.exit 0)) 6 (.pointer (some ⟨y17, 0, none⟩)) (by kernel_rfl) (q_at (Q := Q (.exit 0)) 7 (.pointer (some ⟨y18, 0, none⟩)) (by kernel_rfl) (hK0 y17 y18 _ _ hM))
def vt_sheetOf (a1 : Int) (a2 : Int) (a3 : Int) (a4 : Int) (a5 : Int) (K : Option Addr → Nat → Nat → Option Addr → Heap → Prop) (h : Heap) : Prop :=
 newB h #[.int .i64 a3, .int .i64 a4, .int .i64 a5] 50 fun b6 h7 =>
 newB h7 #[.slice none 0 0, .pointer none] 71 fun b9 h10 =>
 newB h10 #[.slice none 0 0, .pointer none] 71 fun b12 h13 =>
 ∃ k71, vt_sheetOf_l0
  (fun z54 z55 h56 =>
    ldL h56 ⟨z55, 0, none⟩ fun x57 x57n x57c =>
    ldP h56 ⟨z55, 1, none⟩ fun x59 =>
    stN ⟨z54, 0, none⟩ [.slice x57 x57n x57c, .pointer x59] 0 h56 fun h63 =>
    ldL h63 ⟨z54, 0, none⟩ fun x64 x64n x64c =>
    ldP h63 ⟨z54, 1, none⟩ fun x66 =>
      K x64 x64n x64c x66 h63) k71 a1 b6 b9 b12 a2 0 h13
theorem vt_sheetOf_ok (a1 : Int) (a2 : Int) (a3 : Int) (a4 : Int) (a5 : Int) (K : Option Addr → Nat → Nat → Option Addr → Heap → Prop) (h : Heap) (hM : vt_sheetOf a1 a2 a3 a4 a5 K h) : CallsH Tryz.prog 80 #[.int .i64 a1, .int .i64 a2, .agg #[.int .i64 a3, .int .i64 a4, .int .i64 a5]] (fun v h' => ∃ (r72 : Option Addr) (r72n : Nat) (r72c : Nat) (r73 : Option Addr), v = .agg #[.slice r72 r72n r72c, .pointer r73] ∧ K r72 r72n r72c r73 h') h := by
 unfold vt_sheetOf at hM
 refine callsH_intro (n := 21) Tryz.func80 rfl rfl (by kernel_rfl) ?_
 refine cR ?_
 refine oG (hpNew #[.int .i64 a3, .int .i64 a4, .int .i64 a5] 50 (fun _ => by kernel_rfl) ?_)
 intro b6 h7 hN8
 replace hM := newB_of hN8 hM
 refine oG (hpNew #[.slice none 0 0, .pointer none] 71 (fun _ => by kernel_rfl) ?_)
 intro b9 h10 hN11
 replace hM := newB_of hN11 hM
 refine oE (cR ?_)
 refine oG (hpNew #[.slice none 0 0, .pointer none] 71 (fun _ => by kernel_rfl) ?_)
 intro b12 h13 hN14
 replace hM := newB_of hN14 hM
 refine oE (cwp_seq (cR ?_))
 refine oZ [(8, .int .i64 a2), (9, .int .i64 0)] ?_
 refine oE (cwp_block ?_)
 obtain ⟨k_, hM⟩ := hM
 refine cwp_loop k_ (lwp_of_part (fn := Tryz.f80) (p := [1, 1, 0, 1, 0, 0]) (by kernel_rfl) (lA 0 (.int .i64 a1) (lA 5 (.pointer (some ⟨b6, 0, none⟩)) (lA 6 (.pointer (some ⟨b9, 0, none⟩)) (lA 7 (.pointer (some ⟨b12, 0, none⟩)) (lA 8 (.int .i64 a2) (lA 9 (.int .i64 0) (vt_sheetOf_l0_ok _ ?_ k_ a1 b6 b9 b12 a2 0 _ _ hM))))))))
 · intro z54 z55 b70 h56 hM
   refine blockE_h (thenE_n (cR ?_))
   obtain ⟨x57, x57n, x57c, hc58, hM⟩ := hM
   obtain ⟨x59, hc60, hM⟩ := hM
   refine owp_rdG (.agg #[.slice x57 x57n x57c, .pointer x59]) rfl (by kernel_rfl) (Eq.trans (b := (cellH h56 ⟨z55, 0, none⟩).bind fun v61 => (cellH h56 ⟨z55, 1, none⟩).bind fun v62 => some (.value (.agg #[v61, v62]))) (by kernel_rfl) ((bindE hc58 _).trans (bindE hc60 _))) ?_
   refine oT ⟨z54, 0, none⟩ [.slice x57 x57n x57c, .pointer x59] hM ?_
   clear hM
   intro h63 hM
   refine oE (cwp_ret ?_)
   obtain ⟨x64, x64n, x64c, hc65, hM⟩ := hM
   obtain ⟨x66, hc67, hM⟩ := hM
   exact ret_ (.agg #[.slice x64 x64n x64c, .pointer x66]) (Eq.trans (b := (cellH h63 ⟨z54, 0, none⟩).bind fun v68 => (cellH h63 ⟨z54, 1, none⟩).bind fun v69 => some (.agg #[v68, v69])) (by kernel_rfl) ((bindE hc65 _).trans (bindE hc67 _))) ⟨_, _, _, _, rfl, hM⟩
/- (*mullion/vt.Screen).reset -/
def vt_Screen_reset (a1 : Option Addr) (K : Heap → Prop) (h : Heap) : Prop :=
 nz a1 fun p2 =>
 ldI h .i64 p2 fun x3 =>
 ldI h .i64 (p2.add 1) fun x7 =>
 ldI h .i64 (p2.add 2) fun x11 =>
 ldL h (p2.add 8) fun x15 x15n x15c =>
 ldI h .i64 (p2.add 29) fun x19 =>
 ldS h (p2.add 30) fun x23 =>
 ldI h .i64 (p2.add 1) fun x27 =>
 newB h #[.int .i64 x3, .int .i64 x7, .int .i64 x11, .slice none 0 0, .pointer none, .slice none 0 0, .pointer none, .bool false, .slice x15 x15n x15c, .int .i64 0, .int .i64 0, .int .i64 0, .int .i64 0, .int .i64 0, .bool false, .bool false, .bool false, .bool false, .bool false, .int .i64 0, .int .i64 (IntKind.wrap .i64 (x27 - 1)), .slice none 0 0, .bool false, .bool false, .bool true, .bool false, .bool false, .bool false, .string (⟨#[]⟩ : ByteArray), .int .i64 x19, .string x23, .int .i64 0, .slice none 0 0, .bool false, .int .u8 0, .int .u8 0, .int .u8 0, .int .u8 0, .int .i64 0, .int .i64 0, .int .i32 0] 80 fun b31 h32 =>
 ldI h32 .i64 ⟨b31, 0, none⟩ fun x34 =>
 ldI h32 .i64 ⟨b31, 1, none⟩ fun x36 =>
 ldI h32 .i64 ⟨b31, 2, none⟩ fun x38 =>
 ldL h32 ⟨b31, 3, none⟩ fun x40 x40n x40c =>
 ldP h32 ⟨b31, 4, none⟩ fun x42 =>
 ldL h32 ⟨b31, 5, none⟩ fun x44 x44n x44c =>
 ldP h32 ⟨b31, 6, none⟩ fun x46 =>
 ldB h32 ⟨b31, 7, none⟩ fun x48 =>
 ldL h32 ⟨b31, 8, none⟩ fun x50 x50n x50c =>
 ldI h32 .i64 ⟨b31, 9, none⟩ fun x52 =>
 ldI h32 .i64 ⟨b31, 10, none⟩ fun x54 =>
 ldI h32 .i64 ⟨b31, 11, none⟩ fun x56 =>
 ldI h32 .i64 ⟨b31, 12, none⟩ fun x58 =>
 ldI h32 .i64 ⟨b31, 13, none⟩ fun x60 =>
 ldB h32 ⟨b31, 14, none⟩ fun x62 =>
 ldB h32 ⟨b31, 15, none⟩ fun x64 =>
 ldB h32 ⟨b31, 16, none⟩ fun x66 =>
 ldB h32 ⟨b31, 17, none⟩ fun x68 =>
 ldB h32 ⟨b31, 18, none⟩ fun x70 =>
 ldI h32 .i64 ⟨b31, 19, none⟩ fun x72 =>
 ldI h32 .i64 ⟨b31, 20, none⟩ fun x74 =>
 ldL h32 ⟨b31, 21, none⟩ fun x76 x76n x76c =>
 ldB h32 ⟨b31, 22, none⟩ fun x78 =>
 ldB h32 ⟨b31, 23, none⟩ fun x80 =>
 ldB h32 ⟨b31, 24, none⟩ fun x82 =>
 ldB h32 ⟨b31, 25, none⟩ fun x84 =>
 ldB h32 ⟨b31, 26, none⟩ fun x86 =>
 ldB h32 ⟨b31, 27, none⟩ fun x88 =>
 ldS h32 ⟨b31, 28, none⟩ fun x90 =>
 ldI h32 .i64 ⟨b31, 29, none⟩ fun x92 =>
 ldS h32 ⟨b31, 30, none⟩ fun x94 =>
 ldI h32 .i64 ⟨b31, 31, none⟩ fun x96 =>
 ldL h32 ⟨b31, 32, none⟩ fun x98 x98n x98c =>
 ldB h32 ⟨b31, 33, none⟩ fun x100 =>
 ldI h32 .u8 ⟨b31, 34, none⟩ fun x102 =>
 ldI h32 .u8 ⟨b31, 35, none⟩ fun x104 =>
 ldI h32 .u8 ⟨b31, 36, none⟩ fun x106 =>
 ldI h32 .u8 ⟨b31, 37, none⟩ fun x108 =>
 ldI h32 .i64 ⟨b31, 38, none⟩ fun x110 =>
 ldI h32 .i64 ⟨b31, 39, none⟩ fun x112 =>
 ldI h32 .i32 ⟨b31, 40, none⟩ fun x114 =>
 stN p2 (.int .i64 x34 :: .int .i64 x36 :: .int .i64 x38 :: .slice x40 x40n x40c :: .pointer x42 :: .slice x44 x44n x44c :: .pointer x46 :: .bool x48 :: .slice x50 x50n x50c :: .int .i64 x52 :: .int .i64 x54 :: .int .i64 x56 :: .int .i64 x58 :: .int .i64 x60 :: .bool x62 :: .bool x64 :: .bool x66 :: .bool x68 :: .bool x70 :: .int .i64 x72 :: .int .i64 x74 :: .slice x76 x76n x76c :: .bool x78 :: .bool x80 :: .bool x82 :: .bool x84 :: .bool x86 :: .bool x88 :: .string x90 :: .int .i64 x92 :: .string x94 :: .int .i64 x96 :: .slice x98 x98n x98c :: .bool x100 :: .int .u8 x102 :: .int .u8 x104 :: .int .u8 x106 :: .int .u8 x108 :: .int .i64 x110 :: .int .i64 x112 :: .int .i32 x114 :: []) 0 h32 fun h116 =>
 ldI h116 .i64 p2 fun x117 =>
 ldI h116 .i64 (p2.add 1) fun x121 =>
 vt_sheetOf x117 x121 0 0 0 (fun x126 x126n x126c x127 h125 =>
  stN (p2.add 3) [.slice x126 x126n x126c, .pointer x127] 0 h125 fun h128 =>
  vt_Screen_stops (some p2) (fun  h129 =>
     K h129) h128) h116
theorem vt_Screen_reset_ok (a1 : Option Addr) (K : Heap → Prop) (h : Heap) (hM : vt_Screen_reset a1 K h) : CallsH Tryz.prog 53 #[.pointer a1] (fun v h' => v = .tuple #[] ∧ K h') h := by
 unfold vt_Screen_reset at hM
 refine callsH_intro (n := 54) Tryz.func53 rfl rfl (by kernel_rfl) ?_
 refine cwp_seq ?_
 refine cwp_draw (by kernel_rfl) ?_
 refine kq 0 (.pointer a1) ?_
 obtain ⟨p2, rfl, hM⟩ := hM
 refine kq 1 (.pointer (some p2)) ?_
 refine kq 2 (.pointer (some p2)) ?_
 obtain ⟨x3, hc4, hM⟩ := hM
 refine kl 3 (.int .i64 x3) p2 [29, 30, 31] [30] hc4 ?_
 refine kq 4 (.pointer (some p2)) ?_
 refine kq 5 (.pointer (some p2)) ?_
 refine kq 6 (.pointer (some (p2.add 1))) ?_
 obtain ⟨x7, hc8, hM⟩ := hM
 refine kl 7 (.int .i64 x7) (p2.add 1) [29, 30, 31] [30] hc8 ?_
 refine kq 8 (.pointer (some p2)) ?_
 refine kq 9 (.pointer (some p2)) ?_
 refine kq 10 (.pointer (some (p2.add 2))) ?_
 obtain ⟨x11, hc12, hM⟩ := hM
 refine kl 11 (.int .i64 x11) (p2.add 2) [29, 30, 31] [30] hc12 ?_
 refine kq 12 (.pointer (some p2)) ?_
 refine kq 13 (.pointer (some p2)) ?_
 refine kq 14 (.pointer (some (p2.add 8))) ?_
 obtain ⟨x15, x15n, x15c, hc16, hM⟩ := hM
 refine kl 15 (.slice x15 x15n x15c) (p2.add 8) [29, 30, 31] [30] hc16 ?_
 refine kq 16 (.pointer (some p2)) ?_
 refine kq 17 (.pointer (some p2)) ?_
 refine kq 18 (.pointer (some (p2.add 29))) ?_
 obtain ⟨x19, hc20, hM⟩ := hM
 refine kl 19 (.int .i64 x19) (p2.add 29) [29, 30, 31] [30] hc20 ?_
 refine kq 20 (.pointer (some p2)) ?_
 refine kq 21 (.pointer (some p2)) ?_
 refine kq 22 (.pointer (some (p2.add 30))) ?_
 obtain ⟨x23, hc24, hM⟩ := hM
 refine kl 23 (.string x23) (p2.add 30) [29, 30, 31] [30] hc24 ?_
 refine kq 24 (.pointer (some p2)) ?_
 refine kq 25 (.pointer (some p2)) ?_
 refine kq 26 (.pointer (some (p2.add 1))) ?_
 obtain ⟨x27, hc28, hM⟩ := hM
 refine kl 27 (.int .i64 x27) (p2.add 1) [28, 29, 30, 31] [30] hc28 ?_
 refine kq 28 (.int .i64 (IntKind.wrap .i64 (x27 - 1))) ?_
 refine kq 29 (.agg #[.int .i64 x3, .int .i64 x7, .int .i64 x11, .slice none 0 0, .pointer none, .slice none 0 0, .pointer none, .bool false, .slice x15 x15n x15c, .int .i64 0, .int .i64 0, .int .i64 0, .int .i64 0, .int .i64 0, .bool false, .bool false, .bool false, .bool false, .bool false, .int .i64 0, .int .i64 (IntKind.wrap .i64 (x27 - 1)), .slice none 0 0, .bool false, .bool false, .bool true, .bool false, .bool false, .bool false, .string (⟨#[]⟩ : ByteArray), .int .i64 x19, .string x23, .int .i64 0, .slice none 0 0, .bool false, .int .u8 0, .int .u8 0, .int .u8 0, .int .u8 0, .int .i64 0, .int .i64 0, .int .i32 0]) ?_
 refine kE 30 (hpNew #[.int .i64 x3, .int .i64 x7, .int .i64 x11, .slice none 0 0, .pointer none, .slice none 0 0, .pointer none, .bool false, .slice x15 x15n x15c, .int .i64 0, .int .i64 0, .int .i64 0, .int .i64 0, .int .i64 0, .bool false, .bool false, .bool false, .bool false, .bool false, .int .i64 0, .int .i64 (IntKind.wrap .i64 (x27 - 1)), .slice none 0 0, .bool false, .bool false, .bool true, .bool false, .bool false, .bool false, .string (⟨#[]⟩ : ByteArray), .int .i64 x19, .string x23, .int .i64 0, .slice none 0 0, .bool false, .int .u8 0, .int .u8 0, .int .u8 0, .int .u8 0, .int .i64 0, .int .i64 0, .int .i32 0] 80 (fun _ => by kernel_rfl) ?_)
 intro b31 h32 hN33
 replace hM := newB_of hN33 hM
 refine ⟨trivial, ?_⟩
 refine kq 31 (.pointer (some ⟨b31, 0, none⟩)) ?_
 refine k_done (by kernel_rfl) ?_
 refine thenE_n (cR ?_)
 refine oZ [(34, .pointer (some p2)), (35, .pointer (some ⟨b31, 0, none⟩)), (36, .pointer (some ⟨b31, 0, none⟩))] ?_
 obtain ⟨x34, hc35, hM⟩ := hM
 obtain ⟨x36, hc37, hM⟩ := hM
 obtain ⟨x38, hc39, hM⟩ := hM
 obtain ⟨x40, x40n, x40c, hc41, hM⟩ := hM
 obtain ⟨x42, hc43, hM⟩ := hM
 obtain ⟨x44, x44n, x44c, hc45, hM⟩ := hM
 obtain ⟨x46, hc47, hM⟩ := hM
 obtain ⟨x48, hc49, hM⟩ := hM
 obtain ⟨x50, x50n, x50c, hc51, hM⟩ := hM
 obtain ⟨x52, hc53, hM⟩ := hM
 obtain ⟨x54, hc55, hM⟩ := hM
 obtain ⟨x56, hc57, hM⟩ := hM
 obtain ⟨x58, hc59, hM⟩ := hM
 obtain ⟨x60, hc61, hM⟩ := hM
 obtain ⟨x62, hc63, hM⟩ := hM
 obtain ⟨x64, hc65, hM⟩ := hM
 obtain ⟨x66, hc67, hM⟩ := hM
 obtain ⟨x68, hc69, hM⟩ := hM
 obtain ⟨x70, hc71, hM⟩ := hM
 obtain ⟨x72, hc73, hM⟩ := hM
 obtain ⟨x74, hc75, hM⟩ := hM
 obtain ⟨x76, x76n, x76c, hc77, hM⟩ := hM
 obtain ⟨x78, hc79, hM⟩ := hM
 obtain ⟨x80, hc81, hM⟩ := hM
 obtain ⟨x82, hc83, hM⟩ := hM
 obtain ⟨x84, hc85, hM⟩ := hM
 obtain ⟨x86, hc87, hM⟩ := hM
 obtain ⟨x88, hc89, hM⟩ := hM
 obtain ⟨x90, hc91, hM⟩ := hM
 obtain ⟨x92, hc93, hM⟩ := hM
 obtain ⟨x94, hc95, hM⟩ := hM
 obtain ⟨x96, hc97, hM⟩ := hM
 obtain ⟨x98, x98n, x98c, hc99, hM⟩ := hM
 obtain ⟨x100, hc101, hM⟩ := hM
 obtain ⟨x102, hc103, hM⟩ := hM
 obtain ⟨x104, hc105, hM⟩ := hM
 obtain ⟨x106, hc107, hM⟩ := hM
 obtain ⟨x108, hc109, hM⟩ := hM
 obtain ⟨x110, hc111, hM⟩ := hM
 obtain ⟨x112, hc113, hM⟩ := hM
 obtain ⟨x114, hc115, hM⟩ := hM
 refine owp_rdG (.agg #[.int .i64 x34, .int .i64 x36, .int .i64 x38, .slice x40 x40n x40c, .pointer x42, .slice x44 x44n x44c, .pointer x46, .bool x48, .slice x50 x50n x50c, .int .i64 x52, .int .i64 x54, .int .i64 x56, .int .i64 x58, .int .i64 x60, .bool x62, .bool x64, .bool x66, .bool x68, .bool x70, .int .i64 x72, .int .i64 x74, .slice x76 x76n x76c, .bool x78, .bool x80, .bool x82, .bool x84, .bool x86, .bool x88, .string x90, .int .i64 x92, .string x94, .int .i64 x96, .slice x98 x98n x98c, .bool x100, .int .u8 x102, .int .u8 x104, .int .u8 x106, .int .u8 x108, .int .i64 x110, .int .i64 x112, .int .i32 x114]) rfl (by kernel_rfl) (rd_loadStr (P := Tryz.prog) (h := h32) (t := 80) (a := ⟨b31, 0, none⟩) (.int .i64 x34 :: .int .i64 x36 :: .int .i64 x38 :: .slice x40 x40n x40c :: .pointer x42 :: .slice x44 x44n x44c :: .pointer x46 :: .bool x48 :: .slice x50 x50n x50c :: .int .i64 x52 :: .int .i64 x54 :: .int .i64 x56 :: .int .i64 x58 :: .int .i64 x60 :: .bool x62 :: .bool x64 :: .bool x66 :: .bool x68 :: .bool x70 :: .int .i64 x72 :: .int .i64 x74 :: .slice x76 x76n x76c :: .bool x78 :: .bool x80 :: .bool x82 :: .bool x84 :: .bool x86 :: .bool x88 :: .string x90 :: .int .i64 x92 :: .string x94 :: .int .i64 x96 :: .slice x98 x98n x98c :: .bool x100 :: .int .u8 x102 :: .int .u8 x104 :: .int .u8 x106 :: .int .u8 x108 :: .int .i64 x110 :: .int .i64 x112 :: .int .i32 x114 :: []) Tryz.underlying80 (by kernel_rfl) (cN 0 hc35 (cN 1 hc37 (cN 2 hc39 (cN 3 hc41 (cN 4 hc43 (cN 5 hc45 (cN 6 hc47 (cN 7 hc49 (cN 8 hc51 (cN 9 hc53 (cN 10 hc55 (cN 11 hc57 (cN 12 hc59 (cN 13 hc61 (cN 14 hc63 (cN 15 hc65 (cN 16 hc67 (cN 17 hc69 (cN 18 hc71 (cN 19 hc73 (cN 20 hc75 (cN 21 hc77 (cN 22 hc79 (cN 23 hc81 (cN 24 hc83 (cN 25 hc85 (cN 26 hc87 (cN 27 hc89 (cN 28 hc91 (cN 29 hc93 (cN 30 hc95 (cN 31 hc97 (cN 32 hc99 (cN 33 hc101 (cN 34 hc103 (cN 35 hc105 (cN 36 hc107 (cN 37 hc109 (cN 38 hc111 (cN 39 hc113 (cN 40 hc115 trivial))))))))))))))))))))))))))))))))))))))))) (by kernel_rfl)) ?_
 refine oZ [(38, .pointer (some p2))] ?_
 refine oT p2 (.int .i64 x34 :: .int .i64 x36 :: .int .i64 x38 :: .slice x40 x40n x40c :: .pointer x42 :: .slice x44 x44n x44c :: .pointer x46 :: .bool x48 :: .slice x50 x50n x50c :: .int .i64 x52 :: .int .i64 x54 :: .int .i64 x56 :: .int .i64 x58 :: .int .i64 x60 :: .bool x62 :: .bool x64 :: .bool x66 :: .bool x68 :: .bool x70 :: .int .i64 x72 :: .int .i64 x74 :: .slice x76 x76n x76c :: .bool x78 :: .bool x80 :: .bool x82 :: .bool x84 :: .bool x86 :: .bool x88 :: .string x90 :: .int .i64 x92 :: .string x94 :: .int .i64 x96 :: .slice x98 x98n x98c :: .bool x100 :: .int .u8 x102 :: .int .u8 x104 :: .int .u8 x106 :: .int .u8 x108 :: .int .i64 x110 :: .int .i64 x112 :: .int .i32 x114 :: []) hM ?_
 clear hM
 intro h116 hM
 refine oE (cwp_seq ?_)
 refine cwp_draw (by kernel_rfl) ?_
 refine kq 0 (.pointer (some p2)) ?_
 refine kq 1 (.pointer (some p2)) ?_
 refine kq 2 (.pointer (some p2)) ?_
 refine kq 3 (.pointer (some p2)) ?_
 obtain ⟨x117, hc118, hM⟩ := hM
 refine kl 4 (.int .i64 x117) p2 [10, 11, 12, 13] [10, 13] hc118 ?_
 refine kq 5 (.pointer (some p2)) ?_
 refine kq 6 (.pointer (some p2)) ?_
 refine kq 7 (.pointer (some (p2.add 1))) ?_
 obtain ⟨x121, hc122, hM⟩ := hM
 refine kl 8 (.int .i64 x121) (p2.add 1) [10, 11, 12, 13] [10, 13] hc122 ?_
 refine kq 9 (.agg #[.int .i64 0, .int .i64 0, .int .i64 0]) ?_
 refine kE 10 (hpCallE 80 #[.int .i64 x117, .int .i64 x121, .agg #[.int .i64 0, .int .i64 0, .int .i64 0]] (by kernel_rfl) (vt_sheetOf_ok x117 x121 0 0 0 _ h116 hM) ?_)
 clear hM
 rintro _ h125 ⟨x126, x126n, x126c, x127, rfl, hM⟩
 refine ⟨trivial, ?_⟩
 refine kq 11 (.pointer (some p2)) ?_
 refine kq 12 (.pointer (some (p2.add 3))) ?_
 refine kD 13 (hpSt (p2.add 3) [.slice x126 x126n x126c, .pointer x127] (fun _ => by kernel_rfl) (by kernel_rfl) hM ?_)
 clear hM
 intro h128 hM
 refine ⟨trivial, ?_⟩
 refine k_done (by kernel_rfl) ?_
 refine thenE_n (cwp_region ?_)
 refine oZ [(52, .pointer (some p2))] ?_
 refine oG (hpCallE 37 #[.pointer (some p2)] (by kernel_rfl) (vt_Screen_stops_ok (some p2) _ h128 hM) ?_)
 clear hM
 rintro _ h129 ⟨rfl, hM⟩
 refine owp_nil ?_
 exact end_ (.tuple #[]) (by kernel_rfl) ⟨rfl, hM⟩
/- mullion/vt.New -/
def vt_New_j0 (Kn : Int → Int → Int → Heap → Prop) (Kr : Option Addr → Int → Heap → Prop) (y7 : Int) (y8 : Int) (y9 : Int) (y10 : Bool) (h : Heap) : Prop :=
 if y10 = true then
  Kr none 41 h
 else
 if y9 < 0 then
  Kr none 1 h
 else
 if 2000 < y9 then
  Kr none 1 h
 else
 Kn y7 y8 y9 h
theorem vt_New_j0_ok {Q : Exit → Env → Heap → Prop} (Kn : Int → Int → Int → Heap → Prop) (hKn : ∀ (z22 : Int) (z23 : Int) (z24 : Int) (b : Env) (h : Heap), Kn z22 z23 z24 h → Q .normal (upd (upd (upd b 0 (.int .i64 z22)) 1 (.int .i64 z23)) 2 (.int .i64 z24)) h) (Kr : Option Addr → Int → Heap → Prop) (hKr : ∀ (z27 : Option Addr) (z28 : Int) (b : Env) (h : Heap), Kr z27 z28 h → Q .ret (upd (upd b 6 (.pointer z27)) 7 (.int .i64 z28)) h) (y7 : Int) (y8 : Int) (y9 : Int) (y10 : Bool) (b : Env) (h : Heap) (hM : vt_New_j0 Kn Kr y7 y8 y9 y10 h) : cwp Tryz.prog (partC Tryz.f29 [1, 0, 0, 1]) 29 Q (upd (upd (upd (upd b 0 (.int .i64 y7)) 1 (.int .i64 y8)) 2 (.int .i64 y9)) 9 (.bool y10)) h := by
  unfold vt_New_j0 at hM
  refine cwp_part rfl ?_
  refine cwp_condB y10 (by kernel_rfl) (fun hc11 => ?_) (fun hc11 => ?_)
  · replace hM := ifT hc11 hM
    refine cR ?_
    refine oZ [(6, .pointer none), (7, .int .i64 41)] ?_
    refine oE (cwp_ret ?_)
    exact q_at (Q := Q .ret) 6 (.pointer none) (by kernel_rfl) (q_at (Q := Q .ret) 7 (.int .i64 41) (by kernel_rfl) (hKr none 41 _ _ hM))
  replace hM := ifF hc11 hM
  refine cwp_seq (cR ?_)
  refine oZ [(17, .int .i64 y9), (18, .bool (decide (y9 < 0))), (16, .bool (decide (y9 < 0)))] ?_
  refine oE ?_
  refine cwp_condD (y9 < 0) (by kernel_rfl) (fun hc14 => ?_) (fun hc14 => ?_)
  · replace hM := ifT hc14 hM
    refine cwp_skip (thenE_n ?_)
    refine cwp_condD (y9 < 0) (by kernel_rfl) (fun _ => ?_) (fun hn_ => absurd hc14 hn_)
    refine cR ?_
    refine oZ [(6, .pointer none), (7, .int .i64 1)] ?_
    refine oE (cwp_ret ?_)
    exact q_at (Q := Q .ret) 6 (.pointer none) (by kernel_rfl) (q_at (Q := Q .ret) 7 (.int .i64 1) (by kernel_rfl) (hKr none 1 _ _ hM))
  replace hM := ifF hc14 hM
  refine cwp_region ?_
  refine oZ [(19, .int .i64 y9), (20, .bool (decide (2000 < y9))), (16, .bool (decide (2000 < y9)))] ?_
  refine oE ?_
  refine cwp_condD (2000 < y9) (by kernel_rfl) (fun hc15 => ?_) (fun hc15 => ?_)
  · replace hM := ifT hc15 hM
    refine cR ?_
    refine oZ [(6, .pointer none), (7, .int .i64 1)] ?_
    refine oE (cwp_ret ?_)
    exact q_at (Q := Q .ret) 6 (.pointer none) (by kernel_rfl) (q_at (Q := Q .ret) 7 (.int .i64 1) (by kernel_rfl) (hKr none 1 _ _ hM))
  replace hM := ifF hc15 hM
  refine cwp_skip ?_
  exact q_at (Q := Q .normal) 0 (.int .i64 y7) (by kernel_rfl) (q_at (Q := Q .normal) 1 (.int .i64 y8) (by kernel_rfl) (q_at (Q := Q .normal) 2 (.int .i64 y9) (by kernel_rfl) (hKn y7 y8 y9 _ _ hM)))
def vt_New_j1 (Kr : Nat → Int → Heap → Prop) (y33 : Int) (y34 : Int) (y35 : Int) (h : Heap) : Prop :=
 newB h #[.int .i64 y33, .int .i64 y34, .int .i64 y35, .slice none 0 0, .pointer none, .slice none 0 0, .pointer none, .bool false, .slice none 0 0, .int .i64 0, .int .i64 0, .int .i64 0, .int .i64 0, .int .i64 0, .bool false, .bool false, .bool false, .bool false, .bool false, .int .i64 0, .int .i64 0, .slice none 0 0, .bool false, .bool false, .bool false, .bool false, .bool false, .bool false, .string (⟨#[]⟩ : ByteArray), .int .i64 0, .string (⟨#[]⟩ : ByteArray), .int .i64 0, .slice none 0 0, .bool false, .int .u8 0, .int .u8 0, .int .u8 0, .int .u8 0, .int .i64 0, .int .i64 0, .int .i32 0] 80 fun b36 h37 =>
 vt_Screen_reset (some ⟨b36, 0, none⟩) (fun  h39 =>
   Kr b36 0 h39) h37
theorem vt_New_j1_ok {Q : Exit → Env → Heap → Prop} (Kr : Nat → Int → Heap → Prop) (hKr : ∀ (z44 : Nat) (z45 : Int) (b : Env) (h : Heap), Kr z44 z45 h → Q .ret (upd (upd b 6 (.pointer (some ⟨z44, 0, none⟩))) 7 (.int .i64 z45)) h) (y33 : Int) (y34 : Int) (y35 : Int) (b : Env) (h : Heap) (hM : vt_New_j1 Kr y33 y34 y35 h) : cwp Tryz.prog (partC Tryz.f29 [1, 1]) 29 Q (upd (upd (upd b 0 (.int .i64 y33)) 1 (.int .i64 y34)) 2 (.int .i64 y35)) h := by
  unfold vt_New_j1 at hM
  refine cwp_part rfl ?_
  refine cR ?_
  refine oZ [(21, .int .i64 y33), (22, .int .i64 y34), (23, .int .i64 y35), (24, .agg #[.int .i64 y33, .int .i64 y34, .int .i64 y35, .slice none 0 0, .pointer none, .slice none 0 0, .pointer none, .bool false, .slice none 0 0, .int .i64 0, .int .i64 0, .int .i64 0, .int .i64 0, .int .i64 0, .bool false, .bool false, .bool false, .bool false, .bool false, .int .i64 0, .int .i64 0, .slice none 0 0, .bool false, .bool false, .bool false, .bool false, .bool false, .bool false, .string (⟨#[]⟩ : ByteArray), .int .i64 0, .string (⟨#[]⟩ : ByteArray), .int .i64 0, .slice none 0 0, .bool false, .int .u8 0, .int .u8 0, .int .u8 0, .int .u8 0, .int .i64 0, .int .i64 0, .int .i32 0])] ?_
  refine oG (hpNew #[.int .i64 y33, .int .i64 y34, .int .i64 y35, .slice none 0 0, .pointer none, .slice none 0 0, .pointer none, .bool false, .slice none 0 0, .int .i64 0, .int .i64 0, .int .i64 0, .int .i64 0, .int .i64 0, .bool false, .bool false, .bool false, .bool false, .bool false, .int .i64 0, .int .i64 0, .slice none 0 0, .bool false, .bool false, .bool false, .bool false, .bool false, .bool false, .string (⟨#[]⟩ : ByteArray), .int .i64 0, .string (⟨#[]⟩ : ByteArray), .int .i64 0, .slice none 0 0, .bool false, .int .u8 0, .int .u8 0, .int .u8 0, .int .u8 0, .int .i64 0, .int .i64 0, .int .i32 0] 80 (fun _ => by kernel_rfl) ?_)
  intro b36 h37 hN38
  replace hM := newB_of hN38 hM
  refine oZ [(8, .pointer (some ⟨b36, 0, none⟩))] ?_
  refine oE (cR ?_)
  refine oZ [(26, .pointer (some ⟨b36, 0, none⟩))] ?_
  refine oG (hpCallE 53 #[.pointer (some ⟨b36, 0, none⟩)] (by kernel_rfl) (vt_Screen_reset_ok (some ⟨b36, 0, none⟩) _ h37 hM) ?_)
  clear hM
  rintro _ h39 ⟨rfl, hM⟩
  refine oE (cR ?_)
  refine oZ [(28, .pointer (some ⟨b36, 0, none⟩)), (6, .pointer (some ⟨b36, 0, none⟩)), (7, .int .i64 0)] ?_
  refine oE (cwp_ret ?_)
  exact q_at (Q := Q .ret) 6 (.pointer (some ⟨b36, 0, none⟩)) (by kernel_rfl) (q_at (Q := Q .ret) 7 (.int .i64 0) (by kernel_rfl) (hKr b36 0 _ _ hM))
def vt_New (a1 : Int) (a2 : Int) (a3 : Int) (K : Option Addr → Int → Heap → Prop) (h : Heap) : Prop :=
 if (!(vt_fits a1)) = true then
  gap h fun h4 =>
  vt_New_j0
   (fun z29 z30 z31 h32 =>
     vt_New_j1
      (fun z46 z47 h48 =>
            K (some ⟨z46, 0, none⟩) z47 h48) z29 z30 z31 h32)
   (fun z52 z53 h54 =>
       K z52 z53 h54) a1 a2 a3 (!(vt_fits a1)) h4
 else
 gap h fun h57 =>
 vt_New_j0
  (fun z59 z60 z61 h62 =>
    vt_New_j1
     (fun z63 z64 h65 =>
           K (some ⟨z63, 0, none⟩) z64 h65) z59 z60 z61 h62)
  (fun z69 z70 h71 =>
      K z69 z70 h71) a1 a2 a3 (!(vt_fits a2)) h57
theorem vt_New_ok (a1 : Int) (a2 : Int) (a3 : Int) (K : Option Addr → Int → Heap → Prop) (h : Heap) (hM : vt_New a1 a2 a3 K h) : CallsH Tryz.prog 29 #[.int .i64 a1, .int .i64 a2, .int .i64 a3] (fun v h' => ∃ (r74 : Option Addr) (r75 : Int), v = .tuple #[.pointer r74, .int .i64 r75] ∧ K r74 r75 h') h := by
 unfold vt_New at hM
 refine callsH_intro (n := 29) Tryz.func29 rfl rfl (by kernel_rfl) ?_
 refine cR ?_
 refine oZ [(6, .pointer none), (7, .int .i64 0)] ?_
 refine oE (cwp_seq (cwp_block (cwp_seq (cR ?_))))
 refine oZ [(10, .int .i64 a1)] ?_
 refine oG (hpCallP 32 #[.int .i64 a1] (.bool (vt_fits a1)) (by kernel_rfl) (vt_fits_ok a1 _ h rfl) ?_)
 intro h4 hx5
 refine oZ [(12, .bool (!(vt_fits a1))), (9, .bool (!(vt_fits a1)))] ?_
 refine oE ?_
 refine cwp_condB (!(vt_fits a1)) (by kernel_rfl) (fun hc6 => ?_) (fun hc6 => ?_)
 · replace hM := ifT hc6 hM
   refine cwp_skip (thenE_n ?_)
   replace hM := hM _ hx5
   refine cwp_of_part (fn := Tryz.f29) (p := [1, 0, 0, 1]) (by kernel_rfl) (cA 0 (.int .i64 a1) (cA 1 (.int .i64 a2) (cA 2 (.int .i64 a3) (cA 9 (.bool (!(vt_fits a1))) (vt_New_j0_ok _ ?_ _ ?_ a1 a2 a3 (!(vt_fits a1)) _ _ hM)))))
   · intro z29 z30 z31 b51 h32 hM
     refine blockE_n (thenE_n ?_)
     refine cwp_of_part (fn := Tryz.f29) (p := [1, 1]) (by kernel_rfl) (cA 0 (.int .i64 z29) (cA 1 (.int .i64 z30) (cA 2 (.int .i64 z31) (vt_New_j1_ok _ ?_ z29 z30 z31 _ _ hM))))
     · intro z46 z47 b49 h48 hM
       exact ret_ (.tuple #[.pointer (some ⟨z46, 0, none⟩), .int .i64 z47]) (by kernel_rfl) ⟨_, _, rfl, hM⟩
   · intro z52 z53 b55 h54 hM
     refine blockE_r (thenE_r ?_)
     exact ret_ (.tuple #[.pointer z52, .int .i64 z53]) (by kernel_rfl) ⟨_, _, rfl, hM⟩
 replace hM := ifF hc6 hM
 refine cwp_region ?_
 refine oZ [(13, .int .i64 a2)] ?_
 refine oG (hpCallP 32 #[.int .i64 a2] (.bool (vt_fits a2)) (by kernel_rfl) (vt_fits_ok a2 _ h4 rfl) ?_)
 intro h57 hx58
 refine oZ [(15, .bool (!(vt_fits a2))), (9, .bool (!(vt_fits a2)))] ?_
 refine oE ?_
 replace hM := hM _ (Ext.trans hx5 hx58)
 refine cwp_of_part (fn := Tryz.f29) (p := [1, 0, 0, 1]) (by kernel_rfl) (cA 0 (.int .i64 a1) (cA 1 (.int .i64 a2) (cA 2 (.int .i64 a3) (cA 9 (.bool (!(vt_fits a2))) (vt_New_j0_ok _ ?_ _ ?_ a1 a2 a3 (!(vt_fits a2)) _ _ hM)))))
 · intro z59 z60 z61 b68 h62 hM
   refine blockE_n (thenE_n ?_)
   refine cwp_of_part (fn := Tryz.f29) (p := [1, 1]) (by kernel_rfl) (cA 0 (.int .i64 z59) (cA 1 (.int .i64 z60) (cA 2 (.int .i64 z61) (vt_New_j1_ok _ ?_ z59 z60 z61 _ _ hM))))
   · intro z63 z64 b66 h65 hM
     exact ret_ (.tuple #[.pointer (some ⟨z63, 0, none⟩), .int .i64 z64]) (by kernel_rfl) ⟨_, _, rfl, hM⟩
 · intro z69 z70 b72 h71 hM
   refine blockE_r (thenE_r ?_)
   exact ret_ (.tuple #[.pointer z69, .int .i64 z70]) (by kernel_rfl) ⟨_, _, rfl, hM⟩
/- mullion/mullionref19.tabs -/
def ref19_tabs_l0 (K0 : Option Addr → Nat → Nat → Heap → Prop) : Nat → Int → Option Addr → Nat → Nat → Int → Heap → Prop
  | 0, _, _, _, _, _, _ => False
  | k + 1, y2, y3, y3n, y3c, y4, h =>
  if y4 < y2 then
   gap h fun h11 =>
   appH h11 4 1 [.bool false] y3 y3n y3c [.bool ((decide (0 < y4)) && (decide ((Int.tmod y4 8) = 0)))] 1 fun s14 s14c h13 =>
   ref19_tabs_l0 K0 k y2 s14 (y3n + 1) s14c (IntKind.wrap .i64 (y4 + 1)) h13
  else
  K0 y3 y3n y3c h
theorem ref19_tabs_l0_ok {Q : Exit → Env → Heap → Prop} (K0 : Option Addr → Nat → Nat → Heap → Prop) (hK0 : ∀ (z17 : Option Addr) (z17n : Nat) (z17c : Nat) (b : Env) (h : Heap), K0 z17 z17n z17c h → Q (.exit 0) (upd b 3 (.slice z17 z17n z17c)) h) : ∀ (k : Nat) (y2 : Int) (y3 : Option Addr) (y3n : Nat) (y3c : Nat) (y4 : Int) (b : Env) (h : Heap) (hM : ref19_tabs_l0 K0 k y2 y3 y3n y3c y4 h), lwp Tryz.prog (partC Tryz.f47 [1, 1, 0, 1, 0, 0]) 21 Q k (upd (upd (upd b 0 (.int .i64 y2)) 3 (.slice y3 y3n y3c)) 4 (.int .i64 y4)) h := by
  intro k
  induction k with
  | zero => intro y2 y3 y3n y3c y4 b h hM; exact (show False from hM).elim
  | succ k ih =>
    intro y2 y3 y3n y3c y4 b h hM
    unfold ref19_tabs_l0 at hM
    refine lwp_succ (cwp_part rfl ?_)
    refine cwp_seq (cR ?_)
    refine oZ [(5, .int .i64 y4), (6, .int .i64 y2), (7, .bool (decide (y4 < y2)))] ?_
    refine oE ?_
    refine cwp_condD (y4 < y2) (by kernel_rfl) (fun hc5 => ?_) (fun hc5 => ?_)
    · replace hM := ifT hc5 hM
      refine cwp_skip (thenE_n (cwp_seq (cwp_block (cwp_region ?_))))
      refine oZ [(10, .slice y3 y3n y3c), (11, .int .i64 y4), (12, .bool (decide (0 < y4))), (13, .bool (decide (0 < y4)))] ?_
      refine oB (decide (0 < y4)) 4 [12, 13] (fun b_ => [(14, iteV b_ (.int .i64 y4 : Value) undef), (15, iteV b_ (.int .i64 (Int.tmod y4 8) : Value) undef), (16, iteV b_ (.bool (decide ((Int.tmod y4 8) = 0)) : Value) undef), (17, .bool (b_ && (decide ((Int.tmod y4 8) = 0))))]) rfl (fun hb6 hq7 => oS [(14, .int .i64 y4), (15, .int .i64 (Int.tmod y4 8)), (16, .bool (decide ((Int.tmod y4 8) = 0))), (17, .bool (decide ((Int.tmod y4 8) = 0)))] rfl (hq7)) (fun hb8 hq9 => oS [(14, undef), (15, undef), (16, undef), (17, .bool false)] rfl (hq9)) ?_
      refine oG (hpNewS #[.bool ((decide (0 < y4)) && (decide ((Int.tmod y4 8) = 0)))] 4 1 (fun _ => by kernel_rfl) ?_)
      intro b10 h11 hN12
      replace hM := hM _ (New.ext hN12)
      refine oG (hpApp (t := 75) (ty := 75) (et := 4) (zv := .bool false) (sz := 1) (by_ := 1) (base := y3) (n' := y3n) (c := y3c) (xb := (some ⟨b10, 0, none⟩)) (m := 1) (xc := 1) (new := [.bool ((decide (0 < y4)) && (decide ((Int.tmod y4 8) = 0)))]) (fun _ => by kernel_rfl) (by kernel_rfl) (by kernel_rfl) [.bool false] rfl rfl (by decide) rfl rfl ⟨Blk.cell (New.blk hN12) 0 (by kernel_rfl), trivial⟩ hM ?_)
      clear hM
      intro s14 s14c h13 hM
      refine oZ [(3, .slice s14 (y3n + 1) s14c)] ?_
      refine owp_nil (blockE_n (thenE_n (cwp_region ?_)))
      refine oZ [(8, .int .i64 y4), (9, .int .i64 (IntKind.wrap .i64 (y4 + 1))), (4, .int .i64 (IntKind.wrap .i64 (y4 + 1)))] ?_
      refine owp_nil ?_
      exact lA 0 (.int .i64 y2) (lA 3 (.slice s14 (y3n + 1) s14c) (lA 4 (.int .i64 (IntKind.wrap .i64 (y4 + 1))) (ih y2 s14 (y3n + 1) s14c (IntKind.wrap .i64 (y4 + 1)) _ _ hM)))
    replace hM := ifF hc5 hM
    refine cwp_exit (thenE_x ?_)
    exact q_at (Q := Q (.exit 0)) 3 (.slice y3 y3n y3c) (by kernel_rfl) (hK0 y3 y3n y3c _ _ hM)
def ref19_tabs (a1 : Int) (K : Option Addr → Nat → Nat → Heap → Prop) (h : Heap) : Prop :=
 ∃ k21, ref19_tabs_l0
  (fun z18 z18n z18c h19 =>
      K z18 z18n z18c h19) k21 a1 none 0 0 0 h
theorem ref19_tabs_ok (a1 : Int) (K : Option Addr → Nat → Nat → Heap → Prop) (h : Heap) (hM : ref19_tabs a1 K h) : CallsH Tryz.prog 47 #[.int .i64 a1] (fun v h' => ∃ (r22 : Option Addr) (r22n : Nat) (r22c : Nat), v = .slice r22 r22n r22c ∧ K r22 r22n r22c h') h := by
 unfold ref19_tabs at hM
 refine callsH_intro (n := 21) Tryz.func47 rfl rfl (by kernel_rfl) ?_
 refine cR ?_
 refine oZ [(2, .slice none 0 0)] ?_
 refine oE (cR ?_)
 refine oZ [(3, .slice none 0 0)] ?_
 refine oE (cwp_seq (cR ?_))
 refine oZ [(4, .int .i64 0)] ?_
 refine oE (cwp_block ?_)
 obtain ⟨k_, hM⟩ := hM
 refine cwp_loop k_ (lwp_of_part (fn := Tryz.f47) (p := [1, 1, 0, 1, 0, 0]) (by kernel_rfl) (lA 0 (.int .i64 a1) (lA 3 (.slice none 0 0) (lA 4 (.int .i64 0) (ref19_tabs_l0_ok _ ?_ k_ a1 none 0 0 0 _ _ hM)))))
 · intro z18 z18n z18c b20 h19 hM
   refine blockE_h (thenE_n (cR ?_))
   refine oZ [(20, .slice z18 z18n z18c), (2, .slice z18 z18n z18c)] ?_
   refine oE (cwp_ret ?_)
   exact ret_ (.slice z18 z18n z18c) (by kernel_rfl) ⟨_, _, _, rfl, hM⟩
/- mullion/mullionref19.blank -/
def ref19_blank (a1 : Int) (a2 : Int) (a3 : Int) : ByteArray × Int × Int × Int × Int :=
 ((⟨#[32]⟩ : ByteArray), 1, a1, a2, a3)
theorem ref19_blank_ok (a1 : Int) (a2 : Int) (a3 : Int) (r : ByteArray × Int × Int × Int × Int) (h : Heap) (hM : ref19_blank a1 a2 a3 = r) : CallsH Tryz.prog 77 #[.agg #[.int .i64 a1, .int .i64 a2, .int .i64 a3]] (fun v h' => v = .agg #[.string r.1, .int .i64 r.2.1, .int .i64 r.2.2.1, .int .i64 r.2.2.2.1, .int .i64 r.2.2.2.2] ∧ Ext h h') h := by
 unfold ref19_blank at hM
 refine callsH_intro (n := 5) Tryz.func77 rfl rfl (by kernel_rfl) ?_
 refine cR ?_
 refine oG (hpNew #[.int .i64 a1, .int .i64 a2, .int .i64 a3] 50 (fun _ => by kernel_rfl) ?_)
 intro b4 h5 hN6
 refine oG (hpNew #[.string (⟨#[]⟩ : ByteArray), .int .i64 0, .int .i64 0, .int .i64 0, .int .i64 0] 52 (fun _ => by kernel_rfl) ?_)
 intro b7 h8 hN9
 have f10 := Blk.ext (New.blk hN6) (New.ext hN9)
 refine oE (cR ?_)
 refine owp_rdG (.agg #[.int .i64 a1, .int .i64 a2, .int .i64 a3]) rfl (by kernel_rfl) (Eq.trans (b := (cellH h8 ⟨b4, 0, none⟩).bind fun v11 => (cellH h8 ⟨b4, 1, none⟩).bind fun v12 => (cellH h8 ⟨b4, 2, none⟩).bind fun v13 => some (.value (.agg #[v11, v12, v13]))) (by kernel_rfl) ((bindE (Blk.cell f10 0 (by kernel_rfl)) _).trans ((bindE (Blk.cell f10 1 (by kernel_rfl)) _).trans (bindE (Blk.cell f10 2 (by kernel_rfl)) _)))) ?_
 refine oZ [(4, .agg #[.string (⟨#[32]⟩ : ByteArray), .int .i64 1, .int .i64 a1, .int .i64 a2, .int .i64 a3])] ?_
 refine owp_hpD rfl (by kernel_rfl) (hpStB b7 0 [.string (⟨#[32]⟩ : ByteArray), .int .i64 1, .int .i64 a1, .int .i64 a2, .int .i64 a3] (New.blk hN9) (fun _ => by kernel_rfl) rfl rfl ?_)
 intro h14 hP15
 have f17 := Put.old hP15 f10 (Ne.symm (New.ne hN9 (New.blk hN6)))
 have f16 : Blk h14 b7 #[.string (⟨#[32]⟩ : ByteArray), .int .i64 1, .int .i64 a1, .int .i64 a2, .int .i64 a3] 52 := hP15.blk
 refine oE (cwp_ret ?_)
 subst hM
 exact ret_ (.agg #[.string (⟨#[32]⟩ : ByteArray), .int .i64 1, .int .i64 a1, .int .i64 a2, .int .i64 a3]) (Eq.trans (b := (cellH h14 ⟨b7, 0, none⟩).bind fun v18 => (cellH h14 ⟨b7, 1, none⟩).bind fun v19 => (cellH h14 ⟨b7, 2, none⟩).bind fun v20 => (cellH h14 ⟨b7, 3, none⟩).bind fun v21 => (cellH h14 ⟨b7, 4, none⟩).bind fun v22 => some (.agg #[v18, v19, v20, v21, v22])) (by kernel_rfl) ((bindE (Blk.cell f16 0 (by kernel_rfl)) _).trans ((bindE (Blk.cell f16 1 (by kernel_rfl)) _).trans ((bindE (Blk.cell f16 2 (by kernel_rfl)) _).trans ((bindE (Blk.cell f16 3 (by kernel_rfl)) _).trans (bindE (Blk.cell f16 4 (by kernel_rfl)) _)))))) ⟨rfl, (Put.ext hP15 (Ext.trans (New.ext hN6) (New.ext hN9)) (New.ge hN9 (New.ext hN6)))⟩
/- mullion/mullionref19.row -/
def ref19_row_l0 (K0 : Option Addr → Nat → Nat → Heap → Prop) : Nat → Int → Nat → Option Addr → Nat → Nat → Int → Heap → Prop
  | 0, _, _, _, _, _, _, _ => False
  | k + 1, y8, y9, y10, y10n, y10c, y11, h =>
  if y11 < y8 then
   ldI h .i64 ⟨y9, 0, none⟩ fun x13 =>
   ldI h .i64 ⟨y9, 1, none⟩ fun x15 =>
   ldI h .i64 ⟨y9, 2, none⟩ fun x17 =>
   gap h fun h25 =>
   appH h25 52 48 [.string (⟨#[]⟩ : ByteArray), .int .i64 0, .int .i64 0, .int .i64 0, .int .i64 0] y10 y10n y10c [.string ((ref19_blank x13 x15 x17).1), .int .i64 ((ref19_blank x13 x15 x17).2.1), .int .i64 ((ref19_blank x13 x15 x17).2.2.1), .int .i64 ((ref19_blank x13 x15 x17).2.2.2.1), .int .i64 ((ref19_blank x13 x15 x17).2.2.2.2)] 1 fun s28 s28c h27 =>
   ref19_row_l0 K0 k y8 y9 s28 (y10n + 1) s28c (IntKind.wrap .i64 (y11 + 1)) h27
  else
  K0 y10 y10n y10c h
theorem ref19_row_l0_ok {Q : Exit → Env → Heap → Prop} (K0 : Option Addr → Nat → Nat → Heap → Prop) (hK0 : ∀ (z31 : Option Addr) (z31n : Nat) (z31c : Nat) (b : Env) (h : Heap), K0 z31 z31n z31c h → Q (.exit 0) (upd b 5 (.slice z31 z31n z31c)) h) : ∀ (k : Nat) (y8 : Int) (y9 : Nat) (y10 : Option Addr) (y10n : Nat) (y10c : Nat) (y11 : Int) (b : Env) (h : Heap) (hM : ref19_row_l0 K0 k y8 y9 y10 y10n y10c y11 h), lwp Tryz.prog (partC Tryz.f45 [1, 1, 0, 1, 0, 0]) 18 Q k (upd (upd (upd (upd b 0 (.int .i64 y8)) 3 (.pointer (some ⟨y9, 0, none⟩))) 5 (.slice y10 y10n y10c)) 6 (.int .i64 y11)) h := by
  intro k
  induction k with
  | zero => intro y8 y9 y10 y10n y10c y11 b h hM; exact (show False from hM).elim
  | succ k ih =>
    intro y8 y9 y10 y10n y10c y11 b h hM
    unfold ref19_row_l0 at hM
    refine lwp_succ (cwp_part rfl ?_)
    refine cwp_seq (cR ?_)
    refine oZ [(7, .int .i64 y11), (8, .int .i64 y8), (9, .bool (decide (y11 < y8)))] ?_
    refine oE ?_
    refine cwp_condD (y11 < y8) (by kernel_rfl) (fun hc12 => ?_) (fun hc12 => ?_)
    · replace hM := ifT hc12 hM
      refine cwp_skip (thenE_n (cwp_seq (cwp_block (cwp_region ?_))))
      refine oZ [(12, .slice y10 y10n y10c)] ?_
      obtain ⟨x13, hc14, hM⟩ := hM
      obtain ⟨x15, hc16, hM⟩ := hM
      obtain ⟨x17, hc18, hM⟩ := hM
      refine owp_rdG (.agg #[.int .i64 x13, .int .i64 x15, .int .i64 x17]) rfl (by kernel_rfl) (Eq.trans (b := (cellH h ⟨y9, 0, none⟩).bind fun v19 => (cellH h ⟨y9, 1, none⟩).bind fun v20 => (cellH h ⟨y9, 2, none⟩).bind fun v21 => some (.value (.agg #[v19, v20, v21]))) (by kernel_rfl) ((bindE hc14 _).trans ((bindE hc16 _).trans (bindE hc18 _)))) ?_
      refine oG (hpCallP 77 #[.agg #[.int .i64 x13, .int .i64 x15, .int .i64 x17]] (.agg #[.string ((ref19_blank x13 x15 x17).1), .int .i64 ((ref19_blank x13 x15 x17).2.1), .int .i64 ((ref19_blank x13 x15 x17).2.2.1), .int .i64 ((ref19_blank x13 x15 x17).2.2.2.1), .int .i64 ((ref19_blank x13 x15 x17).2.2.2.2)]) (by kernel_rfl) (ref19_blank_ok x13 x15 x17 _ h rfl) ?_)
      intro h22 hx23
      refine oG (hpNewS #[.string ((ref19_blank x13 x15 x17).1), .int .i64 ((ref19_blank x13 x15 x17).2.1), .int .i64 ((ref19_blank x13 x15 x17).2.2.1), .int .i64 ((ref19_blank x13 x15 x17).2.2.2.1), .int .i64 ((ref19_blank x13 x15 x17).2.2.2.2)] 52 1 (fun _ => by kernel_rfl) ?_)
      intro b24 h25 hN26
      replace hM := hM _ (Ext.trans hx23 (New.ext hN26))
      refine oG (hpApp (t := 34) (ty := 34) (et := 52) (zv := .agg #[.string (⟨#[]⟩ : ByteArray), .int .i64 0, .int .i64 0, .int .i64 0, .int .i64 0]) (sz := 5) (by_ := 48) (base := y10) (n' := y10n) (c := y10c) (xb := (some ⟨b24, 0, none⟩)) (m := 1) (xc := 1) (new := [.string ((ref19_blank x13 x15 x17).1), .int .i64 ((ref19_blank x13 x15 x17).2.1), .int .i64 ((ref19_blank x13 x15 x17).2.2.1), .int .i64 ((ref19_blank x13 x15 x17).2.2.2.1), .int .i64 ((ref19_blank x13 x15 x17).2.2.2.2)]) (fun _ => by kernel_rfl) (by kernel_rfl) (by kernel_rfl) [.string (⟨#[]⟩ : ByteArray), .int .i64 0, .int .i64 0, .int .i64 0, .int .i64 0] rfl rfl (by decide) rfl rfl ⟨Blk.cell (New.blk hN26) 0 (by kernel_rfl), Blk.cell (New.blk hN26) 1 (by kernel_rfl), Blk.cell (New.blk hN26) 2 (by kernel_rfl), Blk.cell (New.blk hN26) 3 (by kernel_rfl), Blk.cell (New.blk hN26) 4 (by kernel_rfl), trivial⟩ hM ?_)
      clear hM
      intro s28 s28c h27 hM
      refine oZ [(5, .slice s28 (y10n + 1) s28c)] ?_
      refine owp_nil (blockE_n (thenE_n (cwp_region ?_)))
      refine oZ [(10, .int .i64 y11), (11, .int .i64 (IntKind.wrap .i64 (y11 + 1))), (6, .int .i64 (IntKind.wrap .i64 (y11 + 1)))] ?_
      refine owp_nil ?_
      exact lA 0 (.int .i64 y8) (lA 3 (.pointer (some ⟨y9, 0, none⟩)) (lA 5 (.slice s28 (y10n + 1) s28c) (lA 6 (.int .i64 (IntKind.wrap .i64 (y11 + 1))) (ih y8 y9 s28 (y10n + 1) s28c (IntKind.wrap .i64 (y11 + 1)) _ _ hM))))
    replace hM := ifF hc12 hM
    refine cwp_exit (thenE_x ?_)
    exact q_at (Q := Q (.exit 0)) 5 (.slice y10 y10n y10c) (by kernel_rfl) (hK0 y10 y10n y10c _ _ hM)
def ref19_row (a1 : Int) (a2 : Int) (a3 : Int) (a4 : Int) (K : Option Addr → Nat → Nat → Heap → Prop) (h : Heap) : Prop :=
 newB h #[.int .i64 a2, .int .i64 a3, .int .i64 a4] 50 fun b5 h6 =>
 ∃ k35, ref19_row_l0
  (fun z32 z32n z32c h33 =>
      K z32 z32n z32c h33) k35 a1 b5 none 0 0 0 h6
theorem ref19_row_ok (a1 : Int) (a2 : Int) (a3 : Int) (a4 : Int) (K : Option Addr → Nat → Nat → Heap → Prop) (h : Heap) (hM : ref19_row a1 a2 a3 a4 K h) : CallsH Tryz.prog 45 #[.int .i64 a1, .agg #[.int .i64 a2, .int .i64 a3, .int .i64 a4]] (fun v h' => ∃ (r36 : Option Addr) (r36n : Nat) (r36c : Nat), v = .slice r36 r36n r36c ∧ K r36 r36n r36c h') h := by
 unfold ref19_row at hM
 refine callsH_intro (n := 18) Tryz.func45 rfl rfl (by kernel_rfl) ?_
 refine cR ?_
 refine oG (hpNew #[.int .i64 a2, .int .i64 a3, .int .i64 a4] 50 (fun _ => by kernel_rfl) ?_)
 intro b5 h6 hN7
 replace hM := newB_of hN7 hM
 refine oZ [(4, .slice none 0 0)] ?_
 refine oE (cR ?_)
 refine oZ [(5, .slice none 0 0)] ?_
 refine oE (cwp_seq (cR ?_))
 refine oZ [(6, .int .i64 0)] ?_
 refine oE (cwp_block ?_)
 obtain ⟨k_, hM⟩ := hM
 refine cwp_loop k_ (lwp_of_part (fn := Tryz.f45) (p := [1, 1, 0, 1, 0, 0]) (by kernel_rfl) (lA 0 (.int .i64 a1) (lA 3 (.pointer (some ⟨b5, 0, none⟩)) (lA 5 (.slice none 0 0) (lA 6 (.int .i64 0) (ref19_row_l0_ok _ ?_ k_ a1 b5 none 0 0 0 _ _ hM))))))
 · intro z32 z32n z32c b34 h33 hM
   refine blockE_h (thenE_n (cR ?_))
   refine oZ [(17, .slice z32 z32n z32c), (4, .slice z32 z32n z32c)] ?_
   refine oE (cwp_ret ?_)
   exact ret_ (.slice z32 z32n z32c) (by kernel_rfl) ⟨_, _, _, rfl, hM⟩
/- mullion/mullionref19.rows -/
def ref19_rows_l0 (K0 : Option Addr → Nat → Nat → Heap → Prop) : Nat → Int → Int → Nat → Option Addr → Nat → Nat → Int → Heap → Prop
  | 0, _, _, _, _, _, _, _, _ => False
  | k + 1, y9, y10, y11, y12, y12n, y12c, y13, h =>
  if y13 < y10 then
   ldI h .i64 ⟨y11, 0, none⟩ fun x15 =>
   ldI h .i64 ⟨y11, 1, none⟩ fun x17 =>
   ldI h .i64 ⟨y11, 2, none⟩ fun x19 =>
   ref19_row y9 x15 x17 x19 (fun x25 x25n x25c h24 =>
    gap h24 fun h27 =>
    appH h27 34 24 [.slice none 0 0] y12 y12n y12c [.slice x25 x25n x25c] 1 fun s30 s30c h29 =>
     ref19_rows_l0 K0 k y9 y10 y11 s30 (y12n + 1) s30c (IntKind.wrap .i64 (y13 + 1)) h29) h
  else
  K0 y12 y12n y12c h
theorem ref19_rows_l0_ok {Q : Exit → Env → Heap → Prop} (K0 : Option Addr → Nat → Nat → Heap → Prop) (hK0 : ∀ (z33 : Option Addr) (z33n : Nat) (z33c : Nat) (b : Env) (h : Heap), K0 z33 z33n z33c h → Q (.exit 0) (upd b 7 (.slice z33 z33n z33c)) h) : ∀ (k : Nat) (y9 : Int) (y10 : Int) (y11 : Nat) (y12 : Option Addr) (y12n : Nat) (y12c : Nat) (y13 : Int) (b : Env) (h : Heap) (hM : ref19_rows_l0 K0 k y9 y10 y11 y12 y12n y12c y13 h), lwp Tryz.prog (partC Tryz.f81 [1, 1, 0, 1, 0, 0]) 21 Q k (upd (upd (upd (upd (upd b 0 (.int .i64 y9)) 1 (.int .i64 y10)) 5 (.pointer (some ⟨y11, 0, none⟩))) 7 (.slice y12 y12n y12c)) 8 (.int .i64 y13)) h := by
  intro k
  induction k with
  | zero => intro y9 y10 y11 y12 y12n y12c y13 b h hM; exact (show False from hM).elim
  | succ k ih =>
    intro y9 y10 y11 y12 y12n y12c y13 b h hM
    unfold ref19_rows_l0 at hM
    refine lwp_succ (cwp_part rfl ?_)
    refine cwp_seq (cR ?_)
    refine oZ [(9, .int .i64 y13), (10, .int .i64 y10), (11, .bool (decide (y13 < y10)))] ?_
    refine oE ?_
    refine cwp_condD (y13 < y10) (by kernel_rfl) (fun hc14 => ?_) (fun hc14 => ?_)
    · replace hM := ifT hc14 hM
      refine cwp_skip (thenE_n (cwp_seq (cwp_block (cwp_region ?_))))
      refine oZ [(14, .slice y12 y12n y12c), (15, .int .i64 y9)] ?_
      obtain ⟨x15, hc16, hM⟩ := hM
      obtain ⟨x17, hc18, hM⟩ := hM
      obtain ⟨x19, hc20, hM⟩ := hM
      refine owp_rdG (.agg #[.int .i64 x15, .int .i64 x17, .int .i64 x19]) rfl (by kernel_rfl) (Eq.trans (b := (cellH h ⟨y11, 0, none⟩).bind fun v21 => (cellH h ⟨y11, 1, none⟩).bind fun v22 => (cellH h ⟨y11, 2, none⟩).bind fun v23 => some (.value (.agg #[v21, v22, v23]))) (by kernel_rfl) ((bindE hc16 _).trans ((bindE hc18 _).trans (bindE hc20 _)))) ?_
      refine oG (hpCallE 45 #[.int .i64 y9, .agg #[.int .i64 x15, .int .i64 x17, .int .i64 x19]] (by kernel_rfl) (ref19_row_ok y9 x15 x17 x19 _ h hM) ?_)
      clear hM
      rintro _ h24 ⟨x25, x25n, x25c, rfl, hM⟩
      refine oG (hpNewS #[.slice x25 x25n x25c] 34 1 (fun _ => by kernel_rfl) ?_)
      intro b26 h27 hN28
      replace hM := hM _ (New.ext hN28)
      refine oG (hpApp (t := 90) (ty := 90) (et := 34) (zv := .slice none 0 0) (sz := 1) (by_ := 24) (base := y12) (n' := y12n) (c := y12c) (xb := (some ⟨b26, 0, none⟩)) (m := 1) (xc := 1) (new := [.slice x25 x25n x25c]) (fun _ => by kernel_rfl) (by kernel_rfl) (by kernel_rfl) [.slice none 0 0] rfl rfl (by decide) rfl rfl ⟨Blk.cell (New.blk hN28) 0 (by kernel_rfl), trivial⟩ hM ?_)
      clear hM
      intro s30 s30c h29 hM
      refine oZ [(7, .slice s30 (y12n + 1) s30c)] ?_
      refine owp_nil (blockE_n (thenE_n (cwp_region ?_)))
      refine oZ [(12, .int .i64 y13), (13, .int .i64 (IntKind.wrap .i64 (y13 + 1))), (8, .int .i64 (IntKind.wrap .i64 (y13 + 1)))] ?_
      refine owp_nil ?_
      exact lA 0 (.int .i64 y9) (lA 1 (.int .i64 y10) (lA 5 (.pointer (some ⟨y11, 0, none⟩)) (lA 7 (.slice s30 (y12n + 1) s30c) (lA 8 (.int .i64 (IntKind.wrap .i64 (y13 + 1))) (ih y9 y10 y11 s30 (y12n + 1) s30c (IntKind.wrap .i64 (y13 + 1)) _ _ hM)))))
    replace hM := ifF hc14 hM
    refine cwp_exit (thenE_x ?_)
    exact q_at (Q := Q (.exit 0)) 7 (.slice y12 y12n y12c) (by kernel_rfl) (hK0 y12 y12n y12c _ _ hM)
def ref19_rows (a1 : Int) (a2 : Int) (a3 : Int) (a4 : Int) (a5 : Int) (K : Option Addr → Nat → Nat → Heap → Prop) (h : Heap) : Prop :=
 newB h #[.int .i64 a3, .int .i64 a4, .int .i64 a5] 50 fun b6 h7 =>
 ∃ k37, ref19_rows_l0
  (fun z34 z34n z34c h35 =>
      K z34 z34n z34c h35) k37 a1 a2 b6 none 0 0 0 h7
theorem ref19_rows_ok (a1 : Int) (a2 : Int) (a3 : Int) (a4 : Int) (a5 : Int) (K : Option Addr → Nat → Nat → Heap → Prop) (h : Heap) (hM : ref19_rows a1 a2 a3 a4 a5 K h) : CallsH Tryz.prog 81 #[.int .i64 a1, .int .i64 a2, .agg #[.int .i64 a3, .int .i64 a4, .int .i64 a5]] (fun v h' => ∃ (r38 : Option Addr) (r38n : Nat) (r38c : Nat), v = .slice r38 r38n r38c ∧ K r38 r38n r38c h') h := by
 unfold ref19_rows at hM
 refine callsH_intro (n := 21) Tryz.func81 rfl rfl (by kernel_rfl) ?_
 refine cR ?_
 refine oG (hpNew #[.int .i64 a3, .int .i64 a4, .int .i64 a5] 50 (fun _ => by kernel_rfl) ?_)
 intro b6 h7 hN8
 replace hM := newB_of hN8 hM
 refine oZ [(6, .slice none 0 0)] ?_
 refine oE (cR ?_)
 refine oZ [(7, .slice none 0 0)] ?_
 refine oE (cwp_seq (cR ?_))
 refine oZ [(8, .int .i64 0)] ?_
 refine oE (cwp_block ?_)
 obtain ⟨k_, hM⟩ := hM
 refine cwp_loop k_ (lwp_of_part (fn := Tryz.f81) (p := [1, 1, 0, 1, 0, 0]) (by kernel_rfl) (lA 0 (.int .i64 a1) (lA 1 (.int .i64 a2) (lA 5 (.pointer (some ⟨b6, 0, none⟩)) (lA 7 (.slice none 0 0) (lA 8 (.int .i64 0) (ref19_rows_l0_ok _ ?_ k_ a1 a2 b6 none 0 0 0 _ _ hM)))))))
 · intro z34 z34n z34c b36 h35 hM
   refine blockE_h (thenE_n (cR ?_))
   refine oZ [(20, .slice z34 z34n z34c), (6, .slice z34 z34n z34c)] ?_
   refine oE (cwp_ret ?_)
   exact ret_ (.slice z34 z34n z34c) (by kernel_rfl) ⟨_, _, _, rfl, hM⟩
/- (*mullion/mullionref19.Screen).reset -/
def ref19_Screen_reset (a1 : Option Addr) (K : Heap → Prop) (h : Heap) : Prop :=
 nz a1 fun p2 =>
 ldI h .i64 p2 fun x3 =>
 ldI h .i64 (p2.add 1) fun x7 =>
 ldI h .i64 (p2.add 2) fun x11 =>
 ldL h (p2.add 6) fun x15 x15n x15c =>
 ldS h (p2.add 49) fun x19 =>
 ldI h .i64 (p2.add 50) fun x23 =>
 newB h #[.int .i64 0, .int .i64 0, .int .i64 0, .slice none 0 0, .slice none 0 0, .bool false, .slice none 0 0, .int .i64 0, .int .i64 0, .bool false, .int .i64 0, .int .i64 0, .int .i64 0, .int .i64 0, .int .i64 0, .bool false, .bool false, .bool false, .bool false, .bool false, .bool false, .bool false, .slice none 0 0, .bool false, .bool false, .int .i64 0, .bool false, .int .i64 0, .int .i64 0, .int .i64 0, .int .i64 0, .int .i64 0, .bool false, .bool false, .bool false, .int .i64 0, .bool false, .bool false, .int .i64 0, .int .i64 0, .int .i64 0, .int .i64 0, .int .i64 0, .bool false, .bool false, .bool false, .int .i64 0, .bool false, .string (⟨#[]⟩ : ByteArray), .string (⟨#[]⟩ : ByteArray), .int .i64 0, .int .i32 0, .int .i64 0, .string (⟨#[]⟩ : ByteArray), .bool false] 95 fun b27 h28 =>
 (cellH h28 (p2.add 50) = some (.int .i64 x23) ∧ cellH h28 (p2.add 49) = some (.string x19) ∧ cellH h28 (p2.add 6) = some (.slice x15 x15n x15c) ∧ cellH h28 (p2.add 2) = some (.int .i64 x11) ∧ cellH h28 (p2.add 1) = some (.int .i64 x7) ∧ cellH h28 p2 = some (.int .i64 x3)) ∧
 stN ⟨b27, 0, none⟩ (.int .i64 x3 :: .int .i64 x7 :: .int .i64 x11 :: .slice none 0 0 :: .slice none 0 0 :: .bool false :: .slice x15 x15n x15c :: .int .i64 0 :: .int .i64 0 :: .bool false :: .int .i64 0 :: .int .i64 0 :: .int .i64 0 :: .int .i64 0 :: .int .i64 0 :: .bool false :: .bool false :: .bool false :: .bool false :: .bool false :: .bool false :: .bool false :: .slice none 0 0 :: .bool false :: .bool false :: .int .i64 0 :: .bool false :: .int .i64 0 :: .int .i64 0 :: .int .i64 0 :: .int .i64 0 :: .int .i64 0 :: .bool false :: .bool false :: .bool false :: .int .i64 0 :: .bool false :: .bool false :: .int .i64 0 :: .int .i64 0 :: .int .i64 0 :: .int .i64 0 :: .int .i64 0 :: .bool false :: .bool false :: .bool false :: .int .i64 0 :: .bool false :: .string (⟨#[]⟩ : ByteArray) :: .string x19 :: .int .i64 x23 :: .int .i32 0 :: .int .i64 0 :: .string (⟨#[]⟩ : ByteArray) :: .bool false :: []) 0 h28 fun h36 =>
 ldI h36 .i64 p2 fun x37 =>
 ldI h36 .i64 (p2.add 1) fun x41 =>
 ref19_rows x37 x41 0 0 0 (fun x46 x46n x46c h45 =>
  stN ⟨b27, 3, none⟩ [.slice x46 x46n x46c] 0 h45 fun h47 =>
  ldI h47 .i64 p2 fun x48 =>
  ref19_tabs x48 (fun x52 x52n x52c h51 =>
   stN ⟨b27, 22, none⟩ [.slice x52 x52n x52c] 0 h51 fun h53 =>
   ldI h53 .i64 (p2.add 1) fun x54 =>
   stN ⟨b27, 14, none⟩ [.int .i64 (IntKind.wrap .i64 (x54 - 1))] 0 h53 fun h57 =>
   stN ⟨b27, 18, none⟩ [.bool true] 0 h57 fun h58 =>
   ldI h58 .i64 ⟨b27, 0, none⟩ fun x59 =>
   ldI h58 .i64 ⟨b27, 1, none⟩ fun x61 =>
   ldI h58 .i64 ⟨b27, 2, none⟩ fun x63 =>
   ldL h58 ⟨b27, 3, none⟩ fun x65 x65n x65c =>
   ldL h58 ⟨b27, 4, none⟩ fun x67 x67n x67c =>
   ldB h58 ⟨b27, 5, none⟩ fun x69 =>
   ldL h58 ⟨b27, 6, none⟩ fun x71 x71n x71c =>
   ldI h58 .i64 ⟨b27, 7, none⟩ fun x73 =>
   ldI h58 .i64 ⟨b27, 8, none⟩ fun x75 =>
   ldB h58 ⟨b27, 9, none⟩ fun x77 =>
   ldI h58 .i64 ⟨b27, 10, none⟩ fun x79 =>
   ldI h58 .i64 ⟨b27, 11, none⟩ fun x81 =>
   ldI h58 .i64 ⟨b27, 12, none⟩ fun x83 =>
   ldI h58 .i64 ⟨b27, 13, none⟩ fun x85 =>
   ldI h58 .i64 ⟨b27, 14, none⟩ fun x87 =>
   ldB h58 ⟨b27, 15, none⟩ fun x89 =>
   ldB h58 ⟨b27, 16, none⟩ fun x91 =>
   ldB h58 ⟨b27, 17, none⟩ fun x93 =>
   ldB h58 ⟨b27, 18, none⟩ fun x95 =>
   ldB h58 ⟨b27, 19, none⟩ fun x97 =>
   ldB h58 ⟨b27, 20, none⟩ fun x99 =>
   ldB h58 ⟨b27, 21, none⟩ fun x101 =>
   ldL h58 ⟨b27, 22, none⟩ fun x103 x103n x103c =>
   ldB h58 ⟨b27, 23, none⟩ fun x105 =>
   ldB h58 ⟨b27, 24, none⟩ fun x107 =>
   ldI h58 .i64 ⟨b27, 25, none⟩ fun x109 =>
   ldB h58 ⟨b27, 26, none⟩ fun x111 =>
   ldI h58 .i64 ⟨b27, 27, none⟩ fun x113 =>
   ldI h58 .i64 ⟨b27, 28, none⟩ fun x115 =>
   ldI h58 .i64 ⟨b27, 29, none⟩ fun x117 =>
   ldI h58 .i64 ⟨b27, 30, none⟩ fun x119 =>
   ldI h58 .i64 ⟨b27, 31, none⟩ fun x121 =>
   ldB h58 ⟨b27, 32, none⟩ fun x123 =>
   ldB h58 ⟨b27, 33, none⟩ fun x125 =>
   ldB h58 ⟨b27, 34, none⟩ fun x127 =>
   ldI h58 .i64 ⟨b27, 35, none⟩ fun x129 =>
   ldB h58 ⟨b27, 36, none⟩ fun x131 =>
   ldB h58 ⟨b27, 37, none⟩ fun x133 =>
   ldI h58 .i64 ⟨b27, 38, none⟩ fun x135 =>
   ldI h58 .i64 ⟨b27, 39, none⟩ fun x137 =>
   ldI h58 .i64 ⟨b27, 40, none⟩ fun x139 =>
   ldI h58 .i64 ⟨b27, 41, none⟩ fun x141 =>
   ldI h58 .i64 ⟨b27, 42, none⟩ fun x143 =>
   ldB h58 ⟨b27, 43, none⟩ fun x145 =>
   ldB h58 ⟨b27, 44, none⟩ fun x147 =>
   ldB h58 ⟨b27, 45, none⟩ fun x149 =>
   ldI h58 .i64 ⟨b27, 46, none⟩ fun x151 =>
   ldB h58 ⟨b27, 47, none⟩ fun x153 =>
   ldS h58 ⟨b27, 48, none⟩ fun x155 =>
   ldS h58 ⟨b27, 49, none⟩ fun x157 =>
   ldI h58 .i64 ⟨b27, 50, none⟩ fun x159 =>
   ldI h58 .i32 ⟨b27, 51, none⟩ fun x161 =>
   ldI h58 .i64 ⟨b27, 52, none⟩ fun x163 =>
   ldS h58 ⟨b27, 53, none⟩ fun x165 =>
   ldB h58 ⟨b27, 54, none⟩ fun x167 =>
   stN p2 (.int .i64 x59 :: .int .i64 x61 :: .int .i64 x63 :: .slice x65 x65n x65c :: .slice x67 x67n x67c :: .bool x69 :: .slice x71 x71n x71c :: .int .i64 x73 :: .int .i64 x75 :: .bool x77 :: .int .i64 x79 :: .int .i64 x81 :: .int .i64 x83 :: .int .i64 x85 :: .int .i64 x87 :: .bool x89 :: .bool x91 :: .bool x93 :: .bool x95 :: .bool x97 :: .bool x99 :: .bool x101 :: .slice x103 x103n x103c :: .bool x105 :: .bool x107 :: .int .i64 x109 :: .bool x111 :: .int .i64 x113 :: .int .i64 x115 :: .int .i64 x117 :: .int .i64 x119 :: .int .i64 x121 :: .bool x123 :: .bool x125 :: .bool x127 :: .int .i64 x129 :: .bool x131 :: .bool x133 :: .int .i64 x135 :: .int .i64 x137 :: .int .i64 x139 :: .int .i64 x141 :: .int .i64 x143 :: .bool x145 :: .bool x147 :: .bool x149 :: .int .i64 x151 :: .bool x153 :: .string x155 :: .string x157 :: .int .i64 x159 :: .int .i32 x161 :: .int .i64 x163 :: .string x165 :: .bool x167 :: []) 0 h58 fun h169 =>
     K h169) h47) h36
theorem ref19_Screen_reset_ok (a1 : Option Addr) (K : Heap → Prop) (h : Heap) (hM : ref19_Screen_reset a1 K h) : CallsH Tryz.prog 54 #[.pointer a1] (fun v h' => v = .tuple #[] ∧ K h') h := by
 unfold ref19_Screen_reset at hM
 refine callsH_intro (n := 55) Tryz.func54 rfl rfl (by kernel_rfl) ?_
 refine cwp_seq ?_
 refine cwp_draw (by kernel_rfl) ?_
 refine kq 0 (.pointer a1) ?_
 obtain ⟨p2, rfl, hM⟩ := hM
 refine kq 1 (.pointer (some p2)) ?_
 refine kq 2 (.pointer (some p2)) ?_
 obtain ⟨x3, hc4, hM⟩ := hM
 refine kl 3 (.int .i64 x3) p2 [24, 26] [26] hc4 ?_
 refine kq 4 (.pointer (some p2)) ?_
 refine kq 5 (.pointer (some p2)) ?_
 refine kq 6 (.pointer (some (p2.add 1))) ?_
 obtain ⟨x7, hc8, hM⟩ := hM
 refine kl 7 (.int .i64 x7) (p2.add 1) [24, 26] [26] hc8 ?_
 refine kq 8 (.pointer (some p2)) ?_
 refine kq 9 (.pointer (some p2)) ?_
 refine kq 10 (.pointer (some (p2.add 2))) ?_
 obtain ⟨x11, hc12, hM⟩ := hM
 refine kl 11 (.int .i64 x11) (p2.add 2) [24, 26] [26] hc12 ?_
 refine kq 12 (.pointer (some p2)) ?_
 refine kq 13 (.pointer (some p2)) ?_
 refine kq 14 (.pointer (some (p2.add 6))) ?_
 obtain ⟨x15, x15n, x15c, hc16, hM⟩ := hM
 refine kl 15 (.slice x15 x15n x15c) (p2.add 6) [24, 26] [26] hc16 ?_
 refine kq 16 (.pointer (some p2)) ?_
 refine kq 17 (.pointer (some p2)) ?_
 refine kq 18 (.pointer (some (p2.add 49))) ?_
 obtain ⟨x19, hc20, hM⟩ := hM
 refine kl 19 (.string x19) (p2.add 49) [24, 26] [26] hc20 ?_
 refine kq 20 (.pointer (some p2)) ?_
 refine kq 21 (.pointer (some p2)) ?_
 refine kq 22 (.pointer (some (p2.add 50))) ?_
 obtain ⟨x23, hc24, hM⟩ := hM
 refine kl 23 (.int .i64 x23) (p2.add 50) [24, 26] [26] hc24 ?_
 refine kq 24 (.agg #[.int .i64 x3, .int .i64 x7, .int .i64 x11, .slice none 0 0, .slice none 0 0, .bool false, .slice x15 x15n x15c, .int .i64 0, .int .i64 0, .bool false, .int .i64 0, .int .i64 0, .int .i64 0, .int .i64 0, .int .i64 0, .bool false, .bool false, .bool false, .bool false, .bool false, .bool false, .bool false, .slice none 0 0, .bool false, .bool false, .int .i64 0, .bool false, .int .i64 0, .int .i64 0, .int .i64 0, .int .i64 0, .int .i64 0, .bool false, .bool false, .bool false, .int .i64 0, .bool false, .bool false, .int .i64 0, .int .i64 0, .int .i64 0, .int .i64 0, .int .i64 0, .bool false, .bool false, .bool false, .int .i64 0, .bool false, .string (⟨#[]⟩ : ByteArray), .string x19, .int .i64 x23, .int .i32 0, .int .i64 0, .string (⟨#[]⟩ : ByteArray), .bool false]) ?_
 refine kE 25 (hpNew #[.int .i64 0, .int .i64 0, .int .i64 0, .slice none 0 0, .slice none 0 0, .bool false, .slice none 0 0, .int .i64 0, .int .i64 0, .bool false, .int .i64 0, .int .i64 0, .int .i64 0, .int .i64 0, .int .i64 0, .bool false, .bool false, .bool false, .bool false, .bool false, .bool false, .bool false, .slice none 0 0, .bool false, .bool false, .int .i64 0, .bool false, .int .i64 0, .int .i64 0, .int .i64 0, .int .i64 0, .int .i64 0, .bool false, .bool false, .bool false, .int .i64 0, .bool false, .bool false, .int .i64 0, .int .i64 0, .int .i64 0, .int .i64 0, .int .i64 0, .bool false, .bool false, .bool false, .int .i64 0, .bool false, .string (⟨#[]⟩ : ByteArray), .string (⟨#[]⟩ : ByteArray), .int .i64 0, .int .i32 0, .int .i64 0, .string (⟨#[]⟩ : ByteArray), .bool false] 95 (fun _ => by kernel_rfl) ?_)
 intro b27 h28 hN29
 replace hM := newB_of hN29 hM
 obtain ⟨⟨hk30, hk31, hk32, hk33, hk34, hk35⟩, hM⟩ := hM
 refine ⟨⟨⟨hk30, trivial⟩, ⟨hk31, trivial⟩, ⟨hk32, trivial⟩, ⟨hk33, trivial⟩, ⟨hk34, trivial⟩, ⟨hk35, trivial⟩, trivial⟩, ?_⟩
 refine kD 26 (hpSt ⟨b27, 0, none⟩ (.int .i64 x3 :: .int .i64 x7 :: .int .i64 x11 :: .slice none 0 0 :: .slice none 0 0 :: .bool false :: .slice x15 x15n x15c :: .int .i64 0 :: .int .i64 0 :: .bool false :: .int .i64 0 :: .int .i64 0 :: .int .i64 0 :: .int .i64 0 :: .int .i64 0 :: .bool false :: .bool false :: .bool false :: .bool false :: .bool false :: .bool false :: .bool false :: .slice none 0 0 :: .bool false :: .bool false :: .int .i64 0 :: .bool false :: .int .i64 0 :: .int .i64 0 :: .int .i64 0 :: .int .i64 0 :: .int .i64 0 :: .bool false :: .bool false :: .bool false :: .int .i64 0 :: .bool false :: .bool false :: .int .i64 0 :: .int .i64 0 :: .int .i64 0 :: .int .i64 0 :: .int .i64 0 :: .bool false :: .bool false :: .bool false :: .int .i64 0 :: .bool false :: .string (⟨#[]⟩ : ByteArray) :: .string x19 :: .int .i64 x23 :: .int .i32 0 :: .int .i64 0 :: .string (⟨#[]⟩ : ByteArray) :: .bool false :: []) (fun _ => by kernel_rfl) (by kernel_rfl) hM ?_)
 clear hM
 intro h36 hM
 refine ⟨trivial, ?_⟩
 refine k_done (by kernel_rfl) ?_
 refine thenE_n (cwp_seq ?_)
 refine cwp_draw (by kernel_rfl) ?_
 refine kq 0 (.pointer (some p2)) ?_
 refine kq 1 (.pointer (some p2)) ?_
 refine kq 2 (.pointer (some p2)) ?_
 obtain ⟨x37, hc38, hM⟩ := hM
 refine kl 3 (.int .i64 x37) p2 [9, 10, 11] [9, 11] hc38 ?_
 refine kq 4 (.pointer (some p2)) ?_
 refine kq 5 (.pointer (some p2)) ?_
 refine kq 6 (.pointer (some (p2.add 1))) ?_
 obtain ⟨x41, hc42, hM⟩ := hM
 refine kl 7 (.int .i64 x41) (p2.add 1) [9, 10, 11] [9, 11] hc42 ?_
 refine kq 8 (.agg #[.int .i64 0, .int .i64 0, .int .i64 0]) ?_
 refine kE 9 (hpCallE 81 #[.int .i64 x37, .int .i64 x41, .agg #[.int .i64 0, .int .i64 0, .int .i64 0]] (by kernel_rfl) (ref19_rows_ok x37 x41 0 0 0 _ h36 hM) ?_)
 clear hM
 rintro _ h45 ⟨x46, x46n, x46c, rfl, hM⟩
 refine ⟨trivial, ?_⟩
 refine kq 10 (.pointer (some ⟨b27, 3, none⟩)) ?_
 refine kD 11 (hpSt ⟨b27, 3, none⟩ [.slice x46 x46n x46c] (fun _ => by kernel_rfl) (by kernel_rfl) hM ?_)
 clear hM
 intro h47 hM
 refine ⟨trivial, ?_⟩
 refine k_done (by kernel_rfl) ?_
 refine thenE_n (cR ?_)
 refine oZ [(39, .pointer (some p2)), (40, .pointer (some p2)), (41, .pointer (some p2))] ?_
 obtain ⟨x48, hc49, hM⟩ := hM
 refine oL (.int .i64 x48) p2 hc49 ?_
 refine oG (hpCallE 47 #[.int .i64 x48] (by kernel_rfl) (ref19_tabs_ok x48 _ h47 hM) ?_)
 clear hM
 rintro _ h51 ⟨x52, x52n, x52c, rfl, hM⟩
 refine oZ [(44, .pointer (some ⟨b27, 22, none⟩))] ?_
 refine oT ⟨b27, 22, none⟩ [.slice x52 x52n x52c] hM ?_
 clear hM
 intro h53 hM
 refine oE (cR ?_)
 refine oZ [(45, .pointer (some p2)), (46, .pointer (some p2)), (47, .pointer (some (p2.add 1)))] ?_
 obtain ⟨x54, hc55, hM⟩ := hM
 refine oL (.int .i64 x54) (p2.add 1) hc55 ?_
 refine oZ [(49, .int .i64 (IntKind.wrap .i64 (x54 - 1))), (50, .pointer (some ⟨b27, 14, none⟩))] ?_
 refine oT ⟨b27, 14, none⟩ [.int .i64 (IntKind.wrap .i64 (x54 - 1))] hM ?_
 clear hM
 intro h57 hM
 refine oE (cR ?_)
 refine oZ [(51, .pointer (some ⟨b27, 18, none⟩))] ?_
 refine oT ⟨b27, 18, none⟩ [.bool true] hM ?_
 clear hM
 intro h58 hM
 refine oE (cwp_region ?_)
 refine oZ [(52, .pointer (some p2))] ?_
 obtain ⟨x59, hc60, hM⟩ := hM
 obtain ⟨x61, hc62, hM⟩ := hM
 obtain ⟨x63, hc64, hM⟩ := hM
 obtain ⟨x65, x65n, x65c, hc66, hM⟩ := hM
 obtain ⟨x67, x67n, x67c, hc68, hM⟩ := hM
 obtain ⟨x69, hc70, hM⟩ := hM
 obtain ⟨x71, x71n, x71c, hc72, hM⟩ := hM
 obtain ⟨x73, hc74, hM⟩ := hM
 obtain ⟨x75, hc76, hM⟩ := hM
 obtain ⟨x77, hc78, hM⟩ := hM
 obtain ⟨x79, hc80, hM⟩ := hM
 obtain ⟨x81, hc82, hM⟩ := hM
 obtain ⟨x83, hc84, hM⟩ := hM
 obtain ⟨x85, hc86, hM⟩ := hM
 obtain ⟨x87, hc88, hM⟩ := hM
 obtain ⟨x89, hc90, hM⟩ := hM
 obtain ⟨x91, hc92, hM⟩ := hM
 obtain ⟨x93, hc94, hM⟩ := hM
 obtain ⟨x95, hc96, hM⟩ := hM
 obtain ⟨x97, hc98, hM⟩ := hM
 obtain ⟨x99, hc100, hM⟩ := hM
 obtain ⟨x101, hc102, hM⟩ := hM
 obtain ⟨x103, x103n, x103c, hc104, hM⟩ := hM
 obtain ⟨x105, hc106, hM⟩ := hM
 obtain ⟨x107, hc108, hM⟩ := hM
 obtain ⟨x109, hc110, hM⟩ := hM
 obtain ⟨x111, hc112, hM⟩ := hM
 obtain ⟨x113, hc114, hM⟩ := hM
 obtain ⟨x115, hc116, hM⟩ := hM
 obtain ⟨x117, hc118, hM⟩ := hM
 obtain ⟨x119, hc120, hM⟩ := hM
 obtain ⟨x121, hc122, hM⟩ := hM
 obtain ⟨x123, hc124, hM⟩ := hM
 obtain ⟨x125, hc126, hM⟩ := hM
 obtain ⟨x127, hc128, hM⟩ := hM
 obtain ⟨x129, hc130, hM⟩ := hM
 obtain ⟨x131, hc132, hM⟩ := hM
 obtain ⟨x133, hc134, hM⟩ := hM
 obtain ⟨x135, hc136, hM⟩ := hM
 obtain ⟨x137, hc138, hM⟩ := hM
 obtain ⟨x139, hc140, hM⟩ := hM
 obtain ⟨x141, hc142, hM⟩ := hM
 obtain ⟨x143, hc144, hM⟩ := hM
 obtain ⟨x145, hc146, hM⟩ := hM
 obtain ⟨x147, hc148, hM⟩ := hM
 obtain ⟨x149, hc150, hM⟩ := hM
 obtain ⟨x151, hc152, hM⟩ := hM
 obtain ⟨x153, hc154, hM⟩ := hM
 obtain ⟨x155, hc156, hM⟩ := hM
 obtain ⟨x157, hc158, hM⟩ := hM
 obtain ⟨x159, hc160, hM⟩ := hM
 obtain ⟨x161, hc162, hM⟩ := hM
 obtain ⟨x163, hc164, hM⟩ := hM
 obtain ⟨x165, hc166, hM⟩ := hM
 obtain ⟨x167, hc168, hM⟩ := hM
 refine owp_rdG (.agg #[.int .i64 x59, .int .i64 x61, .int .i64 x63, .slice x65 x65n x65c, .slice x67 x67n x67c, .bool x69, .slice x71 x71n x71c, .int .i64 x73, .int .i64 x75, .bool x77, .int .i64 x79, .int .i64 x81, .int .i64 x83, .int .i64 x85, .int .i64 x87, .bool x89, .bool x91, .bool x93, .bool x95, .bool x97, .bool x99, .bool x101, .slice x103 x103n x103c, .bool x105, .bool x107, .int .i64 x109, .bool x111, .int .i64 x113, .int .i64 x115, .int .i64 x117, .int .i64 x119, .int .i64 x121, .bool x123, .bool x125, .bool x127, .int .i64 x129, .bool x131, .bool x133, .int .i64 x135, .int .i64 x137, .int .i64 x139, .int .i64 x141, .int .i64 x143, .bool x145, .bool x147, .bool x149, .int .i64 x151, .bool x153, .string x155, .string x157, .int .i64 x159, .int .i32 x161, .int .i64 x163, .string x165, .bool x167]) rfl (by kernel_rfl) (rd_loadStr (P := Tryz.prog) (h := h58) (t := 95) (a := ⟨b27, 0, none⟩) (.int .i64 x59 :: .int .i64 x61 :: .int .i64 x63 :: .slice x65 x65n x65c :: .slice x67 x67n x67c :: .bool x69 :: .slice x71 x71n x71c :: .int .i64 x73 :: .int .i64 x75 :: .bool x77 :: .int .i64 x79 :: .int .i64 x81 :: .int .i64 x83 :: .int .i64 x85 :: .int .i64 x87 :: .bool x89 :: .bool x91 :: .bool x93 :: .bool x95 :: .bool x97 :: .bool x99 :: .bool x101 :: .slice x103 x103n x103c :: .bool x105 :: .bool x107 :: .int .i64 x109 :: .bool x111 :: .int .i64 x113 :: .int .i64 x115 :: .int .i64 x117 :: .int .i64 x119 :: .int .i64 x121 :: .bool x123 :: .bool x125 :: .bool x127 :: .int .i64 x129 :: .bool x131 :: .bool x133 :: .int .i64 x135 :: .int .i64 x137 :: .int .i64 x139 :: .int .i64 x141 :: .int .i64 x143 :: .bool x145 :: .bool x147 :: .bool x149 :: .int .i64 x151 :: .bool x153 :: .string x155 :: .string x157 :: .int .i64 x159 :: .int .i32 x161 :: .int .i64 x163 :: .string x165 :: .bool x167 :: []) Tryz.underlying95 (by kernel_rfl) (cN 0 hc60 (cN 1 hc62 (cN 2 hc64 (cN 3 hc66 (cN 4 hc68 (cN 5 hc70 (cN 6 hc72 (cN 7 hc74 (cN 8 hc76 (cN 9 hc78 (cN 10 hc80 (cN 11 hc82 (cN 12 hc84 (cN 13 hc86 (cN 14 hc88 (cN 15 hc90 (cN 16 hc92 (cN 17 hc94 (cN 18 hc96 (cN 19 hc98 (cN 20 hc100 (cN 21 hc102 (cN 22 hc104 (cN 23 hc106 (cN 24 hc108 (cN 25 hc110 (cN 26 hc112 (cN 27 hc114 (cN 28 hc116 (cN 29 hc118 (cN 30 hc120 (cN 31 hc122 (cN 32 hc124 (cN 33 hc126 (cN 34 hc128 (cN 35 hc130 (cN 36 hc132 (cN 37 hc134 (cN 38 hc136 (cN 39 hc138 (cN 40 hc140 (cN 41 hc142 (cN 42 hc144 (cN 43 hc146 (cN 44 hc148 (cN 45 hc150 (cN 46 hc152 (cN 47 hc154 (cN 48 hc156 (cN 49 hc158 (cN 50 hc160 (cN 51 hc162 (cN 52 hc164 (cN 53 hc166 (cN 54 hc168 trivial))))))))))))))))))))))))))))))))))))))))))))))))))))))) (by kernel_rfl)) ?_
 refine oZ [(54, .pointer (some p2))] ?_
 refine oT p2 (.int .i64 x59 :: .int .i64 x61 :: .int .i64 x63 :: .slice x65 x65n x65c :: .slice x67 x67n x67c :: .bool x69 :: .slice x71 x71n x71c :: .int .i64 x73 :: .int .i64 x75 :: .bool x77 :: .int .i64 x79 :: .int .i64 x81 :: .int .i64 x83 :: .int .i64 x85 :: .int .i64 x87 :: .bool x89 :: .bool x91 :: .bool x93 :: .bool x95 :: .bool x97 :: .bool x99 :: .bool x101 :: .slice x103 x103n x103c :: .bool x105 :: .bool x107 :: .int .i64 x109 :: .bool x111 :: .int .i64 x113 :: .int .i64 x115 :: .int .i64 x117 :: .int .i64 x119 :: .int .i64 x121 :: .bool x123 :: .bool x125 :: .bool x127 :: .int .i64 x129 :: .bool x131 :: .bool x133 :: .int .i64 x135 :: .int .i64 x137 :: .int .i64 x139 :: .int .i64 x141 :: .int .i64 x143 :: .bool x145 :: .bool x147 :: .bool x149 :: .int .i64 x151 :: .bool x153 :: .string x155 :: .string x157 :: .int .i64 x159 :: .int .i32 x161 :: .int .i64 x163 :: .string x165 :: .bool x167 :: []) hM ?_
 clear hM
 intro h169 hM
 refine owp_nil ?_
 exact end_ (.tuple #[]) (by kernel_rfl) ⟨rfl, hM⟩
/- mullion/mullionref19.New -/
def ref19_New (a1 : Int) (a2 : Int) (a3 : Int) (K : Option Addr → Int → Heap → Prop) (h : Heap) : Prop :=
 if ((((decide (a1 < 1)) || (decide (1000 < a1))) || (decide (a2 < 1))) || (decide (1000 < a2))) = true then
  K none 41 h
 else
 if ((decide (a3 < 0)) || (decide (2000 < a3))) = true then
  K none 1 h
 else
 newB h #[.int .i64 a1, .int .i64 a2, .int .i64 a3, .slice none 0 0, .slice none 0 0, .bool false, .slice none 0 0, .int .i64 0, .int .i64 0, .bool false, .int .i64 0, .int .i64 0, .int .i64 0, .int .i64 0, .int .i64 0, .bool false, .bool false, .bool false, .bool false, .bool false, .bool false, .bool false, .slice none 0 0, .bool false, .bool false, .int .i64 0, .bool false, .int .i64 0, .int .i64 0, .int .i64 0, .int .i64 0, .int .i64 0, .bool false, .bool false, .bool false, .int .i64 0, .bool false, .bool false, .int .i64 0, .int .i64 0, .int .i64 0, .int .i64 0, .int .i64 0, .bool false, .bool false, .bool false, .int .i64 0, .bool false, .string (⟨#[]⟩ : ByteArray), .string (⟨#[]⟩ : ByteArray), .int .i64 0, .int .i32 0, .int .i64 0, .string (⟨#[]⟩ : ByteArray), .bool false] 95 fun b22 h23 =>
 ref19_Screen_reset (some ⟨b22, 0, none⟩) (fun  h25 =>
   K (some ⟨b22, 0, none⟩) 0 h25) h23
theorem ref19_New_ok (a1 : Int) (a2 : Int) (a3 : Int) (K : Option Addr → Int → Heap → Prop) (h : Heap) (hM : ref19_New a1 a2 a3 K h) : CallsH Tryz.prog 30 #[.int .i64 a1, .int .i64 a2, .int .i64 a3] (fun v h' => ∃ (r26 : Option Addr) (r27 : Int), v = .tuple #[.pointer r26, .int .i64 r27] ∧ K r26 r27 h') h := by
 unfold ref19_New at hM
 refine callsH_intro (n := 37) Tryz.func30 rfl rfl (by kernel_rfl) ?_
 refine cR ?_
 refine oZ [(6, .pointer none), (7, .int .i64 0)] ?_
 refine oE (cwp_seq (cR ?_))
 refine oZ [(9, .int .i64 a1), (10, .bool (decide (a1 < 1))), (11, .bool (decide (a1 < 1)))] ?_
 refine oB (decide (a1 < 1)) 3 [10, 11] (fun b_ => [(12, iteV b_ undef (.int .i64 a1 : Value)), (13, iteV b_ undef (.bool (decide (1000 < a1)) : Value)), (14, .bool (b_ || (decide (1000 < a1))))]) rfl (fun hb4 hq5 => oS [(12, undef), (13, undef), (14, .bool true)] rfl (hq5)) (fun hb6 hq7 => oS [(12, .int .i64 a1), (13, .bool (decide (1000 < a1))), (14, .bool (decide (1000 < a1)))] rfl (hq7)) ?_
 refine oZ [(15, .bool ((decide (a1 < 1)) || (decide (1000 < a1))))] ?_
 refine oB ((decide (a1 < 1)) || (decide (1000 < a1))) 3 [14, 15] (fun b_ => [(16, iteV b_ undef (.int .i64 a2 : Value)), (17, iteV b_ undef (.bool (decide (a2 < 1)) : Value)), (18, .bool (b_ || (decide (a2 < 1))))]) rfl (fun hb8 hq9 => oS [(16, undef), (17, undef), (18, .bool true)] rfl (hq9)) (fun hb10 hq11 => oS [(16, .int .i64 a2), (17, .bool (decide (a2 < 1))), (18, .bool (decide (a2 < 1)))] rfl (hq11)) ?_
 refine oZ [(19, .bool (((decide (a1 < 1)) || (decide (1000 < a1))) || (decide (a2 < 1))))] ?_
 refine oB (((decide (a1 < 1)) || (decide (1000 < a1))) || (decide (a2 < 1))) 3 [18, 19] (fun b_ => [(20, iteV b_ undef (.int .i64 a2 : Value)), (21, iteV b_ undef (.bool (decide (1000 < a2)) : Value)), (22, .bool (b_ || (decide (1000 < a2))))]) rfl (fun hb12 hq13 => oS [(20, undef), (21, undef), (22, .bool true)] rfl (hq13)) (fun hb14 hq15 => oS [(20, .int .i64 a2), (21, .bool (decide (1000 < a2))), (22, .bool (decide (1000 < a2)))] rfl (hq15)) ?_
 refine oE ?_
 refine cwp_condB ((((decide (a1 < 1)) || (decide (1000 < a1))) || (decide (a2 < 1))) || (decide (1000 < a2))) (by kernel_rfl) (fun hc16 => ?_) (fun hc16 => ?_)
 · replace hM := ifT hc16 hM
   refine cR ?_
   refine oZ [(6, .pointer none), (7, .int .i64 41)] ?_
   refine oE (cwp_ret (thenE_r ?_))
   exact ret_ (.tuple #[.pointer none, .int .i64 41]) (by kernel_rfl) ⟨_, _, rfl, hM⟩
 replace hM := ifF hc16 hM
 refine cwp_skip (thenE_n (cwp_seq (cR ?_)))
 refine oZ [(23, .int .i64 a3), (24, .bool (decide (a3 < 0))), (25, .bool (decide (a3 < 0)))] ?_
 refine oB (decide (a3 < 0)) 3 [24, 25] (fun b_ => [(26, iteV b_ undef (.int .i64 a3 : Value)), (27, iteV b_ undef (.bool (decide (2000 < a3)) : Value)), (28, .bool (b_ || (decide (2000 < a3))))]) rfl (fun hb17 hq18 => oS [(26, undef), (27, undef), (28, .bool true)] rfl (hq18)) (fun hb19 hq20 => oS [(26, .int .i64 a3), (27, .bool (decide (2000 < a3))), (28, .bool (decide (2000 < a3)))] rfl (hq20)) ?_
 refine oE ?_
 refine cwp_condB ((decide (a3 < 0)) || (decide (2000 < a3))) (by kernel_rfl) (fun hc21 => ?_) (fun hc21 => ?_)
 · replace hM := ifT hc21 hM
   refine cR ?_
   refine oZ [(6, .pointer none), (7, .int .i64 1)] ?_
   refine oE (cwp_ret (thenE_r ?_))
   exact ret_ (.tuple #[.pointer none, .int .i64 1]) (by kernel_rfl) ⟨_, _, rfl, hM⟩
 replace hM := ifF hc21 hM
 refine cwp_skip (thenE_n (cR ?_))
 refine oZ [(29, .int .i64 a1), (30, .int .i64 a2), (31, .int .i64 a3), (32, .agg #[.int .i64 a1, .int .i64 a2, .int .i64 a3, .slice none 0 0, .slice none 0 0, .bool false, .slice none 0 0, .int .i64 0, .int .i64 0, .bool false, .int .i64 0, .int .i64 0, .int .i64 0, .int .i64 0, .int .i64 0, .bool false, .bool false, .bool false, .bool false, .bool false, .bool false, .bool false, .slice none 0 0, .bool false, .bool false, .int .i64 0, .bool false, .int .i64 0, .int .i64 0, .int .i64 0, .int .i64 0, .int .i64 0, .bool false, .bool false, .bool false, .int .i64 0, .bool false, .bool false, .int .i64 0, .int .i64 0, .int .i64 0, .int .i64 0, .int .i64 0, .bool false, .bool false, .bool false, .int .i64 0, .bool false, .string (⟨#[]⟩ : ByteArray), .string (⟨#[]⟩ : ByteArray), .int .i64 0, .int .i32 0, .int .i64 0, .string (⟨#[]⟩ : ByteArray), .bool false])] ?_
 refine oG (hpNew #[.int .i64 a1, .int .i64 a2, .int .i64 a3, .slice none 0 0, .slice none 0 0, .bool false, .slice none 0 0, .int .i64 0, .int .i64 0, .bool false, .int .i64 0, .int .i64 0, .int .i64 0, .int .i64 0, .int .i64 0, .bool false, .bool false, .bool false, .bool false, .bool false, .bool false, .bool false, .slice none 0 0, .bool false, .bool false, .int .i64 0, .bool false, .int .i64 0, .int .i64 0, .int .i64 0, .int .i64 0, .int .i64 0, .bool false, .bool false, .bool false, .int .i64 0, .bool false, .bool false, .int .i64 0, .int .i64 0, .int .i64 0, .int .i64 0, .int .i64 0, .bool false, .bool false, .bool false, .int .i64 0, .bool false, .string (⟨#[]⟩ : ByteArray), .string (⟨#[]⟩ : ByteArray), .int .i64 0, .int .i32 0, .int .i64 0, .string (⟨#[]⟩ : ByteArray), .bool false] 95 (fun _ => by kernel_rfl) ?_)
 intro b22 h23 hN24
 replace hM := newB_of hN24 hM
 refine oZ [(8, .pointer (some ⟨b22, 0, none⟩))] ?_
 refine oE (cR ?_)
 refine oZ [(34, .pointer (some ⟨b22, 0, none⟩))] ?_
 refine oG (hpCallE 54 #[.pointer (some ⟨b22, 0, none⟩)] (by kernel_rfl) (ref19_Screen_reset_ok (some ⟨b22, 0, none⟩) _ h23 hM) ?_)
 clear hM
 rintro _ h25 ⟨rfl, hM⟩
 refine oE (cR ?_)
 refine oZ [(36, .pointer (some ⟨b22, 0, none⟩)), (6, .pointer (some ⟨b22, 0, none⟩)), (7, .int .i64 0)] ?_
 refine oE (cwp_ret ?_)
 exact ret_ (.tuple #[.pointer (some ⟨b22, 0, none⟩), .int .i64 0]) (by kernel_rfl) ⟨_, _, rfl, hM⟩
/- (mullion/vt.row).cut -/
def vt_row_cut (a1 : Option Addr) (a1n : Nat) (a1c : Nat) (a2 : Int) (K : Heap → Prop) (h : Heap) : Prop :=
 if ((decide (0 < a2)) && (decide (a2 < (a1n : Int)))) = true then
  nz a1 fun p13 =>
  0 ≤ a2 ∧
  a2 < (a1n : Int) ∧
  ldI h .i64 ((p13.add ((a2).toNat * 5)).add 1) fun x14 =>
  if x14 = 0 then
   0 ≤ (IntKind.wrap .i64 (a2 - 1)) ∧
   (IntKind.wrap .i64 (a2 - 1)) < (a1n : Int) ∧
   ldI h .i64 ((p13.add ((IntKind.wrap .i64 (a2 - 1)).toNat * 5)).add 2) fun x20 =>
   ldI h .i64 ((p13.add ((IntKind.wrap .i64 (a2 - 1)).toNat * 5)).add 3) fun x22 =>
   ldI h .i64 ((p13.add ((IntKind.wrap .i64 (a2 - 1)).toNat * 5)).add 4) fun x24 =>
   0 ≤ (IntKind.wrap .i64 (a2 - 1)) ∧
   (IntKind.wrap .i64 (a2 - 1)) < (a1n : Int) ∧
   gap h fun h29 =>
   stN (p13.add ((IntKind.wrap .i64 (a2 - 1)).toNat * 5)) [.string ((vt_blank x20 x22 x24).1), .int .i64 ((vt_blank x20 x22 x24).2.1), .int .i64 ((vt_blank x20 x22 x24).2.2.1), .int .i64 ((vt_blank x20 x22 x24).2.2.2.1), .int .i64 ((vt_blank x20 x22 x24).2.2.2.2)] 0 h29 fun h33 =>
   0 ≤ a2 ∧
   a2 < (a1n : Int) ∧
   ldI h33 .i64 ((p13.add ((a2).toNat * 5)).add 2) fun x36 =>
   ldI h33 .i64 ((p13.add ((a2).toNat * 5)).add 3) fun x38 =>
   ldI h33 .i64 ((p13.add ((a2).toNat * 5)).add 4) fun x40 =>
   0 ≤ a2 ∧
   a2 < (a1n : Int) ∧
   gap h33 fun h45 =>
   stN (p13.add ((a2).toNat * 5)) [.string ((vt_blank x36 x38 x40).1), .int .i64 ((vt_blank x36 x38 x40).2.1), .int .i64 ((vt_blank x36 x38 x40).2.2.1), .int .i64 ((vt_blank x36 x38 x40).2.2.2.1), .int .i64 ((vt_blank x36 x38 x40).2.2.2.2)] 0 h45 fun h49 =>
   K h49
  else
  K h
 else
 K h
theorem vt_row_cut_ok (a1 : Option Addr) (a1n : Nat) (a1c : Nat) (a2 : Int) (K : Heap → Prop) (h : Heap) (hM : vt_row_cut a1 a1n a1c a2 K h) : CallsH Tryz.prog 56 #[.slice a1 a1n a1c, .int .i64 a2] (fun v h' => v = .tuple #[] ∧ K h') h := by
 unfold vt_row_cut at hM
 refine callsH_intro (n := 40) Tryz.func56 rfl rfl (by kernel_rfl) ?_
 refine cR ?_
 refine oZ [(4, .int .i64 a2), (5, .bool (decide (0 < a2))), (6, .bool (decide (0 < a2)))] ?_
 refine oB (decide (0 < a2)) 5 [5, 6] (fun b_ => [(7, iteV b_ (.int .i64 a2 : Value) undef), (8, iteV b_ (.slice a1 a1n a1c : Value) undef), (9, iteV b_ (.int .i64 (a1n : Int) : Value) undef), (10, iteV b_ (.bool (decide (a2 < (a1n : Int))) : Value) undef), (11, .bool (b_ && (decide (a2 < (a1n : Int)))))]) rfl (fun hb3 hq4 => oS [(7, .int .i64 a2), (8, .slice a1 a1n a1c), (9, .int .i64 (a1n : Int)), (10, .bool (decide (a2 < (a1n : Int)))), (11, .bool (decide (a2 < (a1n : Int))))] rfl (hq4)) (fun hb5 hq6 => oS [(7, undef), (8, undef), (9, undef), (10, undef), (11, .bool false)] rfl (hq6)) ?_
 refine oZ [(12, .bool ((decide (0 < a2)) && (decide (a2 < (a1n : Int)))))] ?_
 by_cases hc10 : ((decide (0 < a2)) && (decide (a2 < (a1n : Int)))) = true
 · refine oA 11 true ((decide (0 < a2)) && (decide (a2 < (a1n : Int)))) (by rw [hc10]) ?_
   refine oA 12 true ((decide (0 < a2)) && (decide (a2 < (a1n : Int)))) (by rw [hc10]) ?_
   replace hM := ifT hc10 hM
   refine oZ [(13, .slice a1 a1n a1c), (14, .int .i64 a2)] ?_
   obtain ⟨p13, rfl, hM⟩ := hM
   obtain ⟨hc11, hM⟩ := hM
   obtain ⟨hc12, hM⟩ := hM
   refine owp_rdG (.pointer (some (p13.add ((a2).toNat * 5)))) rfl (by kernel_rfl) (rd_ixS (P := Tryz.prog) (h := h) (t := 81) (el := 52) (sz := 5) (ad := p13) (len := a1n) (c := a1c) (k := .i64) (i := a2) (by kernel_rfl) (by kernel_rfl) hc11 hc12 (by kernel_rfl)) ?_
   refine oZ [(16, .pointer (some ((p13.add ((a2).toNat * 5)).add 1)))] ?_
   obtain ⟨x14, hc15, hM⟩ := hM
   refine oL (.int .i64 x14) ((p13.add ((a2).toNat * 5)).add 1) hc15 ?_
   refine oZ [(18, .bool (decide (x14 = 0))), (19, .bool (decide (x14 = 0)))] ?_
   refine oE ?_
   refine cwp_condD (x14 = 0) (by kernel_rfl) (fun hc17 => ?_) (fun hc17 => ?_)
   · replace hM := ifT hc17 hM
     refine cR ?_
     refine oZ [(20, .slice (some p13) a1n a1c), (21, .int .i64 a2), (22, .int .i64 (IntKind.wrap .i64 (a2 - 1))), (23, .slice (some p13) a1n a1c), (24, .int .i64 a2), (25, .int .i64 (IntKind.wrap .i64 (a2 - 1)))] ?_
     obtain ⟨hc18, hM⟩ := hM
     obtain ⟨hc19, hM⟩ := hM
     refine owp_rdG (.pointer (some (p13.add ((IntKind.wrap .i64 (a2 - 1)).toNat * 5)))) rfl (by kernel_rfl) (rd_ixS (P := Tryz.prog) (h := h) (t := 81) (el := 52) (sz := 5) (ad := p13) (len := a1n) (c := a1c) (k := .i64) (i := (IntKind.wrap .i64 (a2 - 1))) (by kernel_rfl) (by kernel_rfl) hc18 hc19 (by kernel_rfl)) ?_
     refine oZ [(27, .pointer (some ((p13.add ((IntKind.wrap .i64 (a2 - 1)).toNat * 5)).add 2)))] ?_
     obtain ⟨x20, hc21, hM⟩ := hM
     obtain ⟨x22, hc23, hM⟩ := hM
     obtain ⟨x24, hc25, hM⟩ := hM
     refine owp_rdG (.agg #[.int .i64 x20, .int .i64 x22, .int .i64 x24]) rfl (by kernel_rfl) (Eq.trans (b := (cellH h ((p13.add ((IntKind.wrap .i64 (a2 - 1)).toNat * 5)).add 2)).bind fun v26 => (cellH h ((p13.add ((IntKind.wrap .i64 (a2 - 1)).toNat * 5)).add 3)).bind fun v27 => (cellH h ((p13.add ((IntKind.wrap .i64 (a2 - 1)).toNat * 5)).add 4)).bind fun v28 => some (.value (.agg #[v26, v27, v28]))) (by kernel_rfl) ((bindE hc21 _).trans ((bindE hc23 _).trans (bindE hc25 _)))) ?_
     refine oG (hpCallP 55 #[.agg #[.int .i64 x20, .int .i64 x22, .int .i64 x24]] (.agg #[.string ((vt_blank x20 x22 x24).1), .int .i64 ((vt_blank x20 x22 x24).2.1), .int .i64 ((vt_blank x20 x22 x24).2.2.1), .int .i64 ((vt_blank x20 x22 x24).2.2.2.1), .int .i64 ((vt_blank x20 x22 x24).2.2.2.2)]) (by kernel_rfl) (vt_blank_ok x20 x22 x24 _ h rfl) ?_)
     intro h29 hx30
     obtain ⟨hc31, hM⟩ := hM
     obtain ⟨hc32, hM⟩ := hM
     refine owp_rdG (.pointer (some (p13.add ((IntKind.wrap .i64 (a2 - 1)).toNat * 5)))) rfl (by kernel_rfl) (rd_ixS (P := Tryz.prog) (h := h29) (t := 81) (el := 52) (sz := 5) (ad := p13) (len := a1n) (c := a1c) (k := .i64) (i := (IntKind.wrap .i64 (a2 - 1))) (by kernel_rfl) (by kernel_rfl) hc31 hc32 (by kernel_rfl)) ?_
     replace hM := hM _ hx30
     refine oT (p13.add ((IntKind.wrap .i64 (a2 - 1)).toNat * 5)) [.string ((vt_blank x20 x22 x24).1), .int .i64 ((vt_blank x20 x22 x24).2.1), .int .i64 ((vt_blank x20 x22 x24).2.2.1), .int .i64 ((vt_blank x20 x22 x24).2.2.2.1), .int .i64 ((vt_blank x20 x22 x24).2.2.2.2)] hM ?_
     clear hM
     intro h33 hM
     refine oE (cwp_region ?_)
     refine oZ [(31, .slice (some p13) a1n a1c), (32, .int .i64 a2), (33, .slice (some p13) a1n a1c), (34, .int .i64 a2)] ?_
     obtain ⟨hc34, hM⟩ := hM
     obtain ⟨hc35, hM⟩ := hM
     refine owp_rdG (.pointer (some (p13.add ((a2).toNat * 5)))) rfl (by kernel_rfl) (rd_ixS (P := Tryz.prog) (h := h33) (t := 81) (el := 52) (sz := 5) (ad := p13) (len := a1n) (c := a1c) (k := .i64) (i := a2) (by kernel_rfl) (by kernel_rfl) hc34 hc35 (by kernel_rfl)) ?_
     refine oZ [(36, .pointer (some ((p13.add ((a2).toNat * 5)).add 2)))] ?_
     obtain ⟨x36, hc37, hM⟩ := hM
     obtain ⟨x38, hc39, hM⟩ := hM
     obtain ⟨x40, hc41, hM⟩ := hM
     refine owp_rdG (.agg #[.int .i64 x36, .int .i64 x38, .int .i64 x40]) rfl (by kernel_rfl) (Eq.trans (b := (cellH h33 ((p13.add ((a2).toNat * 5)).add 2)).bind fun v42 => (cellH h33 ((p13.add ((a2).toNat * 5)).add 3)).bind fun v43 => (cellH h33 ((p13.add ((a2).toNat * 5)).add 4)).bind fun v44 => some (.value (.agg #[v42, v43, v44]))) (by kernel_rfl) ((bindE hc37 _).trans ((bindE hc39 _).trans (bindE hc41 _)))) ?_
     refine oG (hpCallP 55 #[.agg #[.int .i64 x36, .int .i64 x38, .int .i64 x40]] (.agg #[.string ((vt_blank x36 x38 x40).1), .int .i64 ((vt_blank x36 x38 x40).2.1), .int .i64 ((vt_blank x36 x38 x40).2.2.1), .int .i64 ((vt_blank x36 x38 x40).2.2.2.1), .int .i64 ((vt_blank x36 x38 x40).2.2.2.2)]) (by kernel_rfl) (vt_blank_ok x36 x38 x40 _ h33 rfl) ?_)
     intro h45 hx46
     obtain ⟨hc47, hM⟩ := hM
     obtain ⟨hc48, hM⟩ := hM
     refine owp_rdG (.pointer (some (p13.add ((a2).toNat * 5)))) rfl (by kernel_rfl) (rd_ixS (P := Tryz.prog) (h := h45) (t := 81) (el := 52) (sz := 5) (ad := p13) (len := a1n) (c := a1c) (k := .i64) (i := a2) (by kernel_rfl) (by kernel_rfl) hc47 hc48 (by kernel_rfl)) ?_
     replace hM := hM _ hx46
     refine oT (p13.add ((a2).toNat * 5)) [.string ((vt_blank x36 x38 x40).1), .int .i64 ((vt_blank x36 x38 x40).2.1), .int .i64 ((vt_blank x36 x38 x40).2.2.1), .int .i64 ((vt_blank x36 x38 x40).2.2.2.1), .int .i64 ((vt_blank x36 x38 x40).2.2.2.2)] hM ?_
     clear hM
     intro h49 hM
     refine owp_nil ?_
     exact end_ (.tuple #[]) (by kernel_rfl) ⟨rfl, hM⟩
   replace hM := ifF hc17 hM
   refine cwp_skip ?_
   exact end_ (.tuple #[]) (by kernel_rfl) ⟨rfl, hM⟩
 refine oA 11 false ((decide (0 < a2)) && (decide (a2 < (a1n : Int)))) (by rw [Bool.eq_false_iff.2 hc10]) ?_
 refine oA 12 false ((decide (0 < a2)) && (decide (a2 < (a1n : Int)))) (by rw [Bool.eq_false_iff.2 hc10]) ?_
 replace hM := ifF hc10 hM
 refine oZ [(13, undef), (14, undef), (15, undef), (16, undef), (17, undef), (18, undef), (19, .bool false)] ?_
 refine oE ?_
 refine cwp_cond (t := false) (by kernel_rfl) (fun hx_ => ?_) (fun hx_ => ?_)
 all_goals first | (cases hx_; done) | skip
 refine cwp_skip ?_
 exact end_ (.tuple #[]) (by kernel_rfl) ⟨rfl, hM⟩
/- mullion/vt.within -/
def vt_within_l0 (K0 : Heap → Prop) (Kr : Bool → Heap → Prop) : Nat → Int → Option Addr → Nat → Nat → Int → Int → Heap → Prop
  | 0, _, _, _, _, _, _, _ => False
  | k + 1, y3, y4, y4n, y4c, y5, y6, h =>
  if y6 < y5 then
   nz y4 fun p10 =>
   0 ≤ y6 ∧
   y6 < (y4n : Int) ∧
   ldI h .i32 (p10.add ((y6).toNat * 2)) fun x11 =>
   ldI h .i32 ((p10.add ((y6).toNat * 2)).add 1) fun x13 =>
   if ((decide (x11 ≤ y3)) && (decide (y3 ≤ x13))) = true then
    gap h fun h20 =>
    Kr true h20
   else
   gap h fun h20 =>
   vt_within_l0 K0 Kr k y3 (some p10) y4n y4c y5 (IntKind.wrap .i64 (y6 + 1)) h20
  else
  K0  h
theorem vt_within_l0_ok {Q : Exit → Env → Heap → Prop} (K0 : Heap → Prop) (hK0 : ∀  (b : Env) (h : Heap), K0  h → Q (.exit 0) b h) (Kr : Bool → Heap → Prop) (hKr : ∀ (z32 : Bool) (b : Env) (h : Heap), Kr z32 h → Q .ret (upd b 4 (.bool z32)) h) : ∀ (k : Nat) (y3 : Int) (y4 : Option Addr) (y4n : Nat) (y4c : Nat) (y5 : Int) (y6 : Int) (b : Env) (h : Heap) (hM : vt_within_l0 K0 Kr k y3 y4 y4n y4c y5 y6 h), lwp Tryz.prog (partC Tryz.f110 [1, 0, 1, 0, 0]) 24 Q k (upd (upd (upd (upd b 0 (.int .i32 y3)) 7 (.slice y4 y4n y4c)) 8 (.int .i64 y5)) 9 (.int .i64 y6)) h := by
  intro k
  induction k with
  | zero => intro y3 y4 y4n y4c y5 y6 b h hM; exact (show False from hM).elim
  | succ k ih =>
    intro y3 y4 y4n y4c y5 y6 b h hM
    unfold vt_within_l0 at hM
    refine lwp_succ (cwp_part rfl ?_)
    refine cR ?_
    refine oZ [(10, .bool (decide (y6 < y5)))] ?_
    refine oE (cwp_seq ?_)
    refine cwp_condD (y6 < y5) (by kernel_rfl) (fun hc7 => ?_) (fun hc7 => ?_)
    · replace hM := ifT hc7 hM
      refine cwp_skip (thenE_n (cwp_seq (cwp_block (cR ?_))))
      obtain ⟨p10, rfl, hM⟩ := hM
      obtain ⟨hc8, hM⟩ := hM
      obtain ⟨hc9, hM⟩ := hM
      refine owp_rdG (.pointer (some (p10.add ((y6).toNat * 2)))) rfl (by kernel_rfl) (rd_ixS (P := Tryz.prog) (h := h) (t := 142) (el := 141) (sz := 2) (ad := p10) (len := y4n) (c := y4c) (k := .i64) (i := y6) (by kernel_rfl) (by kernel_rfl) hc8 hc9 (by kernel_rfl)) ?_
      obtain ⟨x11, hc12, hM⟩ := hM
      obtain ⟨x13, hc14, hM⟩ := hM
      refine owp_rdG (.agg #[.int .i32 x11, .int .i32 x13]) rfl (by kernel_rfl) (Eq.trans (b := (cellH h (p10.add ((y6).toNat * 2))).bind fun v15 => (cellH h ((p10.add ((y6).toNat * 2)).add 1)).bind fun v16 => some (.value (.agg #[v15, v16]))) (by kernel_rfl) ((bindE hc12 _).trans (bindE hc14 _))) ?_
      refine oG (hpNew #[.int .i32 0, .int .i32 0] 141 (fun _ => by kernel_rfl) ?_)
      intro b17 h18 hN19
      refine owp_hpD rfl (by kernel_rfl) (hpStB b17 0 [.int .i32 x11, .int .i32 x13] (New.blk hN19) (fun _ => by kernel_rfl) rfl rfl ?_)
      intro h20 hP21
      have f22 : Blk h20 b17 #[.int .i32 x11, .int .i32 x13] 141 := hP21.blk
      refine oE (cR ?_)
      refine oZ [(13, .int .i32 y3), (14, .pointer (some ⟨b17, 0, none⟩))] ?_
      refine owp_rdG (.int .i32 x11) rfl (by kernel_rfl) (Eq.trans (b := (cellH h20 ⟨b17, 0, none⟩).bind fun v23 => some (.value v23)) (by kernel_rfl) (bindE (Blk.cell f22 0 (by kernel_rfl)) _)) ?_
      refine oZ [(16, .bool (decide (x11 ≤ y3))), (17, .bool (decide (x11 ≤ y3)))] ?_
      refine oB (decide (x11 ≤ y3)) 5 [16, 17] (fun b_ => [(18, iteV b_ (.int .i32 y3 : Value) undef), (19, iteV b_ (.pointer (some ⟨b17, 1, none⟩) : Value) undef), (20, iteV b_ (.int .i32 x13 : Value) undef), (21, iteV b_ (.bool (decide (y3 ≤ x13)) : Value) undef), (22, .bool (b_ && (decide (y3 ≤ x13))))]) rfl (fun hb25 hq26 => oS [(18, .int .i32 y3), (19, .pointer (some ⟨b17, 1, none⟩))] rfl (owp_rdG (.int .i32 x13) rfl (by kernel_rfl) (Eq.trans (b := (cellH h20 ⟨b17, 1, none⟩).bind fun v24 => some (.value v24)) (by kernel_rfl) (bindE (Blk.cell f22 1 (by kernel_rfl)) _)) (oS [(21, .bool (decide (y3 ≤ x13))), (22, .bool (decide (y3 ≤ x13)))] rfl (hq26)))) (fun hb27 hq28 => oS [(18, undef), (19, undef), (20, undef), (21, undef), (22, .bool false)] rfl (hq28)) ?_
      refine oE ?_
      refine cwp_condB ((decide (x11 ≤ y3)) && (decide (y3 ≤ x13))) (by kernel_rfl) (fun hc29 => ?_) (fun hc29 => ?_)
      · replace hM := ifT hc29 hM
        refine cR ?_
        refine oZ [(4, .bool true)] ?_
        refine oE (cwp_ret (blockE_r (thenE_r ?_)))
        replace hM := hM _ (Put.ext hP21 (New.ext hN19) (New.ge hN19 (Ext.refl _)))
        exact q_at (Q := Q .ret) 4 (.bool true) (by kernel_rfl) (hKr true _ _ hM)
      replace hM := ifF hc29 hM
      refine cwp_skip (blockE_n (thenE_n (cwp_region ?_)))
      refine oZ [(23, .int .i64 (IntKind.wrap .i64 (y6 + 1))), (9, .int .i64 (IntKind.wrap .i64 (y6 + 1)))] ?_
      refine owp_nil ?_
      replace hM := hM _ (Put.ext hP21 (New.ext hN19) (New.ge hN19 (Ext.refl _)))
      exact lA 0 (.int .i32 y3) (lA 7 (.slice (some p10) y4n y4c) (lA 8 (.int .i64 y5) (lA 9 (.int .i64 (IntKind.wrap .i64 (y6 + 1))) (ih y3 (some p10) y4n y4c y5 (IntKind.wrap .i64 (y6 + 1)) _ _ hM))))
    replace hM := ifF hc7 hM
    refine cwp_exit (thenE_x ?_)
    exact hK0  _ _ hM
def vt_within (a1 : Int) (a2 : Option Addr) (a2n : Nat) (a2c : Nat) (K : Bool → Heap → Prop) (h : Heap) : Prop :=
 ∃ k38, vt_within_l0
  (fun  h33 =>
      K false h33)
  (fun z35 h36 =>
      K z35 h36) k38 a1 a2 a2n a2c (a2n : Int) 0 h
theorem vt_within_ok (a1 : Int) (a2 : Option Addr) (a2n : Nat) (a2c : Nat) (K : Bool → Heap → Prop) (h : Heap) (hM : vt_within a1 a2 a2n a2c K h) : CallsH Tryz.prog 110 #[.int .i32 a1, .slice a2 a2n a2c] (fun v h' => ∃ (r39 : Bool), v = .bool r39 ∧ K r39 h') h := by
 unfold vt_within at hM
 refine callsH_intro (n := 24) Tryz.func110 rfl rfl (by kernel_rfl) ?_
 refine cR ?_
 refine oZ [(4, .bool false)] ?_
 refine oE (cwp_seq (cR ?_))
 refine oZ [(7, .slice a2 a2n a2c), (8, .int .i64 (a2n : Int)), (9, .int .i64 0)] ?_
 refine oE (cwp_block ?_)
 obtain ⟨k_, hM⟩ := hM
 refine cwp_loop k_ (lwp_of_part (fn := Tryz.f110) (p := [1, 0, 1, 0, 0]) (by kernel_rfl) (lA 0 (.int .i32 a1) (lA 7 (.slice a2 a2n a2c) (lA 8 (.int .i64 (a2n : Int)) (lA 9 (.int .i64 0) (vt_within_l0_ok _ ?_ _ ?_ k_ a1 a2 a2n a2c (a2n : Int) 0 _ _ hM))))))
 · intro  b34 h33 hM
   refine blockE_h (thenE_n (cR ?_))
   refine oZ [(4, .bool false)] ?_
   refine oE (cwp_ret ?_)
   exact ret_ (.bool false) (by kernel_rfl) ⟨_, rfl, hM⟩
 · intro z35 b37 h36 hM
   refine blockE_r (thenE_r ?_)
   exact ret_ (.bool z35) (by kernel_rfl) ⟨_, rfl, hM⟩
/- mullion/vt.Width -/
def vt_Width_j0 (Kn : Heap → Prop) (Kr : Int → Heap → Prop) (y9 : Int) (y10 : Option Addr) (y10n : Nat) (y10c : Nat) (y11 : Option Addr) (y11n : Nat) (y11c : Nat) (y12 : Bool) (h : Heap) : Prop :=
 if y12 = true then
  Kr (-1) h
 else
 vt_within y9 y10 y10n y10c (fun x16 h15 =>
  if x16 = true then
   Kr 0 h15
  else
  vt_within y9 y11 y11n y11c (fun x19 h18 =>
   if x19 = true then
    Kr 2 h18
   else
     Kn  h18) h15) h
theorem vt_Width_j0_ok {Q : Exit → Env → Heap → Prop} (Kn : Heap → Prop) (hKn : ∀  (b : Env) (h : Heap), Kn  h → Q .normal b h) (Kr : Int → Heap → Prop) (hKr : ∀ (z22 : Int) (b : Env) (h : Heap), Kr z22 h → Q .ret (upd b 2 (.int .i64 z22)) h) (y9 : Int) (y10 : Option Addr) (y10n : Nat) (y10c : Nat) (y11 : Option Addr) (y11n : Nat) (y11c : Nat) (y12 : Bool) (b : Env) (h : Heap) (hM : vt_Width_j0 Kn Kr y9 y10 y10n y10c y11 y11n y11c y12 h) : cwp Tryz.prog (partC Tryz.f85 [1, 1, 1, 0, 0, 1]) 52 Q (upd (upd (upd (upd b 0 (.int .i32 y9)) 3 (.slice y10 y10n y10c)) 4 (.slice y11 y11n y11c)) 27 (.bool y12)) h := by
  unfold vt_Width_j0 at hM
  refine cwp_part rfl ?_
  refine cwp_condB y12 (by kernel_rfl) (fun hc13 => ?_) (fun hc13 => ?_)
  · replace hM := ifT hc13 hM
    refine cR ?_
    refine oZ [(2, .int .i64 (-1))] ?_
    refine oE (cwp_ret ?_)
    exact q_at (Q := Q .ret) 2 (.int .i64 (-1)) (by kernel_rfl) (hKr (-1) _ _ hM)
  replace hM := ifF hc13 hM
  refine cR ?_
  refine oZ [(45, .int .i32 y9), (46, .slice y10 y10n y10c)] ?_
  refine oG (hpCallE 110 #[.int .i32 y9, .slice y10 y10n y10c] (by kernel_rfl) (vt_within_ok y9 y10 y10n y10c _ h hM) ?_)
  clear hM
  rintro _ h15 ⟨x16, rfl, hM⟩
  refine oZ [(44, .bool x16)] ?_
  refine oE ?_
  refine cwp_condB x16 (by kernel_rfl) (fun hc17 => ?_) (fun hc17 => ?_)
  · replace hM := ifT hc17 hM
    refine cR ?_
    refine oZ [(2, .int .i64 0)] ?_
    refine oE (cwp_ret ?_)
    exact q_at (Q := Q .ret) 2 (.int .i64 0) (by kernel_rfl) (hKr 0 _ _ hM)
  replace hM := ifF hc17 hM
  refine cR ?_
  refine oZ [(49, .int .i32 y9), (50, .slice y11 y11n y11c)] ?_
  refine oG (hpCallE 110 #[.int .i32 y9, .slice y11 y11n y11c] (by kernel_rfl) (vt_within_ok y9 y11 y11n y11c _ h15 hM) ?_)
  clear hM
  rintro _ h18 ⟨x19, rfl, hM⟩
  refine oZ [(48, .bool x19)] ?_
  refine oE ?_
  refine cwp_condB x19 (by kernel_rfl) (fun hc20 => ?_) (fun hc20 => ?_)
  · replace hM := ifT hc20 hM
    refine cR ?_
    refine oZ [(2, .int .i64 2)] ?_
    refine oE (cwp_ret ?_)
    exact q_at (Q := Q .ret) 2 (.int .i64 2) (by kernel_rfl) (hKr 2 _ _ hM)
  replace hM := ifF hc20 hM
  refine cwp_skip ?_
  exact hKn  _ _ hM
def vt_Width (a1 : Int) (K : Int → Heap → Prop) (h : Heap) : Prop :=
 newB h #[.int .i32 768, .int .i32 879, .int .i32 8203, .int .i32 8207, .int .i32 8232, .int .i32 8238, .int .i32 8400, .int .i32 8447, .int .i32 65024, .int .i32 65039, .int .i32 65279, .int .i32 65279] 141 fun b2 h3 =>
 newB h3 #[.int .i32 4352, .int .i32 4447, .int .i32 11904, .int .i32 12350, .int .i32 12353, .int .i32 13311, .int .i32 13312, .int .i32 19903, .int .i32 19968, .int .i32 40959, .int .i32 40960, .int .i32 42191, .int .i32 44032, .int .i32 55203, .int .i32 63744, .int .i32 64255, .int .i32 65072, .int .i32 65135, .int .i32 65280, .int .i32 65376, .int .i32 65504, .int .i32 65510, .int .i32 127744, .int .i32 128591, .int .i32 129280, .int .i32 129535, .int .i32 131072, .int .i32 262141] 141 fun b5 h6 =>
 if a1 < 32 then
  vt_Width_j0
   (fun  h23 =>
       K 1 h23)
   (fun z25 h26 =>
       K z25 h26) a1 (some ⟨b2, 0, none⟩) 6 6 (some ⟨b5, 0, none⟩) 14 14 (decide (a1 < 32)) h6
 else
 if ((decide (127 ≤ a1)) && (decide (a1 ≤ 159))) = true then
  vt_Width_j0
   (fun  h34 =>
       K 1 h34)
   (fun z36 h37 =>
       K z36 h37) a1 (some ⟨b2, 0, none⟩) 6 6 (some ⟨b5, 0, none⟩) 14 14 ((decide (127 ≤ a1)) && (decide (a1 ≤ 159))) h6
 else
 if ((decide (55296 ≤ a1)) && (decide (a1 ≤ 57343))) = true then
  vt_Width_j0
   (fun  h45 =>
       K 1 h45)
   (fun z47 h48 =>
       K z47 h48) a1 (some ⟨b2, 0, none⟩) 6 6 (some ⟨b5, 0, none⟩) 14 14 ((decide (55296 ≤ a1)) && (decide (a1 ≤ 57343))) h6
 else
 vt_Width_j0
  (fun  h51 =>
      K 1 h51)
  (fun z53 h54 =>
      K z53 h54) a1 (some ⟨b2, 0, none⟩) 6 6 (some ⟨b5, 0, none⟩) 14 14 (decide (1114111 < a1)) h6
theorem vt_Width_ok (a1 : Int) (K : Int → Heap → Prop) (h : Heap) (hM : vt_Width a1 K h) : CallsH Tryz.prog 85 #[.int .i32 a1] (fun v h' => ∃ (r57 : Int), v = .int .i64 r57 ∧ K r57 h') h := by
 unfold vt_Width at hM
 refine callsH_intro (n := 52) Tryz.func85 rfl rfl (by kernel_rfl) ?_
 refine cR ?_
 refine oZ [(2, .int .i64 0)] ?_
 refine oE (cR ?_)
 refine oZ [(5, .agg #[.int .i32 768, .int .i32 879]), (6, .agg #[.int .i32 8203, .int .i32 8207]), (7, .agg #[.int .i32 8232, .int .i32 8238]), (8, .agg #[.int .i32 8400, .int .i32 8447]), (9, .agg #[.int .i32 65024, .int .i32 65039]), (10, .agg #[.int .i32 65279, .int .i32 65279])] ?_
 refine oG (hpNewS #[.int .i32 768, .int .i32 879, .int .i32 8203, .int .i32 8207, .int .i32 8232, .int .i32 8238, .int .i32 8400, .int .i32 8447, .int .i32 65024, .int .i32 65039, .int .i32 65279, .int .i32 65279] 141 6 (fun _ => by kernel_rfl) ?_)
 intro b2 h3 hN4
 replace hM := newB_of hN4 hM
 refine oZ [(3, .slice (some ⟨b2, 0, none⟩) 6 6)] ?_
 refine oE (cR ?_)
 refine oZ [(12, .agg #[.int .i32 4352, .int .i32 4447]), (13, .agg #[.int .i32 11904, .int .i32 12350]), (14, .agg #[.int .i32 12353, .int .i32 13311]), (15, .agg #[.int .i32 13312, .int .i32 19903]), (16, .agg #[.int .i32 19968, .int .i32 40959]), (17, .agg #[.int .i32 40960, .int .i32 42191]), (18, .agg #[.int .i32 44032, .int .i32 55203]), (19, .agg #[.int .i32 63744, .int .i32 64255]), (20, .agg #[.int .i32 65072, .int .i32 65135]), (21, .agg #[.int .i32 65280, .int .i32 65376]), (22, .agg #[.int .i32 65504, .int .i32 65510]), (23, .agg #[.int .i32 127744, .int .i32 128591]), (24, .agg #[.int .i32 129280, .int .i32 129535]), (25, .agg #[.int .i32 131072, .int .i32 262141])] ?_
 refine oG (hpNewS #[.int .i32 4352, .int .i32 4447, .int .i32 11904, .int .i32 12350, .int .i32 12353, .int .i32 13311, .int .i32 13312, .int .i32 19903, .int .i32 19968, .int .i32 40959, .int .i32 40960, .int .i32 42191, .int .i32 44032, .int .i32 55203, .int .i32 63744, .int .i32 64255, .int .i32 65072, .int .i32 65135, .int .i32 65280, .int .i32 65376, .int .i32 65504, .int .i32 65510, .int .i32 127744, .int .i32 128591, .int .i32 129280, .int .i32 129535, .int .i32 131072, .int .i32 262141] 141 14 (fun _ => by kernel_rfl) ?_)
 intro b5 h6 hN7
 replace hM := newB_of hN7 hM
 refine oZ [(4, .slice (some ⟨b5, 0, none⟩) 14 14)] ?_
 refine oE (cwp_seq (cwp_block (cwp_seq (cR ?_))))
 refine oZ [(28, .int .i32 a1), (29, .bool (decide (a1 < 32))), (27, .bool (decide (a1 < 32)))] ?_
 refine oE ?_
 refine cwp_condD (a1 < 32) (by kernel_rfl) (fun hc8 => ?_) (fun hc8 => ?_)
 · replace hM := ifT hc8 hM
   refine cwp_skip (thenE_n ?_)
   refine cwp_of_part (fn := Tryz.f85) (p := [1, 1, 1, 0, 0, 1]) (by kernel_rfl) (cA 0 (.int .i32 a1) (cA 3 (.slice (some ⟨b2, 0, none⟩) 6 6) (cA 4 (.slice (some ⟨b5, 0, none⟩) 14 14) (cA 27 (.bool (decide (a1 < 32))) (vt_Width_j0_ok _ ?_ _ ?_ a1 (some ⟨b2, 0, none⟩) 6 6 (some ⟨b5, 0, none⟩) 14 14 (decide (a1 < 32)) _ _ hM)))))
   · intro  b24 h23 hM
     refine blockE_n (thenE_n (cR ?_))
     refine oZ [(2, .int .i64 1)] ?_
     refine oE (cwp_ret ?_)
     exact ret_ (.int .i64 1) (by kernel_rfl) ⟨_, rfl, hM⟩
   · intro z25 b27 h26 hM
     refine blockE_r (thenE_r ?_)
     exact ret_ (.int .i64 z25) (by kernel_rfl) ⟨_, rfl, hM⟩
 replace hM := ifF hc8 hM
 refine cR ?_
 refine oZ [(30, .int .i32 a1), (31, .bool (decide (127 ≤ a1))), (32, .bool (decide (127 ≤ a1)))] ?_
 refine oB (decide (127 ≤ a1)) 3 [31, 32] (fun b_ => [(33, iteV b_ (.int .i32 a1 : Value) undef), (34, iteV b_ (.bool (decide (a1 ≤ 159)) : Value) undef), (35, .bool (b_ && (decide (a1 ≤ 159))))]) rfl (fun hb29 hq30 => oS [(33, .int .i32 a1), (34, .bool (decide (a1 ≤ 159))), (35, .bool (decide (a1 ≤ 159)))] rfl (hq30)) (fun hb31 hq32 => oS [(33, undef), (34, undef), (35, .bool false)] rfl (hq32)) ?_
 refine oZ [(27, .bool ((decide (127 ≤ a1)) && (decide (a1 ≤ 159))))] ?_
 refine oE ?_
 refine cwp_condB ((decide (127 ≤ a1)) && (decide (a1 ≤ 159))) (by kernel_rfl) (fun hc33 => ?_) (fun hc33 => ?_)
 · replace hM := ifT hc33 hM
   refine cwp_skip (thenE_n ?_)
   refine cwp_of_part (fn := Tryz.f85) (p := [1, 1, 1, 0, 0, 1]) (by kernel_rfl) (cA 0 (.int .i32 a1) (cA 3 (.slice (some ⟨b2, 0, none⟩) 6 6) (cA 4 (.slice (some ⟨b5, 0, none⟩) 14 14) (cA 27 (.bool ((decide (127 ≤ a1)) && (decide (a1 ≤ 159)))) (vt_Width_j0_ok _ ?_ _ ?_ a1 (some ⟨b2, 0, none⟩) 6 6 (some ⟨b5, 0, none⟩) 14 14 ((decide (127 ≤ a1)) && (decide (a1 ≤ 159))) _ _ hM)))))
   · intro  b35 h34 hM
     refine blockE_n (thenE_n (cR ?_))
     refine oZ [(2, .int .i64 1)] ?_
     refine oE (cwp_ret ?_)
     exact ret_ (.int .i64 1) (by kernel_rfl) ⟨_, rfl, hM⟩
   · intro z36 b38 h37 hM
     refine blockE_r (thenE_r ?_)
     exact ret_ (.int .i64 z36) (by kernel_rfl) ⟨_, rfl, hM⟩
 replace hM := ifF hc33 hM
 refine cR ?_
 refine oZ [(36, .int .i32 a1), (37, .bool (decide (55296 ≤ a1))), (38, .bool (decide (55296 ≤ a1)))] ?_
 refine oB (decide (55296 ≤ a1)) 3 [37, 38] (fun b_ => [(39, iteV b_ (.int .i32 a1 : Value) undef), (40, iteV b_ (.bool (decide (a1 ≤ 57343)) : Value) undef), (41, .bool (b_ && (decide (a1 ≤ 57343))))]) rfl (fun hb40 hq41 => oS [(39, .int .i32 a1), (40, .bool (decide (a1 ≤ 57343))), (41, .bool (decide (a1 ≤ 57343)))] rfl (hq41)) (fun hb42 hq43 => oS [(39, undef), (40, undef), (41, .bool false)] rfl (hq43)) ?_
 refine oZ [(27, .bool ((decide (55296 ≤ a1)) && (decide (a1 ≤ 57343))))] ?_
 refine oE ?_
 refine cwp_condB ((decide (55296 ≤ a1)) && (decide (a1 ≤ 57343))) (by kernel_rfl) (fun hc44 => ?_) (fun hc44 => ?_)
 · replace hM := ifT hc44 hM
   refine cwp_skip (thenE_n ?_)
   refine cwp_of_part (fn := Tryz.f85) (p := [1, 1, 1, 0, 0, 1]) (by kernel_rfl) (cA 0 (.int .i32 a1) (cA 3 (.slice (some ⟨b2, 0, none⟩) 6 6) (cA 4 (.slice (some ⟨b5, 0, none⟩) 14 14) (cA 27 (.bool ((decide (55296 ≤ a1)) && (decide (a1 ≤ 57343)))) (vt_Width_j0_ok _ ?_ _ ?_ a1 (some ⟨b2, 0, none⟩) 6 6 (some ⟨b5, 0, none⟩) 14 14 ((decide (55296 ≤ a1)) && (decide (a1 ≤ 57343))) _ _ hM)))))
   · intro  b46 h45 hM
     refine blockE_n (thenE_n (cR ?_))
     refine oZ [(2, .int .i64 1)] ?_
     refine oE (cwp_ret ?_)
     exact ret_ (.int .i64 1) (by kernel_rfl) ⟨_, rfl, hM⟩
   · intro z47 b49 h48 hM
     refine blockE_r (thenE_r ?_)
     exact ret_ (.int .i64 z47) (by kernel_rfl) ⟨_, rfl, hM⟩
 replace hM := ifF hc44 hM
 refine cwp_region ?_
 refine oZ [(42, .int .i32 a1), (43, .bool (decide (1114111 < a1))), (27, .bool (decide (1114111 < a1)))] ?_
 refine oE ?_
 refine cwp_of_part (fn := Tryz.f85) (p := [1, 1, 1, 0, 0, 1]) (by kernel_rfl) (cA 0 (.int .i32 a1) (cA 3 (.slice (some ⟨b2, 0, none⟩) 6 6) (cA 4 (.slice (some ⟨b5, 0, none⟩) 14 14) (cA 27 (.bool (decide (1114111 < a1))) (vt_Width_j0_ok _ ?_ _ ?_ a1 (some ⟨b2, 0, none⟩) 6 6 (some ⟨b5, 0, none⟩) 14 14 (decide (1114111 < a1)) _ _ hM)))))
 · intro  b52 h51 hM
   refine blockE_n (thenE_n (cR ?_))
   refine oZ [(2, .int .i64 1)] ?_
   refine oE (cwp_ret ?_)
   exact ret_ (.int .i64 1) (by kernel_rfl) ⟨_, rfl, hM⟩
 · intro z53 b55 h54 hM
   refine blockE_r (thenE_r ?_)
   exact ret_ (.int .i64 z53) (by kernel_rfl) ⟨_, rfl, hM⟩
/- mullion/vt.drawn -/
def vt_drawn (a1 : Int) : Int :=
 if a1 = 106 then
  (9496)
 else
 if a1 = 107 then
  (9488)
 else
 if a1 = 108 then
  (9484)
 else
 if a1 = 109 then
  (9492)
 else
 if a1 = 110 then
  (9532)
 else
 if a1 = 113 then
  (9472)
 else
 if a1 = 116 then
  (9500)
 else
 if a1 = 117 then
  (9508)
 else
 if a1 = 118 then
  (9524)
 else
 if a1 = 119 then
  (9516)
 else
 if a1 = 120 then
  (9474)
 else
 if a1 = 97 then
  (9618)
 else
 if a1 = 102 then
  (176)
 else
 if a1 = 103 then
  (177)
 else
 if a1 = 126 then
  (183)
 else
 (a1)
theorem vt_drawn_ok (a1 : Int) (r : Int) (h : Heap) (hM : vt_drawn a1 = r) : CallsH Tryz.prog 105 #[.int .i32 a1] (fun v h' => v = .int .i32 r ∧ Ext h h') h := by
 unfold vt_drawn at hM
 refine callsH_intro (n := 35) Tryz.func105 rfl rfl (by kernel_rfl) ?_
 refine cR ?_
 refine oZ [(2, .int .i32 0)] ?_
 refine oE (cwp_seq (cR ?_))
 refine oZ [(3, .int .i32 a1)] ?_
 refine oE (cwp_block (cR ?_))
 refine oZ [(5, .bool (decide (a1 = 106))), (4, .bool (decide (a1 = 106)))] ?_
 refine oE ?_
 refine cwp_condD (a1 = 106) (by kernel_rfl) (fun hc2 => ?_) (fun hc2 => ?_)
 · replace hM := ifTo hc2 hM
   refine cR ?_
   refine oZ [(2, .int .i32 9496)] ?_
   refine oE (cwp_ret (blockE_r (thenE_r ?_)))
   subst hM
   exact ret_ (.int .i32 9496) (by kernel_rfl) ⟨rfl, Ext.refl _⟩
 replace hM := ifFo hc2 hM
 refine cR ?_
 refine oZ [(7, .bool (decide (a1 = 107))), (6, .bool (decide (a1 = 107)))] ?_
 refine oE ?_
 refine cwp_condD (a1 = 107) (by kernel_rfl) (fun hc3 => ?_) (fun hc3 => ?_)
 · replace hM := ifTo hc3 hM
   refine cR ?_
   refine oZ [(2, .int .i32 9488)] ?_
   refine oE (cwp_ret (blockE_r (thenE_r ?_)))
   subst hM
   exact ret_ (.int .i32 9488) (by kernel_rfl) ⟨rfl, Ext.refl _⟩
 replace hM := ifFo hc3 hM
 refine cR ?_
 refine oZ [(9, .bool (decide (a1 = 108))), (8, .bool (decide (a1 = 108)))] ?_
 refine oE ?_
 refine cwp_condD (a1 = 108) (by kernel_rfl) (fun hc4 => ?_) (fun hc4 => ?_)
 · replace hM := ifTo hc4 hM
   refine cR ?_
   refine oZ [(2, .int .i32 9484)] ?_
   refine oE (cwp_ret (blockE_r (thenE_r ?_)))
   subst hM
   exact ret_ (.int .i32 9484) (by kernel_rfl) ⟨rfl, Ext.refl _⟩
 replace hM := ifFo hc4 hM
 refine cR ?_
 refine oZ [(11, .bool (decide (a1 = 109))), (10, .bool (decide (a1 = 109)))] ?_
 refine oE ?_
 refine cwp_condD (a1 = 109) (by kernel_rfl) (fun hc5 => ?_) (fun hc5 => ?_)
 · replace hM := ifTo hc5 hM
   refine cR ?_
   refine oZ [(2, .int .i32 9492)] ?_
   refine oE (cwp_ret (blockE_r (thenE_r ?_)))
   subst hM
   exact ret_ (.int .i32 9492) (by kernel_rfl) ⟨rfl, Ext.refl _⟩
 replace hM := ifFo hc5 hM
 refine cR ?_
 refine oZ [(13, .bool (decide (a1 = 110))), (12, .bool (decide (a1 = 110)))] ?_
 refine oE ?_
 refine cwp_condD (a1 = 110) (by kernel_rfl) (fun hc6 => ?_) (fun hc6 => ?_)
 · replace hM := ifTo hc6 hM
   refine cR ?_
   refine oZ [(2, .int .i32 9532)] ?_
   refine oE (cwp_ret (blockE_r (thenE_r ?_)))
   subst hM
   exact ret_ (.int .i32 9532) (by kernel_rfl) ⟨rfl, Ext.refl _⟩
 replace hM := ifFo hc6 hM
 refine cR ?_
 refine oZ [(15, .bool (decide (a1 = 113))), (14, .bool (decide (a1 = 113)))] ?_
 refine oE ?_
 refine cwp_condD (a1 = 113) (by kernel_rfl) (fun hc7 => ?_) (fun hc7 => ?_)
 · replace hM := ifTo hc7 hM
   refine cR ?_
   refine oZ [(2, .int .i32 9472)] ?_
   refine oE (cwp_ret (blockE_r (thenE_r ?_)))
   subst hM
   exact ret_ (.int .i32 9472) (by kernel_rfl) ⟨rfl, Ext.refl _⟩
 replace hM := ifFo hc7 hM
 refine cR ?_
 refine oZ [(17, .bool (decide (a1 = 116))), (16, .bool (decide (a1 = 116)))] ?_
 refine oE ?_
 refine cwp_condD (a1 = 116) (by kernel_rfl) (fun hc8 => ?_) (fun hc8 => ?_)
 · replace hM := ifTo hc8 hM
   refine cR ?_
   refine oZ [(2, .int .i32 9500)] ?_
   refine oE (cwp_ret (blockE_r (thenE_r ?_)))
   subst hM
   exact ret_ (.int .i32 9500) (by kernel_rfl) ⟨rfl, Ext.refl _⟩
 replace hM := ifFo hc8 hM
 refine cR ?_
 refine oZ [(19, .bool (decide (a1 = 117))), (18, .bool (decide (a1 = 117)))] ?_
 refine oE ?_
 refine cwp_condD (a1 = 117) (by kernel_rfl) (fun hc9 => ?_) (fun hc9 => ?_)
 · replace hM := ifTo hc9 hM
   refine cR ?_
   refine oZ [(2, .int .i32 9508)] ?_
   refine oE (cwp_ret (blockE_r (thenE_r ?_)))
   subst hM
   exact ret_ (.int .i32 9508) (by kernel_rfl) ⟨rfl, Ext.refl _⟩
 replace hM := ifFo hc9 hM
 refine cR ?_
 refine oZ [(21, .bool (decide (a1 = 118))), (20, .bool (decide (a1 = 118)))] ?_
 refine oE ?_
 refine cwp_condD (a1 = 118) (by kernel_rfl) (fun hc10 => ?_) (fun hc10 => ?_)
 · replace hM := ifTo hc10 hM
   refine cR ?_
   refine oZ [(2, .int .i32 9524)] ?_
   refine oE (cwp_ret (blockE_r (thenE_r ?_)))
   subst hM
   exact ret_ (.int .i32 9524) (by kernel_rfl) ⟨rfl, Ext.refl _⟩
 replace hM := ifFo hc10 hM
 refine cR ?_
 refine oZ [(23, .bool (decide (a1 = 119))), (22, .bool (decide (a1 = 119)))] ?_
 refine oE ?_
 refine cwp_condD (a1 = 119) (by kernel_rfl) (fun hc11 => ?_) (fun hc11 => ?_)
 · replace hM := ifTo hc11 hM
   refine cR ?_
   refine oZ [(2, .int .i32 9516)] ?_
   refine oE (cwp_ret (blockE_r (thenE_r ?_)))
   subst hM
   exact ret_ (.int .i32 9516) (by kernel_rfl) ⟨rfl, Ext.refl _⟩
 replace hM := ifFo hc11 hM
 refine cR ?_
 refine oZ [(25, .bool (decide (a1 = 120))), (24, .bool (decide (a1 = 120)))] ?_
 refine oE ?_
 refine cwp_condD (a1 = 120) (by kernel_rfl) (fun hc12 => ?_) (fun hc12 => ?_)
 · replace hM := ifTo hc12 hM
   refine cR ?_
   refine oZ [(2, .int .i32 9474)] ?_
   refine oE (cwp_ret (blockE_r (thenE_r ?_)))
   subst hM
   exact ret_ (.int .i32 9474) (by kernel_rfl) ⟨rfl, Ext.refl _⟩
 replace hM := ifFo hc12 hM
 refine cR ?_
 refine oZ [(27, .bool (decide (a1 = 97))), (26, .bool (decide (a1 = 97)))] ?_
 refine oE ?_
 refine cwp_condD (a1 = 97) (by kernel_rfl) (fun hc13 => ?_) (fun hc13 => ?_)
 · replace hM := ifTo hc13 hM
   refine cR ?_
   refine oZ [(2, .int .i32 9618)] ?_
   refine oE (cwp_ret (blockE_r (thenE_r ?_)))
   subst hM
   exact ret_ (.int .i32 9618) (by kernel_rfl) ⟨rfl, Ext.refl _⟩
 replace hM := ifFo hc13 hM
 refine cR ?_
 refine oZ [(29, .bool (decide (a1 = 102))), (28, .bool (decide (a1 = 102)))] ?_
 refine oE ?_
 refine cwp_condD (a1 = 102) (by kernel_rfl) (fun hc14 => ?_) (fun hc14 => ?_)
 · replace hM := ifTo hc14 hM
   refine cR ?_
   refine oZ [(2, .int .i32 176)] ?_
   refine oE (cwp_ret (blockE_r (thenE_r ?_)))
   subst hM
   exact ret_ (.int .i32 176) (by kernel_rfl) ⟨rfl, Ext.refl _⟩
 replace hM := ifFo hc14 hM
 refine cR ?_
 refine oZ [(31, .bool (decide (a1 = 103))), (30, .bool (decide (a1 = 103)))] ?_
 refine oE ?_
 refine cwp_condD (a1 = 103) (by kernel_rfl) (fun hc15 => ?_) (fun hc15 => ?_)
 · replace hM := ifTo hc15 hM
   refine cR ?_
   refine oZ [(2, .int .i32 177)] ?_
   refine oE (cwp_ret (blockE_r (thenE_r ?_)))
   subst hM
   exact ret_ (.int .i32 177) (by kernel_rfl) ⟨rfl, Ext.refl _⟩
 replace hM := ifFo hc15 hM
 refine cR ?_
 refine oZ [(33, .bool (decide (a1 = 126))), (32, .bool (decide (a1 = 126)))] ?_
 refine oE ?_
 refine cwp_condD (a1 = 126) (by kernel_rfl) (fun hc16 => ?_) (fun hc16 => ?_)
 · replace hM := ifTo hc16 hM
   refine cR ?_
   refine oZ [(2, .int .i32 183)] ?_
   refine oE (cwp_ret (blockE_r (thenE_r ?_)))
   subst hM
   exact ret_ (.int .i32 183) (by kernel_rfl) ⟨rfl, Ext.refl _⟩
 replace hM := ifFo hc16 hM
 refine cwp_skip (blockE_n (thenE_n (cR ?_)))
 refine oZ [(34, .int .i32 a1), (2, .int .i32 a1)] ?_
 refine oE (cwp_ret ?_)
 subst hM
 exact ret_ (.int .i32 a1) (by kernel_rfl) ⟨rfl, Ext.refl _⟩
/- (*mullion/vt.Screen).keep -/
def vt_Screen_keep (a1 : Option Addr) (a2 : Option Addr) (a2n : Nat) (a2c : Nat) (K : Heap → Prop) (h : Heap) : Prop :=
 nz a1 fun p3 =>
 ldL h (p3.add 8) fun x4 x4n x4c =>
 appS h 52 48 [.string (⟨#[]⟩ : ByteArray), .int .i64 0, .int .i64 0, .int .i64 0, .int .i64 0] none 0 0 a2 a2n fun s9 s9c h8 =>
 (cellH h8 (p3.add 8) = some (.slice x4 x4n x4c)) ∧
 gap h8 fun h13 =>
 (cellH h13 (p3.add 8) = some (.slice x4 x4n x4c)) ∧
 appH h13 81 24 [.slice none 0 0] x4 x4n x4c [.slice s9 (0 + a2n) s9c] 1 fun s17 s17c h16 =>
 stN (p3.add 8) [.slice s17 (x4n + 1) s17c] 0 h16 fun h18 =>
 ldL h18 (p3.add 8) fun x19 x19n x19c =>
 ldI h18 .i64 (p3.add 2) fun x23 =>
 if x23 < (x19n : Int) then
  ldL h18 (p3.add 8) fun x28 x28n x28c =>
  ldL h18 (p3.add 8) fun x32 x32n x32c =>
  ldI h18 .i64 (p3.add 2) fun x36 =>
  0 ≤ (IntKind.wrap .i64 ((x32n : Int) - x36)) ∧
  (IntKind.wrap .i64 ((x32n : Int) - x36)) ≤ (x28n : Int) ∧
  appS h18 81 24 [.slice none 0 0] none 0 0 (cutA x28 x28c (IntKind.wrap .i64 ((x32n : Int) - x36)).toNat 1) (x28n - (IntKind.wrap .i64 ((x32n : Int) - x36)).toNat) fun s43 s43c h42 =>
  stN (p3.add 8) [.slice s43 (0 + (x28n - (IntKind.wrap .i64 ((x32n : Int) - x36)).toNat)) s43c] 0 h42 fun h45 =>
  K h45
 else
 K h18
theorem vt_Screen_keep_ok (a1 : Option Addr) (a2 : Option Addr) (a2n : Nat) (a2c : Nat) (K : Heap → Prop) (h : Heap) (hM : vt_Screen_keep a1 a2 a2n a2c K h) : CallsH Tryz.prog 35 #[.pointer a1, .slice a2 a2n a2c] (fun v h' => v = .tuple #[] ∧ K h') h := by
 unfold vt_Screen_keep at hM
 refine callsH_intro (n := 44) Tryz.func35 rfl rfl (by kernel_rfl) ?_
 refine cwp_seq ?_
 refine cwp_draw (by kernel_rfl) ?_
 refine kq 0 (.pointer a1) ?_
 refine kq 1 (.pointer a1) ?_
 obtain ⟨p3, rfl, hM⟩ := hM
 refine kq 2 (.pointer (some p3)) ?_
 refine kq 3 (.pointer (some (p3.add 8))) ?_
 obtain ⟨x4, x4n, x4c, hc5, hM⟩ := hM
 refine kl 4 (.slice x4 x4n x4c) (p3.add 8) [8, 9, 10, 11] [8, 11] hc5 ?_
 refine kq 5 (.slice a2 a2n a2c) ?_
 obtain ⟨nw10, nw101, nw102, nw103, hM⟩ := hM
 refine kE 6 (hpApp (t := 81) (ty := 81) (et := 52) (zv := .agg #[.string (⟨#[]⟩ : ByteArray), .int .i64 0, .int .i64 0, .int .i64 0, .int .i64 0]) (sz := 5) (by_ := 48) (base := none) (n' := 0) (c := 0) (xb := a2) (m := a2n) (xc := a2c) (new := nw10) (fun _ => by kernel_rfl) (by kernel_rfl) (by kernel_rfl) [.string (⟨#[]⟩ : ByteArray), .int .i64 0, .int .i64 0, .int .i64 0, .int .i64 0] rfl rfl (by decide) nw101 nw102 nw103 hM ?_)
 clear hM
 intro s9 s9c h8 hM
 obtain ⟨hk11, hM⟩ := hM
 refine ⟨⟨⟨hk11, trivial⟩, trivial⟩, ?_⟩
 refine kE 7 (hpNewS #[.slice s9 (0 + a2n) s9c] 81 1 (fun _ => by kernel_rfl) ?_)
 intro b12 h13 hN14
 replace hM := hM _ (New.ext hN14)
 obtain ⟨hk15, hM⟩ := hM
 refine ⟨⟨⟨hk15, trivial⟩, trivial⟩, ?_⟩
 refine kE 8 (hpApp (t := 68) (ty := 68) (et := 81) (zv := .slice none 0 0) (sz := 1) (by_ := 24) (base := x4) (n' := x4n) (c := x4c) (xb := (some ⟨b12, 0, none⟩)) (m := 1) (xc := 1) (new := [.slice s9 (0 + a2n) s9c]) (fun _ => by kernel_rfl) (by kernel_rfl) (by kernel_rfl) [.slice none 0 0] rfl rfl (by decide) rfl rfl ⟨Blk.cell (New.blk hN14) 0 (by kernel_rfl), trivial⟩ hM ?_)
 clear hM
 intro s17 s17c h16 hM
 refine ⟨trivial, ?_⟩
 refine kq 9 (.pointer (some p3)) ?_
 refine kq 10 (.pointer (some (p3.add 8))) ?_
 refine kD 11 (hpSt (p3.add 8) [.slice s17 (x4n + 1) s17c] (fun _ => by kernel_rfl) (by kernel_rfl) hM ?_)
 clear hM
 intro h18 hM
 refine ⟨trivial, ?_⟩
 refine k_done (by kernel_rfl) ?_
 refine thenE_n (cwp_seq ?_)
 refine cwp_draw (by kernel_rfl) ?_
 refine kq 0 (.pointer (some p3)) ?_
 refine kq 1 (.pointer (some p3)) ?_
 refine kq 2 (.pointer (some (p3.add 8))) ?_
 obtain ⟨x19, x19n, x19c, hc20, hM⟩ := hM
 refine kl 3 (.slice x19 x19n x19c) (p3.add 8) [4, 9] [] hc20 ?_
 refine kq 4 (.int .i64 (x19n : Int)) ?_
 refine kq 5 (.pointer (some p3)) ?_
 refine kq 6 (.pointer (some p3)) ?_
 refine kq 7 (.pointer (some (p3.add 2))) ?_
 obtain ⟨x23, hc24, hM⟩ := hM
 refine kl 8 (.int .i64 x23) (p3.add 2) [9] [] hc24 ?_
 refine kq 9 (.bool (decide (x23 < (x19n : Int)))) ?_
 refine k_done (by kernel_rfl) ?_
 refine thenE_n ?_
 refine cwp_condD (x23 < (x19n : Int)) (by kernel_rfl) (fun hc27 => ?_) (fun hc27 => ?_)
 · replace hM := ifT hc27 hM
   refine cwp_draw (by kernel_rfl) ?_
   refine kq 0 (.pointer (some p3)) ?_
   refine kq 1 (.pointer (some p3)) ?_
   refine kq 2 (.pointer (some p3)) ?_
   refine kq 3 (.pointer (some (p3.add 8))) ?_
   obtain ⟨x28, x28n, x28c, hc29, hM⟩ := hM
   refine kl 4 (.slice x28 x28n x28c) (p3.add 8) [15, 16, 17, 18, 19] [16, 19] hc29 ?_
   refine kq 5 (.pointer (some p3)) ?_
   refine kq 6 (.pointer (some p3)) ?_
   refine kq 7 (.pointer (some (p3.add 8))) ?_
   obtain ⟨x32, x32n, x32c, hc33, hM⟩ := hM
   refine kl 8 (.slice x32 x32n x32c) (p3.add 8) [9, 14, 15, 16, 17, 18, 19] [16, 19] hc33 ?_
   refine kq 9 (.int .i64 (x32n : Int)) ?_
   refine kq 10 (.pointer (some p3)) ?_
   refine kq 11 (.pointer (some p3)) ?_
   refine kq 12 (.pointer (some (p3.add 2))) ?_
   obtain ⟨x36, hc37, hM⟩ := hM
   refine kl 13 (.int .i64 x36) (p3.add 2) [14, 15, 16, 17, 18, 19] [16, 19] hc37 ?_
   refine kq 14 (.int .i64 (IntKind.wrap .i64 ((x32n : Int) - x36))) ?_
   obtain ⟨hc40, hM⟩ := hM
   obtain ⟨hc41, hM⟩ := hM
   refine k_pure (i := 15) [16, 17, 18, 19] (.slice (cutA x28 x28c (IntKind.wrap .i64 ((x32n : Int) - x36)).toNat 1) (x28n - (IntKind.wrap .i64 ((x32n : Int) - x36)).toNat) (x28c - (IntKind.wrap .i64 ((x32n : Int) - x36)).toNat)) (by kernel_rfl) rfl rfl (by kernel_rfl) (fun h' => rd_sSLo (P := Tryz.prog) (h := h') (t := 68) (el := 81) (sz := 1) (a := x28) (n := x28n) (c := x28c) (k := .i64) (i := (IntKind.wrap .i64 ((x32n : Int) - x36))) (by kernel_rfl) (by kernel_rfl) hc40 hc41 (by kernel_rfl)) (by kernel_rfl) ?_
   obtain ⟨nw44, nw441, nw442, nw443, hM⟩ := hM
   refine kE 16 (hpApp (t := 68) (ty := 68) (et := 81) (zv := .slice none 0 0) (sz := 1) (by_ := 24) (base := none) (n' := 0) (c := 0) (xb := (cutA x28 x28c (IntKind.wrap .i64 ((x32n : Int) - x36)).toNat 1)) (m := (x28n - (IntKind.wrap .i64 ((x32n : Int) - x36)).toNat)) (xc := (x28c - (IntKind.wrap .i64 ((x32n : Int) - x36)).toNat)) (new := nw44) (fun _ => by kernel_rfl) (by kernel_rfl) (by kernel_rfl) [.slice none 0 0] rfl rfl (by decide) nw441 nw442 nw443 hM ?_)
   clear hM
   intro s43 s43c h42 hM
   refine ⟨trivial, ?_⟩
   refine kq 17 (.pointer (some p3)) ?_
   refine kq 18 (.pointer (some (p3.add 8))) ?_
   refine kD 19 (hpSt (p3.add 8) [.slice s43 (0 + (x28n - (IntKind.wrap .i64 ((x32n : Int) - x36)).toNat)) s43c] (fun _ => by kernel_rfl) (by kernel_rfl) hM ?_)
   clear hM
   intro h45 hM
   refine ⟨trivial, ?_⟩
   refine k_done (by kernel_rfl) ?_
   exact end_ (.tuple #[]) (by kernel_rfl) ⟨rfl, hM⟩
 replace hM := ifF hc27 hM
 refine cwp_skip ?_
 exact end_ (.tuple #[]) (by kernel_rfl) ⟨rfl, hM⟩
/- (*mullion/vt.Screen).shown -/
def vt_Screen_shown (a1 : Option Addr) (K : Option Addr → Heap → Prop) (h : Heap) : Prop :=
 nz a1 fun p2 =>
 ldB h (p2.add 7) fun x3 =>
 if x3 = true then
  K (some (p2.add 5)) h
 else
 K (some (p2.add 3)) h
theorem vt_Screen_shown_ok (a1 : Option Addr) (K : Option Addr → Heap → Prop) (h : Heap) (hM : vt_Screen_shown a1 K h) : CallsH Tryz.prog 39 #[.pointer a1] (fun v h' => ∃ (r7 : Option Addr), v = .pointer r7 ∧ K r7 h') h := by
 unfold vt_Screen_shown at hM
 refine callsH_intro (n := 13) Tryz.func39 rfl rfl (by kernel_rfl) ?_
 refine cR ?_
 refine oZ [(2, .pointer none)] ?_
 refine oE (cwp_seq (cR ?_))
 refine oZ [(3, .pointer a1)] ?_
 obtain ⟨p2, rfl, hM⟩ := hM
 refine owp_rdG (.pointer (some p2)) rfl (by kernel_rfl) (by kernel_rfl) ?_
 refine oZ [(5, .pointer (some (p2.add 7)))] ?_
 obtain ⟨x3, hc4, hM⟩ := hM
 refine oL (.bool x3) (p2.add 7) hc4 ?_
 refine oE ?_
 refine cwp_condB x3 (by kernel_rfl) (fun hc6 => ?_) (fun hc6 => ?_)
 · replace hM := ifT hc6 hM
   refine cR ?_
   refine oZ [(7, .pointer (some p2)), (8, .pointer (some p2)), (9, .pointer (some (p2.add 5))), (2, .pointer (some (p2.add 5)))] ?_
   refine oE (cwp_ret (thenE_r ?_))
   exact ret_ (.pointer (some (p2.add 5))) (by kernel_rfl) ⟨_, rfl, hM⟩
 replace hM := ifF hc6 hM
 refine cwp_skip (thenE_n (cR ?_))
 refine oZ [(10, .pointer (some p2)), (11, .pointer (some p2)), (12, .pointer (some (p2.add 3))), (2, .pointer (some (p2.add 3)))] ?_
 refine oE (cwp_ret ?_)
 exact ret_ (.pointer (some (p2.add 3))) (by kernel_rfl) ⟨_, rfl, hM⟩
/- (*mullion/vt.Screen).erased -/
def vt_Screen_erased (a1 : Option Addr) (K : ByteArray → Int → Int → Int → Int → Heap → Prop) (h : Heap) : Prop :=
 newB h #[.string (⟨#[]⟩ : ByteArray), .int .i64 0, .int .i64 0, .int .i64 0, .int .i64 0] 52 fun b2 h3 =>
 nz a1 fun p5 =>
 ldI h3 .i64 (p5.add 12) fun x6 =>
 gap h3 fun h9 =>
 stN ⟨b2, 0, none⟩ [.string ((vt_blank 0 x6 0).1), .int .i64 ((vt_blank 0 x6 0).2.1), .int .i64 ((vt_blank 0 x6 0).2.2.1), .int .i64 ((vt_blank 0 x6 0).2.2.2.1), .int .i64 ((vt_blank 0 x6 0).2.2.2.2)] 0 h9 fun h11 =>
 ldS h11 ⟨b2, 0, none⟩ fun x12 =>
 ldI h11 .i64 ⟨b2, 1, none⟩ fun x14 =>
 ldI h11 .i64 ⟨b2, 2, none⟩ fun x16 =>
 ldI h11 .i64 ⟨b2, 3, none⟩ fun x18 =>
 ldI h11 .i64 ⟨b2, 4, none⟩ fun x20 =>
 K x12 x14 x16 x18 x20 h11
theorem vt_Screen_erased_ok (a1 : Option Addr) (K : ByteArray → Int → Int → Int → Int → Heap → Prop) (h : Heap) (hM : vt_Screen_erased a1 K h) : CallsH Tryz.prog 139 #[.pointer a1] (fun v h' => ∃ (r27 : ByteArray) (r28 : Int) (r29 : Int) (r30 : Int) (r31 : Int), v = .agg #[.string r27, .int .i64 r28, .int .i64 r29, .int .i64 r30, .int .i64 r31] ∧ K r27 r28 r29 r30 r31 h') h := by
 unfold vt_Screen_erased at hM
 refine callsH_intro (n := 11) Tryz.func139 rfl rfl (by kernel_rfl) ?_
 refine cR ?_
 refine oG (hpNew #[.string (⟨#[]⟩ : ByteArray), .int .i64 0, .int .i64 0, .int .i64 0, .int .i64 0] 52 (fun _ => by kernel_rfl) ?_)
 intro b2 h3 hN4
 replace hM := newB_of hN4 hM
 refine oE (cR ?_)
 refine oZ [(3, .pointer a1)] ?_
 obtain ⟨p5, rfl, hM⟩ := hM
 refine owp_rdG (.pointer (some p5)) rfl (by kernel_rfl) (by kernel_rfl) ?_
 refine oZ [(5, .pointer (some (p5.add 9))), (6, .pointer (some (p5.add 11))), (7, .pointer (some (p5.add 12)))] ?_
 obtain ⟨x6, hc7, hM⟩ := hM
 refine oL (.int .i64 x6) (p5.add 12) hc7 ?_
 refine oZ [(9, .agg #[.int .i64 0, .int .i64 x6, .int .i64 0])] ?_
 refine oG (hpCallP 55 #[.agg #[.int .i64 0, .int .i64 x6, .int .i64 0]] (.agg #[.string ((vt_blank 0 x6 0).1), .int .i64 ((vt_blank 0 x6 0).2.1), .int .i64 ((vt_blank 0 x6 0).2.2.1), .int .i64 ((vt_blank 0 x6 0).2.2.2.1), .int .i64 ((vt_blank 0 x6 0).2.2.2.2)]) (by kernel_rfl) (vt_blank_ok 0 x6 0 _ h3 rfl) ?_)
 intro h9 hx10
 replace hM := hM _ hx10
 refine oT ⟨b2, 0, none⟩ [.string ((vt_blank 0 x6 0).1), .int .i64 ((vt_blank 0 x6 0).2.1), .int .i64 ((vt_blank 0 x6 0).2.2.1), .int .i64 ((vt_blank 0 x6 0).2.2.2.1), .int .i64 ((vt_blank 0 x6 0).2.2.2.2)] hM ?_
 clear hM
 intro h11 hM
 refine oE (cwp_ret ?_)
 obtain ⟨x12, hc13, hM⟩ := hM
 obtain ⟨x14, hc15, hM⟩ := hM
 obtain ⟨x16, hc17, hM⟩ := hM
 obtain ⟨x18, hc19, hM⟩ := hM
 obtain ⟨x20, hc21, hM⟩ := hM
 exact ret_ (.agg #[.string x12, .int .i64 x14, .int .i64 x16, .int .i64 x18, .int .i64 x20]) (Eq.trans (b := (cellH h11 ⟨b2, 0, none⟩).bind fun v22 => (cellH h11 ⟨b2, 1, none⟩).bind fun v23 => (cellH h11 ⟨b2, 2, none⟩).bind fun v24 => (cellH h11 ⟨b2, 3, none⟩).bind fun v25 => (cellH h11 ⟨b2, 4, none⟩).bind fun v26 => some (.agg #[v22, v23, v24, v25, v26])) (by kernel_rfl) ((bindE hc13 _).trans ((bindE hc15 _).trans ((bindE hc17 _).trans ((bindE hc19 _).trans (bindE hc21 _)))))) ⟨_, _, _, _, _, rfl, hM⟩
/- (*mullion/vt.Screen).up -/
def vt_Screen_up_j1 (Kn : Addr → Int → Int → Bool → Option Addr → Nat → Nat → Int → Int → Heap → Prop) (y38 : Option Addr) (y39 : Int) (y40 : Int) (y41 : Bool) (y42 : Option Addr) (y42n : Nat) (y42c : Nat) (y43 : Int) (y44 : Int) (h : Heap) : Prop :=
 0 ≤ y40 ∧
 y40 ≤ (y42c : Int) ∧
 0 ≤ y39 ∧
 y39 ≤ y40 ∧
 0 ≤ (IntKind.wrap .i64 (y40 + 1)) ∧
 (IntKind.wrap .i64 (y40 + 1)) ≤ (y42c : Int) ∧
 0 ≤ (IntKind.wrap .i64 (y39 + 1)) ∧
 (IntKind.wrap .i64 (y39 + 1)) ≤ (IntKind.wrap .i64 (y40 + 1)) ∧
 cpM h 1 (cutA y42 y42c y39.toNat 1) (y40.toNat - y39.toNat) (cutA y42 y42c (IntKind.wrap .i64 (y39 + 1)).toNat 1) ((IntKind.wrap .i64 (y40 + 1)).toNat - (IntKind.wrap .i64 (y39 + 1)).toNat) fun h53 =>
 nz y38 fun p54 =>
 ldI h53 .i64 p54 fun x55 =>
 vt_Screen_erased (some p54) (fun x60 x61 x62 x63 x64 h59 =>
  (cellH h59 p54 = some (.int .i64 x55)) ∧
  vt_fresh x55 x62 x63 x64 (fun x67 x67n x67c h66 =>
   nz y42 fun p70 =>
   0 ≤ y40 ∧
   y40 < (y42n : Int) ∧
   stN (p70.add ((y40).toNat * 1)) [.slice x67 x67n x67c] 0 h66 fun h71 =>
     Kn p54 y39 y40 y41 (some p70) y42n y42c y43 y44 h71) h59) h53
theorem vt_Screen_up_j1_ok {Q : Exit → Env → Heap → Prop} (Kn : Addr → Int → Int → Bool → Option Addr → Nat → Nat → Int → Int → Heap → Prop) (hKn : ∀ (z86 : Addr) (z87 : Int) (z88 : Int) (z89 : Bool) (z90 : Option Addr) (z90n : Nat) (z90c : Nat) (z91 : Int) (z92 : Int) (b : Env) (h : Heap), Kn z86 z87 z88 z89 z90 z90n z90c z91 z92 h → Q .normal (upd (upd (upd (upd (upd (upd (upd b 0 (.pointer (some z86))) 1 (.int .i64 z87)) 2 (.int .i64 z88)) 4 (.bool z89)) 10 (.slice z90 z90n z90c)) 21 (.int .i64 z91)) 22 (.int .i64 z92)) h) (y38 : Option Addr) (y39 : Int) (y40 : Int) (y41 : Bool) (y42 : Option Addr) (y42n : Nat) (y42c : Nat) (y43 : Int) (y44 : Int) (b : Env) (h : Heap) (hM : vt_Screen_up_j1 Kn y38 y39 y40 y41 y42 y42n y42c y43 y44 h) : cwp Tryz.prog (partC Tryz.f138 [1, 1, 0, 0, 1, 1, 0, 0, 1]) 64 Q (upd (upd (upd (upd (upd (upd (upd b 0 (.pointer y38)) 1 (.int .i64 y39)) 2 (.int .i64 y40)) 4 (.bool y41)) 10 (.slice y42 y42n y42c)) 21 (.int .i64 y43)) 22 (.int .i64 y44)) h := by
  unfold vt_Screen_up_j1 at hM
  refine cwp_part rfl ?_
  refine cwp_seq ?_
  refine cwp_draw (by kernel_rfl) ?_
  refine kq 0 (.slice y42 y42n y42c) ?_
  refine kq 1 (.int .i64 y39) ?_
  refine kq 2 (.int .i64 y40) ?_
  obtain ⟨hc45, hM⟩ := hM
  obtain ⟨hc46, hM⟩ := hM
  obtain ⟨hc47, hM⟩ := hM
  obtain ⟨hc48, hM⟩ := hM
  refine k_pure (i := 3) [10] (.slice (cutA y42 y42c y39.toNat 1) (y40.toNat - y39.toNat) (y42c - y39.toNat)) (by kernel_rfl) rfl rfl (by kernel_rfl) (fun h' => rd_sSLH (P := Tryz.prog) (h := h') (t := 68) (el := 81) (sz := 1) (a := y42) (n := y42n) (c := y42c) (k := .i64) (k' := .i64) (i := y39) (j := y40) (by kernel_rfl) (by kernel_rfl) hc45 hc46 hc47 hc48 (by kernel_rfl)) (by kernel_rfl) ?_
  refine kq 4 (.slice y42 y42n y42c) ?_
  refine kq 5 (.int .i64 y39) ?_
  refine kq 6 (.int .i64 (IntKind.wrap .i64 (y39 + 1))) ?_
  refine kq 7 (.int .i64 y40) ?_
  refine kq 8 (.int .i64 (IntKind.wrap .i64 (y40 + 1))) ?_
  obtain ⟨hc49, hM⟩ := hM
  obtain ⟨hc50, hM⟩ := hM
  obtain ⟨hc51, hM⟩ := hM
  obtain ⟨hc52, hM⟩ := hM
  refine k_pure (i := 9) [10] (.slice (cutA y42 y42c (IntKind.wrap .i64 (y39 + 1)).toNat 1) ((IntKind.wrap .i64 (y40 + 1)).toNat - (IntKind.wrap .i64 (y39 + 1)).toNat) (y42c - (IntKind.wrap .i64 (y39 + 1)).toNat)) (by kernel_rfl) rfl rfl (by kernel_rfl) (fun h' => rd_sSLH (P := Tryz.prog) (h := h') (t := 68) (el := 81) (sz := 1) (a := y42) (n := y42n) (c := y42c) (k := .i64) (k' := .i64) (i := (IntKind.wrap .i64 (y39 + 1))) (j := (IntKind.wrap .i64 (y40 + 1))) (by kernel_rfl) (by kernel_rfl) hc49 hc50 hc51 hc52 (by kernel_rfl)) (by kernel_rfl) ?_
  refine kE 10 (hpCp (t := 68) (t2 := 68) (ty := 3) (et := 81) (sz := 1) (d := (cutA y42 y42c y39.toNat 1)) (dn := (y40.toNat - y39.toNat)) (dc := (y42c - y39.toNat)) (s := (cutA y42 y42c (IntKind.wrap .i64 (y39 + 1)).toNat 1)) (sn := ((IntKind.wrap .i64 (y40 + 1)).toNat - (IntKind.wrap .i64 (y39 + 1)).toNat)) (sc := (y42c - (IntKind.wrap .i64 (y39 + 1)).toNat)) (fun _ => by kernel_rfl) (by kernel_rfl) (by kernel_rfl) hM ?_)
  clear hM
  intro h53 hM
  refine ⟨trivial, ?_⟩
  refine k_done (by kernel_rfl) ?_
  refine thenE_n ?_
  refine cwp_draw (by kernel_rfl) ?_
  refine kq 0 (.slice y42 y42n y42c) ?_
  refine kq 1 (.int .i64 y40) ?_
  refine kq 2 (.pointer y38) ?_
  obtain ⟨p54, rfl, hM⟩ := hM
  refine kq 3 (.pointer (some p54)) ?_
  refine kq 4 (.pointer (some p54)) ?_
  obtain ⟨x55, hc56, hM⟩ := hM
  refine kl 5 (.int .i64 x55) p54 [9, 10, 11] [9, 11] hc56 ?_
  refine kq 6 (.pointer (some p54)) ?_
  refine kE 7 (hpCallE 139 #[.pointer (some p54)] (by kernel_rfl) (vt_Screen_erased_ok (some p54) _ h53 hM) ?_)
  clear hM
  rintro _ h59 ⟨x60, x61, x62, x63, x64, rfl, hM⟩
  obtain ⟨hk65, hM⟩ := hM
  refine ⟨⟨⟨hk65, trivial⟩, trivial⟩, ?_⟩
  refine kq 8 (.agg #[.int .i64 x62, .int .i64 x63, .int .i64 x64]) ?_
  refine kE 9 (hpCallE 33 #[.int .i64 x55, .agg #[.int .i64 x62, .int .i64 x63, .int .i64 x64]] (by kernel_rfl) (vt_fresh_ok x55 x62 x63 x64 _ h59 hM) ?_)
  clear hM
  rintro _ h66 ⟨x67, x67n, x67c, rfl, hM⟩
  refine ⟨trivial, ?_⟩
  obtain ⟨p70, rfl, hM⟩ := hM
  obtain ⟨hc68, hM⟩ := hM
  obtain ⟨hc69, hM⟩ := hM
  refine k_pure (i := 10) [11] (.pointer (some (p70.add ((y40).toNat * 1)))) (by kernel_rfl) rfl rfl (by kernel_rfl) (fun h' => rd_ixS (P := Tryz.prog) (h := h') (t := 68) (el := 81) (sz := 1) (ad := p70) (len := y42n) (c := y42c) (k := .i64) (i := y40) (by kernel_rfl) (by kernel_rfl) hc68 hc69 (by kernel_rfl)) (by kernel_rfl) ?_
  refine kD 11 (hpSt (p70.add ((y40).toNat * 1)) [.slice x67 x67n x67c] (fun _ => by kernel_rfl) (by kernel_rfl) hM ?_)
  clear hM
  intro h71 hM
  refine ⟨trivial, ?_⟩
  refine k_done (by kernel_rfl) ?_
  exact q_at (Q := Q .normal) 0 (.pointer (some p54)) (by kernel_rfl) (q_at (Q := Q .normal) 1 (.int .i64 y39) (by kernel_rfl) (q_at (Q := Q .normal) 2 (.int .i64 y40) (by kernel_rfl) (q_at (Q := Q .normal) 4 (.bool y41) (by kernel_rfl) (q_at (Q := Q .normal) 10 (.slice (some p70) y42n y42c) (by kernel_rfl) (q_at (Q := Q .normal) 21 (.int .i64 y43) (by kernel_rfl) (q_at (Q := Q .normal) 22 (.int .i64 y44) (by kernel_rfl) (hKn p54 y39 y40 y41 (some p70) y42n y42c y43 y44 _ _ hM)))))))
def vt_Screen_up_l0 (K0 : Heap → Prop) : Nat → Option Addr → Int → Int → Bool → Option Addr → Nat → Nat → Int → Int → Heap → Prop
  | 0, _, _, _, _, _, _, _, _, _, _ => False
  | k + 1, y12, y13, y14, y15, y16, y16n, y16c, y17, y18, h =>
  if y18 < y17 then
   if (y15 && (decide (y13 = 0))) = true then
    nz y12 fun p26 =>
    ldB h (p26.add 7) fun x27 =>
    if (!x27) = true then
     nz y16 fun p33 =>
     0 ≤ (0 : Int) ∧
     (0 : Int) < (y16n : Int) ∧
     ldL h (p33.add (((0 : Int)).toNat * 1)) fun x34 x34n x34c =>
     vt_Screen_keep (some p26) x34 x34n x34c (fun  h37 =>
      vt_Screen_up_j1
       (fun z93 z94 z95 z96 z97 z97n z97c z98 z99 h100 =>
            vt_Screen_up_l0 K0 k (some z93) z94 z95 z96 z97 z97n z97c z98 (IntKind.wrap .i64 (z99 + 1)) h100) (some p26) y13 y14 y15 (some p33) y16n y16c y17 y18 h37) h
    else
    vt_Screen_up_j1
     (fun z103 z104 z105 z106 z107 z107n z107c z108 z109 h110 =>
         vt_Screen_up_l0 K0 k (some z103) z104 z105 z106 z107 z107n z107c z108 (IntKind.wrap .i64 (z109 + 1)) h110) (some p26) y13 y14 y15 y16 y16n y16c y17 y18 h
   else
   vt_Screen_up_j1
    (fun z113 z114 z115 z116 z117 z117n z117c z118 z119 h120 =>
        vt_Screen_up_l0 K0 k (some z113) z114 z115 z116 z117 z117n z117c z118 (IntKind.wrap .i64 (z119 + 1)) h120) y12 y13 y14 y15 y16 y16n y16c y17 y18 h
  else
  K0  h
theorem vt_Screen_up_l0_ok {Q : Exit → Env → Heap → Prop} (K0 : Heap → Prop) (hK0 : ∀  (b : Env) (h : Heap), K0  h → Q (.exit 0) b h) : ∀ (k : Nat) (y12 : Option Addr) (y13 : Int) (y14 : Int) (y15 : Bool) (y16 : Option Addr) (y16n : Nat) (y16c : Nat) (y17 : Int) (y18 : Int) (b : Env) (h : Heap) (hM : vt_Screen_up_l0 K0 k y12 y13 y14 y15 y16 y16n y16c y17 y18 h), lwp Tryz.prog (partC Tryz.f138 [1, 1, 0, 0]) 64 Q k (upd (upd (upd (upd (upd (upd (upd b 0 (.pointer y12)) 1 (.int .i64 y13)) 2 (.int .i64 y14)) 4 (.bool y15)) 10 (.slice y16 y16n y16c)) 21 (.int .i64 y17)) 22 (.int .i64 y18)) h := by
  intro k
  induction k with
  | zero => intro y12 y13 y14 y15 y16 y16n y16c y17 y18 b h hM; exact (show False from hM).elim
  | succ k ih =>
    intro y12 y13 y14 y15 y16 y16n y16c y17 y18 b h hM
    unfold vt_Screen_up_l0 at hM
    refine lwp_succ (cwp_part rfl ?_)
    refine cR ?_
    refine oZ [(23, .bool (decide (y18 < y17)))] ?_
    refine oE (cwp_seq ?_)
    refine cwp_condD (y18 < y17) (by kernel_rfl) (fun hc19 => ?_) (fun hc19 => ?_)
    · replace hM := ifT hc19 hM
      refine cwp_skip (thenE_n (cwp_seq (cwp_block (cwp_seq (cR ?_)))))
      refine oZ [(24, .bool y15), (25, .bool y15)] ?_
      refine oB (y15) 3 [4, 24, 25] (fun b_ => [(26, iteV b_ (.int .i64 y13 : Value) undef), (27, iteV b_ (.bool (decide (y13 = 0)) : Value) undef), (28, .bool (b_ && (decide (y13 = 0))))]) rfl (fun hb20 hq21 => oS [(26, .int .i64 y13), (27, .bool (decide (y13 = 0))), (28, .bool (decide (y13 = 0)))] rfl (hq21)) (fun hb22 hq23 => oS [(26, undef), (27, undef), (28, .bool false)] rfl (hq23)) ?_
      refine oZ [(29, .bool (y15 && (decide (y13 = 0))))] ?_
      by_cases hc25 : (y15 && (decide (y13 = 0))) = true
      · refine oA 28 true (y15 && (decide (y13 = 0))) (by rw [hc25]) ?_
        refine oA 29 true (y15 && (decide (y13 = 0))) (by rw [hc25]) ?_
        replace hM := ifT hc25 hM
        refine oZ [(30, .pointer y12)] ?_
        obtain ⟨p26, rfl, hM⟩ := hM
        refine owp_rdG (.pointer (some p26)) rfl (by kernel_rfl) (by kernel_rfl) ?_
        refine oZ [(32, .pointer (some (p26.add 7)))] ?_
        obtain ⟨x27, hc28, hM⟩ := hM
        refine oL (.bool x27) (p26.add 7) hc28 ?_
        refine oZ [(34, .bool (!x27)), (35, .bool (!x27))] ?_
        refine oE ?_
        refine cwp_condB (!x27) (by kernel_rfl) (fun hc30 => ?_) (fun hc30 => ?_)
        · replace hM := ifT hc30 hM
          refine cwp_region ?_
          refine oZ [(36, .pointer (some p26)), (37, .slice y16 y16n y16c)] ?_
          obtain ⟨p33, rfl, hM⟩ := hM
          obtain ⟨hc31, hM⟩ := hM
          obtain ⟨hc32, hM⟩ := hM
          refine owp_rdG (.pointer (some (p33.add (((0 : Int)).toNat * 1)))) rfl (by kernel_rfl) (rd_ixS (P := Tryz.prog) (h := h) (t := 68) (el := 81) (sz := 1) (ad := p33) (len := y16n) (c := y16c) (k := .i64) (i := 0) (by kernel_rfl) (by kernel_rfl) hc31 hc32 (by kernel_rfl)) ?_
          obtain ⟨x34, x34n, x34c, hc35, hM⟩ := hM
          refine oL (.slice x34 x34n x34c) (p33.add (((0 : Int)).toNat * 1)) hc35 ?_
          refine oG (hpCallE 35 #[.pointer (some p26), .slice x34 x34n x34c] (by kernel_rfl) (vt_Screen_keep_ok (some p26) x34 x34n x34c _ h hM) ?_)
          clear hM
          rintro _ h37 ⟨rfl, hM⟩
          refine oE ?_
          refine cwp_of_part (fn := Tryz.f138) (p := [1, 1, 0, 0, 1, 1, 0, 0, 1]) (by kernel_rfl) (cA 0 (.pointer (some p26)) (cA 1 (.int .i64 y13) (cA 2 (.int .i64 y14) (cA 4 (.bool y15) (cA 10 (.slice (some p33) y16n y16c) (cA 21 (.int .i64 y17) (cA 22 (.int .i64 y18) (vt_Screen_up_j1_ok _ ?_ (some p26) y13 y14 y15 (some p33) y16n y16c y17 y18 _ _ hM))))))))
          · intro z93 z94 z95 z96 z97 z97n z97c z98 z99 b101 h100 hM
            refine blockE_n (thenE_n (cwp_region ?_))
            refine oZ [(63, .int .i64 (IntKind.wrap .i64 (z99 + 1))), (22, .int .i64 (IntKind.wrap .i64 (z99 + 1)))] ?_
            refine owp_nil ?_
            exact lA 0 (.pointer (some z93)) (lA 1 (.int .i64 z94) (lA 2 (.int .i64 z95) (lA 4 (.bool z96) (lA 10 (.slice z97 z97n z97c) (lA 21 (.int .i64 z98) (lA 22 (.int .i64 (IntKind.wrap .i64 (z99 + 1))) (ih (some z93) z94 z95 z96 z97 z97n z97c z98 (IntKind.wrap .i64 (z99 + 1)) _ _ hM)))))))
        replace hM := ifF hc30 hM
        refine cwp_skip (thenE_n ?_)
        refine cwp_of_part (fn := Tryz.f138) (p := [1, 1, 0, 0, 1, 1, 0, 0, 1]) (by kernel_rfl) (cA 0 (.pointer (some p26)) (cA 1 (.int .i64 y13) (cA 2 (.int .i64 y14) (cA 4 (.bool y15) (cA 10 (.slice y16 y16n y16c) (cA 21 (.int .i64 y17) (cA 22 (.int .i64 y18) (vt_Screen_up_j1_ok _ ?_ (some p26) y13 y14 y15 y16 y16n y16c y17 y18 _ _ hM))))))))
        · intro z103 z104 z105 z106 z107 z107n z107c z108 z109 b111 h110 hM
          refine blockE_n (thenE_n (cwp_region ?_))
          refine oZ [(63, .int .i64 (IntKind.wrap .i64 (z109 + 1))), (22, .int .i64 (IntKind.wrap .i64 (z109 + 1)))] ?_
          refine owp_nil ?_
          exact lA 0 (.pointer (some z103)) (lA 1 (.int .i64 z104) (lA 2 (.int .i64 z105) (lA 4 (.bool z106) (lA 10 (.slice z107 z107n z107c) (lA 21 (.int .i64 z108) (lA 22 (.int .i64 (IntKind.wrap .i64 (z109 + 1))) (ih (some z103) z104 z105 z106 z107 z107n z107c z108 (IntKind.wrap .i64 (z109 + 1)) _ _ hM)))))))
      refine oA 28 false (y15 && (decide (y13 = 0))) (by rw [Bool.eq_false_iff.2 hc25]) ?_
      refine oA 29 false (y15 && (decide (y13 = 0))) (by rw [Bool.eq_false_iff.2 hc25]) ?_
      replace hM := ifF hc25 hM
      refine oZ [(30, undef), (31, undef), (32, undef), (33, undef), (34, undef), (35, .bool false)] ?_
      refine oE ?_
      refine cwp_cond (t := false) (by kernel_rfl) (fun hx_ => ?_) (fun hx_ => ?_)
      all_goals first | (cases hx_; done) | skip
      refine cwp_skip (thenE_n ?_)
      refine cwp_of_part (fn := Tryz.f138) (p := [1, 1, 0, 0, 1, 1, 0, 0, 1]) (by kernel_rfl) (cA 0 (.pointer y12) (cA 1 (.int .i64 y13) (cA 2 (.int .i64 y14) (cA 4 (.bool y15) (cA 10 (.slice y16 y16n y16c) (cA 21 (.int .i64 y17) (cA 22 (.int .i64 y18) (vt_Screen_up_j1_ok _ ?_ y12 y13 y14 y15 y16 y16n y16c y17 y18 _ _ hM))))))))
      · intro z113 z114 z115 z116 z117 z117n z117c z118 z119 b121 h120 hM
        refine blockE_n (thenE_n (cwp_region ?_))
        refine oZ [(63, .int .i64 (IntKind.wrap .i64 (z119 + 1))), (22, .int .i64 (IntKind.wrap .i64 (z119 + 1)))] ?_
        refine owp_nil ?_
        exact lA 0 (.pointer (some z113)) (lA 1 (.int .i64 z114) (lA 2 (.int .i64 z115) (lA 4 (.bool z116) (lA 10 (.slice z117 z117n z117c) (lA 21 (.int .i64 z118) (lA 22 (.int .i64 (IntKind.wrap .i64 (z119 + 1))) (ih (some z113) z114 z115 z116 z117 z117n z117c z118 (IntKind.wrap .i64 (z119 + 1)) _ _ hM)))))))
    replace hM := ifF hc19 hM
    refine cwp_exit (thenE_x ?_)
    exact hK0  _ _ hM
def vt_Screen_up (a1 : Option Addr) (a2 : Int) (a3 : Int) (a4 : Int) (a5 : Bool) (K : Heap → Prop) (h : Heap) : Prop :=
 vt_Screen_shown a1 (fun x7 h6 =>
  nz x7 fun p8 =>
  ldL h6 p8 fun x9 x9n x9c =>
  ∃ k125, vt_Screen_up_l0
   (fun  h123 =>
        K h123) k125 a1 a2 a3 a5 x9 x9n x9c (imin a4 (IntKind.wrap .i64 ((IntKind.wrap .i64 (a3 - a2)) + 1))) 0 h6) h
theorem vt_Screen_up_ok (a1 : Option Addr) (a2 : Int) (a3 : Int) (a4 : Int) (a5 : Bool) (K : Heap → Prop) (h : Heap) (hM : vt_Screen_up a1 a2 a3 a4 a5 K h) : CallsH Tryz.prog 138 #[.pointer a1, .int .i64 a2, .int .i64 a3, .int .i64 a4, .bool a5] (fun v h' => v = .tuple #[] ∧ K h') h := by
 unfold vt_Screen_up at hM
 refine callsH_intro (n := 64) Tryz.func138 rfl rfl (by kernel_rfl) ?_
 refine cR ?_
 refine oZ [(11, .pointer a1)] ?_
 refine oG (hpCallE 39 #[.pointer a1] (by kernel_rfl) (vt_Screen_shown_ok a1 _ h hM) ?_)
 clear hM
 rintro _ h6 ⟨x7, rfl, hM⟩
 obtain ⟨p8, rfl, hM⟩ := hM
 refine owp_rdG (.pointer (some p8)) rfl (by kernel_rfl) (by kernel_rfl) ?_
 refine oZ [(14, .pointer (some p8))] ?_
 obtain ⟨x9, x9n, x9c, hc10, hM⟩ := hM
 refine oL (.slice x9 x9n x9c) p8 hc10 ?_
 refine oZ [(10, .slice x9 x9n x9c)] ?_
 refine oE (cR ?_)
 refine oZ [(16, .int .i64 a4), (17, .int .i64 a3), (18, .int .i64 a2), (19, .int .i64 (IntKind.wrap .i64 (a3 - a2))), (20, .int .i64 (IntKind.wrap .i64 ((IntKind.wrap .i64 (a3 - a2)) + 1))), (21, .int .i64 (imin a4 (IntKind.wrap .i64 ((IntKind.wrap .i64 (a3 - a2)) + 1)))), (22, .int .i64 0)] ?_
 refine oE (cwp_block ?_)
 obtain ⟨k_, hM⟩ := hM
 refine cwp_loop k_ (lwp_of_part (fn := Tryz.f138) (p := [1, 1, 0, 0]) (by kernel_rfl) (lA 0 (.pointer a1) (lA 1 (.int .i64 a2) (lA 2 (.int .i64 a3) (lA 4 (.bool a5) (lA 10 (.slice x9 x9n x9c) (lA 21 (.int .i64 (imin a4 (IntKind.wrap .i64 ((IntKind.wrap .i64 (a3 - a2)) + 1)))) (lA 22 (.int .i64 0) (vt_Screen_up_l0_ok _ ?_ k_ a1 a2 a3 a5 x9 x9n x9c (imin a4 (IntKind.wrap .i64 ((IntKind.wrap .i64 (a3 - a2)) + 1))) 0 _ _ hM)))))))))
 · intro  b124 h123 hM
   refine blockE_h ?_
   exact end_ (.tuple #[]) (by kernel_rfl) ⟨rfl, hM⟩
/- (*mullion/vt.Screen).feed -/
def vt_Screen_feed (a1 : Option Addr) (K : Heap → Prop) (h : Heap) : Prop :=
 nz a1 fun p2 =>
 ldI h .i64 (p2.add 10) fun x3 =>
 ldI h .i64 (p2.add 20) fun x7 =>
 if x3 = x7 then
  ldI h .i64 (p2.add 19) fun x12 =>
  ldI h .i64 (p2.add 20) fun x16 =>
  vt_Screen_up (some p2) x12 x16 1 true (fun  h20 =>
   stN (p2.add 18) [.bool false] 0 h20 fun h21 =>
    K h21) h
 else
 ldI h .i64 (p2.add 10) fun x22 =>
 ldI h .i64 (p2.add 1) fun x26 =>
 if x22 < (IntKind.wrap .i64 (x26 - 1)) then
  ldI h .i64 (p2.add 10) fun x31 =>
  stN (p2.add 10) [.int .i64 (IntKind.wrap .i64 (x31 + 1))] 0 h fun h34 =>
  stN (p2.add 18) [.bool false] 0 h34 fun h35 =>
  K h35
 else
 stN (p2.add 18) [.bool false] 0 h fun h36 =>
 K h36
theorem vt_Screen_feed_ok (a1 : Option Addr) (K : Heap → Prop) (h : Heap) (hM : vt_Screen_feed a1 K h) : CallsH Tryz.prog 106 #[.pointer a1] (fun v h' => v = .tuple #[] ∧ K h') h := by
 unfold vt_Screen_feed at hM
 refine callsH_intro (n := 46) Tryz.func106 rfl rfl (by kernel_rfl) ?_
 refine cwp_seq (cwp_seq ?_)
 refine cwp_draw (by kernel_rfl) ?_
 refine kq 0 (.pointer a1) ?_
 obtain ⟨p2, rfl, hM⟩ := hM
 refine kq 1 (.pointer (some p2)) ?_
 refine kq 2 (.pointer (some (p2.add 9))) ?_
 refine kq 3 (.pointer (some (p2.add 10))) ?_
 obtain ⟨x3, hc4, hM⟩ := hM
 refine kl 4 (.int .i64 x3) (p2.add 10) [9] [] hc4 ?_
 refine kq 5 (.pointer (some p2)) ?_
 refine kq 6 (.pointer (some p2)) ?_
 refine kq 7 (.pointer (some (p2.add 20))) ?_
 obtain ⟨x7, hc8, hM⟩ := hM
 refine kl 8 (.int .i64 x7) (p2.add 20) [9] [] hc8 ?_
 refine kq 9 (.bool (decide (x3 = x7))) ?_
 refine k_done (by kernel_rfl) ?_
 refine thenE_n ?_
 refine cwp_condD (x3 = x7) (by kernel_rfl) (fun hc11 => ?_) (fun hc11 => ?_)
 · replace hM := ifT hc11 hM
   refine cwp_draw (by kernel_rfl) ?_
   refine kq 0 (.pointer (some p2)) ?_
   refine kq 1 (.pointer (some p2)) ?_
   refine kq 2 (.pointer (some p2)) ?_
   refine kq 3 (.pointer (some (p2.add 19))) ?_
   obtain ⟨x12, hc13, hM⟩ := hM
   refine kl 4 (.int .i64 x12) (p2.add 19) [9] [9] hc13 ?_
   refine kq 5 (.pointer (some p2)) ?_
   refine kq 6 (.pointer (some p2)) ?_
   refine kq 7 (.pointer (some (p2.add 20))) ?_
   obtain ⟨x16, hc17, hM⟩ := hM
   refine kl 8 (.int .i64 x16) (p2.add 20) [9] [9] hc17 ?_
   refine kE 9 (hpCallE 138 #[.pointer (some p2), .int .i64 x12, .int .i64 x16, .int .i64 1, .bool true] (by kernel_rfl) (vt_Screen_up_ok (some p2) x12 x16 1 true _ h hM) ?_)
   clear hM
   rintro _ h20 ⟨rfl, hM⟩
   refine ⟨trivial, ?_⟩
   refine k_done (by kernel_rfl) ?_
   refine thenE_n (cwp_region ?_)
   refine oZ [(42, .pointer (some p2)), (43, .pointer (some p2)), (44, .pointer (some (p2.add 9))), (45, .pointer (some (p2.add 18)))] ?_
   refine oT (p2.add 18) [.bool false] hM ?_
   clear hM
   intro h21 hM
   refine owp_nil ?_
   exact end_ (.tuple #[]) (by kernel_rfl) ⟨rfl, hM⟩
 replace hM := ifF hc11 hM
 refine cwp_seq ?_
 refine cwp_draw (by kernel_rfl) ?_
 refine kq 0 (.pointer (some p2)) ?_
 refine kq 1 (.pointer (some p2)) ?_
 refine kq 2 (.pointer (some (p2.add 9))) ?_
 refine kq 3 (.pointer (some (p2.add 10))) ?_
 obtain ⟨x22, hc23, hM⟩ := hM
 refine kl 4 (.int .i64 x22) (p2.add 10) [10] [] hc23 ?_
 refine kq 5 (.pointer (some p2)) ?_
 refine kq 6 (.pointer (some p2)) ?_
 refine kq 7 (.pointer (some (p2.add 1))) ?_
 obtain ⟨x26, hc27, hM⟩ := hM
 refine kl 8 (.int .i64 x26) (p2.add 1) [9, 10] [] hc27 ?_
 refine kq 9 (.int .i64 (IntKind.wrap .i64 (x26 - 1))) ?_
 refine kq 10 (.bool (decide (x22 < (IntKind.wrap .i64 (x26 - 1))))) ?_
 refine k_done (by kernel_rfl) ?_
 refine thenE_n ?_
 refine cwp_condD (x22 < (IntKind.wrap .i64 (x26 - 1))) (by kernel_rfl) (fun hc30 => ?_) (fun hc30 => ?_)
 · replace hM := ifT hc30 hM
   refine cwp_region ?_
   refine oZ [(33, .pointer (some p2)), (34, .pointer (some p2)), (35, .pointer (some (p2.add 9))), (36, .pointer (some (p2.add 10)))] ?_
   obtain ⟨x31, hc32, hM⟩ := hM
   refine oL (.int .i64 x31) (p2.add 10) hc32 ?_
   refine oZ [(38, .int .i64 (IntKind.wrap .i64 (x31 + 1))), (39, .pointer (some p2)), (40, .pointer (some (p2.add 9))), (41, .pointer (some (p2.add 10)))] ?_
   refine oT (p2.add 10) [.int .i64 (IntKind.wrap .i64 (x31 + 1))] hM ?_
   clear hM
   intro h34 hM
   refine oE (cwp_region ?_)
   refine oZ [(42, .pointer (some p2)), (43, .pointer (some p2)), (44, .pointer (some (p2.add 9))), (45, .pointer (some (p2.add 18)))] ?_
   refine oT (p2.add 18) [.bool false] hM ?_
   clear hM
   intro h35 hM
   refine owp_nil ?_
   exact end_ (.tuple #[]) (by kernel_rfl) ⟨rfl, hM⟩
 replace hM := ifF hc30 hM
 refine cwp_skip (thenE_n (cwp_region ?_))
 refine oZ [(42, .pointer (some p2)), (43, .pointer (some p2)), (44, .pointer (some (p2.add 9))), (45, .pointer (some (p2.add 18)))] ?_
 refine oT (p2.add 18) [.bool false] hM ?_
 clear hM
 intro h36 hM
 refine owp_nil ?_
 exact end_ (.tuple #[]) (by kernel_rfl) ⟨rfl, hM⟩
/- (*mullion/vt.Screen).row -/
def vt_Screen_row (a1 : Option Addr) (K : Option Addr → Nat → Nat → Heap → Prop) (h : Heap) : Prop :=
 nz a1 fun p2 =>
 ldI h .i64 (p2.add 10) fun x3 =>
 vt_Screen_shown (some p2) (fun x8 h7 =>
  (cellH h7 (p2.add 10) = some (.int .i64 x3)) ∧
  nz x8 fun p10 =>
  ldL h7 p10 fun x11 x11n x11c =>
  nz x11 fun p17 =>
  0 ≤ x3 ∧
  x3 < (x11n : Int) ∧
  ldL h7 (p17.add ((x3).toNat * 1)) fun x18 x18n x18c =>
   K x18 x18n x18c h7) h
theorem vt_Screen_row_ok (a1 : Option Addr) (K : Option Addr → Nat → Nat → Heap → Prop) (h : Heap) (hM : vt_Screen_row a1 K h) : CallsH Tryz.prog 108 #[.pointer a1] (fun v h' => ∃ (r22 : Option Addr) (r22n : Nat) (r22c : Nat), v = .slice r22 r22n r22c ∧ K r22 r22n r22c h') h := by
 unfold vt_Screen_row at hM
 refine callsH_intro (n := 15) Tryz.func108 rfl rfl (by kernel_rfl) ?_
 refine cR ?_
 refine oZ [(2, .slice none 0 0)] ?_
 refine oE (cwp_seq ?_)
 refine cwp_draw (by kernel_rfl) ?_
 refine kq 0 (.pointer a1) ?_
 refine kq 5 (.pointer a1) ?_
 obtain ⟨p2, rfl, hM⟩ := hM
 refine kq 6 (.pointer (some p2)) ?_
 refine kq 7 (.pointer (some (p2.add 9))) ?_
 refine kq 8 (.pointer (some (p2.add 10))) ?_
 obtain ⟨x3, hc4, hM⟩ := hM
 refine kl 9 (.int .i64 x3) (p2.add 10) [10, 11, 12] [] hc4 ?_
 refine kE 1 (hpCallE 39 #[.pointer (some p2)] (by kernel_rfl) (vt_Screen_shown_ok (some p2) _ h hM) ?_)
 clear hM
 rintro _ h7 ⟨x8, rfl, hM⟩
 obtain ⟨hk9, hM⟩ := hM
 refine ⟨⟨⟨hk9, trivial⟩, trivial⟩, ?_⟩
 obtain ⟨p10, rfl, hM⟩ := hM
 refine kq 2 (.pointer (some p10)) ?_
 refine kq 3 (.pointer (some p10)) ?_
 obtain ⟨x11, x11n, x11c, hc12, hM⟩ := hM
 refine kl 4 (.slice x11 x11n x11c) p10 [10, 11, 12] [] hc12 ?_
 obtain ⟨p17, rfl, hM⟩ := hM
 obtain ⟨hc15, hM⟩ := hM
 obtain ⟨hc16, hM⟩ := hM
 refine k_pure (i := 10) [11, 12] (.pointer (some (p17.add ((x3).toNat * 1)))) (by kernel_rfl) rfl rfl (by kernel_rfl) (fun h' => rd_ixS (P := Tryz.prog) (h := h') (t := 68) (el := 81) (sz := 1) (ad := p17) (len := x11n) (c := x11c) (k := .i64) (i := x3) (by kernel_rfl) (by kernel_rfl) hc15 hc16 (by kernel_rfl)) (by kernel_rfl) ?_
 obtain ⟨x18, x18n, x18c, hc19, hM⟩ := hM
 refine kl 11 (.slice x18 x18n x18c) (p17.add ((x3).toNat * 1)) [12] [] hc19 ?_
 refine kq 12 (.slice x18 x18n x18c) ?_
 refine k_done (by kernel_rfl) ?_
 refine thenE_n (cwp_ret ?_)
 exact ret_ (.slice x18 x18n x18c) (by kernel_rfl) ⟨_, _, _, rfl, hM⟩
/- (*mullion/vt.Screen).open -/
def vt_Screen_open_l0 (K0 : Heap → Prop) : Nat → Addr → Int → Option Addr → Nat → Nat → Int → Heap → Prop
  | 0, _, _, _, _, _, _, _ => False
  | k + 1, y44, y45, y46, y46n, y46c, y47, h =>
  ldI h .i64 (y44.add 9) fun x48 =>
  if y47 < (IntKind.wrap .i64 (x48 + y45)) then
   vt_Screen_erased (some y44) (fun x53 x54 x55 x56 x57 h52 =>
    nz y46 fun p60 =>
    0 ≤ y47 ∧
    y47 < (y46n : Int) ∧
    stN (p60.add ((y47).toNat * 5)) [.string x53, .int .i64 x54, .int .i64 x55, .int .i64 x56, .int .i64 x57] 0 h52 fun h61 =>
     vt_Screen_open_l0 K0 k y44 y45 (some p60) y46n y46c (IntKind.wrap .i64 (y47 + 1)) h61) h
  else
  K0  h
theorem vt_Screen_open_l0_ok {Q : Exit → Env → Heap → Prop} (K0 : Heap → Prop) (hK0 : ∀  (b : Env) (h : Heap), K0  h → Q (.exit 0) b h) : ∀ (k : Nat) (y44 : Addr) (y45 : Int) (y46 : Option Addr) (y46n : Nat) (y46c : Nat) (y47 : Int) (b : Env) (h : Heap) (hM : vt_Screen_open_l0 K0 k y44 y45 y46 y46n y46c y47 h), lwp Tryz.prog (partC Tryz.f107 [1, 1, 1, 1, 1, 1, 0, 0]) 79 Q k (upd (upd (upd (upd b 0 (.pointer (some y44))) 1 (.int .i64 y45)) 4 (.slice y46 y46n y46c)) 5 (.int .i64 y47)) h := by
  intro k
  induction k with
  | zero => intro y44 y45 y46 y46n y46c y47 b h hM; exact (show False from hM).elim
  | succ k ih =>
    intro y44 y45 y46 y46n y46c y47 b h hM
    unfold vt_Screen_open_l0 at hM
    refine lwp_succ (cwp_part rfl ?_)
    refine cwp_seq (cR ?_)
    refine oZ [(63, .int .i64 y47), (64, .pointer (some y44)), (65, .pointer (some y44)), (66, .pointer (some (y44.add 9))), (67, .pointer (some (y44.add 9)))] ?_
    obtain ⟨x48, hc49, hM⟩ := hM
    refine oL (.int .i64 x48) (y44.add 9) hc49 ?_
    refine oZ [(69, .int .i64 y45), (70, .int .i64 (IntKind.wrap .i64 (x48 + y45))), (71, .bool (decide (y47 < (IntKind.wrap .i64 (x48 + y45)))))] ?_
    refine oE ?_
    refine cwp_condD (y47 < (IntKind.wrap .i64 (x48 + y45))) (by kernel_rfl) (fun hc51 => ?_) (fun hc51 => ?_)
    · replace hM := ifT hc51 hM
      refine cwp_skip (thenE_n (cwp_seq (cwp_block (cwp_region ?_))))
      refine oZ [(74, .slice y46 y46n y46c), (75, .int .i64 y47), (76, .pointer (some y44))] ?_
      refine oG (hpCallE 139 #[.pointer (some y44)] (by kernel_rfl) (vt_Screen_erased_ok (some y44) _ h hM) ?_)
      clear hM
      rintro _ h52 ⟨x53, x54, x55, x56, x57, rfl, hM⟩
      obtain ⟨p60, rfl, hM⟩ := hM
      obtain ⟨hc58, hM⟩ := hM
      obtain ⟨hc59, hM⟩ := hM
      refine owp_rdG (.pointer (some (p60.add ((y47).toNat * 5)))) rfl (by kernel_rfl) (rd_ixS (P := Tryz.prog) (h := h52) (t := 81) (el := 52) (sz := 5) (ad := p60) (len := y46n) (c := y46c) (k := .i64) (i := y47) (by kernel_rfl) (by kernel_rfl) hc58 hc59 (by kernel_rfl)) ?_
      refine oT (p60.add ((y47).toNat * 5)) [.string x53, .int .i64 x54, .int .i64 x55, .int .i64 x56, .int .i64 x57] hM ?_
      clear hM
      intro h61 hM
      refine owp_nil (blockE_n (thenE_n (cwp_region ?_)))
      refine oZ [(72, .int .i64 y47), (73, .int .i64 (IntKind.wrap .i64 (y47 + 1))), (5, .int .i64 (IntKind.wrap .i64 (y47 + 1)))] ?_
      refine owp_nil ?_
      exact lA 0 (.pointer (some y44)) (lA 1 (.int .i64 y45) (lA 4 (.slice (some p60) y46n y46c) (lA 5 (.int .i64 (IntKind.wrap .i64 (y47 + 1))) (ih y44 y45 (some p60) y46n y46c (IntKind.wrap .i64 (y47 + 1)) _ _ hM))))
    replace hM := ifF hc51 hM
    refine cwp_exit (thenE_x ?_)
    exact hK0  _ _ hM
def vt_Screen_open (a1 : Option Addr) (a2 : Int) (K : Heap → Prop) (h : Heap) : Prop :=
 vt_Screen_row a1 (fun x4 x4n x4c h3 =>
  nz a1 fun p5 =>
  ldI h3 .i64 p5 fun x6 =>
  ldI h3 .i64 (p5.add 9) fun x10 =>
  ldI h3 .i64 (p5.add 9) fun x14 =>
  vt_row_cut x4 x4n x4c x14 (fun  h17 =>
   ldI h17 .i64 p5 fun x18 =>
   vt_row_cut x4 x4n x4c (IntKind.wrap .i64 (x18 - (imin a2 (IntKind.wrap .i64 (x6 - x10))))) (fun  h21 =>
    ldI h21 .i64 (p5.add 9) fun x22 =>
    0 ≤ (IntKind.wrap .i64 (x22 + (imin a2 (IntKind.wrap .i64 (x6 - x10))))) ∧
    (IntKind.wrap .i64 (x22 + (imin a2 (IntKind.wrap .i64 (x6 - x10))))) ≤ (x4n : Int) ∧
    ldI h21 .i64 (p5.add 9) fun x28 =>
    ldI h21 .i64 p5 fun x32 =>
    0 ≤ (IntKind.wrap .i64 (x32 - (imin a2 (IntKind.wrap .i64 (x6 - x10))))) ∧
    (IntKind.wrap .i64 (x32 - (imin a2 (IntKind.wrap .i64 (x6 - x10))))) ≤ (x4c : Int) ∧
    0 ≤ x28 ∧
    x28 ≤ (IntKind.wrap .i64 (x32 - (imin a2 (IntKind.wrap .i64 (x6 - x10))))) ∧
    cpM h21 5 (cutA x4 x4c (IntKind.wrap .i64 (x22 + (imin a2 (IntKind.wrap .i64 (x6 - x10))))).toNat 5) (x4n - (IntKind.wrap .i64 (x22 + (imin a2 (IntKind.wrap .i64 (x6 - x10))))).toNat) (cutA x4 x4c x28.toNat 5) ((IntKind.wrap .i64 (x32 - (imin a2 (IntKind.wrap .i64 (x6 - x10))))).toNat - x28.toNat) fun h40 =>
    ldI h40 .i64 (p5.add 9) fun x41 =>
    ∃ k64, vt_Screen_open_l0
     (fun  h62 =>
            K h62) k64 p5 (imin a2 (IntKind.wrap .i64 (x6 - x10))) x4 x4n x4c x41 h40) h17) h3) h
theorem vt_Screen_open_ok (a1 : Option Addr) (a2 : Int) (K : Heap → Prop) (h : Heap) (hM : vt_Screen_open a1 a2 K h) : CallsH Tryz.prog 107 #[.pointer a1, .int .i64 a2] (fun v h' => v = .tuple #[] ∧ K h') h := by
 unfold vt_Screen_open at hM
 refine callsH_intro (n := 79) Tryz.func107 rfl rfl (by kernel_rfl) ?_
 refine cR ?_
 refine oZ [(6, .pointer a1)] ?_
 refine oG (hpCallE 108 #[.pointer a1] (by kernel_rfl) (vt_Screen_row_ok a1 _ h hM) ?_)
 clear hM
 rintro _ h3 ⟨x4, x4n, x4c, rfl, hM⟩
 refine oZ [(4, .slice x4 x4n x4c)] ?_
 refine oE (cwp_seq ?_)
 refine cwp_draw (by kernel_rfl) ?_
 refine kq 0 (.int .i64 a2) ?_
 refine kq 1 (.pointer a1) ?_
 obtain ⟨p5, rfl, hM⟩ := hM
 refine kq 2 (.pointer (some p5)) ?_
 refine kq 3 (.pointer (some p5)) ?_
 obtain ⟨x6, hc7, hM⟩ := hM
 refine kl 4 (.int .i64 x6) p5 [10, 11, 12] [] hc7 ?_
 refine kq 5 (.pointer (some p5)) ?_
 refine kq 6 (.pointer (some p5)) ?_
 refine kq 7 (.pointer (some (p5.add 9))) ?_
 refine kq 8 (.pointer (some (p5.add 9))) ?_
 obtain ⟨x10, hc11, hM⟩ := hM
 refine kl 9 (.int .i64 x10) (p5.add 9) [10, 11, 12] [] hc11 ?_
 refine kq 10 (.int .i64 (IntKind.wrap .i64 (x6 - x10))) ?_
 refine kq 11 (.int .i64 (imin a2 (IntKind.wrap .i64 (x6 - x10)))) ?_
 refine kq 12 (.int .i64 (imin a2 (IntKind.wrap .i64 (x6 - x10)))) ?_
 refine k_done (by kernel_rfl) ?_
 refine thenE_n (cR ?_)
 refine oZ [(20, .slice x4 x4n x4c), (21, .pointer (some p5)), (22, .pointer (some p5)), (23, .pointer (some (p5.add 9))), (24, .pointer (some (p5.add 9)))] ?_
 obtain ⟨x14, hc15, hM⟩ := hM
 refine oL (.int .i64 x14) (p5.add 9) hc15 ?_
 refine oG (hpCallE 56 #[.slice x4 x4n x4c, .int .i64 x14] (by kernel_rfl) (vt_row_cut_ok x4 x4n x4c x14 _ h3 hM) ?_)
 clear hM
 rintro _ h17 ⟨rfl, hM⟩
 refine oE (cR ?_)
 refine oZ [(27, .slice x4 x4n x4c), (28, .pointer (some p5)), (29, .pointer (some p5)), (30, .pointer (some p5))] ?_
 obtain ⟨x18, hc19, hM⟩ := hM
 refine oL (.int .i64 x18) p5 hc19 ?_
 refine oZ [(32, .int .i64 (imin a2 (IntKind.wrap .i64 (x6 - x10)))), (33, .int .i64 (IntKind.wrap .i64 (x18 - (imin a2 (IntKind.wrap .i64 (x6 - x10))))))] ?_
 refine oG (hpCallE 56 #[.slice x4 x4n x4c, .int .i64 (IntKind.wrap .i64 (x18 - (imin a2 (IntKind.wrap .i64 (x6 - x10)))))] (by kernel_rfl) (vt_row_cut_ok x4 x4n x4c (IntKind.wrap .i64 (x18 - (imin a2 (IntKind.wrap .i64 (x6 - x10))))) _ h17 hM) ?_)
 clear hM
 rintro _ h21 ⟨rfl, hM⟩
 refine oE (cwp_seq ?_)
 refine cwp_draw (by kernel_rfl) ?_
 refine kq 0 (.slice x4 x4n x4c) ?_
 refine kq 1 (.pointer (some p5)) ?_
 refine kq 2 (.pointer (some p5)) ?_
 refine kq 3 (.pointer (some (p5.add 9))) ?_
 refine kq 4 (.pointer (some (p5.add 9))) ?_
 obtain ⟨x22, hc23, hM⟩ := hM
 refine kl 5 (.int .i64 x22) (p5.add 9) [7, 8, 22] [22] hc23 ?_
 refine kq 6 (.int .i64 (imin a2 (IntKind.wrap .i64 (x6 - x10)))) ?_
 refine kq 7 (.int .i64 (IntKind.wrap .i64 (x22 + (imin a2 (IntKind.wrap .i64 (x6 - x10)))))) ?_
 obtain ⟨hc26, hM⟩ := hM
 obtain ⟨hc27, hM⟩ := hM
 refine k_pure (i := 8) [22] (.slice (cutA x4 x4c (IntKind.wrap .i64 (x22 + (imin a2 (IntKind.wrap .i64 (x6 - x10))))).toNat 5) (x4n - (IntKind.wrap .i64 (x22 + (imin a2 (IntKind.wrap .i64 (x6 - x10))))).toNat) (x4c - (IntKind.wrap .i64 (x22 + (imin a2 (IntKind.wrap .i64 (x6 - x10))))).toNat)) (by kernel_rfl) rfl rfl (by kernel_rfl) (fun h' => rd_sSLo (P := Tryz.prog) (h := h') (t := 81) (el := 52) (sz := 5) (a := x4) (n := x4n) (c := x4c) (k := .i64) (i := (IntKind.wrap .i64 (x22 + (imin a2 (IntKind.wrap .i64 (x6 - x10)))))) (by kernel_rfl) (by kernel_rfl) hc26 hc27 (by kernel_rfl)) (by kernel_rfl) ?_
 refine kq 9 (.slice x4 x4n x4c) ?_
 refine kq 10 (.pointer (some p5)) ?_
 refine kq 11 (.pointer (some p5)) ?_
 refine kq 12 (.pointer (some (p5.add 9))) ?_
 refine kq 13 (.pointer (some (p5.add 9))) ?_
 obtain ⟨x28, hc29, hM⟩ := hM
 refine kl 14 (.int .i64 x28) (p5.add 9) [21, 22] [22] hc29 ?_
 refine kq 15 (.pointer (some p5)) ?_
 refine kq 16 (.pointer (some p5)) ?_
 refine kq 17 (.pointer (some p5)) ?_
 obtain ⟨x32, hc33, hM⟩ := hM
 refine kl 18 (.int .i64 x32) p5 [20, 21, 22] [22] hc33 ?_
 refine kq 19 (.int .i64 (imin a2 (IntKind.wrap .i64 (x6 - x10)))) ?_
 refine kq 20 (.int .i64 (IntKind.wrap .i64 (x32 - (imin a2 (IntKind.wrap .i64 (x6 - x10)))))) ?_
 obtain ⟨hc36, hM⟩ := hM
 obtain ⟨hc37, hM⟩ := hM
 obtain ⟨hc38, hM⟩ := hM
 obtain ⟨hc39, hM⟩ := hM
 refine k_pure (i := 21) [22] (.slice (cutA x4 x4c x28.toNat 5) ((IntKind.wrap .i64 (x32 - (imin a2 (IntKind.wrap .i64 (x6 - x10))))).toNat - x28.toNat) (x4c - x28.toNat)) (by kernel_rfl) rfl rfl (by kernel_rfl) (fun h' => rd_sSLH (P := Tryz.prog) (h := h') (t := 81) (el := 52) (sz := 5) (a := x4) (n := x4n) (c := x4c) (k := .i64) (k' := .i64) (i := x28) (j := (IntKind.wrap .i64 (x32 - (imin a2 (IntKind.wrap .i64 (x6 - x10)))))) (by kernel_rfl) (by kernel_rfl) hc36 hc37 hc38 hc39 (by kernel_rfl)) (by kernel_rfl) ?_
 refine kE 22 (hpCp (t := 81) (t2 := 81) (ty := 3) (et := 52) (sz := 5) (d := (cutA x4 x4c (IntKind.wrap .i64 (x22 + (imin a2 (IntKind.wrap .i64 (x6 - x10))))).toNat 5)) (dn := (x4n - (IntKind.wrap .i64 (x22 + (imin a2 (IntKind.wrap .i64 (x6 - x10))))).toNat)) (dc := (x4c - (IntKind.wrap .i64 (x22 + (imin a2 (IntKind.wrap .i64 (x6 - x10))))).toNat)) (s := (cutA x4 x4c x28.toNat 5)) (sn := ((IntKind.wrap .i64 (x32 - (imin a2 (IntKind.wrap .i64 (x6 - x10))))).toNat - x28.toNat)) (sc := (x4c - x28.toNat)) (fun _ => by kernel_rfl) (by kernel_rfl) (by kernel_rfl) hM ?_)
 clear hM
 intro h40 hM
 refine ⟨trivial, ?_⟩
 refine k_done (by kernel_rfl) ?_
 refine thenE_n (cR ?_)
 refine oZ [(58, .pointer (some p5)), (59, .pointer (some p5)), (60, .pointer (some (p5.add 9))), (61, .pointer (some (p5.add 9)))] ?_
 obtain ⟨x41, hc42, hM⟩ := hM
 refine oL (.int .i64 x41) (p5.add 9) hc42 ?_
 refine oZ [(5, .int .i64 x41)] ?_
 refine oE (cwp_block ?_)
 obtain ⟨k_, hM⟩ := hM
 refine cwp_loop k_ (lwp_of_part (fn := Tryz.f107) (p := [1, 1, 1, 1, 1, 1, 0, 0]) (by kernel_rfl) (lA 0 (.pointer (some p5)) (lA 1 (.int .i64 (imin a2 (IntKind.wrap .i64 (x6 - x10)))) (lA 4 (.slice x4 x4n x4c) (lA 5 (.int .i64 x41) (vt_Screen_open_l0_ok _ ?_ k_ p5 (imin a2 (IntKind.wrap .i64 (x6 - x10))) x4 x4n x4c x41 _ _ hM))))))
 · intro  b63 h62 hM
   refine blockE_h ?_
   exact end_ (.tuple #[]) (by kernel_rfl) ⟨rfl, hM⟩
end Go.Proofs.YthjdnhhifjpidaaGreatDoor.M
