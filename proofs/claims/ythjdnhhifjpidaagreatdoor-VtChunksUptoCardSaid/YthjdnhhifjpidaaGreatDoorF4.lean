/-
  PRINTED BY A PROGRAM OF THIS CLAIM'S (gen.py): for each Go function a Lean function over memory, and the proof that the code comes to what it says.
-/
import Derived.Test.YthjdnhhifjpidaaGreatDoorF3
import Derived.Test.YthjdnhhifjpidaaGreatDoorProg
set_option linter.unusedVariables false
set_option linter.unusedSimpArgs false
set_option maxRecDepth 100000
set_option maxHeartbeats 1000000
namespace Go.Proofs.YthjdnhhifjpidaaGreatDoor.M
open Go Go.Hp
/- (*mullion/vt.Screen).pens -/
def vt_Screen_pens_l1 (K0 : Heap → Prop) (Kr : Heap → Prop) : Nat → Option Addr → Option Addr → Nat → Nat → Nat → Int → Heap → Prop
  | 0, _, _, _, _, _, _, _ => False
  | k + 1, y13, y14, y14n, y14c, y15, y16, h =>
  if y16 < (y14n : Int) then
   nz y14 fun p20 =>
   0 ≤ y16 ∧
   y16 < (y14n : Int) ∧
   ldI h .i64 (p20.add ((y16).toNat * 1)) fun x21 =>
   if (imax 0 x21) = 0 then
    nz y13 fun p25 =>
    stN (p25.add 11) [.int .i64 0, .int .i64 0, .int .i64 0] 0 h fun h26 =>
    vt_Screen_pens_l1 K0 Kr k (some p25) (some p20) y14n y14c y15 (IntKind.wrap .i64 (y16 + 1)) h26
   else
   if (imax 0 x21) < 10 then
    nz y13 fun p28 =>
    ldI h .i64 (p28.add 13) fun x29 =>
    0 ≤ (imax 0 x21) ∧
    (imax 0 x21) < (10 : Int) ∧
    ldI h .i64 ((⟨y15, 0, none⟩ : Addr).add ((imax 0 x21).toNat * 1)) fun x35 =>
    stN (p28.add 13) [.int .i64 (iOr .i64 x29 x35)] 0 h fun h39 =>
    vt_Screen_pens_l1 K0 Kr k (some p28) (some p20) y14n y14c y15 (IntKind.wrap .i64 (y16 + 1)) h39
   else
   if (imax 0 x21) = 21 then
    nz y13 fun p41 =>
    ldI h .i64 (p41.add 13) fun x42 =>
    stN (p41.add 13) [.int .i64 (iOr .i64 x42 8)] 0 h fun h45 =>
    vt_Screen_pens_l1 K0 Kr k (some p41) (some p20) y14n y14c y15 (IntKind.wrap .i64 (y16 + 1)) h45
   else
   if (imax 0 x21) = 22 then
    nz y13 fun p47 =>
    ldI h .i64 (p47.add 13) fun x48 =>
    stN (p47.add 13) [.int .i64 (iAndNot .i64 x48 3)] 0 h fun h51 =>
    vt_Screen_pens_l1 K0 Kr k (some p47) (some p20) y14n y14c y15 (IntKind.wrap .i64 (y16 + 1)) h51
   else
   if ((decide (23 ≤ (imax 0 x21))) && (decide ((imax 0 x21) ≤ 29))) = true then
    nz y13 fun p57 =>
    ldI h .i64 (p57.add 13) fun x58 =>
    0 ≤ (IntKind.wrap .i64 ((imax 0 x21) - 20)) ∧
    (IntKind.wrap .i64 ((imax 0 x21) - 20)) < (10 : Int) ∧
    ldI h .i64 ((⟨y15, 0, none⟩ : Addr).add ((IntKind.wrap .i64 ((imax 0 x21) - 20)).toNat * 1)) fun x64 =>
    stN (p57.add 13) [.int .i64 (iAndNot .i64 x58 x64)] 0 h fun h68 =>
    vt_Screen_pens_l1 K0 Kr k (some p57) (some p20) y14n y14c y15 (IntKind.wrap .i64 (y16 + 1)) h68
   else
   if ((decide (30 ≤ (imax 0 x21))) && (decide ((imax 0 x21) ≤ 37))) = true then
    nz y13 fun p74 =>
    stN (p74.add 11) [.int .i64 (IntKind.wrap .i64 ((imax 0 x21) - 29))] 0 h fun h75 =>
    vt_Screen_pens_l1 K0 Kr k (some p74) (some p20) y14n y14c y15 (IntKind.wrap .i64 (y16 + 1)) h75
   else
   if ((decide (40 ≤ (imax 0 x21))) && (decide ((imax 0 x21) ≤ 47))) = true then
    nz y13 fun p81 =>
    stN (p81.add 12) [.int .i64 (IntKind.wrap .i64 ((imax 0 x21) - 39))] 0 h fun h82 =>
    vt_Screen_pens_l1 K0 Kr k (some p81) (some p20) y14n y14c y15 (IntKind.wrap .i64 (y16 + 1)) h82
   else
   if ((decide (90 ≤ (imax 0 x21))) && (decide ((imax 0 x21) ≤ 97))) = true then
    nz y13 fun p88 =>
    stN (p88.add 11) [.int .i64 (IntKind.wrap .i64 ((imax 0 x21) - 81))] 0 h fun h89 =>
    vt_Screen_pens_l1 K0 Kr k (some p88) (some p20) y14n y14c y15 (IntKind.wrap .i64 (y16 + 1)) h89
   else
   if ((decide (100 ≤ (imax 0 x21))) && (decide ((imax 0 x21) ≤ 107))) = true then
    nz y13 fun p95 =>
    stN (p95.add 12) [.int .i64 (IntKind.wrap .i64 ((imax 0 x21) - 91))] 0 h fun h96 =>
    vt_Screen_pens_l1 K0 Kr k (some p95) (some p20) y14n y14c y15 (IntKind.wrap .i64 (y16 + 1)) h96
   else
   if (imax 0 x21) = 39 then
    nz y13 fun p98 =>
    stN (p98.add 11) [.int .i64 0] 0 h fun h99 =>
    vt_Screen_pens_l1 K0 Kr k (some p98) (some p20) y14n y14c y15 (IntKind.wrap .i64 (y16 + 1)) h99
   else
   if (imax 0 x21) = 49 then
    nz y13 fun p101 =>
    stN (p101.add 12) [.int .i64 0] 0 h fun h102 =>
    vt_Screen_pens_l1 K0 Kr k (some p101) (some p20) y14n y14c y15 (IntKind.wrap .i64 (y16 + 1)) h102
   else
   if ((decide ((imax 0 x21) = 38)) || (decide ((imax 0 x21) = 48))) = true then
    0 ≤ (IntKind.wrap .i64 (y16 + 1)) ∧
    (IntKind.wrap .i64 (y16 + 1)) ≤ (y14n : Int) ∧
    vt_colour (cutA (some p20) y14c (IntKind.wrap .i64 (y16 + 1)).toNat 1) (y14n - (IntKind.wrap .i64 (y16 + 1)).toNat) (y14c - (IntKind.wrap .i64 (y16 + 1)).toNat) (fun x111 x112 h110 =>
     if x112 = 0 then
      Kr  h110
     else
     if ((decide (0 ≤ x111)) && (decide ((imax 0 x21) = 38))) = true then
      nz y13 fun p119 =>
      stN (p119.add 11) [.int .i64 x111] 0 h110 fun h120 =>
      vt_Screen_pens_l1 K0 Kr k (some p119) (some p20) y14n y14c y15 (IntKind.wrap .i64 ((IntKind.wrap .i64 (y16 + x112)) + 1)) h120
     else
     if 0 ≤ x111 then
      nz y13 fun p122 =>
      stN (p122.add 12) [.int .i64 x111] 0 h110 fun h123 =>
      vt_Screen_pens_l1 K0 Kr k (some p122) (some p20) y14n y14c y15 (IntKind.wrap .i64 ((IntKind.wrap .i64 (y16 + x112)) + 1)) h123
     else
      vt_Screen_pens_l1 K0 Kr k y13 (some p20) y14n y14c y15 (IntKind.wrap .i64 ((IntKind.wrap .i64 (y16 + x112)) + 1)) h110) h
   else
   vt_Screen_pens_l1 K0 Kr k y13 (some p20) y14n y14c y15 (IntKind.wrap .i64 (y16 + 1)) h
  else
  K0  h
theorem vt_Screen_pens_l1_ok {Q : Exit → Env → Heap → Prop} (K0 : Heap → Prop) (hK0 : ∀  (b : Env) (h : Heap), K0  h → Q (.exit 0) b h) (Kr : Heap → Prop) (hKr : ∀  (b : Env) (h : Heap), Kr  h → Q .ret b h) : ∀ (k : Nat) (y13 : Option Addr) (y14 : Option Addr) (y14n : Nat) (y14c : Nat) (y15 : Nat) (y16 : Int) (b : Env) (h : Heap) (hM : vt_Screen_pens_l1 K0 Kr k y13 y14 y14n y14c y15 y16 h), lwp Tryz.prog (partC Tryz.f160 [1, 1, 1, 0, 0]) 212 Q k (upd (upd (upd (upd b 0 (.pointer y13)) 1 (.slice y14 y14n y14c)) 4 (.pointer (some ⟨y15, 0, none⟩))) 5 (.int .i64 y16)) h := by
  intro k
  induction k with
  | zero => intro y13 y14 y14n y14c y15 y16 b h hM; exact (show False from hM).elim
  | succ k ih =>
    intro y13 y14 y14n y14c y15 y16 b h hM
    unfold vt_Screen_pens_l1 at hM
    refine lwp_succ (cwp_part rfl ?_)
    refine cwp_seq (cR ?_)
    refine oZ [(14, .int .i64 y16), (15, .slice y14 y14n y14c), (16, .int .i64 (y14n : Int)), (17, .bool (decide (y16 < (y14n : Int))))] ?_
    refine oE ?_
    refine cwp_condD (y16 < (y14n : Int)) (by kernel_rfl) (fun hc17 => ?_) (fun hc17 => ?_)
    · replace hM := ifT hc17 hM
      refine cwp_skip (thenE_n (cwp_seq (cwp_block (cR ?_))))
      refine oZ [(20, .slice y14 y14n y14c), (21, .int .i64 y16)] ?_
      obtain ⟨p20, rfl, hM⟩ := hM
      obtain ⟨hc18, hM⟩ := hM
      obtain ⟨hc19, hM⟩ := hM
      refine owp_rdG (.pointer (some (p20.add ((y16).toNat * 1)))) rfl (by kernel_rfl) (rd_ixS (P := Tryz.prog) (h := h) (t := 54) (el := 3) (sz := 1) (ad := p20) (len := y14n) (c := y14c) (k := .i64) (i := y16) (by kernel_rfl) (by kernel_rfl) hc18 hc19 (by kernel_rfl)) ?_
      obtain ⟨x21, hc22, hM⟩ := hM
      refine oL (.int .i64 x21) (p20.add ((y16).toNat * 1)) hc22 ?_
      refine oZ [(24, .int .i64 (imax 0 x21)), (6, .int .i64 (imax 0 x21))] ?_
      refine oE (cwp_block (cR ?_))
      refine oZ [(26, .int .i64 (imax 0 x21)), (27, .bool (decide ((imax 0 x21) = 0))), (25, .bool (decide ((imax 0 x21) = 0)))] ?_
      refine oE ?_
      refine cwp_condD ((imax 0 x21) = 0) (by kernel_rfl) (fun hc24 => ?_) (fun hc24 => ?_)
      · replace hM := ifT hc24 hM
        refine cwp_region ?_
        refine oZ [(28, .pointer y13), (29, .agg #[.int .i64 0, .int .i64 0, .int .i64 0])] ?_
        obtain ⟨p25, rfl, hM⟩ := hM
        refine owp_rdG (.pointer (some p25)) rfl (by kernel_rfl) (by kernel_rfl) ?_
        refine oZ [(31, .pointer (some (p25.add 9))), (32, .pointer (some (p25.add 11)))] ?_
        refine oT (p25.add 11) [.int .i64 0, .int .i64 0, .int .i64 0] hM ?_
        clear hM
        intro h26 hM
        refine owp_nil (blockE_n (blockE_n (thenE_n (cwp_region ?_))))
        refine oZ [(18, .int .i64 y16), (19, .int .i64 (IntKind.wrap .i64 (y16 + 1))), (5, .int .i64 (IntKind.wrap .i64 (y16 + 1)))] ?_
        refine owp_nil ?_
        exact lA 0 (.pointer (some p25)) (lA 1 (.slice (some p20) y14n y14c) (lA 4 (.pointer (some ⟨y15, 0, none⟩)) (lA 5 (.int .i64 (IntKind.wrap .i64 (y16 + 1))) (ih (some p25) (some p20) y14n y14c y15 (IntKind.wrap .i64 (y16 + 1)) _ _ hM))))
      replace hM := ifF hc24 hM
      refine cR ?_
      refine oZ [(34, .int .i64 (imax 0 x21)), (35, .bool (decide ((imax 0 x21) < 10))), (33, .bool (decide ((imax 0 x21) < 10)))] ?_
      refine oE ?_
      refine cwp_condD ((imax 0 x21) < 10) (by kernel_rfl) (fun hc27 => ?_) (fun hc27 => ?_)
      · replace hM := ifT hc27 hM
        refine cwp_draw (by kernel_rfl) ?_
        refine kq 0 (.pointer y13) ?_
        obtain ⟨p28, rfl, hM⟩ := hM
        refine kq 1 (.pointer (some p28)) ?_
        refine kq 2 (.pointer (some (p28.add 9))) ?_
        refine kq 3 (.pointer (some (p28.add 11))) ?_
        refine kq 4 (.pointer (some (p28.add 13))) ?_
        obtain ⟨x29, hc30, hM⟩ := hM
        refine kl 5 (.int .i64 x29) (p28.add 13) [9, 10, 11, 12, 13, 14] [14] hc30 ?_
        refine kq 6 (.int .i64 (imax 0 x21)) ?_
        obtain ⟨hc33, hM⟩ := hM
        obtain ⟨hc34, hM⟩ := hM
        refine k_pure (i := 7) [8, 9, 10, 11, 12, 13, 14] (.pointer (some ((⟨y15, 0, none⟩ : Addr).add ((imax 0 x21).toNat * 1)))) (by kernel_rfl) rfl rfl (by kernel_rfl) (fun h' => rd_ixA (P := Tryz.prog) (h := h') (t := 175) (el := 3) (sz := 1) (len := 10) (ad := ⟨y15, 0, none⟩) (k := .i64) (i := (imax 0 x21)) (by kernel_rfl) (by kernel_rfl) hc33 hc34 (by kernel_rfl)) (by kernel_rfl) ?_
        obtain ⟨x35, hc36, hM⟩ := hM
        refine kl 8 (.int .i64 x35) ((⟨y15, 0, none⟩ : Addr).add ((imax 0 x21).toNat * 1)) [9, 10, 11, 12, 13, 14] [14] hc36 ?_
        refine kq 9 (.int .i64 (iOr .i64 x29 x35)) ?_
        refine kq 10 (.pointer (some p28)) ?_
        refine kq 11 (.pointer (some (p28.add 9))) ?_
        refine kq 12 (.pointer (some (p28.add 11))) ?_
        refine kq 13 (.pointer (some (p28.add 13))) ?_
        refine kD 14 (hpSt (p28.add 13) [.int .i64 (iOr .i64 x29 x35)] (fun _ => by kernel_rfl) (by kernel_rfl) hM ?_)
        clear hM
        intro h39 hM
        refine ⟨trivial, ?_⟩
        refine k_done (by kernel_rfl) ?_
        refine blockE_n (blockE_n (thenE_n (cwp_region ?_)))
        refine oZ [(18, .int .i64 y16), (19, .int .i64 (IntKind.wrap .i64 (y16 + 1))), (5, .int .i64 (IntKind.wrap .i64 (y16 + 1)))] ?_
        refine owp_nil ?_
        exact lA 0 (.pointer (some p28)) (lA 1 (.slice (some p20) y14n y14c) (lA 4 (.pointer (some ⟨y15, 0, none⟩)) (lA 5 (.int .i64 (IntKind.wrap .i64 (y16 + 1))) (ih (some p28) (some p20) y14n y14c y15 (IntKind.wrap .i64 (y16 + 1)) _ _ hM))))
      replace hM := ifF hc27 hM
      refine cR ?_
      refine oZ [(51, .int .i64 (imax 0 x21)), (52, .bool (decide ((imax 0 x21) = 21))), (50, .bool (decide ((imax 0 x21) = 21)))] ?_
      refine oE ?_
      refine cwp_condD ((imax 0 x21) = 21) (by kernel_rfl) (fun hc40 => ?_) (fun hc40 => ?_)
      · replace hM := ifT hc40 hM
        refine cwp_region ?_
        refine oZ [(53, .pointer y13)] ?_
        obtain ⟨p41, rfl, hM⟩ := hM
        refine owp_rdG (.pointer (some p41)) rfl (by kernel_rfl) (by kernel_rfl) ?_
        refine oZ [(55, .pointer (some (p41.add 9))), (56, .pointer (some (p41.add 11))), (57, .pointer (some (p41.add 13)))] ?_
        obtain ⟨x42, hc43, hM⟩ := hM
        refine oL (.int .i64 x42) (p41.add 13) hc43 ?_
        refine oZ [(59, .int .i64 (iOr .i64 x42 8)), (60, .pointer (some p41)), (61, .pointer (some (p41.add 9))), (62, .pointer (some (p41.add 11))), (63, .pointer (some (p41.add 13)))] ?_
        refine oT (p41.add 13) [.int .i64 (iOr .i64 x42 8)] hM ?_
        clear hM
        intro h45 hM
        refine owp_nil (blockE_n (blockE_n (thenE_n (cwp_region ?_))))
        refine oZ [(18, .int .i64 y16), (19, .int .i64 (IntKind.wrap .i64 (y16 + 1))), (5, .int .i64 (IntKind.wrap .i64 (y16 + 1)))] ?_
        refine owp_nil ?_
        exact lA 0 (.pointer (some p41)) (lA 1 (.slice (some p20) y14n y14c) (lA 4 (.pointer (some ⟨y15, 0, none⟩)) (lA 5 (.int .i64 (IntKind.wrap .i64 (y16 + 1))) (ih (some p41) (some p20) y14n y14c y15 (IntKind.wrap .i64 (y16 + 1)) _ _ hM))))
      replace hM := ifF hc40 hM
      refine cR ?_
      refine oZ [(65, .int .i64 (imax 0 x21)), (66, .bool (decide ((imax 0 x21) = 22))), (64, .bool (decide ((imax 0 x21) = 22)))] ?_
      refine oE ?_
      refine cwp_condD ((imax 0 x21) = 22) (by kernel_rfl) (fun hc46 => ?_) (fun hc46 => ?_)
      · replace hM := ifT hc46 hM
        refine cwp_region ?_
        refine oZ [(67, .pointer y13)] ?_
        obtain ⟨p47, rfl, hM⟩ := hM
        refine owp_rdG (.pointer (some p47)) rfl (by kernel_rfl) (by kernel_rfl) ?_
        refine oZ [(69, .pointer (some (p47.add 9))), (70, .pointer (some (p47.add 11))), (71, .pointer (some (p47.add 13)))] ?_
        obtain ⟨x48, hc49, hM⟩ := hM
        refine oL (.int .i64 x48) (p47.add 13) hc49 ?_
        refine oZ [(73, .int .i64 (iAndNot .i64 x48 3)), (74, .pointer (some p47)), (75, .pointer (some (p47.add 9))), (76, .pointer (some (p47.add 11))), (77, .pointer (some (p47.add 13)))] ?_
        refine oT (p47.add 13) [.int .i64 (iAndNot .i64 x48 3)] hM ?_
        clear hM
        intro h51 hM
        refine owp_nil (blockE_n (blockE_n (thenE_n (cwp_region ?_))))
        refine oZ [(18, .int .i64 y16), (19, .int .i64 (IntKind.wrap .i64 (y16 + 1))), (5, .int .i64 (IntKind.wrap .i64 (y16 + 1)))] ?_
        refine owp_nil ?_
        exact lA 0 (.pointer (some p47)) (lA 1 (.slice (some p20) y14n y14c) (lA 4 (.pointer (some ⟨y15, 0, none⟩)) (lA 5 (.int .i64 (IntKind.wrap .i64 (y16 + 1))) (ih (some p47) (some p20) y14n y14c y15 (IntKind.wrap .i64 (y16 + 1)) _ _ hM))))
      replace hM := ifF hc46 hM
      refine cR ?_
      refine oZ [(79, .int .i64 (imax 0 x21)), (80, .bool (decide (23 ≤ (imax 0 x21)))), (81, .bool (decide (23 ≤ (imax 0 x21))))] ?_
      refine oB (decide (23 ≤ (imax 0 x21))) 3 [80, 81] (fun b_ => [(82, iteV b_ (.int .i64 (imax 0 x21) : Value) undef), (83, iteV b_ (.bool (decide ((imax 0 x21) ≤ 29)) : Value) undef), (84, .bool (b_ && (decide ((imax 0 x21) ≤ 29))))]) rfl (fun hb52 hq53 => oS [(82, .int .i64 (imax 0 x21)), (83, .bool (decide ((imax 0 x21) ≤ 29))), (84, .bool (decide ((imax 0 x21) ≤ 29)))] rfl (hq53)) (fun hb54 hq55 => oS [(82, undef), (83, undef), (84, .bool false)] rfl (hq55)) ?_
      refine oZ [(78, .bool ((decide (23 ≤ (imax 0 x21))) && (decide ((imax 0 x21) ≤ 29))))] ?_
      refine oE ?_
      refine cwp_condB ((decide (23 ≤ (imax 0 x21))) && (decide ((imax 0 x21) ≤ 29))) (by kernel_rfl) (fun hc56 => ?_) (fun hc56 => ?_)
      · replace hM := ifT hc56 hM
        refine cwp_draw (by kernel_rfl) ?_
        refine kq 0 (.pointer y13) ?_
        obtain ⟨p57, rfl, hM⟩ := hM
        refine kq 1 (.pointer (some p57)) ?_
        refine kq 2 (.pointer (some (p57.add 9))) ?_
        refine kq 3 (.pointer (some (p57.add 11))) ?_
        refine kq 4 (.pointer (some (p57.add 13))) ?_
        obtain ⟨x58, hc59, hM⟩ := hM
        refine kl 5 (.int .i64 x58) (p57.add 13) [10, 11, 12, 13, 14, 15] [15] hc59 ?_
        refine kq 6 (.int .i64 (imax 0 x21)) ?_
        refine kq 7 (.int .i64 (IntKind.wrap .i64 ((imax 0 x21) - 20))) ?_
        obtain ⟨hc62, hM⟩ := hM
        obtain ⟨hc63, hM⟩ := hM
        refine k_pure (i := 8) [9, 10, 11, 12, 13, 14, 15] (.pointer (some ((⟨y15, 0, none⟩ : Addr).add ((IntKind.wrap .i64 ((imax 0 x21) - 20)).toNat * 1)))) (by kernel_rfl) rfl rfl (by kernel_rfl) (fun h' => rd_ixA (P := Tryz.prog) (h := h') (t := 175) (el := 3) (sz := 1) (len := 10) (ad := ⟨y15, 0, none⟩) (k := .i64) (i := (IntKind.wrap .i64 ((imax 0 x21) - 20))) (by kernel_rfl) (by kernel_rfl) hc62 hc63 (by kernel_rfl)) (by kernel_rfl) ?_
        obtain ⟨x64, hc65, hM⟩ := hM
        refine kl 9 (.int .i64 x64) ((⟨y15, 0, none⟩ : Addr).add ((IntKind.wrap .i64 ((imax 0 x21) - 20)).toNat * 1)) [10, 11, 12, 13, 14, 15] [15] hc65 ?_
        refine kq 10 (.int .i64 (iAndNot .i64 x58 x64)) ?_
        refine kq 11 (.pointer (some p57)) ?_
        refine kq 12 (.pointer (some (p57.add 9))) ?_
        refine kq 13 (.pointer (some (p57.add 11))) ?_
        refine kq 14 (.pointer (some (p57.add 13))) ?_
        refine kD 15 (hpSt (p57.add 13) [.int .i64 (iAndNot .i64 x58 x64)] (fun _ => by kernel_rfl) (by kernel_rfl) hM ?_)
        clear hM
        intro h68 hM
        refine ⟨trivial, ?_⟩
        refine k_done (by kernel_rfl) ?_
        refine blockE_n (blockE_n (thenE_n (cwp_region ?_)))
        refine oZ [(18, .int .i64 y16), (19, .int .i64 (IntKind.wrap .i64 (y16 + 1))), (5, .int .i64 (IntKind.wrap .i64 (y16 + 1)))] ?_
        refine owp_nil ?_
        exact lA 0 (.pointer (some p57)) (lA 1 (.slice (some p20) y14n y14c) (lA 4 (.pointer (some ⟨y15, 0, none⟩)) (lA 5 (.int .i64 (IntKind.wrap .i64 (y16 + 1))) (ih (some p57) (some p20) y14n y14c y15 (IntKind.wrap .i64 (y16 + 1)) _ _ hM))))
      replace hM := ifF hc56 hM
      refine cR ?_
      refine oZ [(101, .int .i64 (imax 0 x21)), (102, .bool (decide (30 ≤ (imax 0 x21)))), (103, .bool (decide (30 ≤ (imax 0 x21))))] ?_
      refine oB (decide (30 ≤ (imax 0 x21))) 3 [102, 103] (fun b_ => [(104, iteV b_ (.int .i64 (imax 0 x21) : Value) undef), (105, iteV b_ (.bool (decide ((imax 0 x21) ≤ 37)) : Value) undef), (106, .bool (b_ && (decide ((imax 0 x21) ≤ 37))))]) rfl (fun hb69 hq70 => oS [(104, .int .i64 (imax 0 x21)), (105, .bool (decide ((imax 0 x21) ≤ 37))), (106, .bool (decide ((imax 0 x21) ≤ 37)))] rfl (hq70)) (fun hb71 hq72 => oS [(104, undef), (105, undef), (106, .bool false)] rfl (hq72)) ?_
      refine oZ [(100, .bool ((decide (30 ≤ (imax 0 x21))) && (decide ((imax 0 x21) ≤ 37))))] ?_
      refine oE ?_
      refine cwp_condB ((decide (30 ≤ (imax 0 x21))) && (decide ((imax 0 x21) ≤ 37))) (by kernel_rfl) (fun hc73 => ?_) (fun hc73 => ?_)
      · replace hM := ifT hc73 hM
        refine cwp_region ?_
        refine oZ [(107, .pointer y13), (108, .int .i64 (imax 0 x21)), (109, .int .i64 (IntKind.wrap .i64 ((imax 0 x21) - 29)))] ?_
        obtain ⟨p74, rfl, hM⟩ := hM
        refine owp_rdG (.pointer (some p74)) rfl (by kernel_rfl) (by kernel_rfl) ?_
        refine oZ [(111, .pointer (some (p74.add 9))), (112, .pointer (some (p74.add 11))), (113, .pointer (some (p74.add 11)))] ?_
        refine oT (p74.add 11) [.int .i64 (IntKind.wrap .i64 ((imax 0 x21) - 29))] hM ?_
        clear hM
        intro h75 hM
        refine owp_nil (blockE_n (blockE_n (thenE_n (cwp_region ?_))))
        refine oZ [(18, .int .i64 y16), (19, .int .i64 (IntKind.wrap .i64 (y16 + 1))), (5, .int .i64 (IntKind.wrap .i64 (y16 + 1)))] ?_
        refine owp_nil ?_
        exact lA 0 (.pointer (some p74)) (lA 1 (.slice (some p20) y14n y14c) (lA 4 (.pointer (some ⟨y15, 0, none⟩)) (lA 5 (.int .i64 (IntKind.wrap .i64 (y16 + 1))) (ih (some p74) (some p20) y14n y14c y15 (IntKind.wrap .i64 (y16 + 1)) _ _ hM))))
      replace hM := ifF hc73 hM
      refine cR ?_
      refine oZ [(115, .int .i64 (imax 0 x21)), (116, .bool (decide (40 ≤ (imax 0 x21)))), (117, .bool (decide (40 ≤ (imax 0 x21))))] ?_
      refine oB (decide (40 ≤ (imax 0 x21))) 3 [116, 117] (fun b_ => [(118, iteV b_ (.int .i64 (imax 0 x21) : Value) undef), (119, iteV b_ (.bool (decide ((imax 0 x21) ≤ 47)) : Value) undef), (120, .bool (b_ && (decide ((imax 0 x21) ≤ 47))))]) rfl (fun hb76 hq77 => oS [(118, .int .i64 (imax 0 x21)), (119, .bool (decide ((imax 0 x21) ≤ 47))), (120, .bool (decide ((imax 0 x21) ≤ 47)))] rfl (hq77)) (fun hb78 hq79 => oS [(118, undef), (119, undef), (120, .bool false)] rfl (hq79)) ?_
      refine oZ [(114, .bool ((decide (40 ≤ (imax 0 x21))) && (decide ((imax 0 x21) ≤ 47))))] ?_
      refine oE ?_
      refine cwp_condB ((decide (40 ≤ (imax 0 x21))) && (decide ((imax 0 x21) ≤ 47))) (by kernel_rfl) (fun hc80 => ?_) (fun hc80 => ?_)
      · replace hM := ifT hc80 hM
        refine cwp_region ?_
        refine oZ [(121, .pointer y13), (122, .int .i64 (imax 0 x21)), (123, .int .i64 (IntKind.wrap .i64 ((imax 0 x21) - 39)))] ?_
        obtain ⟨p81, rfl, hM⟩ := hM
        refine owp_rdG (.pointer (some p81)) rfl (by kernel_rfl) (by kernel_rfl) ?_
        refine oZ [(125, .pointer (some (p81.add 9))), (126, .pointer (some (p81.add 11))), (127, .pointer (some (p81.add 12)))] ?_
        refine oT (p81.add 12) [.int .i64 (IntKind.wrap .i64 ((imax 0 x21) - 39))] hM ?_
        clear hM
        intro h82 hM
        refine owp_nil (blockE_n (blockE_n (thenE_n (cwp_region ?_))))
        refine oZ [(18, .int .i64 y16), (19, .int .i64 (IntKind.wrap .i64 (y16 + 1))), (5, .int .i64 (IntKind.wrap .i64 (y16 + 1)))] ?_
        refine owp_nil ?_
        exact lA 0 (.pointer (some p81)) (lA 1 (.slice (some p20) y14n y14c) (lA 4 (.pointer (some ⟨y15, 0, none⟩)) (lA 5 (.int .i64 (IntKind.wrap .i64 (y16 + 1))) (ih (some p81) (some p20) y14n y14c y15 (IntKind.wrap .i64 (y16 + 1)) _ _ hM))))
      replace hM := ifF hc80 hM
      refine cR ?_
      refine oZ [(129, .int .i64 (imax 0 x21)), (130, .bool (decide (90 ≤ (imax 0 x21)))), (131, .bool (decide (90 ≤ (imax 0 x21))))] ?_
      refine oB (decide (90 ≤ (imax 0 x21))) 3 [130, 131] (fun b_ => [(132, iteV b_ (.int .i64 (imax 0 x21) : Value) undef), (133, iteV b_ (.bool (decide ((imax 0 x21) ≤ 97)) : Value) undef), (134, .bool (b_ && (decide ((imax 0 x21) ≤ 97))))]) rfl (fun hb83 hq84 => oS [(132, .int .i64 (imax 0 x21)), (133, .bool (decide ((imax 0 x21) ≤ 97))), (134, .bool (decide ((imax 0 x21) ≤ 97)))] rfl (hq84)) (fun hb85 hq86 => oS [(132, undef), (133, undef), (134, .bool false)] rfl (hq86)) ?_
      refine oZ [(128, .bool ((decide (90 ≤ (imax 0 x21))) && (decide ((imax 0 x21) ≤ 97))))] ?_
      refine oE ?_
      refine cwp_condB ((decide (90 ≤ (imax 0 x21))) && (decide ((imax 0 x21) ≤ 97))) (by kernel_rfl) (fun hc87 => ?_) (fun hc87 => ?_)
      · replace hM := ifT hc87 hM
        refine cwp_region ?_
        refine oZ [(135, .pointer y13), (136, .int .i64 (imax 0 x21)), (137, .int .i64 (IntKind.wrap .i64 ((imax 0 x21) - 81)))] ?_
        obtain ⟨p88, rfl, hM⟩ := hM
        refine owp_rdG (.pointer (some p88)) rfl (by kernel_rfl) (by kernel_rfl) ?_
        refine oZ [(139, .pointer (some (p88.add 9))), (140, .pointer (some (p88.add 11))), (141, .pointer (some (p88.add 11)))] ?_
        refine oT (p88.add 11) [.int .i64 (IntKind.wrap .i64 ((imax 0 x21) - 81))] hM ?_
        clear hM
        intro h89 hM
        refine owp_nil (blockE_n (blockE_n (thenE_n (cwp_region ?_))))
        refine oZ [(18, .int .i64 y16), (19, .int .i64 (IntKind.wrap .i64 (y16 + 1))), (5, .int .i64 (IntKind.wrap .i64 (y16 + 1)))] ?_
        refine owp_nil ?_
        exact lA 0 (.pointer (some p88)) (lA 1 (.slice (some p20) y14n y14c) (lA 4 (.pointer (some ⟨y15, 0, none⟩)) (lA 5 (.int .i64 (IntKind.wrap .i64 (y16 + 1))) (ih (some p88) (some p20) y14n y14c y15 (IntKind.wrap .i64 (y16 + 1)) _ _ hM))))
      replace hM := ifF hc87 hM
      refine cR ?_
      refine oZ [(143, .int .i64 (imax 0 x21)), (144, .bool (decide (100 ≤ (imax 0 x21)))), (145, .bool (decide (100 ≤ (imax 0 x21))))] ?_
      refine oB (decide (100 ≤ (imax 0 x21))) 3 [144, 145] (fun b_ => [(146, iteV b_ (.int .i64 (imax 0 x21) : Value) undef), (147, iteV b_ (.bool (decide ((imax 0 x21) ≤ 107)) : Value) undef), (148, .bool (b_ && (decide ((imax 0 x21) ≤ 107))))]) rfl (fun hb90 hq91 => oS [(146, .int .i64 (imax 0 x21)), (147, .bool (decide ((imax 0 x21) ≤ 107))), (148, .bool (decide ((imax 0 x21) ≤ 107)))] rfl (hq91)) (fun hb92 hq93 => oS [(146, undef), (147, undef), (148, .bool false)] rfl (hq93)) ?_
      refine oZ [(142, .bool ((decide (100 ≤ (imax 0 x21))) && (decide ((imax 0 x21) ≤ 107))))] ?_
      refine oE ?_
      refine cwp_condB ((decide (100 ≤ (imax 0 x21))) && (decide ((imax 0 x21) ≤ 107))) (by kernel_rfl) (fun hc94 => ?_) (fun hc94 => ?_)
      · replace hM := ifT hc94 hM
        refine cwp_region ?_
        refine oZ [(149, .pointer y13), (150, .int .i64 (imax 0 x21)), (151, .int .i64 (IntKind.wrap .i64 ((imax 0 x21) - 91)))] ?_
        obtain ⟨p95, rfl, hM⟩ := hM
        refine owp_rdG (.pointer (some p95)) rfl (by kernel_rfl) (by kernel_rfl) ?_
        refine oZ [(153, .pointer (some (p95.add 9))), (154, .pointer (some (p95.add 11))), (155, .pointer (some (p95.add 12)))] ?_
        refine oT (p95.add 12) [.int .i64 (IntKind.wrap .i64 ((imax 0 x21) - 91))] hM ?_
        clear hM
        intro h96 hM
        refine owp_nil (blockE_n (blockE_n (thenE_n (cwp_region ?_))))
        refine oZ [(18, .int .i64 y16), (19, .int .i64 (IntKind.wrap .i64 (y16 + 1))), (5, .int .i64 (IntKind.wrap .i64 (y16 + 1)))] ?_
        refine owp_nil ?_
        exact lA 0 (.pointer (some p95)) (lA 1 (.slice (some p20) y14n y14c) (lA 4 (.pointer (some ⟨y15, 0, none⟩)) (lA 5 (.int .i64 (IntKind.wrap .i64 (y16 + 1))) (ih (some p95) (some p20) y14n y14c y15 (IntKind.wrap .i64 (y16 + 1)) _ _ hM))))
      replace hM := ifF hc94 hM
      refine cR ?_
      refine oZ [(157, .int .i64 (imax 0 x21)), (158, .bool (decide ((imax 0 x21) = 39))), (156, .bool (decide ((imax 0 x21) = 39)))] ?_
      refine oE ?_
      refine cwp_condD ((imax 0 x21) = 39) (by kernel_rfl) (fun hc97 => ?_) (fun hc97 => ?_)
      · replace hM := ifT hc97 hM
        refine cwp_region ?_
        refine oZ [(159, .pointer y13)] ?_
        obtain ⟨p98, rfl, hM⟩ := hM
        refine owp_rdG (.pointer (some p98)) rfl (by kernel_rfl) (by kernel_rfl) ?_
        refine oZ [(161, .pointer (some (p98.add 9))), (162, .pointer (some (p98.add 11))), (163, .pointer (some (p98.add 11)))] ?_
        refine oT (p98.add 11) [.int .i64 0] hM ?_
        clear hM
        intro h99 hM
        refine owp_nil (blockE_n (blockE_n (thenE_n (cwp_region ?_))))
        refine oZ [(18, .int .i64 y16), (19, .int .i64 (IntKind.wrap .i64 (y16 + 1))), (5, .int .i64 (IntKind.wrap .i64 (y16 + 1)))] ?_
        refine owp_nil ?_
        exact lA 0 (.pointer (some p98)) (lA 1 (.slice (some p20) y14n y14c) (lA 4 (.pointer (some ⟨y15, 0, none⟩)) (lA 5 (.int .i64 (IntKind.wrap .i64 (y16 + 1))) (ih (some p98) (some p20) y14n y14c y15 (IntKind.wrap .i64 (y16 + 1)) _ _ hM))))
      replace hM := ifF hc97 hM
      refine cR ?_
      refine oZ [(165, .int .i64 (imax 0 x21)), (166, .bool (decide ((imax 0 x21) = 49))), (164, .bool (decide ((imax 0 x21) = 49)))] ?_
      refine oE ?_
      refine cwp_condD ((imax 0 x21) = 49) (by kernel_rfl) (fun hc100 => ?_) (fun hc100 => ?_)
      · replace hM := ifT hc100 hM
        refine cwp_region ?_
        refine oZ [(167, .pointer y13)] ?_
        obtain ⟨p101, rfl, hM⟩ := hM
        refine owp_rdG (.pointer (some p101)) rfl (by kernel_rfl) (by kernel_rfl) ?_
        refine oZ [(169, .pointer (some (p101.add 9))), (170, .pointer (some (p101.add 11))), (171, .pointer (some (p101.add 12)))] ?_
        refine oT (p101.add 12) [.int .i64 0] hM ?_
        clear hM
        intro h102 hM
        refine owp_nil (blockE_n (blockE_n (thenE_n (cwp_region ?_))))
        refine oZ [(18, .int .i64 y16), (19, .int .i64 (IntKind.wrap .i64 (y16 + 1))), (5, .int .i64 (IntKind.wrap .i64 (y16 + 1)))] ?_
        refine owp_nil ?_
        exact lA 0 (.pointer (some p101)) (lA 1 (.slice (some p20) y14n y14c) (lA 4 (.pointer (some ⟨y15, 0, none⟩)) (lA 5 (.int .i64 (IntKind.wrap .i64 (y16 + 1))) (ih (some p101) (some p20) y14n y14c y15 (IntKind.wrap .i64 (y16 + 1)) _ _ hM))))
      replace hM := ifF hc100 hM
      refine cR ?_
      refine oZ [(173, .int .i64 (imax 0 x21)), (174, .bool (decide ((imax 0 x21) = 38))), (175, .bool (decide ((imax 0 x21) = 38)))] ?_
      refine oB (decide ((imax 0 x21) = 38)) 3 [174, 175] (fun b_ => [(176, iteV b_ undef (.int .i64 (imax 0 x21) : Value)), (177, iteV b_ undef (.bool (decide ((imax 0 x21) = 48)) : Value)), (178, .bool (b_ || (decide ((imax 0 x21) = 48))))]) rfl (fun hb103 hq104 => oS [(176, undef), (177, undef), (178, .bool true)] rfl (hq104)) (fun hb105 hq106 => oS [(176, .int .i64 (imax 0 x21)), (177, .bool (decide ((imax 0 x21) = 48))), (178, .bool (decide ((imax 0 x21) = 48)))] rfl (hq106)) ?_
      refine oZ [(172, .bool ((decide ((imax 0 x21) = 38)) || (decide ((imax 0 x21) = 48))))] ?_
      refine oE ?_
      refine cwp_condB ((decide ((imax 0 x21) = 38)) || (decide ((imax 0 x21) = 48))) (by kernel_rfl) (fun hc107 => ?_) (fun hc107 => ?_)
      · replace hM := ifT hc107 hM
        refine cR ?_
        refine oZ [(180, .slice (some p20) y14n y14c), (181, .int .i64 y16), (182, .int .i64 (IntKind.wrap .i64 (y16 + 1)))] ?_
        obtain ⟨hc108, hM⟩ := hM
        obtain ⟨hc109, hM⟩ := hM
        refine owp_rdG (.slice (cutA (some p20) y14c (IntKind.wrap .i64 (y16 + 1)).toNat 1) (y14n - (IntKind.wrap .i64 (y16 + 1)).toNat) (y14c - (IntKind.wrap .i64 (y16 + 1)).toNat)) rfl (by kernel_rfl) (rd_sSLo (P := Tryz.prog) (h := h) (t := 54) (el := 3) (sz := 1) (a := (some p20)) (n := y14n) (c := y14c) (k := .i64) (i := (IntKind.wrap .i64 (y16 + 1))) (by kernel_rfl) (by kernel_rfl) hc108 hc109 (by kernel_rfl)) ?_
        refine oG (hpCallE 171 #[.slice (cutA (some p20) y14c (IntKind.wrap .i64 (y16 + 1)).toNat 1) (y14n - (IntKind.wrap .i64 (y16 + 1)).toNat) (y14c - (IntKind.wrap .i64 (y16 + 1)).toNat)] (by kernel_rfl) (vt_colour_ok (cutA (some p20) y14c (IntKind.wrap .i64 (y16 + 1)).toNat 1) (y14n - (IntKind.wrap .i64 (y16 + 1)).toNat) (y14c - (IntKind.wrap .i64 (y16 + 1)).toNat) _ h hM) ?_)
        clear hM
        rintro _ h110 ⟨x111, x112, rfl, hM⟩
        refine oZ [(179, .tuple #[.int .i64 x111, .int .i64 x112]), (185, .int .i64 x111), (186, .int .i64 x112), (7, .int .i64 x111), (8, .int .i64 x112)] ?_
        refine oE (cwp_seq (cR ?_))
        refine oZ [(187, .int .i64 x112), (188, .bool (decide (x112 = 0)))] ?_
        refine oE ?_
        refine cwp_condD (x112 = 0) (by kernel_rfl) (fun hc113 => ?_) (fun hc113 => ?_)
        · replace hM := ifT hc113 hM
          refine cwp_ret (thenE_r (blockE_r (blockE_r (thenE_r ?_))))
          exact hKr  _ _ hM
        replace hM := ifF hc113 hM
        refine cwp_skip (thenE_n (cR ?_))
        refine oZ [(189, .int .i64 y16), (190, .int .i64 x112), (191, .int .i64 (IntKind.wrap .i64 (y16 + x112))), (5, .int .i64 (IntKind.wrap .i64 (y16 + x112)))] ?_
        refine oE (cR ?_)
        refine oZ [(192, .int .i64 x111), (193, .bool (decide (0 ≤ x111))), (194, .bool (decide (0 ≤ x111)))] ?_
        refine oB (decide (0 ≤ x111)) 3 [193, 194] (fun b_ => [(195, iteV b_ (.int .i64 (imax 0 x21) : Value) undef), (196, iteV b_ (.bool (decide ((imax 0 x21) = 38)) : Value) undef), (197, .bool (b_ && (decide ((imax 0 x21) = 38))))]) rfl (fun hb114 hq115 => oS [(195, .int .i64 (imax 0 x21)), (196, .bool (decide ((imax 0 x21) = 38))), (197, .bool (decide ((imax 0 x21) = 38)))] rfl (hq115)) (fun hb116 hq117 => oS [(195, undef), (196, undef), (197, .bool false)] rfl (hq117)) ?_
        refine oE ?_
        refine cwp_condB ((decide (0 ≤ x111)) && (decide ((imax 0 x21) = 38))) (by kernel_rfl) (fun hc118 => ?_) (fun hc118 => ?_)
        · replace hM := ifT hc118 hM
          refine cwp_region ?_
          refine oZ [(198, .pointer y13), (199, .int .i64 x111)] ?_
          obtain ⟨p119, rfl, hM⟩ := hM
          refine owp_rdG (.pointer (some p119)) rfl (by kernel_rfl) (by kernel_rfl) ?_
          refine oZ [(201, .pointer (some (p119.add 9))), (202, .pointer (some (p119.add 11))), (203, .pointer (some (p119.add 11)))] ?_
          refine oT (p119.add 11) [.int .i64 x111] hM ?_
          clear hM
          intro h120 hM
          refine owp_nil (blockE_n (blockE_n (thenE_n (cwp_region ?_))))
          refine oZ [(18, .int .i64 (IntKind.wrap .i64 (y16 + x112))), (19, .int .i64 (IntKind.wrap .i64 ((IntKind.wrap .i64 (y16 + x112)) + 1))), (5, .int .i64 (IntKind.wrap .i64 ((IntKind.wrap .i64 (y16 + x112)) + 1)))] ?_
          refine owp_nil ?_
          exact lA 0 (.pointer (some p119)) (lA 1 (.slice (some p20) y14n y14c) (lA 4 (.pointer (some ⟨y15, 0, none⟩)) (lA 5 (.int .i64 (IntKind.wrap .i64 ((IntKind.wrap .i64 (y16 + x112)) + 1))) (ih (some p119) (some p20) y14n y14c y15 (IntKind.wrap .i64 ((IntKind.wrap .i64 (y16 + x112)) + 1)) _ _ hM))))
        replace hM := ifF hc118 hM
        refine cR ?_
        refine oZ [(204, .int .i64 x111), (205, .bool (decide (0 ≤ x111)))] ?_
        refine oE ?_
        refine cwp_condD (0 ≤ x111) (by kernel_rfl) (fun hc121 => ?_) (fun hc121 => ?_)
        · replace hM := ifT hc121 hM
          refine cwp_region ?_
          refine oZ [(206, .pointer y13), (207, .int .i64 x111)] ?_
          obtain ⟨p122, rfl, hM⟩ := hM
          refine owp_rdG (.pointer (some p122)) rfl (by kernel_rfl) (by kernel_rfl) ?_
          refine oZ [(209, .pointer (some (p122.add 9))), (210, .pointer (some (p122.add 11))), (211, .pointer (some (p122.add 12)))] ?_
          refine oT (p122.add 12) [.int .i64 x111] hM ?_
          clear hM
          intro h123 hM
          refine owp_nil (blockE_n (blockE_n (thenE_n (cwp_region ?_))))
          refine oZ [(18, .int .i64 (IntKind.wrap .i64 (y16 + x112))), (19, .int .i64 (IntKind.wrap .i64 ((IntKind.wrap .i64 (y16 + x112)) + 1))), (5, .int .i64 (IntKind.wrap .i64 ((IntKind.wrap .i64 (y16 + x112)) + 1)))] ?_
          refine owp_nil ?_
          exact lA 0 (.pointer (some p122)) (lA 1 (.slice (some p20) y14n y14c) (lA 4 (.pointer (some ⟨y15, 0, none⟩)) (lA 5 (.int .i64 (IntKind.wrap .i64 ((IntKind.wrap .i64 (y16 + x112)) + 1))) (ih (some p122) (some p20) y14n y14c y15 (IntKind.wrap .i64 ((IntKind.wrap .i64 (y16 + x112)) + 1)) _ _ hM))))
        replace hM := ifF hc121 hM
        refine cwp_skip (blockE_n (blockE_n (thenE_n (cwp_region ?_))))
        refine oZ [(18, .int .i64 (IntKind.wrap .i64 (y16 + x112))), (19, .int .i64 (IntKind.wrap .i64 ((IntKind.wrap .i64 (y16 + x112)) + 1))), (5, .int .i64 (IntKind.wrap .i64 ((IntKind.wrap .i64 (y16 + x112)) + 1)))] ?_
        refine owp_nil ?_
        exact lA 0 (.pointer y13) (lA 1 (.slice (some p20) y14n y14c) (lA 4 (.pointer (some ⟨y15, 0, none⟩)) (lA 5 (.int .i64 (IntKind.wrap .i64 ((IntKind.wrap .i64 (y16 + x112)) + 1))) (ih y13 (some p20) y14n y14c y15 (IntKind.wrap .i64 ((IntKind.wrap .i64 (y16 + x112)) + 1)) _ _ hM))))
      replace hM := ifF hc107 hM
      refine cwp_skip (blockE_n (blockE_n (thenE_n (cwp_region ?_))))
      refine oZ [(18, .int .i64 y16), (19, .int .i64 (IntKind.wrap .i64 (y16 + 1))), (5, .int .i64 (IntKind.wrap .i64 (y16 + 1)))] ?_
      refine owp_nil ?_
      exact lA 0 (.pointer y13) (lA 1 (.slice (some p20) y14n y14c) (lA 4 (.pointer (some ⟨y15, 0, none⟩)) (lA 5 (.int .i64 (IntKind.wrap .i64 (y16 + 1))) (ih y13 (some p20) y14n y14c y15 (IntKind.wrap .i64 (y16 + 1)) _ _ hM))))
    replace hM := ifF hc17 hM
    refine cwp_exit (thenE_x ?_)
    exact hK0  _ _ hM
def vt_Screen_pens_j0 (Kn : Heap → Prop) (Kr : Heap → Prop) (y7 : Option Addr) (y8 : Option Addr) (y8n : Nat) (y8c : Nat) (h : Heap) : Prop :=
 newB h #[.int .i64 0, .int .i64 0, .int .i64 0, .int .i64 0, .int .i64 0, .int .i64 0, .int .i64 0, .int .i64 0, .int .i64 0, .int .i64 0] 175 fun b9 h10 =>
 stN ⟨b9, 0, none⟩ [.int .i64 0, .int .i64 1, .int .i64 2, .int .i64 4, .int .i64 8, .int .i64 16, .int .i64 0, .int .i64 32, .int .i64 64, .int .i64 128] 0 h10 fun h12 =>
 ∃ k128, vt_Screen_pens_l1
  (fun  h124 =>
      Kn  h124)
  (fun  h126 =>
      Kr  h126) k128 y7 y8 y8n y8c b9 0 h12
theorem vt_Screen_pens_j0_ok {Q : Exit → Env → Heap → Prop} (Kn : Heap → Prop) (hKn : ∀  (b : Env) (h : Heap), Kn  h → Q .normal b h) (Kr : Heap → Prop) (hKr : ∀  (b : Env) (h : Heap), Kr  h → Q .ret b h) (y7 : Option Addr) (y8 : Option Addr) (y8n : Nat) (y8c : Nat) (b : Env) (h : Heap) (hM : vt_Screen_pens_j0 Kn Kr y7 y8 y8n y8c h) : cwp Tryz.prog (partC Tryz.f160 [1]) 212 Q (upd (upd b 0 (.pointer y7)) 1 (.slice y8 y8n y8c)) h := by
  unfold vt_Screen_pens_j0 at hM
  refine cwp_part rfl ?_
  refine cR ?_
  refine oZ [(13, .agg #[.int .i64 0, .int .i64 1, .int .i64 2, .int .i64 4, .int .i64 8, .int .i64 16, .int .i64 0, .int .i64 32, .int .i64 64, .int .i64 128])] ?_
  refine oG (hpNew #[.int .i64 0, .int .i64 0, .int .i64 0, .int .i64 0, .int .i64 0, .int .i64 0, .int .i64 0, .int .i64 0, .int .i64 0, .int .i64 0] 175 (fun _ => by kernel_rfl) ?_)
  intro b9 h10 hN11
  replace hM := newB_of hN11 hM
  refine oT ⟨b9, 0, none⟩ [.int .i64 0, .int .i64 1, .int .i64 2, .int .i64 4, .int .i64 8, .int .i64 16, .int .i64 0, .int .i64 32, .int .i64 64, .int .i64 128] hM ?_
  clear hM
  intro h12 hM
  refine oE (cR ?_)
  refine oZ [(5, .int .i64 0)] ?_
  refine oE (cwp_block ?_)
  obtain ⟨k_, hM⟩ := hM
  refine cwp_loop k_ (lwp_of_part (fn := Tryz.f160) (p := [1, 1, 1, 0, 0]) (by kernel_rfl) (lA 0 (.pointer y7) (lA 1 (.slice y8 y8n y8c) (lA 4 (.pointer (some ⟨b9, 0, none⟩)) (lA 5 (.int .i64 0) (vt_Screen_pens_l1_ok _ ?_ _ ?_ k_ y7 y8 y8n y8c b9 0 _ _ hM))))))
  · intro  b125 h124 hM
    refine blockE_h ?_
    exact hKn  _ _ hM
  · intro  b127 h126 hM
    refine blockE_r ?_
    exact hKr  _ _ hM
def vt_Screen_pens (a1 : Option Addr) (a2 : Option Addr) (a2n : Nat) (a2c : Nat) (K : Heap → Prop) (h : Heap) : Prop :=
 if (a2n : Int) = 0 then
  newB h #[.int .i64 0] 3 fun b4 h5 =>
  vt_Screen_pens_j0
   (fun  h129 =>
       K h129)
   (fun  h131 =>
       K h131) a1 (some ⟨b4, 0, none⟩) 1 1 h5
 else
 vt_Screen_pens_j0
  (fun  h134 =>
      K h134)
  (fun  h136 =>
      K h136) a1 a2 a2n a2c h
theorem vt_Screen_pens_ok (a1 : Option Addr) (a2 : Option Addr) (a2n : Nat) (a2c : Nat) (K : Heap → Prop) (h : Heap) (hM : vt_Screen_pens a1 a2 a2n a2c K h) : CallsH Tryz.prog 160 #[.pointer a1, .slice a2 a2n a2c] (fun v h' => v = .tuple #[] ∧ K h') h := by
 unfold vt_Screen_pens at hM
 refine callsH_intro (n := 212) Tryz.func160 rfl rfl (by kernel_rfl) ?_
 refine cwp_seq (cR ?_)
 refine oZ [(9, .slice a2 a2n a2c), (10, .int .i64 (a2n : Int)), (11, .bool (decide ((a2n : Int) = 0)))] ?_
 refine oE ?_
 refine cwp_condD ((a2n : Int) = 0) (by kernel_rfl) (fun hc3 => ?_) (fun hc3 => ?_)
 · replace hM := ifT hc3 hM
   refine cwp_region ?_
   refine oG (hpNewS #[.int .i64 0] 3 1 (fun _ => by kernel_rfl) ?_)
   intro b4 h5 hN6
   replace hM := newB_of hN6 hM
   refine oZ [(1, .slice (some ⟨b4, 0, none⟩) 1 1)] ?_
   refine oE ?_
   refine cwp_of_part (fn := Tryz.f160) (p := [1]) (by kernel_rfl) (cA 0 (.pointer a1) (cA 1 (.slice (some ⟨b4, 0, none⟩) 1 1) (vt_Screen_pens_j0_ok _ ?_ _ ?_ a1 (some ⟨b4, 0, none⟩) 1 1 _ _ hM)))
   · intro  b130 h129 hM
     exact end_ (.tuple #[]) (by kernel_rfl) ⟨rfl, hM⟩
   · intro  b132 h131 hM
     exact ret_ (.tuple #[]) (by kernel_rfl) ⟨rfl, hM⟩
 replace hM := ifF hc3 hM
 refine cwp_skip (thenE_n ?_)
 refine cwp_of_part (fn := Tryz.f160) (p := [1]) (by kernel_rfl) (cA 0 (.pointer a1) (cA 1 (.slice a2 a2n a2c) (vt_Screen_pens_j0_ok _ ?_ _ ?_ a1 a2 a2n a2c _ _ hM)))
 · intro  b135 h134 hM
   exact end_ (.tuple #[]) (by kernel_rfl) ⟨rfl, hM⟩
 · intro  b137 h136 hM
   exact ret_ (.tuple #[]) (by kernel_rfl) ⟨rfl, hM⟩
/- (*mullion/vt.Screen).sends -/
def vt_Screen_sends (a1 : Option Addr) (a2 : ByteArray) (K : Heap → Prop) (h : Heap) : Prop :=
 nz a1 fun p3 =>
 ldS h (p3.add 30) fun x4 =>
 if (IntKind.wrap .i64 ((x4.size : Int) + (a2.size : Int))) ≤ 4096 then
  ldS h (p3.add 30) fun x8 =>
  x8.size + a2.size ≤ 9223372036854775807 ∧
  stN (p3.add 30) [.string (x8 ++ a2)] 0 h fun h12 =>
  K h12
 else
 K h
theorem vt_Screen_sends_ok (a1 : Option Addr) (a2 : ByteArray) (K : Heap → Prop) (h : Heap) (hM : vt_Screen_sends a1 a2 K h) : CallsH Tryz.prog 161 #[.pointer a1, .string a2] (fun v h' => v = .tuple #[] ∧ K h') h := by
 unfold vt_Screen_sends at hM
 refine callsH_intro (n := 21) Tryz.func161 rfl rfl (by kernel_rfl) ?_
 refine cR ?_
 refine oZ [(4, .pointer a1)] ?_
 obtain ⟨p3, rfl, hM⟩ := hM
 refine owp_rdG (.pointer (some p3)) rfl (by kernel_rfl) (by kernel_rfl) ?_
 refine oZ [(6, .pointer (some (p3.add 30)))] ?_
 obtain ⟨x4, hc5, hM⟩ := hM
 refine oL (.string x4) (p3.add 30) hc5 ?_
 refine oZ [(8, .int .i64 (x4.size : Int)), (9, .string a2), (10, .int .i64 (a2.size : Int)), (11, .int .i64 (IntKind.wrap .i64 ((x4.size : Int) + (a2.size : Int)))), (12, .bool (decide ((IntKind.wrap .i64 ((x4.size : Int) + (a2.size : Int))) ≤ 4096)))] ?_
 refine oE ?_
 refine cwp_condD ((IntKind.wrap .i64 ((x4.size : Int) + (a2.size : Int))) ≤ 4096) (by kernel_rfl) (fun hc7 => ?_) (fun hc7 => ?_)
 · replace hM := ifT hc7 hM
   refine cwp_region ?_
   refine oZ [(13, .pointer (some p3)), (14, .pointer (some p3)), (15, .pointer (some (p3.add 30)))] ?_
   obtain ⟨x8, hc9, hM⟩ := hM
   refine oL (.string x8) (p3.add 30) hc9 ?_
   refine oZ [(17, .string a2)] ?_
   obtain ⟨hc11, hM⟩ := hM
   refine owp_rdG (.string (x8 ++ a2)) rfl (by kernel_rfl) (rd_cat (P := Tryz.prog) (h := h) (x := x8) (y := a2) hc11 (by kernel_rfl)) ?_
   refine oZ [(19, .pointer (some p3)), (20, .pointer (some (p3.add 30)))] ?_
   refine oT (p3.add 30) [.string (x8 ++ a2)] hM ?_
   clear hM
   intro h12 hM
   refine owp_nil ?_
   exact end_ (.tuple #[]) (by kernel_rfl) ⟨rfl, hM⟩
 replace hM := ifF hc7 hM
 refine cwp_skip ?_
 exact end_ (.tuple #[]) (by kernel_rfl) ⟨rfl, hM⟩
/- (*mullion/vt.Screen).others -/
def vt_Screen_others_l0 (K1 : Heap → Prop) : Nat → Option Addr → Int → Int → Heap → Prop
  | 0, _, _, _, _ => False
  | k + 1, y8, y9, y10, h =>
  if y10 < y9 then
   nz y8 fun p13 =>
   ldI h .i32 (p13.add 40) fun x14 =>
   if x14 = 0 then
    K1  h
   else
   ldI h .i32 (p13.add 40) fun x18 =>
   vt_Screen_write (some p13) x18 (fun  h21 =>
     vt_Screen_others_l0 K1 k (some p13) y9 (IntKind.wrap .i64 (y10 + 1)) h21) h
  else
  K1  h
theorem vt_Screen_others_l0_ok {Q : Exit → Env → Heap → Prop} (K1 : Heap → Prop) (hK1 : ∀  (b : Env) (h : Heap), K1  h → Q (.exit 1) b h) : ∀ (k : Nat) (y8 : Option Addr) (y9 : Int) (y10 : Int) (b : Env) (h : Heap) (hM : vt_Screen_others_l0 K1 k y8 y9 y10 h), lwp Tryz.prog (partC Tryz.f149 [1, 1, 0, 1, 0, 1, 0, 0]) 182 Q k (upd (upd (upd b 0 (.pointer y8)) 3 (.int .i64 y9)) 9 (.int .i64 y10)) h := by
  intro k
  induction k with
  | zero => intro y8 y9 y10 b h hM; exact (show False from hM).elim
  | succ k ih =>
    intro y8 y9 y10 b h hM
    unfold vt_Screen_others_l0 at hM
    refine lwp_succ (cwp_part rfl ?_)
    refine cwp_seq (cR ?_)
    refine oZ [(19, .int .i64 y10), (20, .int .i64 y9), (21, .bool (decide (y10 < y9))), (22, .bool (decide (y10 < y9)))] ?_
    by_cases hc12 : y10 < y9
    · refine oA 21 true (decide (y10 < y9)) (by rw [decide_eq_true hc12]) ?_
      refine oA 22 true (decide (y10 < y9)) (by rw [decide_eq_true hc12]) ?_
      replace hM := ifT hc12 hM
      refine oZ [(23, .pointer y8)] ?_
      obtain ⟨p13, rfl, hM⟩ := hM
      refine owp_rdG (.pointer (some p13)) rfl (by kernel_rfl) (by kernel_rfl) ?_
      refine oZ [(25, .pointer (some (p13.add 40)))] ?_
      obtain ⟨x14, hc15, hM⟩ := hM
      refine oL (.int .i32 x14) (p13.add 40) hc15 ?_
      refine oZ [(27, .bool (!decide (x14 = 0))), (28, .bool (!decide (x14 = 0)))] ?_
      refine oE ?_
      refine cwp_condN (x14 = 0) (by kernel_rfl) (fun hc17 => ?_) (fun hc17 => ?_)
      · replace hM := ifT hc17 hM
        refine cwp_exit (thenE_x ?_)
        exact hK1  _ _ hM
      replace hM := ifF hc17 hM
      refine cwp_skip (thenE_n (cwp_seq (cwp_block (cwp_region ?_))))
      refine oZ [(31, .pointer (some p13)), (32, .pointer (some p13)), (33, .pointer (some p13)), (34, .pointer (some (p13.add 40)))] ?_
      obtain ⟨x18, hc19, hM⟩ := hM
      refine oL (.int .i32 x18) (p13.add 40) hc19 ?_
      refine oG (hpCallE 82 #[.pointer (some p13), .int .i32 x18] (by kernel_rfl) (vt_Screen_write_ok (some p13) x18 _ h hM) ?_)
      clear hM
      rintro _ h21 ⟨rfl, hM⟩
      refine owp_nil (blockE_n (thenE_n (cwp_region ?_)))
      refine oZ [(29, .int .i64 y10), (30, .int .i64 (IntKind.wrap .i64 (y10 + 1))), (9, .int .i64 (IntKind.wrap .i64 (y10 + 1)))] ?_
      refine owp_nil ?_
      exact lA 0 (.pointer (some p13)) (lA 3 (.int .i64 y9) (lA 9 (.int .i64 (IntKind.wrap .i64 (y10 + 1))) (ih (some p13) y9 (IntKind.wrap .i64 (y10 + 1)) _ _ hM)))
    refine oA 21 false (decide (y10 < y9)) (by rw [decide_eq_false hc12]) ?_
    refine oA 22 false (decide (y10 < y9)) (by rw [decide_eq_false hc12]) ?_
    replace hM := ifF hc12 hM
    refine oZ [(23, undef), (24, undef), (25, undef), (26, undef), (27, undef), (28, .bool false)] ?_
    refine oE ?_
    refine cwp_cond (t := false) (by kernel_rfl) (fun hx_ => ?_) (fun hx_ => ?_)
    all_goals first | (cases hx_; done) | skip
    refine cwp_exit (thenE_x ?_)
    exact hK1  _ _ hM
def vt_Screen_others_l2 (K3 : Heap → Prop) : Nat → Option Addr → Int → Option Addr → Nat → Nat → Int → Int → Heap → Prop
  | 0, _, _, _, _, _, _, _, _ => False
  | k + 1, y55, y56, y57, y57n, y57c, y58, y59, h =>
  if y59 < y58 then
   nz y57 fun p63 =>
   0 ≤ y59 ∧
   y59 < (y57n : Int) ∧
   ldI h .i64 (p63.add ((y59).toNat * 1)) fun x64 =>
   if x64 = 4 then
    nz y55 fun p68 =>
    stN (p68.add 22) [.bool (decide (y56 = 104))] 0 h fun h69 =>
    vt_Screen_others_l2 K3 k (some p68) y56 (some p63) y57n y57c y58 (IntKind.wrap .i64 (y59 + 1)) h69
   else
   if x64 = 20 then
    nz y55 fun p71 =>
    stN (p71.add 23) [.bool (decide (y56 = 104))] 0 h fun h72 =>
    vt_Screen_others_l2 K3 k (some p71) y56 (some p63) y57n y57c y58 (IntKind.wrap .i64 (y59 + 1)) h72
   else
   vt_Screen_others_l2 K3 k y55 y56 (some p63) y57n y57c y58 (IntKind.wrap .i64 (y59 + 1)) h
  else
  K3  h
theorem vt_Screen_others_l2_ok {Q : Exit → Env → Heap → Prop} (K3 : Heap → Prop) (hK3 : ∀  (b : Env) (h : Heap), K3  h → Q (.exit 3) b h) : ∀ (k : Nat) (y55 : Option Addr) (y56 : Int) (y57 : Option Addr) (y57n : Nat) (y57c : Nat) (y58 : Int) (y59 : Int) (b : Env) (h : Heap) (hM : vt_Screen_others_l2 K3 k y55 y56 y57 y57n y57c y58 y59 h), lwp Tryz.prog (partC Tryz.f149 [1, 1, 0, 1, 1, 1, 1, 1, 0, 1, 0, 0]) 182 Q k (upd (upd (upd (upd (upd b 0 (.pointer y55)) 1 (.int .u8 y56)) 60 (.slice y57 y57n y57c)) 61 (.int .i64 y58)) 62 (.int .i64 y59)) h := by
  intro k
  induction k with
  | zero => intro y55 y56 y57 y57n y57c y58 y59 b h hM; exact (show False from hM).elim
  | succ k ih =>
    intro y55 y56 y57 y57n y57c y58 y59 b h hM
    unfold vt_Screen_others_l2 at hM
    refine lwp_succ (cwp_part rfl ?_)
    refine cR ?_
    refine oZ [(63, .bool (decide (y59 < y58)))] ?_
    refine oE (cwp_seq ?_)
    refine cwp_condD (y59 < y58) (by kernel_rfl) (fun hc60 => ?_) (fun hc60 => ?_)
    · replace hM := ifT hc60 hM
      refine cwp_skip (thenE_n (cwp_seq (cwp_block (cR ?_))))
      obtain ⟨p63, rfl, hM⟩ := hM
      obtain ⟨hc61, hM⟩ := hM
      obtain ⟨hc62, hM⟩ := hM
      refine owp_rdG (.pointer (some (p63.add ((y59).toNat * 1)))) rfl (by kernel_rfl) (rd_ixS (P := Tryz.prog) (h := h) (t := 54) (el := 3) (sz := 1) (ad := p63) (len := y57n) (c := y57c) (k := .i64) (i := y59) (by kernel_rfl) (by kernel_rfl) hc61 hc62 (by kernel_rfl)) ?_
      obtain ⟨x64, hc65, hM⟩ := hM
      refine oL (.int .i64 x64) (p63.add ((y59).toNat * 1)) hc65 ?_
      refine oZ [(11, .int .i64 x64)] ?_
      refine oE (cR ?_)
      refine oZ [(66, .int .i64 x64)] ?_
      refine oE (cwp_block (cR ?_))
      refine oZ [(68, .bool (decide (x64 = 4))), (67, .bool (decide (x64 = 4)))] ?_
      refine oE ?_
      refine cwp_condD (x64 = 4) (by kernel_rfl) (fun hc67 => ?_) (fun hc67 => ?_)
      · replace hM := ifT hc67 hM
        refine cwp_region ?_
        refine oZ [(69, .pointer y55), (70, .int .u8 y56), (71, .bool (decide (y56 = 104)))] ?_
        obtain ⟨p68, rfl, hM⟩ := hM
        refine owp_rdG (.pointer (some p68)) rfl (by kernel_rfl) (by kernel_rfl) ?_
        refine oZ [(73, .pointer (some (p68.add 22)))] ?_
        refine oT (p68.add 22) [.bool (decide (y56 = 104))] hM ?_
        clear hM
        intro h69 hM
        refine owp_nil (blockE_n (blockE_n (thenE_n (cwp_region ?_))))
        refine oZ [(81, .int .i64 (IntKind.wrap .i64 (y59 + 1))), (62, .int .i64 (IntKind.wrap .i64 (y59 + 1)))] ?_
        refine owp_nil ?_
        exact lA 0 (.pointer (some p68)) (lA 1 (.int .u8 y56) (lA 60 (.slice (some p63) y57n y57c) (lA 61 (.int .i64 y58) (lA 62 (.int .i64 (IntKind.wrap .i64 (y59 + 1))) (ih (some p68) y56 (some p63) y57n y57c y58 (IntKind.wrap .i64 (y59 + 1)) _ _ hM)))))
      replace hM := ifF hc67 hM
      refine cR ?_
      refine oZ [(75, .bool (decide (x64 = 20))), (74, .bool (decide (x64 = 20)))] ?_
      refine oE ?_
      refine cwp_condD (x64 = 20) (by kernel_rfl) (fun hc70 => ?_) (fun hc70 => ?_)
      · replace hM := ifT hc70 hM
        refine cwp_region ?_
        refine oZ [(76, .pointer y55), (77, .int .u8 y56), (78, .bool (decide (y56 = 104)))] ?_
        obtain ⟨p71, rfl, hM⟩ := hM
        refine owp_rdG (.pointer (some p71)) rfl (by kernel_rfl) (by kernel_rfl) ?_
        refine oZ [(80, .pointer (some (p71.add 23)))] ?_
        refine oT (p71.add 23) [.bool (decide (y56 = 104))] hM ?_
        clear hM
        intro h72 hM
        refine owp_nil (blockE_n (blockE_n (thenE_n (cwp_region ?_))))
        refine oZ [(81, .int .i64 (IntKind.wrap .i64 (y59 + 1))), (62, .int .i64 (IntKind.wrap .i64 (y59 + 1)))] ?_
        refine owp_nil ?_
        exact lA 0 (.pointer (some p71)) (lA 1 (.int .u8 y56) (lA 60 (.slice (some p63) y57n y57c) (lA 61 (.int .i64 y58) (lA 62 (.int .i64 (IntKind.wrap .i64 (y59 + 1))) (ih (some p71) y56 (some p63) y57n y57c y58 (IntKind.wrap .i64 (y59 + 1)) _ _ hM)))))
      replace hM := ifF hc70 hM
      refine cwp_skip (blockE_n (blockE_n (thenE_n (cwp_region ?_))))
      refine oZ [(81, .int .i64 (IntKind.wrap .i64 (y59 + 1))), (62, .int .i64 (IntKind.wrap .i64 (y59 + 1)))] ?_
      refine owp_nil ?_
      exact lA 0 (.pointer y55) (lA 1 (.int .u8 y56) (lA 60 (.slice (some p63) y57n y57c) (lA 61 (.int .i64 y58) (lA 62 (.int .i64 (IntKind.wrap .i64 (y59 + 1))) (ih y55 y56 (some p63) y57n y57c y58 (IntKind.wrap .i64 (y59 + 1)) _ _ hM)))))
    replace hM := ifF hc60 hM
    refine cwp_exit (thenE_x ?_)
    exact hK3  _ _ hM
def vt_Screen_others_j3 (Kn : Heap → Prop) (y90 : Addr) (y91 : Int) (y92 : Int) (h : Heap) : Prop :=
 if y91 = 5 then
  vt_Screen_sends (some y90) (⟨#[27, 91, 48, 110]⟩ : ByteArray) (fun  h94 =>
    Kn  h94) h
 else
 if y91 = 6 then
  ldI h .i64 (y90.add 9) fun x96 =>
  strconv_Itoa y92 (fun x101 h100 =>
   (cellH h100 (y90.add 9) = some (.int .i64 x96)) ∧
   (⟨#[27, 91]⟩ : ByteArray).size + x101.size ≤ 9223372036854775807 ∧
   ((⟨#[27, 91]⟩ : ByteArray) ++ x101).size + (⟨#[59]⟩ : ByteArray).size ≤ 9223372036854775807 ∧
   strconv_Itoa (IntKind.wrap .i64 (x96 + 1)) (fun x106 h105 =>
    (((⟨#[27, 91]⟩ : ByteArray) ++ x101) ++ (⟨#[59]⟩ : ByteArray)).size + x106.size ≤ 9223372036854775807 ∧
    ((((⟨#[27, 91]⟩ : ByteArray) ++ x101) ++ (⟨#[59]⟩ : ByteArray)) ++ x106).size + (⟨#[82]⟩ : ByteArray).size ≤ 9223372036854775807 ∧
    vt_Screen_sends (some y90) (((((⟨#[27, 91]⟩ : ByteArray) ++ x101) ++ (⟨#[59]⟩ : ByteArray)) ++ x106) ++ (⟨#[82]⟩ : ByteArray)) (fun  h109 =>
        Kn  h109) h105) h100) h
 else
 Kn  h
theorem vt_Screen_others_j3_ok {Q : Exit → Env → Heap → Prop} (Kn : Heap → Prop) (hKn : ∀  (b : Env) (h : Heap), Kn  h → Q .normal b h) (y90 : Addr) (y91 : Int) (y92 : Int) (b : Env) (h : Heap) (hM : vt_Screen_others_j3 Kn y90 y91 y92 h) : cwp Tryz.prog (partC Tryz.f149 [1, 1, 0, 1, 1, 1, 1, 1, 1, 1, 1, 1, 0, 1, 1]) 182 Q (upd (upd (upd b 0 (.pointer (some y90))) 8 (.int .i64 y91)) 12 (.int .i64 y92)) h := by
  unfold vt_Screen_others_j3 at hM
  refine cwp_part rfl ?_
  refine cR ?_
  refine oZ [(106, .int .i64 y91), (107, .bool (decide (y91 = 5)))] ?_
  refine oE ?_
  refine cwp_condD (y91 = 5) (by kernel_rfl) (fun hc93 => ?_) (fun hc93 => ?_)
  · replace hM := ifT hc93 hM
    refine cwp_region ?_
    refine oZ [(108, .pointer (some y90))] ?_
    refine oG (hpCallE 161 #[.pointer (some y90), .string (⟨#[27, 91, 48, 110]⟩ : ByteArray)] (by kernel_rfl) (vt_Screen_sends_ok (some y90) (⟨#[27, 91, 48, 110]⟩ : ByteArray) _ h hM) ?_)
    clear hM
    rintro _ h94 ⟨rfl, hM⟩
    refine owp_nil ?_
    exact hKn  _ _ hM
  replace hM := ifF hc93 hM
  refine cR ?_
  refine oZ [(110, .int .i64 y91), (111, .bool (decide (y91 = 6)))] ?_
  refine oE ?_
  refine cwp_condD (y91 = 6) (by kernel_rfl) (fun hc95 => ?_) (fun hc95 => ?_)
  · replace hM := ifT hc95 hM
    refine cwp_draw (by kernel_rfl) ?_
    refine kq 0 (.pointer (some y90)) ?_
    refine kq 1 (.int .i64 y92) ?_
    refine kq 5 (.pointer (some y90)) ?_
    refine kq 6 (.pointer (some y90)) ?_
    refine kq 7 (.pointer (some (y90.add 9))) ?_
    refine kq 8 (.pointer (some (y90.add 9))) ?_
    obtain ⟨x96, hc97, hM⟩ := hM
    refine kl 9 (.int .i64 x96) (y90.add 9) [10, 11, 12, 13, 14] [11, 14] hc97 ?_
    refine kq 10 (.int .i64 (IntKind.wrap .i64 (x96 + 1))) ?_
    refine kE 2 (hpCallE 157 #[.int .i64 y92] (by kernel_rfl) (strconv_Itoa_ok y92 _ h hM) ?_)
    clear hM
    rintro _ h100 ⟨x101, rfl, hM⟩
    obtain ⟨hk102, hM⟩ := hM
    refine ⟨⟨⟨hk102, trivial⟩, trivial⟩, ?_⟩
    obtain ⟨hc103, hM⟩ := hM
    refine k_pure (i := 3) [4, 12, 13, 14] (.string ((⟨#[27, 91]⟩ : ByteArray) ++ x101)) (by kernel_rfl) rfl rfl (by kernel_rfl) (fun h' => rd_cat (P := Tryz.prog) (h := h') (x := (⟨#[27, 91]⟩ : ByteArray)) (y := x101) hc103 (by kernel_rfl)) (by kernel_rfl) ?_
    obtain ⟨hc104, hM⟩ := hM
    refine k_pure (i := 4) [12, 13, 14] (.string (((⟨#[27, 91]⟩ : ByteArray) ++ x101) ++ (⟨#[59]⟩ : ByteArray))) (by kernel_rfl) rfl rfl (by kernel_rfl) (fun h' => rd_cat (P := Tryz.prog) (h := h') (x := ((⟨#[27, 91]⟩ : ByteArray) ++ x101)) (y := (⟨#[59]⟩ : ByteArray)) hc104 (by kernel_rfl)) (by kernel_rfl) ?_
    refine kE 11 (hpCallE 157 #[.int .i64 (IntKind.wrap .i64 (x96 + 1))] (by kernel_rfl) (strconv_Itoa_ok (IntKind.wrap .i64 (x96 + 1)) _ h100 hM) ?_)
    clear hM
    rintro _ h105 ⟨x106, rfl, hM⟩
    refine ⟨trivial, ?_⟩
    obtain ⟨hc107, hM⟩ := hM
    refine k_pure (i := 12) [13, 14] (.string ((((⟨#[27, 91]⟩ : ByteArray) ++ x101) ++ (⟨#[59]⟩ : ByteArray)) ++ x106)) (by kernel_rfl) rfl rfl (by kernel_rfl) (fun h' => rd_cat (P := Tryz.prog) (h := h') (x := (((⟨#[27, 91]⟩ : ByteArray) ++ x101) ++ (⟨#[59]⟩ : ByteArray))) (y := x106) hc107 (by kernel_rfl)) (by kernel_rfl) ?_
    obtain ⟨hc108, hM⟩ := hM
    refine k_pure (i := 13) [14] (.string (((((⟨#[27, 91]⟩ : ByteArray) ++ x101) ++ (⟨#[59]⟩ : ByteArray)) ++ x106) ++ (⟨#[82]⟩ : ByteArray))) (by kernel_rfl) rfl rfl (by kernel_rfl) (fun h' => rd_cat (P := Tryz.prog) (h := h') (x := ((((⟨#[27, 91]⟩ : ByteArray) ++ x101) ++ (⟨#[59]⟩ : ByteArray)) ++ x106)) (y := (⟨#[82]⟩ : ByteArray)) hc108 (by kernel_rfl)) (by kernel_rfl) ?_
    refine kE 14 (hpCallE 161 #[.pointer (some y90), .string (((((⟨#[27, 91]⟩ : ByteArray) ++ x101) ++ (⟨#[59]⟩ : ByteArray)) ++ x106) ++ (⟨#[82]⟩ : ByteArray))] (by kernel_rfl) (vt_Screen_sends_ok (some y90) (((((⟨#[27, 91]⟩ : ByteArray) ++ x101) ++ (⟨#[59]⟩ : ByteArray)) ++ x106) ++ (⟨#[82]⟩ : ByteArray)) _ h105 hM) ?_)
    clear hM
    rintro _ h109 ⟨rfl, hM⟩
    refine ⟨trivial, ?_⟩
    refine k_done (by kernel_rfl) ?_
    exact hKn  _ _ hM
  replace hM := ifF hc95 hM
  refine cwp_skip ?_
  exact hKn  _ _ hM
def vt_Screen_others_j4 (Kn : Heap → Prop) (y133 : Addr) (y134 : Int) (y135 : Int) (h : Heap) : Prop :=
 if y134 < y135 then
  stN (y133.add 19) [.int .i64 (IntKind.wrap .i64 (y134 - 1))] 0 h fun h137 =>
  stN (y133.add 20) [.int .i64 (IntKind.wrap .i64 (y135 - 1))] 0 h137 fun h138 =>
  vt_Screen_home (some y133) 1 1 (fun  h139 =>
    Kn  h139) h138
 else
 Kn  h
theorem vt_Screen_others_j4_ok {Q : Exit → Env → Heap → Prop} (Kn : Heap → Prop) (hKn : ∀  (b : Env) (h : Heap), Kn  h → Q .normal b h) (y133 : Addr) (y134 : Int) (y135 : Int) (b : Env) (h : Heap) (hM : vt_Screen_others_j4 Kn y133 y134 y135 h) : cwp Tryz.prog (partC Tryz.f149 [1, 1, 0, 1, 1, 1, 1, 1, 1, 1, 1, 1, 1, 1, 1, 1, 0, 1, 1]) 182 Q (upd (upd (upd b 0 (.pointer (some y133))) 3 (.int .i64 y134)) 13 (.int .i64 y135)) h := by
  unfold vt_Screen_others_j4 at hM
  refine cwp_part rfl ?_
  refine cR ?_
  refine oZ [(155, .int .i64 y134), (156, .int .i64 y135), (157, .bool (decide (y134 < y135)))] ?_
  refine oE ?_
  refine cwp_condD (y134 < y135) (by kernel_rfl) (fun hc136 => ?_) (fun hc136 => ?_)
  · replace hM := ifT hc136 hM
    refine cR ?_
    refine oZ [(158, .pointer (some y133)), (159, .pointer (some y133)), (160, .int .i64 y134), (161, .int .i64 (IntKind.wrap .i64 (y134 - 1))), (162, .int .i64 y135), (163, .int .i64 (IntKind.wrap .i64 (y135 - 1))), (164, .pointer (some y133)), (165, .pointer (some (y133.add 19)))] ?_
    refine oT (y133.add 19) [.int .i64 (IntKind.wrap .i64 (y134 - 1))] hM ?_
    clear hM
    intro h137 hM
    refine oZ [(166, .pointer (some y133)), (167, .pointer (some (y133.add 20)))] ?_
    refine oT (y133.add 20) [.int .i64 (IntKind.wrap .i64 (y135 - 1))] hM ?_
    clear hM
    intro h138 hM
    refine oE (cwp_region ?_)
    refine oZ [(168, .pointer (some y133))] ?_
    refine oG (hpCallE 140 #[.pointer (some y133), .int .i64 1, .int .i64 1] (by kernel_rfl) (vt_Screen_home_ok (some y133) 1 1 _ h138 hM) ?_)
    clear hM
    rintro _ h139 ⟨rfl, hM⟩
    refine owp_nil ?_
    exact hKn  _ _ hM
  replace hM := ifF hc136 hM
  refine cwp_skip ?_
  exact hKn  _ _ hM
def vt_Screen_others_j1 (Kn : Heap → Prop) (y47 : Option Addr) (y48 : Int) (y49 : Option Addr) (y49n : Nat) (y49c : Nat) (y50 : Int) (y51 : Int) (y52 : Int) (y53 : Bool) (h : Heap) : Prop :=
 if y53 = true then
  ∃ k75, vt_Screen_others_l2
   (fun  h73 =>
       Kn  h73) k75 y47 y48 y49 y49n y49c (y49n : Int) 0 h
 else
 if y52 = 109 then
  vt_Screen_pens y47 y49 y49n y49c (fun  h77 =>
    Kn  h77) h
 else
 if y52 = 110 then
  nz y47 fun p79 =>
  ldI h .i64 (p79.add 10) fun x80 =>
  ldB h (p79.add 14) fun x83 =>
  if x83 = true then
   ldI h .i64 (p79.add 19) fun x87 =>
   vt_Screen_others_j3
    (fun  h110 =>
        Kn  h110) p79 y51 (IntKind.wrap .i64 ((IntKind.wrap .i64 (x80 + 1)) - x87)) h
  else
  vt_Screen_others_j3
   (fun  h113 =>
       Kn  h113) p79 y51 (IntKind.wrap .i64 (x80 + 1)) h
 else
 if y52 = 99 then
  if y51 = 0 then
   vt_Screen_sends y47 (⟨#[27, 91, 63, 49, 59, 50, 99]⟩ : ByteArray) (fun  h118 =>
     Kn  h118) h
  else
  Kn  h
 else
 if y52 = 114 then
  nz y47 fun p120 =>
  ldI h .i64 (p120.add 1) fun x121 =>
  vt_at y49 y49n y49c 1 x121 (fun x125 h124 =>
   if x125 = 0 then
    ldI h124 .i64 (p120.add 1) fun x130 =>
    vt_Screen_others_j4
     (fun  h140 =>
         Kn  h140) p120 y50 x130 h124
   else
   ldI h124 .i64 (p120.add 1) fun x143 =>
   if x143 < x125 then
    ldI h124 .i64 (p120.add 1) fun x147 =>
    vt_Screen_others_j4
     (fun  h150 =>
         Kn  h150) p120 y50 x147 h124
   else
   vt_Screen_others_j4
    (fun  h153 =>
         Kn  h153) p120 y50 x125 h124) h
 else
 if y52 = 115 then
  vt_Screen_keepCursor y47 (fun  h157 =>
   nz y47 fun p158 =>
   stN (p158.add 18) [.bool false] 0 h157 fun h159 =>
    Kn  h159) h
 else
 if y52 = 117 then
  vt_Screen_backCursor y47 (fun  h161 =>
    Kn  h161) h
 else
 Kn  h
theorem vt_Screen_others_j1_ok {Q : Exit → Env → Heap → Prop} (Kn : Heap → Prop) (hKn : ∀  (b : Env) (h : Heap), Kn  h → Q .normal b h) (y47 : Option Addr) (y48 : Int) (y49 : Option Addr) (y49n : Nat) (y49c : Nat) (y50 : Int) (y51 : Int) (y52 : Int) (y53 : Bool) (b : Env) (h : Heap) (hM : vt_Screen_others_j1 Kn y47 y48 y49 y49n y49c y50 y51 y52 y53 h) : cwp Tryz.prog (partC Tryz.f149 [1, 1, 0, 1, 1, 1, 1, 1]) 182 Q (upd (upd (upd (upd (upd (upd (upd b 0 (.pointer y47)) 1 (.int .u8 y48)) 2 (.slice y49 y49n y49c)) 3 (.int .i64 y50)) 8 (.int .i64 y51)) 16 (.int .u8 y52)) 57 (.bool y53)) h := by
  unfold vt_Screen_others_j1 at hM
  refine cwp_part rfl ?_
  refine cwp_condB y53 (by kernel_rfl) (fun hc54 => ?_) (fun hc54 => ?_)
  · replace hM := ifT hc54 hM
    refine cR ?_
    refine oZ [(60, .slice y49 y49n y49c), (61, .int .i64 (y49n : Int)), (62, .int .i64 0)] ?_
    refine oE (cwp_block ?_)
    obtain ⟨k_, hM⟩ := hM
    refine cwp_loop k_ (lwp_of_part (fn := Tryz.f149) (p := [1, 1, 0, 1, 1, 1, 1, 1, 0, 1, 0, 0]) (by kernel_rfl) (lA 0 (.pointer y47) (lA 1 (.int .u8 y48) (lA 60 (.slice y49 y49n y49c) (lA 61 (.int .i64 (y49n : Int)) (lA 62 (.int .i64 0) (vt_Screen_others_l2_ok _ ?_ k_ y47 y48 y49 y49n y49c (y49n : Int) 0 _ _ hM)))))))
    · intro  b74 h73 hM
      refine blockE_h ?_
      exact hKn  _ _ hM
  replace hM := ifF hc54 hM
  refine cR ?_
  refine oZ [(83, .bool (decide (y52 = 109))), (82, .bool (decide (y52 = 109)))] ?_
  refine oE ?_
  refine cwp_condD (y52 = 109) (by kernel_rfl) (fun hc76 => ?_) (fun hc76 => ?_)
  · replace hM := ifT hc76 hM
    refine cwp_region ?_
    refine oZ [(84, .pointer y47), (85, .slice y49 y49n y49c)] ?_
    refine oG (hpCallE 160 #[.pointer y47, .slice y49 y49n y49c] (by kernel_rfl) (vt_Screen_pens_ok y47 y49 y49n y49c _ h hM) ?_)
    clear hM
    rintro _ h77 ⟨rfl, hM⟩
    refine owp_nil ?_
    exact hKn  _ _ hM
  replace hM := ifF hc76 hM
  refine cR ?_
  refine oZ [(88, .bool (decide (y52 = 110))), (87, .bool (decide (y52 = 110)))] ?_
  refine oE ?_
  refine cwp_condD (y52 = 110) (by kernel_rfl) (fun hc78 => ?_) (fun hc78 => ?_)
  · replace hM := ifT hc78 hM
    refine cR ?_
    refine oZ [(89, .pointer y47)] ?_
    obtain ⟨p79, rfl, hM⟩ := hM
    refine owp_rdG (.pointer (some p79)) rfl (by kernel_rfl) (by kernel_rfl) ?_
    refine oZ [(91, .pointer (some (p79.add 9))), (92, .pointer (some (p79.add 10)))] ?_
    obtain ⟨x80, hc81, hM⟩ := hM
    refine oL (.int .i64 x80) (p79.add 10) hc81 ?_
    refine oZ [(94, .int .i64 (IntKind.wrap .i64 (x80 + 1))), (12, .int .i64 (IntKind.wrap .i64 (x80 + 1)))] ?_
    refine oE (cwp_seq (cR ?_))
    refine oZ [(95, .pointer (some p79)), (96, .pointer (some p79)), (97, .pointer (some (p79.add 9))), (98, .pointer (some (p79.add 14)))] ?_
    obtain ⟨x83, hc84, hM⟩ := hM
    refine oL (.bool x83) (p79.add 14) hc84 ?_
    refine oE ?_
    refine cwp_condB x83 (by kernel_rfl) (fun hc86 => ?_) (fun hc86 => ?_)
    · replace hM := ifT hc86 hM
      refine cwp_region ?_
      refine oZ [(100, .int .i64 (IntKind.wrap .i64 (x80 + 1))), (101, .pointer (some p79)), (102, .pointer (some p79)), (103, .pointer (some (p79.add 19)))] ?_
      obtain ⟨x87, hc88, hM⟩ := hM
      refine oL (.int .i64 x87) (p79.add 19) hc88 ?_
      refine oZ [(105, .int .i64 (IntKind.wrap .i64 ((IntKind.wrap .i64 (x80 + 1)) - x87))), (12, .int .i64 (IntKind.wrap .i64 ((IntKind.wrap .i64 (x80 + 1)) - x87)))] ?_
      refine oE ?_
      refine cwp_of_part (fn := Tryz.f149) (p := [1, 1, 0, 1, 1, 1, 1, 1, 1, 1, 1, 1, 0, 1, 1]) (by kernel_rfl) (cA 0 (.pointer (some p79)) (cA 8 (.int .i64 y51) (cA 12 (.int .i64 (IntKind.wrap .i64 ((IntKind.wrap .i64 (x80 + 1)) - x87))) (vt_Screen_others_j3_ok _ ?_ p79 y51 (IntKind.wrap .i64 ((IntKind.wrap .i64 (x80 + 1)) - x87)) _ _ hM))))
      · intro  b111 h110 hM
        exact hKn  _ _ hM
    replace hM := ifF hc86 hM
    refine cwp_skip (thenE_n ?_)
    refine cwp_of_part (fn := Tryz.f149) (p := [1, 1, 0, 1, 1, 1, 1, 1, 1, 1, 1, 1, 0, 1, 1]) (by kernel_rfl) (cA 0 (.pointer (some p79)) (cA 8 (.int .i64 y51) (cA 12 (.int .i64 (IntKind.wrap .i64 (x80 + 1))) (vt_Screen_others_j3_ok _ ?_ p79 y51 (IntKind.wrap .i64 (x80 + 1)) _ _ hM))))
    · intro  b114 h113 hM
      exact hKn  _ _ hM
  replace hM := ifF hc78 hM
  refine cR ?_
  refine oZ [(128, .bool (decide (y52 = 99))), (127, .bool (decide (y52 = 99)))] ?_
  refine oE ?_
  refine cwp_condD (y52 = 99) (by kernel_rfl) (fun hc116 => ?_) (fun hc116 => ?_)
  · replace hM := ifT hc116 hM
    refine cR ?_
    refine oZ [(129, .int .i64 y51), (130, .bool (decide (y51 = 0)))] ?_
    refine oE ?_
    refine cwp_condD (y51 = 0) (by kernel_rfl) (fun hc117 => ?_) (fun hc117 => ?_)
    · replace hM := ifT hc117 hM
      refine cwp_region ?_
      refine oZ [(131, .pointer y47)] ?_
      refine oG (hpCallE 161 #[.pointer y47, .string (⟨#[27, 91, 63, 49, 59, 50, 99]⟩ : ByteArray)] (by kernel_rfl) (vt_Screen_sends_ok y47 (⟨#[27, 91, 63, 49, 59, 50, 99]⟩ : ByteArray) _ h hM) ?_)
      clear hM
      rintro _ h118 ⟨rfl, hM⟩
      refine owp_nil ?_
      exact hKn  _ _ hM
    replace hM := ifF hc117 hM
    refine cwp_skip ?_
    exact hKn  _ _ hM
  replace hM := ifF hc116 hM
  refine cR ?_
  refine oZ [(134, .bool (decide (y52 = 114))), (133, .bool (decide (y52 = 114)))] ?_
  refine oE ?_
  refine cwp_condD (y52 = 114) (by kernel_rfl) (fun hc119 => ?_) (fun hc119 => ?_)
  · replace hM := ifT hc119 hM
    refine cR ?_
    refine oZ [(135, .slice y49 y49n y49c), (136, .pointer y47)] ?_
    obtain ⟨p120, rfl, hM⟩ := hM
    refine owp_rdG (.pointer (some p120)) rfl (by kernel_rfl) (by kernel_rfl) ?_
    refine oZ [(138, .pointer (some (p120.add 1)))] ?_
    obtain ⟨x121, hc122, hM⟩ := hM
    refine oL (.int .i64 x121) (p120.add 1) hc122 ?_
    refine oG (hpCallE 142 #[.slice y49 y49n y49c, .int .i64 1, .int .i64 x121] (by kernel_rfl) (vt_at_ok y49 y49n y49c 1 x121 _ h hM) ?_)
    clear hM
    rintro _ h124 ⟨x125, rfl, hM⟩
    refine oZ [(13, .int .i64 x125)] ?_
    refine oE (cwp_seq (cR ?_))
    refine oZ [(141, .int .i64 x125), (142, .bool (decide (x125 = 0))), (143, .bool (decide (x125 = 0)))] ?_
    by_cases hc129 : x125 = 0
    · refine oA 142 true (decide (x125 = 0)) (by rw [decide_eq_true hc129]) ?_
      refine oA 143 true (decide (x125 = 0)) (by rw [decide_eq_true hc129]) ?_
      replace hM := ifT hc129 hM
      refine oZ [(144, undef), (145, undef), (146, undef), (147, undef), (148, undef), (149, undef), (150, .bool true)] ?_
      refine oE ?_
      refine cwp_cond (t := true) (by kernel_rfl) (fun hx_ => ?_) (fun hx_ => ?_)
      all_goals first | (cases hx_; done) | skip
      refine cwp_region ?_
      refine oZ [(151, .pointer (some p120)), (152, .pointer (some p120)), (153, .pointer (some (p120.add 1)))] ?_
      obtain ⟨x130, hc131, hM⟩ := hM
      refine oL (.int .i64 x130) (p120.add 1) hc131 ?_
      refine oZ [(13, .int .i64 x130)] ?_
      refine oE ?_
      refine cwp_of_part (fn := Tryz.f149) (p := [1, 1, 0, 1, 1, 1, 1, 1, 1, 1, 1, 1, 1, 1, 1, 1, 0, 1, 1]) (by kernel_rfl) (cA 0 (.pointer (some p120)) (cA 3 (.int .i64 y50) (cA 13 (.int .i64 x130) (vt_Screen_others_j4_ok _ ?_ p120 y50 x130 _ _ hM))))
      · intro  b141 h140 hM
        exact hKn  _ _ hM
    refine oA 142 false (decide (x125 = 0)) (by rw [decide_eq_false hc129]) ?_
    refine oA 143 false (decide (x125 = 0)) (by rw [decide_eq_false hc129]) ?_
    replace hM := ifF hc129 hM
    refine oZ [(144, .int .i64 x125), (145, .pointer (some p120)), (146, .pointer (some p120)), (147, .pointer (some (p120.add 1)))] ?_
    obtain ⟨x143, hc144, hM⟩ := hM
    refine oL (.int .i64 x143) (p120.add 1) hc144 ?_
    refine oZ [(149, .bool (decide (x143 < x125))), (150, .bool (decide (x143 < x125)))] ?_
    refine oE ?_
    refine cwp_condD (x143 < x125) (by kernel_rfl) (fun hc146 => ?_) (fun hc146 => ?_)
    · replace hM := ifT hc146 hM
      refine cwp_region ?_
      refine oZ [(151, .pointer (some p120)), (152, .pointer (some p120)), (153, .pointer (some (p120.add 1)))] ?_
      obtain ⟨x147, hc148, hM⟩ := hM
      refine oL (.int .i64 x147) (p120.add 1) hc148 ?_
      refine oZ [(13, .int .i64 x147)] ?_
      refine oE ?_
      refine cwp_of_part (fn := Tryz.f149) (p := [1, 1, 0, 1, 1, 1, 1, 1, 1, 1, 1, 1, 1, 1, 1, 1, 0, 1, 1]) (by kernel_rfl) (cA 0 (.pointer (some p120)) (cA 3 (.int .i64 y50) (cA 13 (.int .i64 x147) (vt_Screen_others_j4_ok _ ?_ p120 y50 x147 _ _ hM))))
      · intro  b151 h150 hM
        exact hKn  _ _ hM
    replace hM := ifF hc146 hM
    refine cwp_skip (thenE_n ?_)
    refine cwp_of_part (fn := Tryz.f149) (p := [1, 1, 0, 1, 1, 1, 1, 1, 1, 1, 1, 1, 1, 1, 1, 1, 0, 1, 1]) (by kernel_rfl) (cA 0 (.pointer (some p120)) (cA 3 (.int .i64 y50) (cA 13 (.int .i64 x125) (vt_Screen_others_j4_ok _ ?_ p120 y50 x125 _ _ hM))))
    · intro  b154 h153 hM
      exact hKn  _ _ hM
  replace hM := ifF hc119 hM
  refine cR ?_
  refine oZ [(171, .bool (decide (y52 = 115))), (170, .bool (decide (y52 = 115)))] ?_
  refine oE ?_
  refine cwp_condD (y52 = 115) (by kernel_rfl) (fun hc156 => ?_) (fun hc156 => ?_)
  · replace hM := ifT hc156 hM
    refine cR ?_
    refine oZ [(172, .pointer y47)] ?_
    refine oG (hpCallE 113 #[.pointer y47] (by kernel_rfl) (vt_Screen_keepCursor_ok y47 _ h hM) ?_)
    clear hM
    rintro _ h157 ⟨rfl, hM⟩
    refine oE (cwp_region ?_)
    refine oZ [(174, .pointer y47)] ?_
    obtain ⟨p158, rfl, hM⟩ := hM
    refine owp_rdG (.pointer (some p158)) rfl (by kernel_rfl) (by kernel_rfl) ?_
    refine oZ [(176, .pointer (some (p158.add 9))), (177, .pointer (some (p158.add 18)))] ?_
    refine oT (p158.add 18) [.bool false] hM ?_
    clear hM
    intro h159 hM
    refine owp_nil ?_
    exact hKn  _ _ hM
  replace hM := ifF hc156 hM
  refine cR ?_
  refine oZ [(179, .bool (decide (y52 = 117))), (178, .bool (decide (y52 = 117)))] ?_
  refine oE ?_
  refine cwp_condD (y52 = 117) (by kernel_rfl) (fun hc160 => ?_) (fun hc160 => ?_)
  · replace hM := ifT hc160 hM
    refine cwp_region ?_
    refine oZ [(180, .pointer y47)] ?_
    refine oG (hpCallE 114 #[.pointer y47] (by kernel_rfl) (vt_Screen_backCursor_ok y47 _ h hM) ?_)
    clear hM
    rintro _ h161 ⟨rfl, hM⟩
    refine owp_nil ?_
    exact hKn  _ _ hM
  replace hM := ifF hc160 hM
  refine cwp_skip ?_
  exact hKn  _ _ hM
def vt_Screen_others (a1 : Option Addr) (a2 : Int) (a3 : Option Addr) (a3n : Nat) (a3c : Nat) (a4 : Int) (K : Heap → Prop) (h : Heap) : Prop :=
 vt_at a3 a3n a3c 0 0 (fun x6 h5 =>
  if a2 = 98 then
   ∃ k24, vt_Screen_others_l0
    (fun  h22 =>
        K h22) k24 a1 a4 0 h5
  else
  if a2 = 103 then
   if x6 = 0 then
    nz a1 fun p27 =>
    ldL h5 (p27.add 21) fun x28 x28n x28c =>
    ldI h5 .i64 (p27.add 9) fun x32 =>
    nz x28 fun p38 =>
    0 ≤ x32 ∧
    x32 < (x28n : Int) ∧
    stN (p38.add ((x32).toNat * 1)) [.bool false] 0 h5 fun h39 =>
    K h39
   else
   if x6 = 3 then
    nz a1 fun p41 =>
    ldL h5 (p41.add 21) fun x42 x42n x42c =>
    clM h5 [.bool false] x42 x42n fun h45 =>
    K h45
   else
   K h5
  else
  if a2 = 104 then
   vt_Screen_others_j1
    (fun  h162 =>
        K h162) a1 a2 a3 a3n a3c a4 x6 a2 (decide (a2 = 104)) h5
  else
  vt_Screen_others_j1
   (fun  h165 =>
        K h165) a1 a2 a3 a3n a3c a4 x6 a2 (decide (a2 = 108)) h5) h
theorem vt_Screen_others_ok (a1 : Option Addr) (a2 : Int) (a3 : Option Addr) (a3n : Nat) (a3c : Nat) (a4 : Int) (K : Heap → Prop) (h : Heap) (hM : vt_Screen_others a1 a2 a3 a3n a3c a4 K h) : CallsH Tryz.prog 149 #[.pointer a1, .int .u8 a2, .slice a3 a3n a3c, .int .i64 a4] (fun v h' => v = .tuple #[] ∧ K h') h := by
 unfold vt_Screen_others at hM
 refine callsH_intro (n := 182) Tryz.func149 rfl rfl (by kernel_rfl) ?_
 refine cR ?_
 refine oZ [(14, .slice a3 a3n a3c)] ?_
 refine oG (hpCallE 142 #[.slice a3 a3n a3c, .int .i64 0, .int .i64 0] (by kernel_rfl) (vt_at_ok a3 a3n a3c 0 0 _ h hM) ?_)
 clear hM
 rintro _ h5 ⟨x6, rfl, hM⟩
 refine oZ [(8, .int .i64 x6)] ?_
 refine oE (cR ?_)
 refine oZ [(16, .int .u8 a2)] ?_
 refine oE (cwp_block (cR ?_))
 refine oZ [(18, .bool (decide (a2 = 98))), (17, .bool (decide (a2 = 98)))] ?_
 refine oE ?_
 refine cwp_condD (a2 = 98) (by kernel_rfl) (fun hc7 => ?_) (fun hc7 => ?_)
 · replace hM := ifT hc7 hM
   refine cR ?_
   refine oZ [(9, .int .i64 0)] ?_
   refine oE (cwp_block ?_)
   obtain ⟨k_, hM⟩ := hM
   refine cwp_loop k_ (lwp_of_part (fn := Tryz.f149) (p := [1, 1, 0, 1, 0, 1, 0, 0]) (by kernel_rfl) (lA 0 (.pointer a1) (lA 3 (.int .i64 a4) (lA 9 (.int .i64 0) (vt_Screen_others_l0_ok _ ?_ k_ a1 a4 0 _ _ hM)))))
   · intro  b23 h22 hM
     refine blockE_h (blockE_n ?_)
     exact end_ (.tuple #[]) (by kernel_rfl) ⟨rfl, hM⟩
 replace hM := ifF hc7 hM
 refine cR ?_
 refine oZ [(38, .bool (decide (a2 = 103))), (37, .bool (decide (a2 = 103)))] ?_
 refine oE ?_
 refine cwp_condD (a2 = 103) (by kernel_rfl) (fun hc25 => ?_) (fun hc25 => ?_)
 · replace hM := ifT hc25 hM
   refine cR ?_
   refine oZ [(39, .int .i64 x6), (40, .bool (decide (x6 = 0)))] ?_
   refine oE ?_
   refine cwp_condD (x6 = 0) (by kernel_rfl) (fun hc26 => ?_) (fun hc26 => ?_)
   · replace hM := ifT hc26 hM
     refine cwp_draw (by kernel_rfl) ?_
     refine kq 0 (.pointer a1) ?_
     obtain ⟨p27, rfl, hM⟩ := hM
     refine kq 1 (.pointer (some p27)) ?_
     refine kq 2 (.pointer (some (p27.add 21))) ?_
     obtain ⟨x28, x28n, x28c, hc29, hM⟩ := hM
     refine kl 3 (.slice x28 x28n x28c) (p27.add 21) [9, 10] [10] hc29 ?_
     refine kq 4 (.pointer (some p27)) ?_
     refine kq 5 (.pointer (some p27)) ?_
     refine kq 6 (.pointer (some (p27.add 9))) ?_
     refine kq 7 (.pointer (some (p27.add 9))) ?_
     obtain ⟨x32, hc33, hM⟩ := hM
     refine kl 8 (.int .i64 x32) (p27.add 9) [9, 10] [10] hc33 ?_
     obtain ⟨p38, rfl, hM⟩ := hM
     obtain ⟨hc36, hM⟩ := hM
     obtain ⟨hc37, hM⟩ := hM
     refine k_pure (i := 9) [10] (.pointer (some (p38.add ((x32).toNat * 1)))) (by kernel_rfl) rfl rfl (by kernel_rfl) (fun h' => rd_ixS (P := Tryz.prog) (h := h') (t := 75) (el := 4) (sz := 1) (ad := p38) (len := x28n) (c := x28c) (k := .i64) (i := x32) (by kernel_rfl) (by kernel_rfl) hc36 hc37 (by kernel_rfl)) (by kernel_rfl) ?_
     refine kD 10 (hpSt (p38.add ((x32).toNat * 1)) [.bool false] (fun _ => by kernel_rfl) (by kernel_rfl) hM ?_)
     clear hM
     intro h39 hM
     refine ⟨trivial, ?_⟩
     refine k_done (by kernel_rfl) ?_
     refine blockE_n ?_
     exact end_ (.tuple #[]) (by kernel_rfl) ⟨rfl, hM⟩
   replace hM := ifF hc26 hM
   refine cR ?_
   refine oZ [(51, .int .i64 x6), (52, .bool (decide (x6 = 3)))] ?_
   refine oE ?_
   refine cwp_condD (x6 = 3) (by kernel_rfl) (fun hc40 => ?_) (fun hc40 => ?_)
   · replace hM := ifT hc40 hM
     refine cwp_region ?_
     refine oZ [(53, .pointer a1)] ?_
     obtain ⟨p41, rfl, hM⟩ := hM
     refine owp_rdG (.pointer (some p41)) rfl (by kernel_rfl) (by kernel_rfl) ?_
     refine oZ [(55, .pointer (some (p41.add 21)))] ?_
     obtain ⟨x42, x42n, x42c, hc43, hM⟩ := hM
     refine oL (.slice x42 x42n x42c) (p41.add 21) hc43 ?_
     refine owp_hpD rfl (by kernel_rfl) (hpCl (t := 75) (ty := 0) (et := 4) (zv := .bool false) (sz := 1) (by_ := 1) (a := x42) (sn := x42n) (sc := x42c) [.bool false] (fun _ => by kernel_rfl) (by kernel_rfl) (by kernel_rfl) rfl (by decide) (by kernel_rfl) hM ?_)
     clear hM
     intro h45 hM
     refine owp_nil (blockE_n ?_)
     exact end_ (.tuple #[]) (by kernel_rfl) ⟨rfl, hM⟩
   replace hM := ifF hc40 hM
   refine cwp_skip (blockE_n ?_)
   exact end_ (.tuple #[]) (by kernel_rfl) ⟨rfl, hM⟩
 replace hM := ifF hc25 hM
 refine cwp_seq (cR ?_)
 refine oZ [(58, .bool (decide (a2 = 104))), (57, .bool (decide (a2 = 104)))] ?_
 refine oE ?_
 refine cwp_condD (a2 = 104) (by kernel_rfl) (fun hc46 => ?_) (fun hc46 => ?_)
 · replace hM := ifT hc46 hM
   refine cwp_skip (thenE_n ?_)
   refine cwp_of_part (fn := Tryz.f149) (p := [1, 1, 0, 1, 1, 1, 1, 1]) (by kernel_rfl) (cA 0 (.pointer a1) (cA 1 (.int .u8 a2) (cA 2 (.slice a3 a3n a3c) (cA 3 (.int .i64 a4) (cA 8 (.int .i64 x6) (cA 16 (.int .u8 a2) (cA 57 (.bool (decide (a2 = 104))) (vt_Screen_others_j1_ok _ ?_ a1 a2 a3 a3n a3c a4 x6 a2 (decide (a2 = 104)) _ _ hM))))))))
   · intro  b163 h162 hM
     refine blockE_n ?_
     exact end_ (.tuple #[]) (by kernel_rfl) ⟨rfl, hM⟩
 replace hM := ifF hc46 hM
 refine cwp_region ?_
 refine oZ [(59, .bool (decide (a2 = 108))), (57, .bool (decide (a2 = 108)))] ?_
 refine oE ?_
 refine cwp_of_part (fn := Tryz.f149) (p := [1, 1, 0, 1, 1, 1, 1, 1]) (by kernel_rfl) (cA 0 (.pointer a1) (cA 1 (.int .u8 a2) (cA 2 (.slice a3 a3n a3c) (cA 3 (.int .i64 a4) (cA 8 (.int .i64 x6) (cA 16 (.int .u8 a2) (cA 57 (.bool (decide (a2 = 108))) (vt_Screen_others_j1_ok _ ?_ a1 a2 a3 a3n a3c a4 x6 a2 (decide (a2 = 108)) _ _ hM))))))))
 · intro  b166 h165 hM
   refine blockE_n ?_
   exact end_ (.tuple #[]) (by kernel_rfl) ⟨rfl, hM⟩
/- (*mullion/vt.Screen).plain -/
def vt_Screen_plain_j6 (Kn : Heap → Prop) (y115 : Option Addr) (y116 : Int) (y117 : Option Addr) (y117n : Nat) (y117c : Nat) (y118 : Int) (y119 : Int) (y120 : Bool) (h : Heap) : Prop :=
 if y120 = true then
  vt_Screen_places y115 y116 y118 (fun  h122 =>
    Kn  h122) h
 else
 if y119 = 83 then
  nz y115 fun p124 =>
  ldI h .i64 (p124.add 19) fun x125 =>
  ldI h .i64 (p124.add 20) fun x129 =>
  vt_Screen_up (some p124) x125 x129 y118 true (fun  h133 =>
   stN (p124.add 18) [.bool false] 0 h133 fun h134 =>
    Kn  h134) h
 else
 if y119 = 84 then
  nz y115 fun p136 =>
  ldI h .i64 (p136.add 19) fun x137 =>
  ldI h .i64 (p136.add 20) fun x141 =>
  vt_Screen_down (some p136) x137 x141 y118 (fun  h145 =>
   stN (p136.add 18) [.bool false] 0 h145 fun h146 =>
    Kn  h146) h
 else
 vt_Screen_others y115 y116 y117 y117n y117c y118 (fun  h147 =>
   Kn  h147) h
theorem vt_Screen_plain_j6_ok {Q : Exit → Env → Heap → Prop} (Kn : Heap → Prop) (hKn : ∀  (b : Env) (h : Heap), Kn  h → Q .normal b h) (y115 : Option Addr) (y116 : Int) (y117 : Option Addr) (y117n : Nat) (y117c : Nat) (y118 : Int) (y119 : Int) (y120 : Bool) (b : Env) (h : Heap) (hM : vt_Screen_plain_j6 Kn y115 y116 y117 y117n y117c y118 y119 y120 h) : cwp Tryz.prog (partC Tryz.f119 [1, 1, 0, 1, 1, 1, 1, 1, 1, 1, 1, 1, 1, 1, 1, 1, 1, 1, 1, 1, 1, 1, 1, 1, 1, 1, 1, 1, 1, 1]) 183 Q (upd (upd (upd (upd (upd (upd b 0 (.pointer y115)) 1 (.int .u8 y116)) 2 (.slice y117 y117n y117c)) 6 (.int .i64 y118)) 10 (.int .u8 y119)) 141 (.bool y120)) h := by
  unfold vt_Screen_plain_j6 at hM
  refine cwp_part rfl ?_
  refine cwp_condB y120 (by kernel_rfl) (fun hc121 => ?_) (fun hc121 => ?_)
  · replace hM := ifT hc121 hM
    refine cwp_region ?_
    refine oZ [(145, .pointer y115), (146, .int .u8 y116), (147, .int .i64 y118)] ?_
    refine oG (hpCallE 148 #[.pointer y115, .int .u8 y116, .int .i64 y118] (by kernel_rfl) (vt_Screen_places_ok y115 y116 y118 _ h hM) ?_)
    clear hM
    rintro _ h122 ⟨rfl, hM⟩
    refine owp_nil ?_
    exact hKn  _ _ hM
  replace hM := ifF hc121 hM
  refine cR ?_
  refine oZ [(150, .bool (decide (y119 = 83))), (149, .bool (decide (y119 = 83)))] ?_
  refine oE ?_
  refine cwp_condD (y119 = 83) (by kernel_rfl) (fun hc123 => ?_) (fun hc123 => ?_)
  · replace hM := ifT hc123 hM
    refine cwp_seq ?_
    refine cwp_draw (by kernel_rfl) ?_
    refine kq 0 (.pointer y115) ?_
    refine kq 1 (.pointer y115) ?_
    obtain ⟨p124, rfl, hM⟩ := hM
    refine kq 2 (.pointer (some p124)) ?_
    refine kq 3 (.pointer (some (p124.add 19))) ?_
    obtain ⟨x125, hc126, hM⟩ := hM
    refine kl 4 (.int .i64 x125) (p124.add 19) [10] [10] hc126 ?_
    refine kq 5 (.pointer (some p124)) ?_
    refine kq 6 (.pointer (some p124)) ?_
    refine kq 7 (.pointer (some (p124.add 20))) ?_
    obtain ⟨x129, hc130, hM⟩ := hM
    refine kl 8 (.int .i64 x129) (p124.add 20) [10] [10] hc130 ?_
    refine kq 9 (.int .i64 y118) ?_
    refine kE 10 (hpCallE 138 #[.pointer (some p124), .int .i64 x125, .int .i64 x129, .int .i64 y118, .bool true] (by kernel_rfl) (vt_Screen_up_ok (some p124) x125 x129 y118 true _ h hM) ?_)
    clear hM
    rintro _ h133 ⟨rfl, hM⟩
    refine ⟨trivial, ?_⟩
    refine k_done (by kernel_rfl) ?_
    refine thenE_n (cwp_region ?_)
    refine oZ [(162, .pointer (some p124)), (163, .pointer (some p124)), (164, .pointer (some (p124.add 9))), (165, .pointer (some (p124.add 18)))] ?_
    refine oT (p124.add 18) [.bool false] hM ?_
    clear hM
    intro h134 hM
    refine owp_nil ?_
    exact hKn  _ _ hM
  replace hM := ifF hc123 hM
  refine cR ?_
  refine oZ [(167, .bool (decide (y119 = 84))), (166, .bool (decide (y119 = 84)))] ?_
  refine oE ?_
  refine cwp_condD (y119 = 84) (by kernel_rfl) (fun hc135 => ?_) (fun hc135 => ?_)
  · replace hM := ifT hc135 hM
    refine cwp_seq ?_
    refine cwp_draw (by kernel_rfl) ?_
    refine kq 0 (.pointer y115) ?_
    refine kq 1 (.pointer y115) ?_
    obtain ⟨p136, rfl, hM⟩ := hM
    refine kq 2 (.pointer (some p136)) ?_
    refine kq 3 (.pointer (some (p136.add 19))) ?_
    obtain ⟨x137, hc138, hM⟩ := hM
    refine kl 4 (.int .i64 x137) (p136.add 19) [10] [10] hc138 ?_
    refine kq 5 (.pointer (some p136)) ?_
    refine kq 6 (.pointer (some p136)) ?_
    refine kq 7 (.pointer (some (p136.add 20))) ?_
    obtain ⟨x141, hc142, hM⟩ := hM
    refine kl 8 (.int .i64 x141) (p136.add 20) [10] [10] hc142 ?_
    refine kq 9 (.int .i64 y118) ?_
    refine kE 10 (hpCallE 115 #[.pointer (some p136), .int .i64 x137, .int .i64 x141, .int .i64 y118] (by kernel_rfl) (vt_Screen_down_ok (some p136) x137 x141 y118 _ h hM) ?_)
    clear hM
    rintro _ h145 ⟨rfl, hM⟩
    refine ⟨trivial, ?_⟩
    refine k_done (by kernel_rfl) ?_
    refine thenE_n (cwp_region ?_)
    refine oZ [(179, .pointer (some p136)), (180, .pointer (some p136)), (181, .pointer (some (p136.add 9))), (182, .pointer (some (p136.add 18)))] ?_
    refine oT (p136.add 18) [.bool false] hM ?_
    clear hM
    intro h146 hM
    refine owp_nil ?_
    exact hKn  _ _ hM
  replace hM := ifF hc135 hM
  refine cwp_region ?_
  refine oZ [(11, .pointer y115), (12, .int .u8 y116), (13, .slice y117 y117n y117c), (14, .int .i64 y118)] ?_
  refine oG (hpCallE 149 #[.pointer y115, .int .u8 y116, .slice y117 y117n y117c, .int .i64 y118] (by kernel_rfl) (vt_Screen_others_ok y115 y116 y117 y117n y117c y118 _ h hM) ?_)
  clear hM
  rintro _ h147 ⟨rfl, hM⟩
  refine owp_nil ?_
  exact hKn  _ _ hM
def vt_Screen_plain_j5 (Kn : Heap → Prop) (y106 : Option Addr) (y107 : Int) (y108 : Option Addr) (y108n : Nat) (y108c : Nat) (y109 : Int) (y110 : Int) (y111 : Bool) (h : Heap) : Prop :=
 if y111 = true then
  vt_Screen_lines1 y106 y107 y109 (fun  h113 =>
    Kn  h113) h
 else
 if y110 = 64 then
  vt_Screen_plain_j6
   (fun  h148 =>
       Kn  h148) y106 y107 y108 y108n y108c y109 y110 (decide (y110 = 64)) h
 else
 if y110 = 80 then
  vt_Screen_plain_j6
   (fun  h152 =>
       Kn  h152) y106 y107 y108 y108n y108c y109 y110 (decide (y110 = 80)) h
 else
 vt_Screen_plain_j6
  (fun  h155 =>
      Kn  h155) y106 y107 y108 y108n y108c y109 y110 (decide (y110 = 88)) h
theorem vt_Screen_plain_j5_ok {Q : Exit → Env → Heap → Prop} (Kn : Heap → Prop) (hKn : ∀  (b : Env) (h : Heap), Kn  h → Q .normal b h) (y106 : Option Addr) (y107 : Int) (y108 : Option Addr) (y108n : Nat) (y108c : Nat) (y109 : Int) (y110 : Int) (y111 : Bool) (b : Env) (h : Heap) (hM : vt_Screen_plain_j5 Kn y106 y107 y108 y108n y108c y109 y110 y111 h) : cwp Tryz.prog (partC Tryz.f119 [1, 1, 0, 1, 1, 1, 1, 1, 1, 1, 1, 1, 1, 1, 1, 1, 1, 1, 1, 1, 1, 1, 1, 1, 1, 1, 1, 1]) 183 Q (upd (upd (upd (upd (upd (upd b 0 (.pointer y106)) 1 (.int .u8 y107)) 2 (.slice y108 y108n y108c)) 6 (.int .i64 y109)) 10 (.int .u8 y110)) 134 (.bool y111)) h := by
  unfold vt_Screen_plain_j5 at hM
  refine cwp_part rfl ?_
  refine cwp_condB y111 (by kernel_rfl) (fun hc112 => ?_) (fun hc112 => ?_)
  · replace hM := ifT hc112 hM
    refine cwp_region ?_
    refine oZ [(137, .pointer y106), (138, .int .u8 y107), (139, .int .i64 y109)] ?_
    refine oG (hpCallE 147 #[.pointer y106, .int .u8 y107, .int .i64 y109] (by kernel_rfl) (vt_Screen_lines1_ok y106 y107 y109 _ h hM) ?_)
    clear hM
    rintro _ h113 ⟨rfl, hM⟩
    refine owp_nil ?_
    exact hKn  _ _ hM
  replace hM := ifF hc112 hM
  refine cwp_seq (cR ?_)
  refine oZ [(142, .bool (decide (y110 = 64))), (141, .bool (decide (y110 = 64)))] ?_
  refine oE ?_
  refine cwp_condD (y110 = 64) (by kernel_rfl) (fun hc114 => ?_) (fun hc114 => ?_)
  · replace hM := ifT hc114 hM
    refine cwp_skip (thenE_n ?_)
    refine cwp_of_part (fn := Tryz.f119) (p := [1, 1, 0, 1, 1, 1, 1, 1, 1, 1, 1, 1, 1, 1, 1, 1, 1, 1, 1, 1, 1, 1, 1, 1, 1, 1, 1, 1, 1, 1]) (by kernel_rfl) (cA 0 (.pointer y106) (cA 1 (.int .u8 y107) (cA 2 (.slice y108 y108n y108c) (cA 6 (.int .i64 y109) (cA 10 (.int .u8 y110) (cA 141 (.bool (decide (y110 = 64))) (vt_Screen_plain_j6_ok _ ?_ y106 y107 y108 y108n y108c y109 y110 (decide (y110 = 64)) _ _ hM)))))))
    · intro  b149 h148 hM
      exact hKn  _ _ hM
  replace hM := ifF hc114 hM
  refine cR ?_
  refine oZ [(143, .bool (decide (y110 = 80))), (141, .bool (decide (y110 = 80)))] ?_
  refine oE ?_
  refine cwp_condD (y110 = 80) (by kernel_rfl) (fun hc151 => ?_) (fun hc151 => ?_)
  · replace hM := ifT hc151 hM
    refine cwp_skip (thenE_n ?_)
    refine cwp_of_part (fn := Tryz.f119) (p := [1, 1, 0, 1, 1, 1, 1, 1, 1, 1, 1, 1, 1, 1, 1, 1, 1, 1, 1, 1, 1, 1, 1, 1, 1, 1, 1, 1, 1, 1]) (by kernel_rfl) (cA 0 (.pointer y106) (cA 1 (.int .u8 y107) (cA 2 (.slice y108 y108n y108c) (cA 6 (.int .i64 y109) (cA 10 (.int .u8 y110) (cA 141 (.bool (decide (y110 = 80))) (vt_Screen_plain_j6_ok _ ?_ y106 y107 y108 y108n y108c y109 y110 (decide (y110 = 80)) _ _ hM)))))))
    · intro  b153 h152 hM
      exact hKn  _ _ hM
  replace hM := ifF hc151 hM
  refine cwp_region ?_
  refine oZ [(144, .bool (decide (y110 = 88))), (141, .bool (decide (y110 = 88)))] ?_
  refine oE ?_
  refine cwp_of_part (fn := Tryz.f119) (p := [1, 1, 0, 1, 1, 1, 1, 1, 1, 1, 1, 1, 1, 1, 1, 1, 1, 1, 1, 1, 1, 1, 1, 1, 1, 1, 1, 1, 1, 1]) (by kernel_rfl) (cA 0 (.pointer y106) (cA 1 (.int .u8 y107) (cA 2 (.slice y108 y108n y108c) (cA 6 (.int .i64 y109) (cA 10 (.int .u8 y110) (cA 141 (.bool (decide (y110 = 88))) (vt_Screen_plain_j6_ok _ ?_ y106 y107 y108 y108n y108c y109 y110 (decide (y110 = 88)) _ _ hM)))))))
  · intro  b156 h155 hM
    exact hKn  _ _ hM
def vt_Screen_plain_j4 (Kn : Heap → Prop) (y95 : Option Addr) (y96 : Int) (y97 : Option Addr) (y97n : Nat) (y97c : Nat) (y98 : Int) (y99 : Int) (y100 : Bool) (h : Heap) : Prop :=
 if y100 = true then
  vt_at y97 y97n y97c 0 0 (fun x103 h102 =>
   vt_Screen_clears y95 y96 x103 (fun  h104 =>
      Kn  h104) h102) h
 else
 if y99 = 76 then
  vt_Screen_plain_j5
   (fun  h158 =>
       Kn  h158) y95 y96 y97 y97n y97c y98 y99 (decide (y99 = 76)) h
 else
 vt_Screen_plain_j5
  (fun  h161 =>
      Kn  h161) y95 y96 y97 y97n y97c y98 y99 (decide (y99 = 77)) h
theorem vt_Screen_plain_j4_ok {Q : Exit → Env → Heap → Prop} (Kn : Heap → Prop) (hKn : ∀  (b : Env) (h : Heap), Kn  h → Q .normal b h) (y95 : Option Addr) (y96 : Int) (y97 : Option Addr) (y97n : Nat) (y97c : Nat) (y98 : Int) (y99 : Int) (y100 : Bool) (b : Env) (h : Heap) (hM : vt_Screen_plain_j4 Kn y95 y96 y97 y97n y97c y98 y99 y100 h) : cwp Tryz.prog (partC Tryz.f119 [1, 1, 0, 1, 1, 1, 1, 1, 1, 1, 1, 1, 1, 1, 1, 1, 1, 1, 1, 1, 1, 1, 1, 1, 1, 1]) 183 Q (upd (upd (upd (upd (upd (upd b 0 (.pointer y95)) 1 (.int .u8 y96)) 2 (.slice y97 y97n y97c)) 6 (.int .i64 y98)) 10 (.int .u8 y99)) 126 (.bool y100)) h := by
  unfold vt_Screen_plain_j4 at hM
  refine cwp_part rfl ?_
  refine cwp_condB y100 (by kernel_rfl) (fun hc101 => ?_) (fun hc101 => ?_)
  · replace hM := ifT hc101 hM
    refine cwp_region ?_
    refine oZ [(129, .pointer y95), (130, .int .u8 y96), (131, .slice y97 y97n y97c)] ?_
    refine oG (hpCallE 142 #[.slice y97 y97n y97c, .int .i64 0, .int .i64 0] (by kernel_rfl) (vt_at_ok y97 y97n y97c 0 0 _ h hM) ?_)
    clear hM
    rintro _ h102 ⟨x103, rfl, hM⟩
    refine oG (hpCallE 146 #[.pointer y95, .int .u8 y96, .int .i64 x103] (by kernel_rfl) (vt_Screen_clears_ok y95 y96 x103 _ h102 hM) ?_)
    clear hM
    rintro _ h104 ⟨rfl, hM⟩
    refine owp_nil ?_
    exact hKn  _ _ hM
  replace hM := ifF hc101 hM
  refine cwp_seq (cR ?_)
  refine oZ [(135, .bool (decide (y99 = 76))), (134, .bool (decide (y99 = 76)))] ?_
  refine oE ?_
  refine cwp_condD (y99 = 76) (by kernel_rfl) (fun hc105 => ?_) (fun hc105 => ?_)
  · replace hM := ifT hc105 hM
    refine cwp_skip (thenE_n ?_)
    refine cwp_of_part (fn := Tryz.f119) (p := [1, 1, 0, 1, 1, 1, 1, 1, 1, 1, 1, 1, 1, 1, 1, 1, 1, 1, 1, 1, 1, 1, 1, 1, 1, 1, 1, 1]) (by kernel_rfl) (cA 0 (.pointer y95) (cA 1 (.int .u8 y96) (cA 2 (.slice y97 y97n y97c) (cA 6 (.int .i64 y98) (cA 10 (.int .u8 y99) (cA 134 (.bool (decide (y99 = 76))) (vt_Screen_plain_j5_ok _ ?_ y95 y96 y97 y97n y97c y98 y99 (decide (y99 = 76)) _ _ hM)))))))
    · intro  b159 h158 hM
      exact hKn  _ _ hM
  replace hM := ifF hc105 hM
  refine cwp_region ?_
  refine oZ [(136, .bool (decide (y99 = 77))), (134, .bool (decide (y99 = 77)))] ?_
  refine oE ?_
  refine cwp_of_part (fn := Tryz.f119) (p := [1, 1, 0, 1, 1, 1, 1, 1, 1, 1, 1, 1, 1, 1, 1, 1, 1, 1, 1, 1, 1, 1, 1, 1, 1, 1, 1, 1]) (by kernel_rfl) (cA 0 (.pointer y95) (cA 1 (.int .u8 y96) (cA 2 (.slice y97 y97n y97c) (cA 6 (.int .i64 y98) (cA 10 (.int .u8 y99) (cA 134 (.bool (decide (y99 = 77))) (vt_Screen_plain_j5_ok _ ?_ y95 y96 y97 y97n y97c y98 y99 (decide (y99 = 77)) _ _ hM)))))))
  · intro  b162 h161 hM
    exact hKn  _ _ hM
def vt_Screen_plain_j3 (Kn : Heap → Prop) (y74 : Option Addr) (y75 : Int) (y76 : Option Addr) (y76n : Nat) (y76c : Nat) (y77 : Int) (y78 : Int) (y79 : Bool) (h : Heap) : Prop :=
 if y79 = true then
  vt_at y76 y76n y76c 1 1 (fun x82 h81 =>
   vt_Screen_home y74 y77 (imax 1 x82) (fun  h83 =>
      Kn  h83) h81) h
 else
 if y78 = 100 then
  nz y74 fun p85 =>
  ldI h .i64 (p85.add 9) fun x86 =>
  vt_Screen_home (some p85) y77 (IntKind.wrap .i64 (x86 + 1)) (fun  h89 =>
    Kn  h89) h
 else
 if y78 = 73 then
  vt_Screen_tab y74 y77 (fun  h91 =>
    Kn  h91) h
 else
 if y78 = 90 then
  vt_Screen_back y74 y77 (fun  h93 =>
    Kn  h93) h
 else
 if y78 = 74 then
  vt_Screen_plain_j4
   (fun  h164 =>
       Kn  h164) y74 y75 y76 y76n y76c y77 y78 (decide (y78 = 74)) h
 else
 vt_Screen_plain_j4
  (fun  h167 =>
      Kn  h167) y74 y75 y76 y76n y76c y77 y78 (decide (y78 = 75)) h
theorem vt_Screen_plain_j3_ok {Q : Exit → Env → Heap → Prop} (Kn : Heap → Prop) (hKn : ∀  (b : Env) (h : Heap), Kn  h → Q .normal b h) (y74 : Option Addr) (y75 : Int) (y76 : Option Addr) (y76n : Nat) (y76c : Nat) (y77 : Int) (y78 : Int) (y79 : Bool) (b : Env) (h : Heap) (hM : vt_Screen_plain_j3 Kn y74 y75 y76 y76n y76c y77 y78 y79 h) : cwp Tryz.prog (partC Tryz.f119 [1, 1, 0, 1, 1, 1, 1, 1, 1, 1, 1, 1, 1, 1, 1, 1, 1, 1]) 183 Q (upd (upd (upd (upd (upd (upd b 0 (.pointer y74)) 1 (.int .u8 y75)) 2 (.slice y76 y76n y76c)) 6 (.int .i64 y77)) 10 (.int .u8 y78)) 96 (.bool y79)) h := by
  unfold vt_Screen_plain_j3 at hM
  refine cwp_part rfl ?_
  refine cwp_condB y79 (by kernel_rfl) (fun hc80 => ?_) (fun hc80 => ?_)
  · replace hM := ifT hc80 hM
    refine cwp_region ?_
    refine oZ [(99, .pointer y74), (100, .int .i64 y77), (101, .slice y76 y76n y76c)] ?_
    refine oG (hpCallE 142 #[.slice y76 y76n y76c, .int .i64 1, .int .i64 1] (by kernel_rfl) (vt_at_ok y76 y76n y76c 1 1 _ h hM) ?_)
    clear hM
    rintro _ h81 ⟨x82, rfl, hM⟩
    refine oZ [(103, .int .i64 (imax 1 x82))] ?_
    refine oG (hpCallE 140 #[.pointer y74, .int .i64 y77, .int .i64 (imax 1 x82)] (by kernel_rfl) (vt_Screen_home_ok y74 y77 (imax 1 x82) _ h81 hM) ?_)
    clear hM
    rintro _ h83 ⟨rfl, hM⟩
    refine owp_nil ?_
    exact hKn  _ _ hM
  replace hM := ifF hc80 hM
  refine cR ?_
  refine oZ [(106, .bool (decide (y78 = 100))), (105, .bool (decide (y78 = 100)))] ?_
  refine oE ?_
  refine cwp_condD (y78 = 100) (by kernel_rfl) (fun hc84 => ?_) (fun hc84 => ?_)
  · replace hM := ifT hc84 hM
    refine cwp_region ?_
    refine oZ [(107, .pointer y74), (108, .int .i64 y77), (109, .pointer y74)] ?_
    obtain ⟨p85, rfl, hM⟩ := hM
    refine owp_rdG (.pointer (some p85)) rfl (by kernel_rfl) (by kernel_rfl) ?_
    refine oZ [(111, .pointer (some (p85.add 9))), (112, .pointer (some (p85.add 9)))] ?_
    obtain ⟨x86, hc87, hM⟩ := hM
    refine oL (.int .i64 x86) (p85.add 9) hc87 ?_
    refine oZ [(114, .int .i64 (IntKind.wrap .i64 (x86 + 1)))] ?_
    refine oG (hpCallE 140 #[.pointer (some p85), .int .i64 y77, .int .i64 (IntKind.wrap .i64 (x86 + 1))] (by kernel_rfl) (vt_Screen_home_ok (some p85) y77 (IntKind.wrap .i64 (x86 + 1)) _ h hM) ?_)
    clear hM
    rintro _ h89 ⟨rfl, hM⟩
    refine owp_nil ?_
    exact hKn  _ _ hM
  replace hM := ifF hc84 hM
  refine cR ?_
  refine oZ [(117, .bool (decide (y78 = 73))), (116, .bool (decide (y78 = 73)))] ?_
  refine oE ?_
  refine cwp_condD (y78 = 73) (by kernel_rfl) (fun hc90 => ?_) (fun hc90 => ?_)
  · replace hM := ifT hc90 hM
    refine cwp_region ?_
    refine oZ [(118, .pointer y74), (119, .int .i64 y77)] ?_
    refine oG (hpCallE 112 #[.pointer y74, .int .i64 y77] (by kernel_rfl) (vt_Screen_tab_ok y74 y77 _ h hM) ?_)
    clear hM
    rintro _ h91 ⟨rfl, hM⟩
    refine owp_nil ?_
    exact hKn  _ _ hM
  replace hM := ifF hc90 hM
  refine cR ?_
  refine oZ [(122, .bool (decide (y78 = 90))), (121, .bool (decide (y78 = 90)))] ?_
  refine oE ?_
  refine cwp_condD (y78 = 90) (by kernel_rfl) (fun hc92 => ?_) (fun hc92 => ?_)
  · replace hM := ifT hc92 hM
    refine cwp_region ?_
    refine oZ [(123, .pointer y74), (124, .int .i64 y77)] ?_
    refine oG (hpCallE 145 #[.pointer y74, .int .i64 y77] (by kernel_rfl) (vt_Screen_back_ok y74 y77 _ h hM) ?_)
    clear hM
    rintro _ h93 ⟨rfl, hM⟩
    refine owp_nil ?_
    exact hKn  _ _ hM
  replace hM := ifF hc92 hM
  refine cwp_seq (cR ?_)
  refine oZ [(127, .bool (decide (y78 = 74))), (126, .bool (decide (y78 = 74)))] ?_
  refine oE ?_
  refine cwp_condD (y78 = 74) (by kernel_rfl) (fun hc94 => ?_) (fun hc94 => ?_)
  · replace hM := ifT hc94 hM
    refine cwp_skip (thenE_n ?_)
    refine cwp_of_part (fn := Tryz.f119) (p := [1, 1, 0, 1, 1, 1, 1, 1, 1, 1, 1, 1, 1, 1, 1, 1, 1, 1, 1, 1, 1, 1, 1, 1, 1, 1]) (by kernel_rfl) (cA 0 (.pointer y74) (cA 1 (.int .u8 y75) (cA 2 (.slice y76 y76n y76c) (cA 6 (.int .i64 y77) (cA 10 (.int .u8 y78) (cA 126 (.bool (decide (y78 = 74))) (vt_Screen_plain_j4_ok _ ?_ y74 y75 y76 y76n y76c y77 y78 (decide (y78 = 74)) _ _ hM)))))))
    · intro  b165 h164 hM
      exact hKn  _ _ hM
  replace hM := ifF hc94 hM
  refine cwp_region ?_
  refine oZ [(128, .bool (decide (y78 = 75))), (126, .bool (decide (y78 = 75)))] ?_
  refine oE ?_
  refine cwp_of_part (fn := Tryz.f119) (p := [1, 1, 0, 1, 1, 1, 1, 1, 1, 1, 1, 1, 1, 1, 1, 1, 1, 1, 1, 1, 1, 1, 1, 1, 1, 1]) (by kernel_rfl) (cA 0 (.pointer y74) (cA 1 (.int .u8 y75) (cA 2 (.slice y76 y76n y76c) (cA 6 (.int .i64 y77) (cA 10 (.int .u8 y78) (cA 126 (.bool (decide (y78 = 75))) (vt_Screen_plain_j4_ok _ ?_ y74 y75 y76 y76n y76c y77 y78 (decide (y78 = 75)) _ _ hM)))))))
  · intro  b168 h167 hM
    exact hKn  _ _ hM
def vt_Screen_plain_j2 (Kn : Heap → Prop) (y61 : Option Addr) (y62 : Int) (y63 : Option Addr) (y63n : Nat) (y63c : Nat) (y64 : Int) (y65 : Int) (y66 : Bool) (h : Heap) : Prop :=
 if y66 = true then
  nz y61 fun p68 =>
  ldI h .i64 (p68.add 10) fun x69 =>
  vt_Screen_to (some p68) (IntKind.wrap .i64 (y64 - 1)) x69 (fun  h72 =>
    Kn  h72) h
 else
 if y65 = 72 then
  vt_Screen_plain_j3
   (fun  h170 =>
       Kn  h170) y61 y62 y63 y63n y63c y64 y65 (decide (y65 = 72)) h
 else
 vt_Screen_plain_j3
  (fun  h173 =>
      Kn  h173) y61 y62 y63 y63n y63c y64 y65 (decide (y65 = 102)) h
theorem vt_Screen_plain_j2_ok {Q : Exit → Env → Heap → Prop} (Kn : Heap → Prop) (hKn : ∀  (b : Env) (h : Heap), Kn  h → Q .normal b h) (y61 : Option Addr) (y62 : Int) (y63 : Option Addr) (y63n : Nat) (y63c : Nat) (y64 : Int) (y65 : Int) (y66 : Bool) (b : Env) (h : Heap) (hM : vt_Screen_plain_j2 Kn y61 y62 y63 y63n y63c y64 y65 y66 h) : cwp Tryz.prog (partC Tryz.f119 [1, 1, 0, 1, 1, 1, 1, 1, 1, 1, 1, 1, 1, 1, 1, 1]) 183 Q (upd (upd (upd (upd (upd (upd b 0 (.pointer y61)) 1 (.int .u8 y62)) 2 (.slice y63 y63n y63c)) 6 (.int .i64 y64)) 10 (.int .u8 y65)) 84 (.bool y66)) h := by
  unfold vt_Screen_plain_j2 at hM
  refine cwp_part rfl ?_
  refine cwp_condB y66 (by kernel_rfl) (fun hc67 => ?_) (fun hc67 => ?_)
  · replace hM := ifT hc67 hM
    refine cwp_region ?_
    refine oZ [(87, .pointer y61), (88, .int .i64 y64), (89, .int .i64 (IntKind.wrap .i64 (y64 - 1))), (90, .pointer y61)] ?_
    obtain ⟨p68, rfl, hM⟩ := hM
    refine owp_rdG (.pointer (some p68)) rfl (by kernel_rfl) (by kernel_rfl) ?_
    refine oZ [(92, .pointer (some (p68.add 9))), (93, .pointer (some (p68.add 10)))] ?_
    obtain ⟨x69, hc70, hM⟩ := hM
    refine oL (.int .i64 x69) (p68.add 10) hc70 ?_
    refine oG (hpCallE 111 #[.pointer (some p68), .int .i64 (IntKind.wrap .i64 (y64 - 1)), .int .i64 x69] (by kernel_rfl) (vt_Screen_to_ok (some p68) (IntKind.wrap .i64 (y64 - 1)) x69 _ h hM) ?_)
    clear hM
    rintro _ h72 ⟨rfl, hM⟩
    refine owp_nil ?_
    exact hKn  _ _ hM
  replace hM := ifF hc67 hM
  refine cwp_seq (cR ?_)
  refine oZ [(97, .bool (decide (y65 = 72))), (96, .bool (decide (y65 = 72)))] ?_
  refine oE ?_
  refine cwp_condD (y65 = 72) (by kernel_rfl) (fun hc73 => ?_) (fun hc73 => ?_)
  · replace hM := ifT hc73 hM
    refine cwp_skip (thenE_n ?_)
    refine cwp_of_part (fn := Tryz.f119) (p := [1, 1, 0, 1, 1, 1, 1, 1, 1, 1, 1, 1, 1, 1, 1, 1, 1, 1]) (by kernel_rfl) (cA 0 (.pointer y61) (cA 1 (.int .u8 y62) (cA 2 (.slice y63 y63n y63c) (cA 6 (.int .i64 y64) (cA 10 (.int .u8 y65) (cA 96 (.bool (decide (y65 = 72))) (vt_Screen_plain_j3_ok _ ?_ y61 y62 y63 y63n y63c y64 y65 (decide (y65 = 72)) _ _ hM)))))))
    · intro  b171 h170 hM
      exact hKn  _ _ hM
  replace hM := ifF hc73 hM
  refine cwp_region ?_
  refine oZ [(98, .bool (decide (y65 = 102))), (96, .bool (decide (y65 = 102)))] ?_
  refine oE ?_
  refine cwp_of_part (fn := Tryz.f119) (p := [1, 1, 0, 1, 1, 1, 1, 1, 1, 1, 1, 1, 1, 1, 1, 1, 1, 1]) (by kernel_rfl) (cA 0 (.pointer y61) (cA 1 (.int .u8 y62) (cA 2 (.slice y63 y63n y63c) (cA 6 (.int .i64 y64) (cA 10 (.int .u8 y65) (cA 96 (.bool (decide (y65 = 102))) (vt_Screen_plain_j3_ok _ ?_ y61 y62 y63 y63n y63c y64 y65 (decide (y65 = 102)) _ _ hM)))))))
  · intro  b174 h173 hM
    exact hKn  _ _ hM
def vt_Screen_plain_j1 (Kn : Heap → Prop) (y18 : Option Addr) (y19 : Int) (y20 : Option Addr) (y20n : Nat) (y20c : Nat) (y21 : Int) (y22 : Int) (y23 : Bool) (h : Heap) : Prop :=
 if y23 = true then
  nz y18 fun p25 =>
  ldI h .i64 (p25.add 9) fun x26 =>
  ldI h .i64 (p25.add 10) fun x30 =>
  vt_Screen_to (some p25) (IntKind.wrap .i64 (x26 + y21)) x30 (fun  h34 =>
    Kn  h34) h
 else
 if y22 = 68 then
  nz y18 fun p36 =>
  ldI h .i64 (p36.add 9) fun x37 =>
  ldI h .i64 (p36.add 10) fun x41 =>
  vt_Screen_to (some p36) (IntKind.wrap .i64 (x37 - y21)) x41 (fun  h45 =>
    Kn  h45) h
 else
 if y22 = 69 then
  vt_Screen_rowsDown y18 y21 (fun  h47 =>
   nz y18 fun p48 =>
   ldI h47 .i64 (p48.add 10) fun x49 =>
   vt_Screen_to (some p48) 0 x49 (fun  h52 =>
      Kn  h52) h47) h
 else
 if y22 = 70 then
  vt_Screen_rowsUp y18 y21 (fun  h54 =>
   nz y18 fun p55 =>
   ldI h54 .i64 (p55.add 10) fun x56 =>
   vt_Screen_to (some p55) 0 x56 (fun  h59 =>
      Kn  h59) h54) h
 else
 if y22 = 71 then
  vt_Screen_plain_j2
   (fun  h176 =>
       Kn  h176) y18 y19 y20 y20n y20c y21 y22 (decide (y22 = 71)) h
 else
 vt_Screen_plain_j2
  (fun  h179 =>
      Kn  h179) y18 y19 y20 y20n y20c y21 y22 (decide (y22 = 96)) h
theorem vt_Screen_plain_j1_ok {Q : Exit → Env → Heap → Prop} (Kn : Heap → Prop) (hKn : ∀  (b : Env) (h : Heap), Kn  h → Q .normal b h) (y18 : Option Addr) (y19 : Int) (y20 : Option Addr) (y20n : Nat) (y20c : Nat) (y21 : Int) (y22 : Int) (y23 : Bool) (b : Env) (h : Heap) (hM : vt_Screen_plain_j1 Kn y18 y19 y20 y20n y20c y21 y22 y23 h) : cwp Tryz.prog (partC Tryz.f119 [1, 1, 0, 1, 1, 1, 1, 1]) 183 Q (upd (upd (upd (upd (upd (upd b 0 (.pointer y18)) 1 (.int .u8 y19)) 2 (.slice y20 y20n y20c)) 6 (.int .i64 y21)) 10 (.int .u8 y22)) 27 (.bool y23)) h := by
  unfold vt_Screen_plain_j1 at hM
  refine cwp_part rfl ?_
  refine cwp_condB y23 (by kernel_rfl) (fun hc24 => ?_) (fun hc24 => ?_)
  · replace hM := ifT hc24 hM
    refine cwp_draw (by kernel_rfl) ?_
    refine kq 0 (.pointer y18) ?_
    refine kq 1 (.pointer y18) ?_
    obtain ⟨p25, rfl, hM⟩ := hM
    refine kq 2 (.pointer (some p25)) ?_
    refine kq 3 (.pointer (some (p25.add 9))) ?_
    refine kq 4 (.pointer (some (p25.add 9))) ?_
    obtain ⟨x26, hc27, hM⟩ := hM
    refine kl 5 (.int .i64 x26) (p25.add 9) [7, 13] [13] hc27 ?_
    refine kq 6 (.int .i64 y21) ?_
    refine kq 7 (.int .i64 (IntKind.wrap .i64 (x26 + y21))) ?_
    refine kq 8 (.pointer (some p25)) ?_
    refine kq 9 (.pointer (some p25)) ?_
    refine kq 10 (.pointer (some (p25.add 9))) ?_
    refine kq 11 (.pointer (some (p25.add 10))) ?_
    obtain ⟨x30, hc31, hM⟩ := hM
    refine kl 12 (.int .i64 x30) (p25.add 10) [13] [13] hc31 ?_
    refine kE 13 (hpCallE 111 #[.pointer (some p25), .int .i64 (IntKind.wrap .i64 (x26 + y21)), .int .i64 x30] (by kernel_rfl) (vt_Screen_to_ok (some p25) (IntKind.wrap .i64 (x26 + y21)) x30 _ h hM) ?_)
    clear hM
    rintro _ h34 ⟨rfl, hM⟩
    refine ⟨trivial, ?_⟩
    refine k_done (by kernel_rfl) ?_
    exact hKn  _ _ hM
  replace hM := ifF hc24 hM
  refine cR ?_
  refine oZ [(45, .bool (decide (y22 = 68))), (44, .bool (decide (y22 = 68)))] ?_
  refine oE ?_
  refine cwp_condD (y22 = 68) (by kernel_rfl) (fun hc35 => ?_) (fun hc35 => ?_)
  · replace hM := ifT hc35 hM
    refine cwp_draw (by kernel_rfl) ?_
    refine kq 0 (.pointer y18) ?_
    refine kq 1 (.pointer y18) ?_
    obtain ⟨p36, rfl, hM⟩ := hM
    refine kq 2 (.pointer (some p36)) ?_
    refine kq 3 (.pointer (some (p36.add 9))) ?_
    refine kq 4 (.pointer (some (p36.add 9))) ?_
    obtain ⟨x37, hc38, hM⟩ := hM
    refine kl 5 (.int .i64 x37) (p36.add 9) [7, 13] [13] hc38 ?_
    refine kq 6 (.int .i64 y21) ?_
    refine kq 7 (.int .i64 (IntKind.wrap .i64 (x37 - y21))) ?_
    refine kq 8 (.pointer (some p36)) ?_
    refine kq 9 (.pointer (some p36)) ?_
    refine kq 10 (.pointer (some (p36.add 9))) ?_
    refine kq 11 (.pointer (some (p36.add 10))) ?_
    obtain ⟨x41, hc42, hM⟩ := hM
    refine kl 12 (.int .i64 x41) (p36.add 10) [13] [13] hc42 ?_
    refine kE 13 (hpCallE 111 #[.pointer (some p36), .int .i64 (IntKind.wrap .i64 (x37 - y21)), .int .i64 x41] (by kernel_rfl) (vt_Screen_to_ok (some p36) (IntKind.wrap .i64 (x37 - y21)) x41 _ h hM) ?_)
    clear hM
    rintro _ h45 ⟨rfl, hM⟩
    refine ⟨trivial, ?_⟩
    refine k_done (by kernel_rfl) ?_
    exact hKn  _ _ hM
  replace hM := ifF hc35 hM
  refine cR ?_
  refine oZ [(61, .bool (decide (y22 = 69))), (60, .bool (decide (y22 = 69)))] ?_
  refine oE ?_
  refine cwp_condD (y22 = 69) (by kernel_rfl) (fun hc46 => ?_) (fun hc46 => ?_)
  · replace hM := ifT hc46 hM
    refine cR ?_
    refine oZ [(62, .pointer y18), (63, .int .i64 y21)] ?_
    refine oG (hpCallE 144 #[.pointer y18, .int .i64 y21] (by kernel_rfl) (vt_Screen_rowsDown_ok y18 y21 _ h hM) ?_)
    clear hM
    rintro _ h47 ⟨rfl, hM⟩
    refine oE (cwp_region ?_)
    refine oZ [(65, .pointer y18), (66, .pointer y18)] ?_
    obtain ⟨p48, rfl, hM⟩ := hM
    refine owp_rdG (.pointer (some p48)) rfl (by kernel_rfl) (by kernel_rfl) ?_
    refine oZ [(68, .pointer (some (p48.add 9))), (69, .pointer (some (p48.add 10)))] ?_
    obtain ⟨x49, hc50, hM⟩ := hM
    refine oL (.int .i64 x49) (p48.add 10) hc50 ?_
    refine oG (hpCallE 111 #[.pointer (some p48), .int .i64 0, .int .i64 x49] (by kernel_rfl) (vt_Screen_to_ok (some p48) 0 x49 _ h47 hM) ?_)
    clear hM
    rintro _ h52 ⟨rfl, hM⟩
    refine owp_nil ?_
    exact hKn  _ _ hM
  replace hM := ifF hc46 hM
  refine cR ?_
  refine oZ [(73, .bool (decide (y22 = 70))), (72, .bool (decide (y22 = 70)))] ?_
  refine oE ?_
  refine cwp_condD (y22 = 70) (by kernel_rfl) (fun hc53 => ?_) (fun hc53 => ?_)
  · replace hM := ifT hc53 hM
    refine cR ?_
    refine oZ [(74, .pointer y18), (75, .int .i64 y21)] ?_
    refine oG (hpCallE 143 #[.pointer y18, .int .i64 y21] (by kernel_rfl) (vt_Screen_rowsUp_ok y18 y21 _ h hM) ?_)
    clear hM
    rintro _ h54 ⟨rfl, hM⟩
    refine oE (cwp_region ?_)
    refine oZ [(77, .pointer y18), (78, .pointer y18)] ?_
    obtain ⟨p55, rfl, hM⟩ := hM
    refine owp_rdG (.pointer (some p55)) rfl (by kernel_rfl) (by kernel_rfl) ?_
    refine oZ [(80, .pointer (some (p55.add 9))), (81, .pointer (some (p55.add 10)))] ?_
    obtain ⟨x56, hc57, hM⟩ := hM
    refine oL (.int .i64 x56) (p55.add 10) hc57 ?_
    refine oG (hpCallE 111 #[.pointer (some p55), .int .i64 0, .int .i64 x56] (by kernel_rfl) (vt_Screen_to_ok (some p55) 0 x56 _ h54 hM) ?_)
    clear hM
    rintro _ h59 ⟨rfl, hM⟩
    refine owp_nil ?_
    exact hKn  _ _ hM
  replace hM := ifF hc53 hM
  refine cwp_seq (cR ?_)
  refine oZ [(85, .bool (decide (y22 = 71))), (84, .bool (decide (y22 = 71)))] ?_
  refine oE ?_
  refine cwp_condD (y22 = 71) (by kernel_rfl) (fun hc60 => ?_) (fun hc60 => ?_)
  · replace hM := ifT hc60 hM
    refine cwp_skip (thenE_n ?_)
    refine cwp_of_part (fn := Tryz.f119) (p := [1, 1, 0, 1, 1, 1, 1, 1, 1, 1, 1, 1, 1, 1, 1, 1]) (by kernel_rfl) (cA 0 (.pointer y18) (cA 1 (.int .u8 y19) (cA 2 (.slice y20 y20n y20c) (cA 6 (.int .i64 y21) (cA 10 (.int .u8 y22) (cA 84 (.bool (decide (y22 = 71))) (vt_Screen_plain_j2_ok _ ?_ y18 y19 y20 y20n y20c y21 y22 (decide (y22 = 71)) _ _ hM)))))))
    · intro  b177 h176 hM
      exact hKn  _ _ hM
  replace hM := ifF hc60 hM
  refine cwp_region ?_
  refine oZ [(86, .bool (decide (y22 = 96))), (84, .bool (decide (y22 = 96)))] ?_
  refine oE ?_
  refine cwp_of_part (fn := Tryz.f119) (p := [1, 1, 0, 1, 1, 1, 1, 1, 1, 1, 1, 1, 1, 1, 1, 1]) (by kernel_rfl) (cA 0 (.pointer y18) (cA 1 (.int .u8 y19) (cA 2 (.slice y20 y20n y20c) (cA 6 (.int .i64 y21) (cA 10 (.int .u8 y22) (cA 84 (.bool (decide (y22 = 96))) (vt_Screen_plain_j2_ok _ ?_ y18 y19 y20 y20n y20c y21 y22 (decide (y22 = 96)) _ _ hM)))))))
  · intro  b180 h179 hM
    exact hKn  _ _ hM
def vt_Screen_plain_j0 (Kn : Heap → Prop) (y9 : Option Addr) (y10 : Int) (y11 : Option Addr) (y11n : Nat) (y11c : Nat) (y12 : Int) (y13 : Int) (y14 : Bool) (h : Heap) : Prop :=
 if y14 = true then
  vt_Screen_rowsDown y9 y12 (fun  h16 =>
    Kn  h16) h
 else
 if y13 = 67 then
  vt_Screen_plain_j1
   (fun  h182 =>
       Kn  h182) y9 y10 y11 y11n y11c y12 y13 (decide (y13 = 67)) h
 else
 vt_Screen_plain_j1
  (fun  h185 =>
      Kn  h185) y9 y10 y11 y11n y11c y12 y13 (decide (y13 = 97)) h
theorem vt_Screen_plain_j0_ok {Q : Exit → Env → Heap → Prop} (Kn : Heap → Prop) (hKn : ∀  (b : Env) (h : Heap), Kn  h → Q .normal b h) (y9 : Option Addr) (y10 : Int) (y11 : Option Addr) (y11n : Nat) (y11c : Nat) (y12 : Int) (y13 : Int) (y14 : Bool) (b : Env) (h : Heap) (hM : vt_Screen_plain_j0 Kn y9 y10 y11 y11n y11c y12 y13 y14 h) : cwp Tryz.prog (partC Tryz.f119 [1, 1, 0, 1, 1, 1]) 183 Q (upd (upd (upd (upd (upd (upd b 0 (.pointer y9)) 1 (.int .u8 y10)) 2 (.slice y11 y11n y11c)) 6 (.int .i64 y12)) 10 (.int .u8 y13)) 21 (.bool y14)) h := by
  unfold vt_Screen_plain_j0 at hM
  refine cwp_part rfl ?_
  refine cwp_condB y14 (by kernel_rfl) (fun hc15 => ?_) (fun hc15 => ?_)
  · replace hM := ifT hc15 hM
    refine cwp_region ?_
    refine oZ [(24, .pointer y9), (25, .int .i64 y12)] ?_
    refine oG (hpCallE 144 #[.pointer y9, .int .i64 y12] (by kernel_rfl) (vt_Screen_rowsDown_ok y9 y12 _ h hM) ?_)
    clear hM
    rintro _ h16 ⟨rfl, hM⟩
    refine owp_nil ?_
    exact hKn  _ _ hM
  replace hM := ifF hc15 hM
  refine cwp_seq (cR ?_)
  refine oZ [(28, .bool (decide (y13 = 67))), (27, .bool (decide (y13 = 67)))] ?_
  refine oE ?_
  refine cwp_condD (y13 = 67) (by kernel_rfl) (fun hc17 => ?_) (fun hc17 => ?_)
  · replace hM := ifT hc17 hM
    refine cwp_skip (thenE_n ?_)
    refine cwp_of_part (fn := Tryz.f119) (p := [1, 1, 0, 1, 1, 1, 1, 1]) (by kernel_rfl) (cA 0 (.pointer y9) (cA 1 (.int .u8 y10) (cA 2 (.slice y11 y11n y11c) (cA 6 (.int .i64 y12) (cA 10 (.int .u8 y13) (cA 27 (.bool (decide (y13 = 67))) (vt_Screen_plain_j1_ok _ ?_ y9 y10 y11 y11n y11c y12 y13 (decide (y13 = 67)) _ _ hM)))))))
    · intro  b183 h182 hM
      exact hKn  _ _ hM
  replace hM := ifF hc17 hM
  refine cwp_region ?_
  refine oZ [(29, .bool (decide (y13 = 97))), (27, .bool (decide (y13 = 97)))] ?_
  refine oE ?_
  refine cwp_of_part (fn := Tryz.f119) (p := [1, 1, 0, 1, 1, 1, 1, 1]) (by kernel_rfl) (cA 0 (.pointer y9) (cA 1 (.int .u8 y10) (cA 2 (.slice y11 y11n y11c) (cA 6 (.int .i64 y12) (cA 10 (.int .u8 y13) (cA 27 (.bool (decide (y13 = 97))) (vt_Screen_plain_j1_ok _ ?_ y9 y10 y11 y11n y11c y12 y13 (decide (y13 = 97)) _ _ hM)))))))
  · intro  b186 h185 hM
    exact hKn  _ _ hM
def vt_Screen_plain (a1 : Option Addr) (a2 : Int) (a3 : Option Addr) (a3n : Nat) (a3c : Nat) (K : Heap → Prop) (h : Heap) : Prop :=
 vt_at a3 a3n a3c 0 1 (fun x5 h4 =>
  if a2 = 65 then
   vt_Screen_rowsUp a1 (imax 1 x5) (fun  h7 =>
     K h7) h4
  else
  if a2 = 66 then
   vt_Screen_plain_j0
    (fun  h188 =>
        K h188) a1 a2 a3 a3n a3c (imax 1 x5) a2 (decide (a2 = 66)) h4
  else
  vt_Screen_plain_j0
   (fun  h191 =>
        K h191) a1 a2 a3 a3n a3c (imax 1 x5) a2 (decide (a2 = 101)) h4) h
theorem vt_Screen_plain_ok (a1 : Option Addr) (a2 : Int) (a3 : Option Addr) (a3n : Nat) (a3c : Nat) (K : Heap → Prop) (h : Heap) (hM : vt_Screen_plain a1 a2 a3 a3n a3c K h) : CallsH Tryz.prog 119 #[.pointer a1, .int .u8 a2, .slice a3 a3n a3c] (fun v h' => v = .tuple #[] ∧ K h') h := by
 unfold vt_Screen_plain at hM
 refine callsH_intro (n := 183) Tryz.func119 rfl rfl (by kernel_rfl) ?_
 refine cR ?_
 refine oZ [(7, .slice a3 a3n a3c)] ?_
 refine oG (hpCallE 142 #[.slice a3 a3n a3c, .int .i64 0, .int .i64 1] (by kernel_rfl) (vt_at_ok a3 a3n a3c 0 1 _ h hM) ?_)
 clear hM
 rintro _ h4 ⟨x5, rfl, hM⟩
 refine oZ [(9, .int .i64 (imax 1 x5)), (6, .int .i64 (imax 1 x5))] ?_
 refine oE (cR ?_)
 refine oZ [(10, .int .u8 a2)] ?_
 refine oE (cwp_block (cR ?_))
 refine oZ [(17, .bool (decide (a2 = 65))), (16, .bool (decide (a2 = 65)))] ?_
 refine oE ?_
 refine cwp_condD (a2 = 65) (by kernel_rfl) (fun hc6 => ?_) (fun hc6 => ?_)
 · replace hM := ifT hc6 hM
   refine cwp_region ?_
   refine oZ [(18, .pointer a1), (19, .int .i64 (imax 1 x5))] ?_
   refine oG (hpCallE 143 #[.pointer a1, .int .i64 (imax 1 x5)] (by kernel_rfl) (vt_Screen_rowsUp_ok a1 (imax 1 x5) _ h4 hM) ?_)
   clear hM
   rintro _ h7 ⟨rfl, hM⟩
   refine owp_nil (blockE_n ?_)
   exact end_ (.tuple #[]) (by kernel_rfl) ⟨rfl, hM⟩
 replace hM := ifF hc6 hM
 refine cwp_seq (cR ?_)
 refine oZ [(22, .bool (decide (a2 = 66))), (21, .bool (decide (a2 = 66)))] ?_
 refine oE ?_
 refine cwp_condD (a2 = 66) (by kernel_rfl) (fun hc8 => ?_) (fun hc8 => ?_)
 · replace hM := ifT hc8 hM
   refine cwp_skip (thenE_n ?_)
   refine cwp_of_part (fn := Tryz.f119) (p := [1, 1, 0, 1, 1, 1]) (by kernel_rfl) (cA 0 (.pointer a1) (cA 1 (.int .u8 a2) (cA 2 (.slice a3 a3n a3c) (cA 6 (.int .i64 (imax 1 x5)) (cA 10 (.int .u8 a2) (cA 21 (.bool (decide (a2 = 66))) (vt_Screen_plain_j0_ok _ ?_ a1 a2 a3 a3n a3c (imax 1 x5) a2 (decide (a2 = 66)) _ _ hM)))))))
   · intro  b189 h188 hM
     refine blockE_n ?_
     exact end_ (.tuple #[]) (by kernel_rfl) ⟨rfl, hM⟩
 replace hM := ifF hc8 hM
 refine cwp_region ?_
 refine oZ [(23, .bool (decide (a2 = 101))), (21, .bool (decide (a2 = 101)))] ?_
 refine oE ?_
 refine cwp_of_part (fn := Tryz.f119) (p := [1, 1, 0, 1, 1, 1]) (by kernel_rfl) (cA 0 (.pointer a1) (cA 1 (.int .u8 a2) (cA 2 (.slice a3 a3n a3c) (cA 6 (.int .i64 (imax 1 x5)) (cA 10 (.int .u8 a2) (cA 21 (.bool (decide (a2 = 101))) (vt_Screen_plain_j0_ok _ ?_ a1 a2 a3 a3n a3c (imax 1 x5) a2 (decide (a2 = 101)) _ _ hM)))))))
 · intro  b192 h191 hM
   refine blockE_n ?_
   exact end_ (.tuple #[]) (by kernel_rfl) ⟨rfl, hM⟩
/- (*mullion/vt.Screen).controlled -/
def vt_Screen_controlled_l0 (K1 : Heap → Prop) : Nat → Option Addr → Int → Option Addr → Nat → Nat → Int → Int → Heap → Prop
  | 0, _, _, _, _, _, _, _, _ => False
  | k + 1, y22, y23, y24, y24n, y24c, y25, y26, h =>
  if y26 < y25 then
   nz y24 fun p30 =>
   0 ≤ y26 ∧
   y26 < (y24n : Int) ∧
   ldI h .i64 (p30.add ((y26).toNat * 1)) fun x31 =>
   vt_Screen_private y22 x31 (decide (y23 = 104)) (fun  h34 =>
     vt_Screen_controlled_l0 K1 k y22 y23 (some p30) y24n y24c y25 (IntKind.wrap .i64 (y26 + 1)) h34) h
  else
  K1  h
theorem vt_Screen_controlled_l0_ok {Q : Exit → Env → Heap → Prop} (K1 : Heap → Prop) (hK1 : ∀  (b : Env) (h : Heap), K1  h → Q (.exit 1) b h) : ∀ (k : Nat) (y22 : Option Addr) (y23 : Int) (y24 : Option Addr) (y24n : Nat) (y24c : Nat) (y25 : Int) (y26 : Int) (b : Env) (h : Heap) (hM : vt_Screen_controlled_l0 K1 k y22 y23 y24 y24n y24c y25 y26 h), lwp Tryz.prog (partC Tryz.f89 [1, 0, 1, 1, 1, 0, 1, 0, 0]) 71 Q k (upd (upd (upd (upd (upd b 0 (.pointer y22)) 1 (.int .u8 y23)) 35 (.slice y24 y24n y24c)) 36 (.int .i64 y25)) 37 (.int .i64 y26)) h := by
  intro k
  induction k with
  | zero => intro y22 y23 y24 y24n y24c y25 y26 b h hM; exact (show False from hM).elim
  | succ k ih =>
    intro y22 y23 y24 y24n y24c y25 y26 b h hM
    unfold vt_Screen_controlled_l0 at hM
    refine lwp_succ (cwp_part rfl ?_)
    refine cR ?_
    refine oZ [(38, .bool (decide (y26 < y25)))] ?_
    refine oE (cwp_seq ?_)
    refine cwp_condD (y26 < y25) (by kernel_rfl) (fun hc27 => ?_) (fun hc27 => ?_)
    · replace hM := ifT hc27 hM
      refine cwp_skip (thenE_n (cwp_seq (cwp_block (cR ?_))))
      obtain ⟨p30, rfl, hM⟩ := hM
      obtain ⟨hc28, hM⟩ := hM
      obtain ⟨hc29, hM⟩ := hM
      refine owp_rdG (.pointer (some (p30.add ((y26).toNat * 1)))) rfl (by kernel_rfl) (rd_ixS (P := Tryz.prog) (h := h) (t := 54) (el := 3) (sz := 1) (ad := p30) (len := y24n) (c := y24c) (k := .i64) (i := y26) (by kernel_rfl) (by kernel_rfl) hc28 hc29 (by kernel_rfl)) ?_
      obtain ⟨x31, hc32, hM⟩ := hM
      refine oL (.int .i64 x31) (p30.add ((y26).toNat * 1)) hc32 ?_
      refine oZ [(9, .int .i64 x31)] ?_
      refine oE (cwp_region ?_)
      refine oZ [(41, .pointer y22), (42, .int .i64 x31), (43, .int .u8 y23), (44, .bool (decide (y23 = 104)))] ?_
      refine oG (hpCallE 117 #[.pointer y22, .int .i64 x31, .bool (decide (y23 = 104))] (by kernel_rfl) (vt_Screen_private_ok y22 x31 (decide (y23 = 104)) _ h hM) ?_)
      clear hM
      rintro _ h34 ⟨rfl, hM⟩
      refine owp_nil (blockE_n (thenE_n (cwp_region ?_)))
      refine oZ [(46, .int .i64 (IntKind.wrap .i64 (y26 + 1))), (37, .int .i64 (IntKind.wrap .i64 (y26 + 1)))] ?_
      refine owp_nil ?_
      exact lA 0 (.pointer y22) (lA 1 (.int .u8 y23) (lA 35 (.slice (some p30) y24n y24c) (lA 36 (.int .i64 y25) (lA 37 (.int .i64 (IntKind.wrap .i64 (y26 + 1))) (ih y22 y23 (some p30) y24n y24c y25 (IntKind.wrap .i64 (y26 + 1)) _ _ hM)))))
    replace hM := ifF hc27 hM
    refine cwp_exit (thenE_x ?_)
    exact hK1  _ _ hM
def vt_Screen_controlled (a1 : Option Addr) (a2 : Int) (K : Heap → Prop) (h : Heap) : Prop :=
 vt_Screen_numbers a1 (fun x4 x5 x5n x5c x6 x7 h3 =>
  if (!x7) = true then
   K h3
  else
  if (((decide (x4 = 63)) && (x6.toList == (⟨#[]⟩ : ByteArray).toList)) && ((decide (a2 = 104)) || (decide (a2 = 108)))) = true then
   ∃ k37, vt_Screen_controlled_l0
    (fun  h35 =>
        K h35) k37 a1 a2 x5 x5n x5c (x5n : Int) 0 h3
  else
  if (((decide (x4 = 0)) && (x6.toList == (⟨#[33]⟩ : ByteArray).toList)) && (decide (a2 = 112))) = true then
   vt_Screen_soft a1 (fun  h47 =>
     K h47) h3
  else
  if ((decide (x4 = 0)) && (x6.toList == (⟨#[]⟩ : ByteArray).toList)) = true then
   vt_Screen_plain a1 a2 x5 x5n x5c (fun  h53 =>
     K h53) h3
  else
   K h3) h
theorem vt_Screen_controlled_ok (a1 : Option Addr) (a2 : Int) (K : Heap → Prop) (h : Heap) (hM : vt_Screen_controlled a1 a2 K h) : CallsH Tryz.prog 89 #[.pointer a1, .int .u8 a2] (fun v h' => v = .tuple #[] ∧ K h') h := by
 unfold vt_Screen_controlled at hM
 refine callsH_intro (n := 71) Tryz.func89 rfl rfl (by kernel_rfl) ?_
 refine cR ?_
 refine oZ [(11, .pointer a1)] ?_
 refine oG (hpCallE 116 #[.pointer a1] (by kernel_rfl) (vt_Screen_numbers_ok a1 _ h hM) ?_)
 clear hM
 rintro _ h3 ⟨x4, x5, x5n, x5c, x6, x7, rfl, hM⟩
 refine oZ [(10, .tuple #[.int .u8 x4, .slice x5 x5n x5c, .string x6, .bool x7]), (13, .int .u8 x4), (14, .slice x5 x5n x5c), (15, .string x6), (16, .bool x7), (4, .int .u8 x4), (5, .slice x5 x5n x5c), (6, .string x6), (7, .bool x7)] ?_
 refine oE (cwp_block (cR ?_))
 refine oZ [(18, .bool x7), (19, .bool (!x7)), (17, .bool (!x7))] ?_
 refine oE ?_
 refine cwp_condB (!x7) (by kernel_rfl) (fun hc8 => ?_) (fun hc8 => ?_)
 · replace hM := ifT hc8 hM
   refine cwp_skip (blockE_n ?_)
   exact end_ (.tuple #[]) (by kernel_rfl) ⟨rfl, hM⟩
 replace hM := ifF hc8 hM
 refine cR ?_
 refine oZ [(21, .int .u8 x4), (22, .bool (decide (x4 = 63))), (23, .bool (decide (x4 = 63)))] ?_
 refine oB (decide (x4 = 63)) 3 [22, 23] (fun b_ => [(24, iteV b_ (.string x6 : Value) undef), (25, iteV b_ (.bool (x6.toList == (⟨#[]⟩ : ByteArray).toList) : Value) undef), (26, .bool (b_ && (x6.toList == (⟨#[]⟩ : ByteArray).toList)))]) rfl (fun hb9 hq10 => oS [(24, .string x6), (25, .bool (x6.toList == (⟨#[]⟩ : ByteArray).toList)), (26, .bool (x6.toList == (⟨#[]⟩ : ByteArray).toList))] rfl (hq10)) (fun hb11 hq12 => oS [(24, undef), (25, undef), (26, .bool false)] rfl (hq12)) ?_
 refine oZ [(27, .bool ((decide (x4 = 63)) && (x6.toList == (⟨#[]⟩ : ByteArray).toList)))] ?_
 refine oB ((decide (x4 = 63)) && (x6.toList == (⟨#[]⟩ : ByteArray).toList)) 7 [26, 27] (fun b_ => [(28, iteV b_ (.int .u8 a2 : Value) undef), (29, iteV b_ (.bool (decide (a2 = 104)) : Value) undef), (30, iteV b_ (.bool (decide (a2 = 104)) : Value) undef), (31, iteV b_ (iteV (decide (a2 = 104)) undef (.int .u8 a2 : Value)) undef), (32, iteV b_ (iteV (decide (a2 = 104)) undef (.bool (decide (a2 = 108)) : Value)) undef), (33, iteV b_ (.bool ((decide (a2 = 104)) || (decide (a2 = 108))) : Value) undef), (34, .bool (b_ && ((decide (a2 = 104)) || (decide (a2 = 108)))))]) rfl (fun hb17 hq18 => oS [(28, .int .u8 a2), (29, .bool (decide (a2 = 104))), (30, .bool (decide (a2 = 104)))] rfl (oB (decide (a2 = 104)) 3 [29, 30] (fun b_ => [(31, iteV b_ undef (.int .u8 a2 : Value)), (32, iteV b_ undef (.bool (decide (a2 = 108)) : Value)), (33, .bool (b_ || (decide (a2 = 108))))]) rfl (fun hb13 hq14 => oS [(31, undef), (32, undef), (33, .bool true)] rfl (hq14)) (fun hb15 hq16 => oS [(31, .int .u8 a2), (32, .bool (decide (a2 = 108))), (33, .bool (decide (a2 = 108)))] rfl (hq16)) (oS [(34, .bool ((decide (a2 = 104)) || (decide (a2 = 108))))] rfl (hq18)))) (fun hb19 hq20 => oS [(28, undef), (29, undef), (30, undef), (31, undef), (32, undef), (33, undef), (34, .bool false)] rfl (hq20)) ?_
 refine oZ [(20, .bool (((decide (x4 = 63)) && (x6.toList == (⟨#[]⟩ : ByteArray).toList)) && ((decide (a2 = 104)) || (decide (a2 = 108)))))] ?_
 refine oE ?_
 refine cwp_condB (((decide (x4 = 63)) && (x6.toList == (⟨#[]⟩ : ByteArray).toList)) && ((decide (a2 = 104)) || (decide (a2 = 108)))) (by kernel_rfl) (fun hc21 => ?_) (fun hc21 => ?_)
 · replace hM := ifT hc21 hM
   refine cR ?_
   refine oZ [(35, .slice x5 x5n x5c), (36, .int .i64 (x5n : Int)), (37, .int .i64 0)] ?_
   refine oE (cwp_block ?_)
   obtain ⟨k_, hM⟩ := hM
   refine cwp_loop k_ (lwp_of_part (fn := Tryz.f89) (p := [1, 0, 1, 1, 1, 0, 1, 0, 0]) (by kernel_rfl) (lA 0 (.pointer a1) (lA 1 (.int .u8 a2) (lA 35 (.slice x5 x5n x5c) (lA 36 (.int .i64 (x5n : Int)) (lA 37 (.int .i64 0) (vt_Screen_controlled_l0_ok _ ?_ k_ a1 a2 x5 x5n x5c (x5n : Int) 0 _ _ hM)))))))
   · intro  b36 h35 hM
     refine blockE_h (blockE_n ?_)
     exact end_ (.tuple #[]) (by kernel_rfl) ⟨rfl, hM⟩
 replace hM := ifF hc21 hM
 refine cR ?_
 refine oZ [(48, .int .u8 x4), (49, .bool (decide (x4 = 0))), (50, .bool (decide (x4 = 0)))] ?_
 refine oB (decide (x4 = 0)) 3 [49, 50] (fun b_ => [(51, iteV b_ (.string x6 : Value) undef), (52, iteV b_ (.bool (x6.toList == (⟨#[33]⟩ : ByteArray).toList) : Value) undef), (53, .bool (b_ && (x6.toList == (⟨#[33]⟩ : ByteArray).toList)))]) rfl (fun hb38 hq39 => oS [(51, .string x6), (52, .bool (x6.toList == (⟨#[33]⟩ : ByteArray).toList)), (53, .bool (x6.toList == (⟨#[33]⟩ : ByteArray).toList))] rfl (hq39)) (fun hb40 hq41 => oS [(51, undef), (52, undef), (53, .bool false)] rfl (hq41)) ?_
 refine oZ [(54, .bool ((decide (x4 = 0)) && (x6.toList == (⟨#[33]⟩ : ByteArray).toList)))] ?_
 refine oB ((decide (x4 = 0)) && (x6.toList == (⟨#[33]⟩ : ByteArray).toList)) 3 [53, 54] (fun b_ => [(55, iteV b_ (.int .u8 a2 : Value) undef), (56, iteV b_ (.bool (decide (a2 = 112)) : Value) undef), (57, .bool (b_ && (decide (a2 = 112))))]) rfl (fun hb42 hq43 => oS [(55, .int .u8 a2), (56, .bool (decide (a2 = 112))), (57, .bool (decide (a2 = 112)))] rfl (hq43)) (fun hb44 hq45 => oS [(55, undef), (56, undef), (57, .bool false)] rfl (hq45)) ?_
 refine oZ [(47, .bool (((decide (x4 = 0)) && (x6.toList == (⟨#[33]⟩ : ByteArray).toList)) && (decide (a2 = 112))))] ?_
 refine oE ?_
 refine cwp_condB (((decide (x4 = 0)) && (x6.toList == (⟨#[33]⟩ : ByteArray).toList)) && (decide (a2 = 112))) (by kernel_rfl) (fun hc46 => ?_) (fun hc46 => ?_)
 · replace hM := ifT hc46 hM
   refine cwp_region ?_
   refine oZ [(58, .pointer a1)] ?_
   refine oG (hpCallE 118 #[.pointer a1] (by kernel_rfl) (vt_Screen_soft_ok a1 _ h3 hM) ?_)
   clear hM
   rintro _ h47 ⟨rfl, hM⟩
   refine owp_nil (blockE_n ?_)
   exact end_ (.tuple #[]) (by kernel_rfl) ⟨rfl, hM⟩
 replace hM := ifF hc46 hM
 refine cR ?_
 refine oZ [(61, .int .u8 x4), (62, .bool (decide (x4 = 0))), (63, .bool (decide (x4 = 0)))] ?_
 refine oB (decide (x4 = 0)) 3 [62, 63] (fun b_ => [(64, iteV b_ (.string x6 : Value) undef), (65, iteV b_ (.bool (x6.toList == (⟨#[]⟩ : ByteArray).toList) : Value) undef), (66, .bool (b_ && (x6.toList == (⟨#[]⟩ : ByteArray).toList)))]) rfl (fun hb48 hq49 => oS [(64, .string x6), (65, .bool (x6.toList == (⟨#[]⟩ : ByteArray).toList)), (66, .bool (x6.toList == (⟨#[]⟩ : ByteArray).toList))] rfl (hq49)) (fun hb50 hq51 => oS [(64, undef), (65, undef), (66, .bool false)] rfl (hq51)) ?_
 refine oZ [(60, .bool ((decide (x4 = 0)) && (x6.toList == (⟨#[]⟩ : ByteArray).toList)))] ?_
 refine oE ?_
 refine cwp_condB ((decide (x4 = 0)) && (x6.toList == (⟨#[]⟩ : ByteArray).toList)) (by kernel_rfl) (fun hc52 => ?_) (fun hc52 => ?_)
 · replace hM := ifT hc52 hM
   refine cwp_region ?_
   refine oZ [(67, .pointer a1), (68, .int .u8 a2), (69, .slice x5 x5n x5c)] ?_
   refine oG (hpCallE 119 #[.pointer a1, .int .u8 a2, .slice x5 x5n x5c] (by kernel_rfl) (vt_Screen_plain_ok a1 a2 x5 x5n x5c _ h3 hM) ?_)
   clear hM
   rintro _ h53 ⟨rfl, hM⟩
   refine owp_nil (blockE_n ?_)
   exact end_ (.tuple #[]) (by kernel_rfl) ⟨rfl, hM⟩
 replace hM := ifF hc52 hM
 refine cwp_skip (blockE_n ?_)
 exact end_ (.tuple #[]) (by kernel_rfl) ⟨rfl, hM⟩
/- (*mullion/vt.Screen).sequence -/
def vt_Screen_sequence (a1 : Option Addr) (a2 : Int) (K : Heap → Prop) (h : Heap) : Prop :=
 if a2 < 32 then
  vt_Screen_does a1 a2 (fun  h4 =>
    K h4) h
 else
 if a2 < 64 then
  vt_Screen_gather a1 a2 (fun  h6 =>
    K h6) h
 else
 if a2 < 127 then
  nz a1 fun p8 =>
  stN (p8.add 31) [.int .i64 0] 0 h fun h9 =>
  ldB h9 (p8.add 33) fun x10 =>
  if (!x10) = true then
   vt_Screen_controlled (some p8) a2 (fun  h14 =>
     K h14) h9
  else
  K h9
 else
 if 128 ≤ a2 then
  nz a1 fun p16 =>
  stN (p16.add 31) [.int .i64 0] 0 h fun h17 =>
  vt_Screen_ground (some p16) a2 (fun  h18 =>
    K h18) h17
 else
 K h
theorem vt_Screen_sequence_ok (a1 : Option Addr) (a2 : Int) (K : Heap → Prop) (h : Heap) (hM : vt_Screen_sequence a1 a2 K h) : CallsH Tryz.prog 62 #[.pointer a1, .int .u8 a2] (fun v h' => v = .tuple #[] ∧ K h') h := by
 unfold vt_Screen_sequence at hM
 refine callsH_intro (n := 39) Tryz.func62 rfl rfl (by kernel_rfl) ?_
 refine cwp_block (cR ?_)
 refine oZ [(5, .int .u8 a2), (6, .bool (decide (a2 < 32))), (4, .bool (decide (a2 < 32)))] ?_
 refine oE ?_
 refine cwp_condD (a2 < 32) (by kernel_rfl) (fun hc3 => ?_) (fun hc3 => ?_)
 · replace hM := ifT hc3 hM
   refine cwp_region ?_
   refine oZ [(7, .pointer a1), (8, .int .u8 a2)] ?_
   refine oG (hpCallE 86 #[.pointer a1, .int .u8 a2] (by kernel_rfl) (vt_Screen_does_ok a1 a2 _ h hM) ?_)
   clear hM
   rintro _ h4 ⟨rfl, hM⟩
   refine owp_nil (blockE_n ?_)
   exact end_ (.tuple #[]) (by kernel_rfl) ⟨rfl, hM⟩
 replace hM := ifF hc3 hM
 refine cR ?_
 refine oZ [(11, .int .u8 a2), (12, .bool (decide (a2 < 64))), (10, .bool (decide (a2 < 64)))] ?_
 refine oE ?_
 refine cwp_condD (a2 < 64) (by kernel_rfl) (fun hc5 => ?_) (fun hc5 => ?_)
 · replace hM := ifT hc5 hM
   refine cwp_region ?_
   refine oZ [(13, .pointer a1), (14, .int .u8 a2)] ?_
   refine oG (hpCallE 87 #[.pointer a1, .int .u8 a2] (by kernel_rfl) (vt_Screen_gather_ok a1 a2 _ h hM) ?_)
   clear hM
   rintro _ h6 ⟨rfl, hM⟩
   refine owp_nil (blockE_n ?_)
   exact end_ (.tuple #[]) (by kernel_rfl) ⟨rfl, hM⟩
 replace hM := ifF hc5 hM
 refine cR ?_
 refine oZ [(17, .int .u8 a2), (18, .bool (decide (a2 < 127))), (16, .bool (decide (a2 < 127)))] ?_
 refine oE ?_
 refine cwp_condD (a2 < 127) (by kernel_rfl) (fun hc7 => ?_) (fun hc7 => ?_)
 · replace hM := ifT hc7 hM
   refine cR ?_
   refine oZ [(19, .pointer a1)] ?_
   obtain ⟨p8, rfl, hM⟩ := hM
   refine owp_rdG (.pointer (some p8)) rfl (by kernel_rfl) (by kernel_rfl) ?_
   refine oZ [(21, .pointer (some (p8.add 31)))] ?_
   refine oT (p8.add 31) [.int .i64 0] hM ?_
   clear hM
   intro h9 hM
   refine oE (cR ?_)
   refine oZ [(22, .pointer (some p8)), (23, .pointer (some p8)), (24, .pointer (some (p8.add 33)))] ?_
   obtain ⟨x10, hc11, hM⟩ := hM
   refine oL (.bool x10) (p8.add 33) hc11 ?_
   refine oZ [(26, .bool (!x10))] ?_
   refine oE ?_
   refine cwp_condB (!x10) (by kernel_rfl) (fun hc13 => ?_) (fun hc13 => ?_)
   · replace hM := ifT hc13 hM
     refine cwp_region ?_
     refine oZ [(27, .pointer (some p8)), (28, .int .u8 a2)] ?_
     refine oG (hpCallE 89 #[.pointer (some p8), .int .u8 a2] (by kernel_rfl) (vt_Screen_controlled_ok (some p8) a2 _ h9 hM) ?_)
     clear hM
     rintro _ h14 ⟨rfl, hM⟩
     refine owp_nil (blockE_n ?_)
     exact end_ (.tuple #[]) (by kernel_rfl) ⟨rfl, hM⟩
   replace hM := ifF hc13 hM
   refine cwp_skip (blockE_n ?_)
   exact end_ (.tuple #[]) (by kernel_rfl) ⟨rfl, hM⟩
 replace hM := ifF hc7 hM
 refine cR ?_
 refine oZ [(31, .int .u8 a2), (32, .bool (decide (128 ≤ a2))), (30, .bool (decide (128 ≤ a2)))] ?_
 refine oE ?_
 refine cwp_condD (128 ≤ a2) (by kernel_rfl) (fun hc15 => ?_) (fun hc15 => ?_)
 · replace hM := ifT hc15 hM
   refine cR ?_
   refine oZ [(33, .pointer a1)] ?_
   obtain ⟨p16, rfl, hM⟩ := hM
   refine owp_rdG (.pointer (some p16)) rfl (by kernel_rfl) (by kernel_rfl) ?_
   refine oZ [(35, .pointer (some (p16.add 31)))] ?_
   refine oT (p16.add 31) [.int .i64 0] hM ?_
   clear hM
   intro h17 hM
   refine oE (cwp_region ?_)
   refine oZ [(36, .pointer (some p16)), (37, .int .u8 a2)] ?_
   refine oG (hpCallE 60 #[.pointer (some p16), .int .u8 a2] (by kernel_rfl) (vt_Screen_ground_ok (some p16) a2 _ h17 hM) ?_)
   clear hM
   rintro _ h18 ⟨rfl, hM⟩
   refine owp_nil (blockE_n ?_)
   exact end_ (.tuple #[]) (by kernel_rfl) ⟨rfl, hM⟩
 replace hM := ifF hc15 hM
 refine cwp_skip (blockE_n ?_)
 exact end_ (.tuple #[]) (by kernel_rfl) ⟨rfl, hM⟩
/- (*mullion/vt.Screen).byte -/
def vt_Screen_byte_j0 (Kn : Option Addr → Int → Heap → Prop) (Kr : Heap → Prop) (y4 : Option Addr) (y5 : Int) (y6 : Int) (y7 : Bool) (h : Heap) : Prop :=
 if y7 = true then
  vt_Screen_broken y4 (fun  h9 =>
   nz y4 fun p10 =>
   stN (p10.add 31) [.int .i64 0] 0 h9 fun h11 =>
    Kr  h11) h
 else
 if y6 = 27 then
  vt_Screen_broken y4 (fun  h13 =>
   nz y4 fun p14 =>
   ldI h13 .i64 (p14.add 31) fun x15 =>
   if x15 = 3 then
    vt_Screen_named (some p14) (fun  h19 =>
     vt_Screen_begin (some p14) 1 (fun  h20 =>
        Kr  h20) h19) h13
   else
   vt_Screen_begin (some p14) 1 (fun  h21 =>
      Kr  h21) h13) h
 else
 Kn y4 y5 h
theorem vt_Screen_byte_j0_ok {Q : Exit → Env → Heap → Prop} (Kn : Option Addr → Int → Heap → Prop) (hKn : ∀ (z26 : Option Addr) (z27 : Int) (b : Env) (h : Heap), Kn z26 z27 h → Q .normal (upd (upd b 0 (.pointer z26)) 1 (.int .u8 z27)) h) (Kr : Heap → Prop) (hKr : ∀  (b : Env) (h : Heap), Kr  h → Q .ret b h) (y4 : Option Addr) (y5 : Int) (y6 : Int) (y7 : Bool) (b : Env) (h : Heap) (hM : vt_Screen_byte_j0 Kn Kr y4 y5 y6 y7 h) : cwp Tryz.prog (partC Tryz.f38 [0, 1, 0, 1]) 78 Q (upd (upd (upd (upd b 0 (.pointer y4)) 1 (.int .u8 y5)) 4 (.int .u8 y6)) 5 (.bool y7)) h := by
  unfold vt_Screen_byte_j0 at hM
  refine cwp_part rfl ?_
  refine cwp_condB y7 (by kernel_rfl) (fun hc8 => ?_) (fun hc8 => ?_)
  · replace hM := ifT hc8 hM
    refine cR ?_
    refine oZ [(8, .pointer y4)] ?_
    refine oG (hpCallE 57 #[.pointer y4] (by kernel_rfl) (vt_Screen_broken_ok y4 _ h hM) ?_)
    clear hM
    rintro _ h9 ⟨rfl, hM⟩
    refine oE (cR ?_)
    refine oZ [(10, .pointer y4)] ?_
    obtain ⟨p10, rfl, hM⟩ := hM
    refine owp_rdG (.pointer (some p10)) rfl (by kernel_rfl) (by kernel_rfl) ?_
    refine oZ [(12, .pointer (some (p10.add 31)))] ?_
    refine oT (p10.add 31) [.int .i64 0] hM ?_
    clear hM
    intro h11 hM
    refine oE (cwp_ret ?_)
    exact hKr  _ _ hM
  replace hM := ifF hc8 hM
  refine cR ?_
  refine oZ [(14, .bool (decide (y6 = 27))), (13, .bool (decide (y6 = 27)))] ?_
  refine oE ?_
  refine cwp_condD (y6 = 27) (by kernel_rfl) (fun hc12 => ?_) (fun hc12 => ?_)
  · replace hM := ifT hc12 hM
    refine cR ?_
    refine oZ [(15, .pointer y4)] ?_
    refine oG (hpCallE 57 #[.pointer y4] (by kernel_rfl) (vt_Screen_broken_ok y4 _ h hM) ?_)
    clear hM
    rintro _ h13 ⟨rfl, hM⟩
    refine oE (cwp_seq (cR ?_))
    refine oZ [(17, .pointer y4)] ?_
    obtain ⟨p14, rfl, hM⟩ := hM
    refine owp_rdG (.pointer (some p14)) rfl (by kernel_rfl) (by kernel_rfl) ?_
    refine oZ [(19, .pointer (some (p14.add 31)))] ?_
    obtain ⟨x15, hc16, hM⟩ := hM
    refine oL (.int .i64 x15) (p14.add 31) hc16 ?_
    refine oZ [(21, .bool (decide (x15 = 3)))] ?_
    refine oE ?_
    refine cwp_condD (x15 = 3) (by kernel_rfl) (fun hc18 => ?_) (fun hc18 => ?_)
    · replace hM := ifT hc18 hM
      refine cwp_region ?_
      refine oZ [(22, .pointer (some p14))] ?_
      refine oG (hpCallE 58 #[.pointer (some p14)] (by kernel_rfl) (vt_Screen_named_ok (some p14) _ h13 hM) ?_)
      clear hM
      rintro _ h19 ⟨rfl, hM⟩
      refine oE (cR ?_)
      refine oZ [(24, .pointer (some p14))] ?_
      refine oG (hpCallE 59 #[.pointer (some p14), .int .i64 1] (by kernel_rfl) (vt_Screen_begin_ok (some p14) 1 _ h19 hM) ?_)
      clear hM
      rintro _ h20 ⟨rfl, hM⟩
      refine oE (cwp_ret ?_)
      exact hKr  _ _ hM
    replace hM := ifF hc18 hM
    refine cwp_skip (thenE_n (cR ?_))
    refine oZ [(24, .pointer (some p14))] ?_
    refine oG (hpCallE 59 #[.pointer (some p14), .int .i64 1] (by kernel_rfl) (vt_Screen_begin_ok (some p14) 1 _ h13 hM) ?_)
    clear hM
    rintro _ h21 ⟨rfl, hM⟩
    refine oE (cwp_ret ?_)
    exact hKr  _ _ hM
  replace hM := ifF hc12 hM
  refine cwp_skip ?_
  exact q_at (Q := Q .normal) 0 (.pointer y4) (by kernel_rfl) (q_at (Q := Q .normal) 1 (.int .u8 y5) (by kernel_rfl) (hKn y4 y5 _ _ hM))
def vt_Screen_byte_j1 (Kn : Heap → Prop) (y31 : Option Addr) (y32 : Int) (h : Heap) : Prop :=
 nz y31 fun p33 =>
 ldI h .i64 (p33.add 31) fun x34 =>
 if x34 = 0 then
  vt_Screen_ground (some p33) y32 (fun  h38 =>
    Kn  h38) h
 else
 if x34 = 1 then
  vt_Screen_escape (some p33) y32 (fun  h40 =>
    Kn  h40) h
 else
 if x34 = 2 then
  vt_Screen_sequence (some p33) y32 (fun  h42 =>
    Kn  h42) h
 else
 if x34 = 3 then
  if y32 = 7 then
   vt_Screen_named (some p33) (fun  h45 =>
    stN (p33.add 31) [.int .i64 0] 0 h45 fun h46 =>
     Kn  h46) h
  else
  if ((decide (32 ≤ y32)) && (!decide (y32 = 127))) = true then
   ldL h (p33.add 32) fun x55 x55n x55c =>
   if (x55n : Int) < 130 then
    ldL h (p33.add 32) fun x59 x59n x59c =>
    gap h fun h63 =>
    appH h63 5 1 [.int .u8 0] x59 x59n x59c [.int .u8 y32] 1 fun s66 s66c h65 =>
    stN (p33.add 32) [.slice s66 (x59n + 1) s66c] 0 h65 fun h67 =>
    Kn  h67
   else
   Kn  h
  else
  Kn  h
 else
 Kn  h
theorem vt_Screen_byte_j1_ok {Q : Exit → Env → Heap → Prop} (Kn : Heap → Prop) (hKn : ∀  (b : Env) (h : Heap), Kn  h → Q .normal b h) (y31 : Option Addr) (y32 : Int) (b : Env) (h : Heap) (hM : vt_Screen_byte_j1 Kn y31 y32 h) : cwp Tryz.prog (partC Tryz.f38 [1]) 78 Q (upd (upd b 0 (.pointer y31)) 1 (.int .u8 y32)) h := by
  unfold vt_Screen_byte_j1 at hM
  refine cwp_part rfl ?_
  refine cR ?_
  refine oZ [(26, .pointer y31)] ?_
  obtain ⟨p33, rfl, hM⟩ := hM
  refine owp_rdG (.pointer (some p33)) rfl (by kernel_rfl) (by kernel_rfl) ?_
  refine oZ [(28, .pointer (some (p33.add 31)))] ?_
  obtain ⟨x34, hc35, hM⟩ := hM
  refine oL (.int .i64 x34) (p33.add 31) hc35 ?_
  refine oE (cwp_block (cR ?_))
  refine oZ [(31, .bool (decide (x34 = 0))), (30, .bool (decide (x34 = 0)))] ?_
  refine oE ?_
  refine cwp_condD (x34 = 0) (by kernel_rfl) (fun hc37 => ?_) (fun hc37 => ?_)
  · replace hM := ifT hc37 hM
    refine cwp_region ?_
    refine oZ [(32, .pointer (some p33)), (33, .int .u8 y32)] ?_
    refine oG (hpCallE 60 #[.pointer (some p33), .int .u8 y32] (by kernel_rfl) (vt_Screen_ground_ok (some p33) y32 _ h hM) ?_)
    clear hM
    rintro _ h38 ⟨rfl, hM⟩
    refine owp_nil (blockE_n ?_)
    exact hKn  _ _ hM
  replace hM := ifF hc37 hM
  refine cR ?_
  refine oZ [(36, .bool (decide (x34 = 1))), (35, .bool (decide (x34 = 1)))] ?_
  refine oE ?_
  refine cwp_condD (x34 = 1) (by kernel_rfl) (fun hc39 => ?_) (fun hc39 => ?_)
  · replace hM := ifT hc39 hM
    refine cwp_region ?_
    refine oZ [(37, .pointer (some p33)), (38, .int .u8 y32)] ?_
    refine oG (hpCallE 61 #[.pointer (some p33), .int .u8 y32] (by kernel_rfl) (vt_Screen_escape_ok (some p33) y32 _ h hM) ?_)
    clear hM
    rintro _ h40 ⟨rfl, hM⟩
    refine owp_nil (blockE_n ?_)
    exact hKn  _ _ hM
  replace hM := ifF hc39 hM
  refine cR ?_
  refine oZ [(41, .bool (decide (x34 = 2))), (40, .bool (decide (x34 = 2)))] ?_
  refine oE ?_
  refine cwp_condD (x34 = 2) (by kernel_rfl) (fun hc41 => ?_) (fun hc41 => ?_)
  · replace hM := ifT hc41 hM
    refine cwp_region ?_
    refine oZ [(42, .pointer (some p33)), (43, .int .u8 y32)] ?_
    refine oG (hpCallE 62 #[.pointer (some p33), .int .u8 y32] (by kernel_rfl) (vt_Screen_sequence_ok (some p33) y32 _ h hM) ?_)
    clear hM
    rintro _ h42 ⟨rfl, hM⟩
    refine owp_nil (blockE_n ?_)
    exact hKn  _ _ hM
  replace hM := ifF hc41 hM
  refine cR ?_
  refine oZ [(46, .bool (decide (x34 = 3))), (45, .bool (decide (x34 = 3)))] ?_
  refine oE ?_
  refine cwp_condD (x34 = 3) (by kernel_rfl) (fun hc43 => ?_) (fun hc43 => ?_)
  · replace hM := ifT hc43 hM
    refine cR ?_
    refine oZ [(47, .int .u8 y32), (48, .bool (decide (y32 = 7)))] ?_
    refine oE ?_
    refine cwp_condD (y32 = 7) (by kernel_rfl) (fun hc44 => ?_) (fun hc44 => ?_)
    · replace hM := ifT hc44 hM
      refine cR ?_
      refine oZ [(49, .pointer (some p33))] ?_
      refine oG (hpCallE 58 #[.pointer (some p33)] (by kernel_rfl) (vt_Screen_named_ok (some p33) _ h hM) ?_)
      clear hM
      rintro _ h45 ⟨rfl, hM⟩
      refine oE (cwp_region ?_)
      refine oZ [(51, .pointer (some p33)), (52, .pointer (some p33)), (53, .pointer (some (p33.add 31)))] ?_
      refine oT (p33.add 31) [.int .i64 0] hM ?_
      clear hM
      intro h46 hM
      refine owp_nil (blockE_n ?_)
      exact hKn  _ _ hM
    replace hM := ifF hc44 hM
    refine cR ?_
    refine oZ [(54, .int .u8 y32), (55, .bool (decide (32 ≤ y32))), (56, .bool (decide (32 ≤ y32)))] ?_
    refine oB (decide (32 ≤ y32)) 3 [55, 56] (fun b_ => [(57, iteV b_ (.int .u8 y32 : Value) undef), (58, iteV b_ (.bool (!decide (y32 = 127)) : Value) undef), (59, .bool (b_ && (!decide (y32 = 127))))]) rfl (fun hb47 hq48 => oS [(57, .int .u8 y32), (58, .bool (!decide (y32 = 127))), (59, .bool (!decide (y32 = 127)))] rfl (hq48)) (fun hb49 hq50 => oS [(57, undef), (58, undef), (59, .bool false)] rfl (hq50)) ?_
    refine oZ [(60, .bool ((decide (32 ≤ y32)) && (!decide (y32 = 127))))] ?_
    by_cases hc54 : ((decide (32 ≤ y32)) && (!decide (y32 = 127))) = true
    · refine oA 59 true ((decide (32 ≤ y32)) && (!decide (y32 = 127))) (by rw [hc54]) ?_
      refine oA 60 true ((decide (32 ≤ y32)) && (!decide (y32 = 127))) (by rw [hc54]) ?_
      replace hM := ifT hc54 hM
      refine oZ [(61, .pointer (some p33)), (62, .pointer (some p33)), (63, .pointer (some (p33.add 32)))] ?_
      obtain ⟨x55, x55n, x55c, hc56, hM⟩ := hM
      refine oL (.slice x55 x55n x55c) (p33.add 32) hc56 ?_
      refine oZ [(65, .int .i64 (x55n : Int)), (66, .bool (decide ((x55n : Int) < 130))), (67, .bool (decide ((x55n : Int) < 130)))] ?_
      refine oE ?_
      refine cwp_condD ((x55n : Int) < 130) (by kernel_rfl) (fun hc58 => ?_) (fun hc58 => ?_)
      · replace hM := ifT hc58 hM
        refine cwp_region ?_
        refine oZ [(68, .pointer (some p33)), (69, .pointer (some p33)), (70, .pointer (some p33)), (71, .pointer (some (p33.add 32)))] ?_
        obtain ⟨x59, x59n, x59c, hc60, hM⟩ := hM
        refine oL (.slice x59 x59n x59c) (p33.add 32) hc60 ?_
        refine oZ [(73, .int .u8 y32)] ?_
        refine oG (hpNewS #[.int .u8 y32] 5 1 (fun _ => by kernel_rfl) ?_)
        intro b62 h63 hN64
        replace hM := hM _ (New.ext hN64)
        refine oG (hpApp (t := 77) (ty := 77) (et := 5) (zv := .int .u8 0) (sz := 1) (by_ := 1) (base := x59) (n' := x59n) (c := x59c) (xb := (some ⟨b62, 0, none⟩)) (m := 1) (xc := 1) (new := [.int .u8 y32]) (fun _ => by kernel_rfl) (by kernel_rfl) (by kernel_rfl) [.int .u8 0] rfl rfl (by decide) rfl rfl ⟨Blk.cell (New.blk hN64) 0 (by kernel_rfl), trivial⟩ hM ?_)
        clear hM
        intro s66 s66c h65 hM
        refine oZ [(76, .pointer (some p33)), (77, .pointer (some (p33.add 32)))] ?_
        refine oT (p33.add 32) [.slice s66 (x59n + 1) s66c] hM ?_
        clear hM
        intro h67 hM
        refine owp_nil (blockE_n ?_)
        exact hKn  _ _ hM
      replace hM := ifF hc58 hM
      refine cwp_skip (blockE_n ?_)
      exact hKn  _ _ hM
    refine oA 59 false ((decide (32 ≤ y32)) && (!decide (y32 = 127))) (by rw [Bool.eq_false_iff.2 hc54]) ?_
    refine oA 60 false ((decide (32 ≤ y32)) && (!decide (y32 = 127))) (by rw [Bool.eq_false_iff.2 hc54]) ?_
    replace hM := ifF hc54 hM
    refine oZ [(61, undef), (62, undef), (63, undef), (64, undef), (65, undef), (66, undef), (67, .bool false)] ?_
    refine oE ?_
    refine cwp_cond (t := false) (by kernel_rfl) (fun hx_ => ?_) (fun hx_ => ?_)
    all_goals first | (cases hx_; done) | skip
    refine cwp_skip (blockE_n ?_)
    exact hKn  _ _ hM
  replace hM := ifF hc43 hM
  refine cwp_skip (blockE_n ?_)
  exact hKn  _ _ hM
def vt_Screen_byte (a1 : Option Addr) (a2 : Int) (K : Heap → Prop) (h : Heap) : Prop :=
 if a2 = 24 then
  vt_Screen_byte_j0
   (fun z28 z29 h30 =>
     vt_Screen_byte_j1
      (fun  h68 =>
            K h68) z28 z29 h30)
   (fun  h72 =>
       K h72) a1 a2 a2 (decide (a2 = 24)) h
 else
 vt_Screen_byte_j0
  (fun z75 z76 h77 =>
    vt_Screen_byte_j1
     (fun  h78 =>
           K h78) z75 z76 h77)
  (fun  h82 =>
      K h82) a1 a2 a2 (decide (a2 = 26)) h
theorem vt_Screen_byte_ok (a1 : Option Addr) (a2 : Int) (K : Heap → Prop) (h : Heap) (hM : vt_Screen_byte a1 a2 K h) : CallsH Tryz.prog 38 #[.pointer a1, .int .u8 a2] (fun v h' => v = .tuple #[] ∧ K h') h := by
 unfold vt_Screen_byte at hM
 refine callsH_intro (n := 78) Tryz.func38 rfl rfl (by kernel_rfl) ?_
 refine cwp_seq (cR ?_)
 refine oZ [(4, .int .u8 a2)] ?_
 refine oE (cwp_block (cwp_seq (cR ?_)))
 refine oZ [(6, .bool (decide (a2 = 24))), (5, .bool (decide (a2 = 24)))] ?_
 refine oE ?_
 refine cwp_condD (a2 = 24) (by kernel_rfl) (fun hc3 => ?_) (fun hc3 => ?_)
 · replace hM := ifT hc3 hM
   refine cwp_skip (thenE_n ?_)
   refine cwp_of_part (fn := Tryz.f38) (p := [0, 1, 0, 1]) (by kernel_rfl) (cA 0 (.pointer a1) (cA 1 (.int .u8 a2) (cA 4 (.int .u8 a2) (cA 5 (.bool (decide (a2 = 24))) (vt_Screen_byte_j0_ok _ ?_ _ ?_ a1 a2 a2 (decide (a2 = 24)) _ _ hM)))))
   · intro z28 z29 b71 h30 hM
     refine blockE_n (thenE_n ?_)
     refine cwp_of_part (fn := Tryz.f38) (p := [1]) (by kernel_rfl) (cA 0 (.pointer z28) (cA 1 (.int .u8 z29) (vt_Screen_byte_j1_ok _ ?_ z28 z29 _ _ hM)))
     · intro  b69 h68 hM
       exact end_ (.tuple #[]) (by kernel_rfl) ⟨rfl, hM⟩
   · intro  b73 h72 hM
     refine blockE_r (thenE_r ?_)
     exact ret_ (.tuple #[]) (by kernel_rfl) ⟨rfl, hM⟩
 replace hM := ifF hc3 hM
 refine cwp_region ?_
 refine oZ [(7, .bool (decide (a2 = 26))), (5, .bool (decide (a2 = 26)))] ?_
 refine oE ?_
 refine cwp_of_part (fn := Tryz.f38) (p := [0, 1, 0, 1]) (by kernel_rfl) (cA 0 (.pointer a1) (cA 1 (.int .u8 a2) (cA 4 (.int .u8 a2) (cA 5 (.bool (decide (a2 = 26))) (vt_Screen_byte_j0_ok _ ?_ _ ?_ a1 a2 a2 (decide (a2 = 26)) _ _ hM)))))
 · intro z75 z76 b81 h77 hM
   refine blockE_n (thenE_n ?_)
   refine cwp_of_part (fn := Tryz.f38) (p := [1]) (by kernel_rfl) (cA 0 (.pointer z75) (cA 1 (.int .u8 z76) (vt_Screen_byte_j1_ok _ ?_ z75 z76 _ _ hM)))
   · intro  b79 h78 hM
     exact end_ (.tuple #[]) (by kernel_rfl) ⟨rfl, hM⟩
 · intro  b83 h82 hM
   refine blockE_r (thenE_r ?_)
   exact ret_ (.tuple #[]) (by kernel_rfl) ⟨rfl, hM⟩
/- (*mullion/vt.Screen).Feed -/
def vt_Screen_Feed_l0 (K0 : Heap → Prop) : Nat → Option Addr → ByteArray → Int → Int → Heap → Prop
  | 0, _, _, _, _, _ => False
  | k + 1, y3, y4, y5, y6, h =>
  if y6 < y5 then
   0 ≤ y6 ∧
   y6 < (y4.size : Int) ∧
   vt_Screen_byte y3 (byteAt y4 y6) (fun  h10 =>
     vt_Screen_Feed_l0 K0 k y3 y4 y5 (IntKind.wrap .i64 (y6 + 1)) h10) h
  else
  K0  h
theorem vt_Screen_Feed_l0_ok {Q : Exit → Env → Heap → Prop} (K0 : Heap → Prop) (hK0 : ∀  (b : Env) (h : Heap), K0  h → Q (.exit 0) b h) : ∀ (k : Nat) (y3 : Option Addr) (y4 : ByteArray) (y5 : Int) (y6 : Int) (b : Env) (h : Heap) (hM : vt_Screen_Feed_l0 K0 k y3 y4 y5 y6 h), lwp Tryz.prog (partC Tryz.f12 [1, 0, 0]) 16 Q k (upd (upd (upd (upd b 0 (.pointer y3)) 1 (.string y4)) 6 (.int .i64 y5)) 7 (.int .i64 y6)) h := by
  intro k
  induction k with
  | zero => intro y3 y4 y5 y6 b h hM; exact (show False from hM).elim
  | succ k ih =>
    intro y3 y4 y5 y6 b h hM
    unfold vt_Screen_Feed_l0 at hM
    refine lwp_succ (cwp_part rfl ?_)
    refine cR ?_
    refine oZ [(8, .bool (decide (y6 < y5)))] ?_
    refine oE (cwp_seq ?_)
    refine cwp_condD (y6 < y5) (by kernel_rfl) (fun hc7 => ?_) (fun hc7 => ?_)
    · replace hM := ifT hc7 hM
      refine cwp_skip (thenE_n (cwp_seq (cwp_block (cR ?_))))
      refine oZ [(9, .int .i64 y6), (4, .int .i64 y6)] ?_
      refine oE (cwp_region ?_)
      refine oZ [(10, .pointer y3), (11, .string y4), (12, .int .i64 y6)] ?_
      obtain ⟨hc8, hM⟩ := hM
      obtain ⟨hc9, hM⟩ := hM
      refine owp_rdG (.int .u8 (byteAt y4 y6)) rfl (by kernel_rfl) (rd_ixStr (P := Tryz.prog) (h := h) (t := 9) (s := y4) (k := .i64) (i := y6) (by kernel_rfl) hc8 hc9 (by kernel_rfl)) ?_
      refine oG (hpCallE 38 #[.pointer y3, .int .u8 (byteAt y4 y6)] (by kernel_rfl) (vt_Screen_byte_ok y3 (byteAt y4 y6) _ h hM) ?_)
      clear hM
      rintro _ h10 ⟨rfl, hM⟩
      refine owp_nil (blockE_n (thenE_n (cwp_region ?_)))
      refine oZ [(15, .int .i64 (IntKind.wrap .i64 (y6 + 1))), (7, .int .i64 (IntKind.wrap .i64 (y6 + 1)))] ?_
      refine owp_nil ?_
      exact lA 0 (.pointer y3) (lA 1 (.string y4) (lA 6 (.int .i64 y5) (lA 7 (.int .i64 (IntKind.wrap .i64 (y6 + 1))) (ih y3 y4 y5 (IntKind.wrap .i64 (y6 + 1)) _ _ hM))))
    replace hM := ifF hc7 hM
    refine cwp_exit (thenE_x ?_)
    exact hK0  _ _ hM
def vt_Screen_Feed (a1 : Option Addr) (a2 : ByteArray) (K : Heap → Prop) (h : Heap) : Prop :=
 ∃ k13, vt_Screen_Feed_l0
  (fun  h11 =>
      K h11) k13 a1 a2 (a2.size : Int) 0 h
theorem vt_Screen_Feed_ok (a1 : Option Addr) (a2 : ByteArray) (K : Heap → Prop) (h : Heap) (hM : vt_Screen_Feed a1 a2 K h) : CallsH Tryz.prog 12 #[.pointer a1, .string a2] (fun v h' => v = .tuple #[] ∧ K h') h := by
 unfold vt_Screen_Feed at hM
 refine callsH_intro (n := 16) Tryz.func12 rfl rfl (by kernel_rfl) ?_
 refine cR ?_
 refine oZ [(5, .string a2), (6, .int .i64 (a2.size : Int)), (7, .int .i64 0)] ?_
 refine oE (cwp_block ?_)
 obtain ⟨k_, hM⟩ := hM
 refine cwp_loop k_ (lwp_of_part (fn := Tryz.f12) (p := [1, 0, 0]) (by kernel_rfl) (lA 0 (.pointer a1) (lA 1 (.string a2) (lA 6 (.int .i64 (a2.size : Int)) (lA 7 (.int .i64 0) (vt_Screen_Feed_l0_ok _ ?_ k_ a1 a2 (a2.size : Int) 0 _ _ hM))))))
 · intro  b12 h11 hM
   refine blockE_h ?_
   exact end_ (.tuple #[]) (by kernel_rfl) ⟨rfl, hM⟩
/- (*mullion/vt.Screen).Picture -/
def vt_Screen_Picture_l0 (K0 : Nat → Nat → Heap → Prop) : Nat → Nat → Nat → Option Addr → Nat → Nat → Int → Int → Heap → Prop
  | 0, _, _, _, _, _, _, _, _ => False
  | k + 1, y46, y47, y48, y48n, y48c, y49, y50, h =>
  if y50 < y49 then
   nz y48 fun p54 =>
   0 ≤ y50 ∧
   y50 < (y48n : Int) ∧
   ldL h (p54.add ((y50).toNat * 1)) fun x55 x55n x55c =>
   ldL h ⟨y47, 2, none⟩ fun x58 x58n x58c =>
   appS h 52 48 [.string (⟨#[]⟩ : ByteArray), .int .i64 0, .int .i64 0, .int .i64 0, .int .i64 0] x58 x58n x58c x55 x55n fun s62 s62c h61 =>
   stN ⟨y47, 2, none⟩ [.slice s62 (x58n + x55n) s62c] 0 h61 fun h64 =>
   vt_Screen_Picture_l0 K0 k y46 y47 (some p54) y48n y48c y49 (IntKind.wrap .i64 (y50 + 1)) h64
  else
  K0 y46 y47 h
theorem vt_Screen_Picture_l0_ok {Q : Exit → Env → Heap → Prop} (K0 : Nat → Nat → Heap → Prop) (hK0 : ∀ (z69 : Nat) (z70 : Nat) (b : Env) (h : Heap), K0 z69 z70 h → Q (.exit 0) (upd (upd b 2 (.pointer (some ⟨z69, 0, none⟩))) 3 (.pointer (some ⟨z70, 0, none⟩))) h) : ∀ (k : Nat) (y46 : Nat) (y47 : Nat) (y48 : Option Addr) (y48n : Nat) (y48c : Nat) (y49 : Int) (y50 : Int) (b : Env) (h : Heap) (hM : vt_Screen_Picture_l0 K0 k y46 y47 y48 y48n y48c y49 y50 h), lwp Tryz.prog (partC Tryz.f13 [1, 1, 0, 1, 0, 0]) 50 Q k (upd (upd (upd (upd (upd b 2 (.pointer (some ⟨y46, 0, none⟩))) 3 (.pointer (some ⟨y47, 0, none⟩))) 37 (.slice y48 y48n y48c)) 38 (.int .i64 y49)) 39 (.int .i64 y50)) h := by
  intro k
  induction k with
  | zero => intro y46 y47 y48 y48n y48c y49 y50 b h hM; exact (show False from hM).elim
  | succ k ih =>
    intro y46 y47 y48 y48n y48c y49 y50 b h hM
    unfold vt_Screen_Picture_l0 at hM
    refine lwp_succ (cwp_part rfl ?_)
    refine cR ?_
    refine oZ [(40, .bool (decide (y50 < y49)))] ?_
    refine oE (cwp_seq ?_)
    refine cwp_condD (y50 < y49) (by kernel_rfl) (fun hc51 => ?_) (fun hc51 => ?_)
    · replace hM := ifT hc51 hM
      refine cwp_skip (thenE_n (cwp_seq (cwp_block (cR ?_))))
      obtain ⟨p54, rfl, hM⟩ := hM
      obtain ⟨hc52, hM⟩ := hM
      obtain ⟨hc53, hM⟩ := hM
      refine owp_rdG (.pointer (some (p54.add ((y50).toNat * 1)))) rfl (by kernel_rfl) (rd_ixS (P := Tryz.prog) (h := h) (t := 68) (el := 81) (sz := 1) (ad := p54) (len := y48n) (c := y48c) (k := .i64) (i := y50) (by kernel_rfl) (by kernel_rfl) hc52 hc53 (by kernel_rfl)) ?_
      obtain ⟨x55, x55n, x55c, hc56, hM⟩ := hM
      refine oL (.slice x55 x55n x55c) (p54.add ((y50).toNat * 1)) hc56 ?_
      refine oZ [(5, .slice x55 x55n x55c)] ?_
      refine oE (cwp_region ?_)
      refine oZ [(43, .pointer (some ⟨y47, 2, none⟩))] ?_
      obtain ⟨x58, x58n, x58c, hc59, hM⟩ := hM
      refine oL (.slice x58 x58n x58c) ⟨y47, 2, none⟩ hc59 ?_
      refine oZ [(45, .slice x55 x55n x55c)] ?_
      obtain ⟨nw63, nw631, nw632, nw633, hM⟩ := hM
      refine oG (hpApp2 (t2 := 81) (et2 := 52) (t := 34) (ty := 34) (et := 52) (zv := .agg #[.string (⟨#[]⟩ : ByteArray), .int .i64 0, .int .i64 0, .int .i64 0, .int .i64 0]) (sz := 5) (by_ := 48) (base := x58) (n' := x58n) (c := x58c) (xb := x55) (m := x55n) (xc := x55c) (new := nw63) (fun _ => by kernel_rfl) (by kernel_rfl) (by kernel_rfl) (by kernel_rfl) [.string (⟨#[]⟩ : ByteArray), .int .i64 0, .int .i64 0, .int .i64 0, .int .i64 0] rfl rfl (by decide) nw631 nw632 nw633 hM ?_)
      clear hM
      intro s62 s62c h61 hM
      refine oZ [(47, .pointer (some ⟨y47, 2, none⟩))] ?_
      refine oT ⟨y47, 2, none⟩ [.slice s62 (x58n + x55n) s62c] hM ?_
      clear hM
      intro h64 hM
      refine owp_nil (blockE_n (thenE_n (cwp_region ?_)))
      refine oZ [(48, .int .i64 (IntKind.wrap .i64 (y50 + 1))), (39, .int .i64 (IntKind.wrap .i64 (y50 + 1)))] ?_
      refine owp_nil ?_
      exact lA 2 (.pointer (some ⟨y46, 0, none⟩)) (lA 3 (.pointer (some ⟨y47, 0, none⟩)) (lA 37 (.slice (some p54) y48n y48c) (lA 38 (.int .i64 y49) (lA 39 (.int .i64 (IntKind.wrap .i64 (y50 + 1))) (ih y46 y47 (some p54) y48n y48c y49 (IntKind.wrap .i64 (y50 + 1)) _ _ hM)))))
    replace hM := ifF hc51 hM
    refine cwp_exit (thenE_x ?_)
    exact q_at (Q := Q (.exit 0)) 2 (.pointer (some ⟨y46, 0, none⟩)) (by kernel_rfl) (q_at (Q := Q (.exit 0)) 3 (.pointer (some ⟨y47, 0, none⟩)) (by kernel_rfl) (hK0 y46 y47 _ _ hM))
def vt_Screen_Picture (a1 : Option Addr) (K : Int → Int → Option Addr → Nat → Nat → Int → Int → Bool → ByteArray → Heap → Prop) (h : Heap) : Prop :=
 newB h #[.int .i64 0, .int .i64 0, .slice none 0 0, .int .i64 0, .int .i64 0, .bool false, .string (⟨#[]⟩ : ByteArray)] 36 fun b2 h3 =>
 nz a1 fun p5 =>
 ldI h3 .i64 p5 fun x6 =>
 ldI h3 .i64 (p5.add 1) fun x10 =>
 ldI h3 .i64 (p5.add 9) fun x14 =>
 ldI h3 .i64 (p5.add 10) fun x18 =>
 ldB h3 (p5.add 27) fun x22 =>
 ldS h3 (p5.add 28) fun x26 =>
 newB h3 #[.int .i64 0, .int .i64 0, .slice none 0 0, .int .i64 0, .int .i64 0, .bool false, .string (⟨#[]⟩ : ByteArray)] 36 fun b30 h31 =>
 (cellH h31 (p5.add 28) = some (.string x26) ∧ cellH h31 (p5.add 27) = some (.bool x22) ∧ cellH h31 (p5.add 10) = some (.int .i64 x18) ∧ cellH h31 (p5.add 9) = some (.int .i64 x14) ∧ cellH h31 (p5.add 1) = some (.int .i64 x10) ∧ cellH h31 p5 = some (.int .i64 x6)) ∧
 stN ⟨b30, 0, none⟩ [.int .i64 x6, .int .i64 x10, .slice none 0 0, .int .i64 x14, .int .i64 x18, .bool x22, .string x26] 0 h31 fun h39 =>
 vt_Screen_shown (some p5) (fun x41 h40 =>
  nz x41 fun p42 =>
  ldL h40 p42 fun x43 x43n x43c =>
  ∃ k118, vt_Screen_Picture_l0
   (fun z71 z72 h73 =>
     ldI h73 .i64 ⟨z72, 0, none⟩ fun x74 =>
     ldI h73 .i64 ⟨z72, 1, none⟩ fun x76 =>
     ldL h73 ⟨z72, 2, none⟩ fun x78 x78n x78c =>
     ldI h73 .i64 ⟨z72, 3, none⟩ fun x80 =>
     ldI h73 .i64 ⟨z72, 4, none⟩ fun x82 =>
     ldB h73 ⟨z72, 5, none⟩ fun x84 =>
     ldS h73 ⟨z72, 6, none⟩ fun x86 =>
     stN ⟨z71, 0, none⟩ [.int .i64 x74, .int .i64 x76, .slice x78 x78n x78c, .int .i64 x80, .int .i64 x82, .bool x84, .string x86] 0 h73 fun h95 =>
     ldI h95 .i64 ⟨z71, 0, none⟩ fun x96 =>
     ldI h95 .i64 ⟨z71, 1, none⟩ fun x98 =>
     ldL h95 ⟨z71, 2, none⟩ fun x100 x100n x100c =>
     ldI h95 .i64 ⟨z71, 3, none⟩ fun x102 =>
     ldI h95 .i64 ⟨z71, 4, none⟩ fun x104 =>
     ldB h95 ⟨z71, 5, none⟩ fun x106 =>
     ldS h95 ⟨z71, 6, none⟩ fun x108 =>
        K x96 x98 x100 x100n x100c x102 x104 x106 x108 h95) k118 b2 b30 x43 x43n x43c (x43n : Int) 0 h40) h39
theorem vt_Screen_Picture_ok (a1 : Option Addr) (K : Int → Int → Option Addr → Nat → Nat → Int → Int → Bool → ByteArray → Heap → Prop) (h : Heap) (hM : vt_Screen_Picture a1 K h) : CallsH Tryz.prog 13 #[.pointer a1] (fun v h' => ∃ (r119 : Int) (r120 : Int) (r121 : Option Addr) (r121n : Nat) (r121c : Nat) (r122 : Int) (r123 : Int) (r124 : Bool) (r125 : ByteArray), v = .agg #[.int .i64 r119, .int .i64 r120, .slice r121 r121n r121c, .int .i64 r122, .int .i64 r123, .bool r124, .string r125] ∧ K r119 r120 r121 r121n r121c r122 r123 r124 r125 h') h := by
 unfold vt_Screen_Picture at hM
 refine callsH_intro (n := 50) Tryz.func13 rfl rfl (by kernel_rfl) ?_
 refine cR ?_
 refine oG (hpNew #[.int .i64 0, .int .i64 0, .slice none 0 0, .int .i64 0, .int .i64 0, .bool false, .string (⟨#[]⟩ : ByteArray)] 36 (fun _ => by kernel_rfl) ?_)
 intro b2 h3 hN4
 replace hM := newB_of hN4 hM
 refine oE (cwp_seq ?_)
 refine cwp_draw (by kernel_rfl) ?_
 refine kq 0 (.pointer a1) ?_
 obtain ⟨p5, rfl, hM⟩ := hM
 refine kq 1 (.pointer (some p5)) ?_
 refine kq 2 (.pointer (some p5)) ?_
 obtain ⟨x6, hc7, hM⟩ := hM
 refine kl 3 (.int .i64 x6) p5 [26, 28] [28] hc7 ?_
 refine kq 4 (.pointer (some p5)) ?_
 refine kq 5 (.pointer (some p5)) ?_
 refine kq 6 (.pointer (some (p5.add 1))) ?_
 obtain ⟨x10, hc11, hM⟩ := hM
 refine kl 7 (.int .i64 x10) (p5.add 1) [26, 28] [28] hc11 ?_
 refine kq 8 (.pointer (some p5)) ?_
 refine kq 9 (.pointer (some p5)) ?_
 refine kq 10 (.pointer (some (p5.add 9))) ?_
 refine kq 11 (.pointer (some (p5.add 9))) ?_
 obtain ⟨x14, hc15, hM⟩ := hM
 refine kl 12 (.int .i64 x14) (p5.add 9) [26, 28] [28] hc15 ?_
 refine kq 13 (.pointer (some p5)) ?_
 refine kq 14 (.pointer (some p5)) ?_
 refine kq 15 (.pointer (some (p5.add 9))) ?_
 refine kq 16 (.pointer (some (p5.add 10))) ?_
 obtain ⟨x18, hc19, hM⟩ := hM
 refine kl 17 (.int .i64 x18) (p5.add 10) [26, 28] [28] hc19 ?_
 refine kq 18 (.pointer (some p5)) ?_
 refine kq 19 (.pointer (some p5)) ?_
 refine kq 20 (.pointer (some (p5.add 27))) ?_
 obtain ⟨x22, hc23, hM⟩ := hM
 refine kl 21 (.bool x22) (p5.add 27) [26, 28] [28] hc23 ?_
 refine kq 22 (.pointer (some p5)) ?_
 refine kq 23 (.pointer (some p5)) ?_
 refine kq 24 (.pointer (some (p5.add 28))) ?_
 obtain ⟨x26, hc27, hM⟩ := hM
 refine kl 25 (.string x26) (p5.add 28) [26, 28] [28] hc27 ?_
 refine kq 26 (.agg #[.int .i64 x6, .int .i64 x10, .slice none 0 0, .int .i64 x14, .int .i64 x18, .bool x22, .string x26]) ?_
 refine kE 27 (hpNew #[.int .i64 0, .int .i64 0, .slice none 0 0, .int .i64 0, .int .i64 0, .bool false, .string (⟨#[]⟩ : ByteArray)] 36 (fun _ => by kernel_rfl) ?_)
 intro b30 h31 hN32
 replace hM := newB_of hN32 hM
 obtain ⟨⟨hk33, hk34, hk35, hk36, hk37, hk38⟩, hM⟩ := hM
 refine ⟨⟨⟨hk33, trivial⟩, ⟨hk34, trivial⟩, ⟨hk35, trivial⟩, ⟨hk36, trivial⟩, ⟨hk37, trivial⟩, ⟨hk38, trivial⟩, trivial⟩, ?_⟩
 refine kD 28 (hpSt ⟨b30, 0, none⟩ [.int .i64 x6, .int .i64 x10, .slice none 0 0, .int .i64 x14, .int .i64 x18, .bool x22, .string x26] (fun _ => by kernel_rfl) (by kernel_rfl) hM ?_)
 clear hM
 intro h39 hM
 refine ⟨trivial, ?_⟩
 refine k_done (by kernel_rfl) ?_
 refine thenE_n (cwp_seq (cR ?_))
 refine oZ [(33, .pointer (some p5))] ?_
 refine oG (hpCallE 39 #[.pointer (some p5)] (by kernel_rfl) (vt_Screen_shown_ok (some p5) _ h39 hM) ?_)
 clear hM
 rintro _ h40 ⟨x41, rfl, hM⟩
 obtain ⟨p42, rfl, hM⟩ := hM
 refine owp_rdG (.pointer (some p42)) rfl (by kernel_rfl) (by kernel_rfl) ?_
 refine oZ [(36, .pointer (some p42))] ?_
 obtain ⟨x43, x43n, x43c, hc44, hM⟩ := hM
 refine oL (.slice x43 x43n x43c) p42 hc44 ?_
 refine oZ [(38, .int .i64 (x43n : Int)), (39, .int .i64 0)] ?_
 refine oE (cwp_block ?_)
 obtain ⟨k_, hM⟩ := hM
 refine cwp_loop k_ (lwp_of_part (fn := Tryz.f13) (p := [1, 1, 0, 1, 0, 0]) (by kernel_rfl) (lA 2 (.pointer (some ⟨b2, 0, none⟩)) (lA 3 (.pointer (some ⟨b30, 0, none⟩)) (lA 37 (.slice x43 x43n x43c) (lA 38 (.int .i64 (x43n : Int)) (lA 39 (.int .i64 0) (vt_Screen_Picture_l0_ok _ ?_ k_ b2 b30 x43 x43n x43c (x43n : Int) 0 _ _ hM)))))))
 · intro z71 z72 b117 h73 hM
   refine blockE_h (thenE_n (cR ?_))
   obtain ⟨x74, hc75, hM⟩ := hM
   obtain ⟨x76, hc77, hM⟩ := hM
   obtain ⟨x78, x78n, x78c, hc79, hM⟩ := hM
   obtain ⟨x80, hc81, hM⟩ := hM
   obtain ⟨x82, hc83, hM⟩ := hM
   obtain ⟨x84, hc85, hM⟩ := hM
   obtain ⟨x86, hc87, hM⟩ := hM
   refine owp_rdG (.agg #[.int .i64 x74, .int .i64 x76, .slice x78 x78n x78c, .int .i64 x80, .int .i64 x82, .bool x84, .string x86]) rfl (by kernel_rfl) (Eq.trans (b := (cellH h73 ⟨z72, 0, none⟩).bind fun v88 => (cellH h73 ⟨z72, 1, none⟩).bind fun v89 => (cellH h73 ⟨z72, 2, none⟩).bind fun v90 => (cellH h73 ⟨z72, 3, none⟩).bind fun v91 => (cellH h73 ⟨z72, 4, none⟩).bind fun v92 => (cellH h73 ⟨z72, 5, none⟩).bind fun v93 => (cellH h73 ⟨z72, 6, none⟩).bind fun v94 => some (.value (.agg #[v88, v89, v90, v91, v92, v93, v94]))) (by kernel_rfl) ((bindE hc75 _).trans ((bindE hc77 _).trans ((bindE hc79 _).trans ((bindE hc81 _).trans ((bindE hc83 _).trans ((bindE hc85 _).trans (bindE hc87 _)))))))) ?_
   refine oT ⟨z71, 0, none⟩ [.int .i64 x74, .int .i64 x76, .slice x78 x78n x78c, .int .i64 x80, .int .i64 x82, .bool x84, .string x86] hM ?_
   clear hM
   intro h95 hM
   refine oE (cwp_ret ?_)
   obtain ⟨x96, hc97, hM⟩ := hM
   obtain ⟨x98, hc99, hM⟩ := hM
   obtain ⟨x100, x100n, x100c, hc101, hM⟩ := hM
   obtain ⟨x102, hc103, hM⟩ := hM
   obtain ⟨x104, hc105, hM⟩ := hM
   obtain ⟨x106, hc107, hM⟩ := hM
   obtain ⟨x108, hc109, hM⟩ := hM
   exact ret_ (.agg #[.int .i64 x96, .int .i64 x98, .slice x100 x100n x100c, .int .i64 x102, .int .i64 x104, .bool x106, .string x108]) (Eq.trans (b := (cellH h95 ⟨z71, 0, none⟩).bind fun v110 => (cellH h95 ⟨z71, 1, none⟩).bind fun v111 => (cellH h95 ⟨z71, 2, none⟩).bind fun v112 => (cellH h95 ⟨z71, 3, none⟩).bind fun v113 => (cellH h95 ⟨z71, 4, none⟩).bind fun v114 => (cellH h95 ⟨z71, 5, none⟩).bind fun v115 => (cellH h95 ⟨z71, 6, none⟩).bind fun v116 => some (.agg #[v110, v111, v112, v113, v114, v115, v116])) (by kernel_rfl) ((bindE hc97 _).trans ((bindE hc99 _).trans ((bindE hc101 _).trans ((bindE hc103 _).trans ((bindE hc105 _).trans ((bindE hc107 _).trans (bindE hc109 _)))))))) ⟨_, _, _, _, _, _, _, _, _, rfl, hM⟩
theorem eq_T50 (d : Nat) {h : Heap} {x0 y0 : Int} {x1 y1 : Int} {x2 y2 : Int} : rd Tryz.prog (Op.equalIn (d + 2) 50 (.agg #[.int .i64 x0, .int .i64 x1, .int .i64 x2]) (.agg #[.int .i64 y0, .int .i64 y1, .int .i64 y2])) h = some ((x0 == y0) && ((x1 == y1) && (x2 == y2))) := by
 refine (rd_eqStruct Tryz.underlying50 (by kernel_rfl)).trans ?_
 refine rd_eqCons (a := .int .i64 x0) (b := .int .i64 y0) rfl (by kernel_rfl) (by kernel_rfl) (by kernel_rfl) ?_
 refine rd_eqCons (a := .int .i64 x1) (b := .int .i64 y1) rfl (by kernel_rfl) (by kernel_rfl) (by kernel_rfl) ?_
 exact rd_eqLast (a := .int .i64 x2) (b := .int .i64 y2) rfl (by kernel_rfl) (by kernel_rfl) (by kernel_rfl)
theorem eq_T52 (d : Nat) {h : Heap} {x0 y0 : ByteArray} {x1 y1 : Int} {x2 y2 : Int} {x3 y3 : Int} {x4 y4 : Int} : rd Tryz.prog (Op.equalIn (d + 3) 52 (.agg #[.string x0, .int .i64 x1, .int .i64 x2, .int .i64 x3, .int .i64 x4]) (.agg #[.string y0, .int .i64 y1, .int .i64 y2, .int .i64 y3, .int .i64 y4])) h = some ((x0 == y0) && ((x1 == y1) && ((x2 == y2) && ((x3 == y3) && (x4 == y4))))) := by
 refine (rd_eqStruct Tryz.underlying52 (by kernel_rfl)).trans ?_
 refine rd_eqCons (a := .string x0) (b := .string y0) rfl (by kernel_rfl) (by kernel_rfl) (by kernel_rfl) ?_
 refine rd_eqCons (a := .int .i64 x1) (b := .int .i64 y1) rfl (by kernel_rfl) (by kernel_rfl) (by kernel_rfl) ?_
 exact rd_eqLast (a := .agg #[.int .i64 x2, .int .i64 x3, .int .i64 x4]) (b := .agg #[.int .i64 y2, .int .i64 y3, .int .i64 y4]) rfl (by kernel_rfl) (by kernel_rfl) (eq_T50 (d + 0))
/- mullion/mullionlaw19.works -/
def law19_works  (K : Bool → Heap → Prop) (h : Heap) : Prop :=
 vt_New 3 2 0 (fun x2 x3 h1 =>
  if (x2.isNone || (!decide (x3 = 0))) = true then
   K false h1
  else
  vt_Screen_Feed x2 (⟨#[97, 98, 13, 10, 27, 91, 51, 49]⟩ : ByteArray) (fun  h9 =>
   vt_Screen_Feed x2 (⟨#[109, 99]⟩ : ByteArray) (fun  h10 =>
    vt_Screen_Picture x2 (fun x12 x13 x14 x14n x14c x15 x16 x17 x18 h11 =>
     if (((((decide (x12 = 3)) && (decide (x13 = 2))) && (decide ((x14n : Int) = 6))) && (decide (x15 = 1))) && (decide (x16 = 1))) = true then
      nz x14 fun p54 =>
      0 ≤ (1 : Int) ∧
      (1 : Int) < (x14n : Int) ∧
      gap h11 fun h22 =>
      ldS h22 (p54.add (((1 : Int)).toNat * 5)) fun x55 =>
      ldI h22 .i64 ((p54.add (((1 : Int)).toNat * 5)).add 1) fun x57 =>
      ldI h22 .i64 ((p54.add (((1 : Int)).toNat * 5)).add 2) fun x59 =>
      ldI h22 .i64 ((p54.add (((1 : Int)).toNat * 5)).add 3) fun x61 =>
      ldI h22 .i64 ((p54.add (((1 : Int)).toNat * 5)).add 4) fun x63 =>
      if ((x55 == (⟨#[98]⟩ : ByteArray)) && ((x57 == 1) && ((x59 == 0) && ((x61 == 0) && (x63 == 0))))) = true then
       0 ≤ (3 : Int) ∧
       (3 : Int) < (x14n : Int) ∧
       ldS h22 (p54.add (((3 : Int)).toNat * 5)) fun x92 =>
       ldI h22 .i64 ((p54.add (((3 : Int)).toNat * 5)).add 1) fun x94 =>
       ldI h22 .i64 ((p54.add (((3 : Int)).toNat * 5)).add 2) fun x96 =>
       ldI h22 .i64 ((p54.add (((3 : Int)).toNat * 5)).add 3) fun x98 =>
       ldI h22 .i64 ((p54.add (((3 : Int)).toNat * 5)).add 4) fun x100 =>
       if ((x92 == (⟨#[99]⟩ : ByteArray)) && ((x94 == 1) && ((x96 == 2) && ((x98 == 0) && (x100 == 0))))) = true then
        0 ≤ (5 : Int) ∧
        (5 : Int) < (x14n : Int) ∧
        ldS h22 (p54.add (((5 : Int)).toNat * 5)) fun x129 =>
        ldI h22 .i64 ((p54.add (((5 : Int)).toNat * 5)).add 1) fun x131 =>
        ldI h22 .i64 ((p54.add (((5 : Int)).toNat * 5)).add 2) fun x133 =>
        ldI h22 .i64 ((p54.add (((5 : Int)).toNat * 5)).add 3) fun x135 =>
        ldI h22 .i64 ((p54.add (((5 : Int)).toNat * 5)).add 4) fun x137 =>
        K ((x129 == (⟨#[32]⟩ : ByteArray)) && ((x131 == 1) && ((x133 == 0) && ((x135 == 0) && (x137 == 0))))) h22
       else
       K false h22
      else
      K false h22
     else
     gap h11 fun h22 =>
         K false h22) h10) h9) h1) h
theorem law19_works_ok  (K : Bool → Heap → Prop) (h : Heap) (hM : law19_works  K h) : CallsH Tryz.prog 31 #[] (fun v h' => ∃ (r144 : Bool), v = .bool r144 ∧ K r144 h') h := by
 unfold law19_works at hM
 refine callsH_intro (n := 69) Tryz.func31 rfl rfl (by kernel_rfl) ?_
 refine cR ?_
 refine oZ [(0, .bool false)] ?_
 refine oE (cR ?_)
 refine oG (hpCallE 29 #[.int .i64 3, .int .i64 2, .int .i64 0] (by kernel_rfl) (vt_New_ok 3 2 0 _ h hM) ?_)
 clear hM
 rintro _ h1 ⟨x2, x3, rfl, hM⟩
 refine oZ [(4, .tuple #[.pointer x2, .int .i64 x3]), (6, .pointer x2), (7, .int .i64 x3), (1, .pointer x2), (2, .int .i64 x3)] ?_
 refine oE (cwp_seq (cR ?_))
 refine oZ [(8, .pointer x2)] ?_
 refine owp_rdG (.bool x2.isNone) rfl (by kernel_rfl) (rd_eqNil (P := Tryz.prog) (h := h1) (t := 25) (el := 80) (by kernel_rfl) (by kernel_rfl)) ?_
 refine oZ [(10, .bool x2.isNone)] ?_
 refine oB (x2.isNone) 3 [9, 10] (fun b_ => [(11, iteV b_ undef (.int .i64 x3 : Value)), (12, iteV b_ undef (.bool (!decide (x3 = 0)) : Value)), (13, .bool (b_ || (!decide (x3 = 0))))]) rfl (fun hb4 hq5 => oS [(11, undef), (12, undef), (13, .bool true)] rfl (hq5)) (fun hb6 hq7 => oS [(11, .int .i64 x3), (12, .bool (!decide (x3 = 0))), (13, .bool (!decide (x3 = 0)))] rfl (hq7)) ?_
 refine oE ?_
 refine cwp_condB (x2.isNone || (!decide (x3 = 0))) (by kernel_rfl) (fun hc8 => ?_) (fun hc8 => ?_)
 · replace hM := ifT hc8 hM
   refine cR ?_
   refine oZ [(0, .bool false)] ?_
   refine oE (cwp_ret (thenE_r ?_))
   exact ret_ (.bool false) (by kernel_rfl) ⟨_, rfl, hM⟩
 replace hM := ifF hc8 hM
 refine cwp_skip (thenE_n (cR ?_))
 refine oZ [(14, .pointer x2)] ?_
 refine oG (hpCallE 12 #[.pointer x2, .string (⟨#[97, 98, 13, 10, 27, 91, 51, 49]⟩ : ByteArray)] (by kernel_rfl) (vt_Screen_Feed_ok x2 (⟨#[97, 98, 13, 10, 27, 91, 51, 49]⟩ : ByteArray) _ h1 hM) ?_)
 clear hM
 rintro _ h9 ⟨rfl, hM⟩
 refine oE (cR ?_)
 refine oZ [(16, .pointer x2)] ?_
 refine oG (hpCallE 12 #[.pointer x2, .string (⟨#[109, 99]⟩ : ByteArray)] (by kernel_rfl) (vt_Screen_Feed_ok x2 (⟨#[109, 99]⟩ : ByteArray) _ h9 hM) ?_)
 clear hM
 rintro _ h10 ⟨rfl, hM⟩
 refine oE (cR ?_)
 refine oZ [(18, .pointer x2)] ?_
 refine oG (hpCallE 13 #[.pointer x2] (by kernel_rfl) (vt_Screen_Picture_ok x2 _ h10 hM) ?_)
 clear hM
 rintro _ h11 ⟨x12, x13, x14, x14n, x14c, x15, x16, x17, x18, rfl, hM⟩
 refine oG (hpNew #[.int .i64 0, .int .i64 0, .slice none 0 0, .int .i64 0, .int .i64 0, .bool false, .string (⟨#[]⟩ : ByteArray)] 36 (fun _ => by kernel_rfl) ?_)
 intro b19 h20 hN21
 refine owp_hpD rfl (by kernel_rfl) (hpStB b19 0 [.int .i64 x12, .int .i64 x13, .slice x14 x14n x14c, .int .i64 x15, .int .i64 x16, .bool x17, .string x18] (New.blk hN21) (fun _ => by kernel_rfl) rfl rfl ?_)
 intro h22 hP23
 have f24 : Blk h22 b19 #[.int .i64 x12, .int .i64 x13, .slice x14 x14n x14c, .int .i64 x15, .int .i64 x16, .bool x17, .string x18] 36 := hP23.blk
 refine oE (cR ?_)
 refine oZ [(20, .pointer (some ⟨b19, 0, none⟩))] ?_
 refine owp_rdG (.int .i64 x12) rfl (by kernel_rfl) (Eq.trans (b := (cellH h22 ⟨b19, 0, none⟩).bind fun v25 => some (.value v25)) (by kernel_rfl) (bindE (Blk.cell f24 0 (by kernel_rfl)) _)) ?_
 refine oZ [(22, .bool (decide (x12 = 3))), (23, .bool (decide (x12 = 3)))] ?_
 refine oB (decide (x12 = 3)) 4 [22, 23] (fun b_ => [(24, iteV b_ (.pointer (some ⟨b19, 1, none⟩) : Value) undef), (25, iteV b_ (.int .i64 x13 : Value) undef), (26, iteV b_ (.bool (decide (x13 = 2)) : Value) undef), (27, .bool (b_ && (decide (x13 = 2))))]) rfl (fun hb27 hq28 => oS [(24, .pointer (some ⟨b19, 1, none⟩))] rfl (owp_rdG (.int .i64 x13) rfl (by kernel_rfl) (Eq.trans (b := (cellH h22 ⟨b19, 1, none⟩).bind fun v26 => some (.value v26)) (by kernel_rfl) (bindE (Blk.cell f24 1 (by kernel_rfl)) _)) (oS [(26, .bool (decide (x13 = 2))), (27, .bool (decide (x13 = 2)))] rfl (hq28)))) (fun hb29 hq30 => oS [(24, undef), (25, undef), (26, undef), (27, .bool false)] rfl (hq30)) ?_
 refine oZ [(28, .bool ((decide (x12 = 3)) && (decide (x13 = 2))))] ?_
 refine oB ((decide (x12 = 3)) && (decide (x13 = 2))) 5 [27, 28] (fun b_ => [(29, iteV b_ (.pointer (some ⟨b19, 2, none⟩) : Value) undef), (30, iteV b_ (.slice x14 x14n x14c : Value) undef), (31, iteV b_ (.int .i64 (x14n : Int) : Value) undef), (32, iteV b_ (.bool (decide ((x14n : Int) = 6)) : Value) undef), (33, .bool (b_ && (decide ((x14n : Int) = 6))))]) rfl (fun hb32 hq33 => oS [(29, .pointer (some ⟨b19, 2, none⟩))] rfl (owp_rdG (.slice x14 x14n x14c) rfl (by kernel_rfl) (Eq.trans (b := (cellH h22 ⟨b19, 2, none⟩).bind fun v31 => some (.value v31)) (by kernel_rfl) (bindE (Blk.cell f24 2 (by kernel_rfl)) _)) (oS [(31, .int .i64 (x14n : Int)), (32, .bool (decide ((x14n : Int) = 6))), (33, .bool (decide ((x14n : Int) = 6)))] rfl (hq33)))) (fun hb34 hq35 => oS [(29, undef), (30, undef), (31, undef), (32, undef), (33, .bool false)] rfl (hq35)) ?_
 refine oZ [(34, .bool (((decide (x12 = 3)) && (decide (x13 = 2))) && (decide ((x14n : Int) = 6))))] ?_
 refine oB (((decide (x12 = 3)) && (decide (x13 = 2))) && (decide ((x14n : Int) = 6))) 4 [33, 34] (fun b_ => [(35, iteV b_ (.pointer (some ⟨b19, 3, none⟩) : Value) undef), (36, iteV b_ (.int .i64 x15 : Value) undef), (37, iteV b_ (.bool (decide (x15 = 1)) : Value) undef), (38, .bool (b_ && (decide (x15 = 1))))]) rfl (fun hb37 hq38 => oS [(35, .pointer (some ⟨b19, 3, none⟩))] rfl (owp_rdG (.int .i64 x15) rfl (by kernel_rfl) (Eq.trans (b := (cellH h22 ⟨b19, 3, none⟩).bind fun v36 => some (.value v36)) (by kernel_rfl) (bindE (Blk.cell f24 3 (by kernel_rfl)) _)) (oS [(37, .bool (decide (x15 = 1))), (38, .bool (decide (x15 = 1)))] rfl (hq38)))) (fun hb39 hq40 => oS [(35, undef), (36, undef), (37, undef), (38, .bool false)] rfl (hq40)) ?_
 refine oZ [(39, .bool ((((decide (x12 = 3)) && (decide (x13 = 2))) && (decide ((x14n : Int) = 6))) && (decide (x15 = 1))))] ?_
 refine oB ((((decide (x12 = 3)) && (decide (x13 = 2))) && (decide ((x14n : Int) = 6))) && (decide (x15 = 1))) 4 [38, 39] (fun b_ => [(40, iteV b_ (.pointer (some ⟨b19, 4, none⟩) : Value) undef), (41, iteV b_ (.int .i64 x16 : Value) undef), (42, iteV b_ (.bool (decide (x16 = 1)) : Value) undef), (43, .bool (b_ && (decide (x16 = 1))))]) rfl (fun hb42 hq43 => oS [(40, .pointer (some ⟨b19, 4, none⟩))] rfl (owp_rdG (.int .i64 x16) rfl (by kernel_rfl) (Eq.trans (b := (cellH h22 ⟨b19, 4, none⟩).bind fun v41 => some (.value v41)) (by kernel_rfl) (bindE (Blk.cell f24 4 (by kernel_rfl)) _)) (oS [(42, .bool (decide (x16 = 1))), (43, .bool (decide (x16 = 1)))] rfl (hq43)))) (fun hb44 hq45 => oS [(40, undef), (41, undef), (42, undef), (43, .bool false)] rfl (hq45)) ?_
 refine oZ [(44, .bool (((((decide (x12 = 3)) && (decide (x13 = 2))) && (decide ((x14n : Int) = 6))) && (decide (x15 = 1))) && (decide (x16 = 1))))] ?_
 by_cases hc50 : (((((decide (x12 = 3)) && (decide (x13 = 2))) && (decide ((x14n : Int) = 6))) && (decide (x15 = 1))) && (decide (x16 = 1))) = true
 · refine oA 43 true (((((decide (x12 = 3)) && (decide (x13 = 2))) && (decide ((x14n : Int) = 6))) && (decide (x15 = 1))) && (decide (x16 = 1))) (by rw [hc50]) ?_
   refine oA 44 true (((((decide (x12 = 3)) && (decide (x13 = 2))) && (decide ((x14n : Int) = 6))) && (decide (x15 = 1))) && (decide (x16 = 1))) (by rw [hc50]) ?_
   replace hM := ifT hc50 hM
   refine oZ [(45, .pointer (some ⟨b19, 2, none⟩))] ?_
   refine owp_rdG (.slice x14 x14n x14c) rfl (by kernel_rfl) (Eq.trans (b := (cellH h22 ⟨b19, 2, none⟩).bind fun v51 => some (.value v51)) (by kernel_rfl) (bindE (Blk.cell f24 2 (by kernel_rfl)) _)) ?_
   obtain ⟨p54, rfl, hM⟩ := hM
   obtain ⟨hc52, hM⟩ := hM
   obtain ⟨hc53, hM⟩ := hM
   refine owp_rdG (.pointer (some (p54.add (((1 : Int)).toNat * 5)))) rfl (by kernel_rfl) (rd_ixS (P := Tryz.prog) (h := h22) (t := 34) (el := 52) (sz := 5) (ad := p54) (len := x14n) (c := x14c) (k := .i64) (i := 1) (by kernel_rfl) (by kernel_rfl) hc52 hc53 (by kernel_rfl)) ?_
   replace hM := hM _ (Put.ext hP23 (New.ext hN21) (New.ge hN21 (Ext.refl _)))
   obtain ⟨x55, hc56, hM⟩ := hM
   obtain ⟨x57, hc58, hM⟩ := hM
   obtain ⟨x59, hc60, hM⟩ := hM
   obtain ⟨x61, hc62, hM⟩ := hM
   obtain ⟨x63, hc64, hM⟩ := hM
   refine owp_rdG (.agg #[.string x55, .int .i64 x57, .int .i64 x59, .int .i64 x61, .int .i64 x63]) rfl (by kernel_rfl) (Eq.trans (b := (cellH h22 (p54.add (((1 : Int)).toNat * 5))).bind fun v65 => (cellH h22 ((p54.add (((1 : Int)).toNat * 5)).add 1)).bind fun v66 => (cellH h22 ((p54.add (((1 : Int)).toNat * 5)).add 2)).bind fun v67 => (cellH h22 ((p54.add (((1 : Int)).toNat * 5)).add 3)).bind fun v68 => (cellH h22 ((p54.add (((1 : Int)).toNat * 5)).add 4)).bind fun v69 => some (.value (.agg #[v65, v66, v67, v68, v69]))) (by kernel_rfl) ((bindE hc56 _).trans ((bindE hc58 _).trans ((bindE hc60 _).trans ((bindE hc62 _).trans (bindE hc64 _)))))) ?_
   refine oZ [(49, .agg #[.string (⟨#[98]⟩ : ByteArray), .int .i64 1, .int .i64 0, .int .i64 0, .int .i64 0])] ?_
   refine owp_rdG (.bool ((x55 == (⟨#[98]⟩ : ByteArray)) && ((x57 == 1) && ((x59 == 0) && ((x61 == 0) && (x63 == 0)))))) rfl (by kernel_rfl) ((by kernel_rfl : _ = rd Tryz.prog (toVal ((Op.equal 52 (.agg #[.string x55, .int .i64 x57, .int .i64 x59, .int .i64 x61, .int .i64 x63]) (.agg #[.string (⟨#[98]⟩ : ByteArray), .int .i64 1, .int .i64 0, .int .i64 0, .int .i64 0])).bind fun v_ => Sem.pure (.bool v_))) h22).trans (rd_eqB (eq_T52 9997))) ?_
   refine oZ [(51, .bool ((x55 == (⟨#[98]⟩ : ByteArray)) && ((x57 == 1) && ((x59 == 0) && ((x61 == 0) && (x63 == 0)))))), (52, .bool ((x55 == (⟨#[98]⟩ : ByteArray)) && ((x57 == 1) && ((x59 == 0) && ((x61 == 0) && (x63 == 0))))))] ?_
   by_cases hc88 : ((x55 == (⟨#[98]⟩ : ByteArray)) && ((x57 == 1) && ((x59 == 0) && ((x61 == 0) && (x63 == 0))))) = true
   · refine oA 50 true ((x55 == (⟨#[98]⟩ : ByteArray)) && ((x57 == 1) && ((x59 == 0) && ((x61 == 0) && (x63 == 0))))) (by rw [hc88]) ?_
     refine oA 51 true ((x55 == (⟨#[98]⟩ : ByteArray)) && ((x57 == 1) && ((x59 == 0) && ((x61 == 0) && (x63 == 0))))) (by rw [hc88]) ?_
     refine oA 52 true ((x55 == (⟨#[98]⟩ : ByteArray)) && ((x57 == 1) && ((x59 == 0) && ((x61 == 0) && (x63 == 0))))) (by rw [hc88]) ?_
     replace hM := ifT hc88 hM
     refine oZ [(53, .pointer (some ⟨b19, 2, none⟩))] ?_
     refine owp_rdG (.slice (some p54) x14n x14c) rfl (by kernel_rfl) (Eq.trans (b := (cellH h22 ⟨b19, 2, none⟩).bind fun v89 => some (.value v89)) (by kernel_rfl) (bindE (Blk.cell f24 2 (by kernel_rfl)) _)) ?_
     obtain ⟨hc90, hM⟩ := hM
     obtain ⟨hc91, hM⟩ := hM
     refine owp_rdG (.pointer (some (p54.add (((3 : Int)).toNat * 5)))) rfl (by kernel_rfl) (rd_ixS (P := Tryz.prog) (h := h22) (t := 34) (el := 52) (sz := 5) (ad := p54) (len := x14n) (c := x14c) (k := .i64) (i := 3) (by kernel_rfl) (by kernel_rfl) hc90 hc91 (by kernel_rfl)) ?_
     obtain ⟨x92, hc93, hM⟩ := hM
     obtain ⟨x94, hc95, hM⟩ := hM
     obtain ⟨x96, hc97, hM⟩ := hM
     obtain ⟨x98, hc99, hM⟩ := hM
     obtain ⟨x100, hc101, hM⟩ := hM
     refine owp_rdG (.agg #[.string x92, .int .i64 x94, .int .i64 x96, .int .i64 x98, .int .i64 x100]) rfl (by kernel_rfl) (Eq.trans (b := (cellH h22 (p54.add (((3 : Int)).toNat * 5))).bind fun v102 => (cellH h22 ((p54.add (((3 : Int)).toNat * 5)).add 1)).bind fun v103 => (cellH h22 ((p54.add (((3 : Int)).toNat * 5)).add 2)).bind fun v104 => (cellH h22 ((p54.add (((3 : Int)).toNat * 5)).add 3)).bind fun v105 => (cellH h22 ((p54.add (((3 : Int)).toNat * 5)).add 4)).bind fun v106 => some (.value (.agg #[v102, v103, v104, v105, v106]))) (by kernel_rfl) ((bindE hc93 _).trans ((bindE hc95 _).trans ((bindE hc97 _).trans ((bindE hc99 _).trans (bindE hc101 _)))))) ?_
     refine oZ [(57, .agg #[.int .i64 2, .int .i64 0, .int .i64 0]), (58, .agg #[.string (⟨#[99]⟩ : ByteArray), .int .i64 1, .int .i64 2, .int .i64 0, .int .i64 0])] ?_
     refine owp_rdG (.bool ((x92 == (⟨#[99]⟩ : ByteArray)) && ((x94 == 1) && ((x96 == 2) && ((x98 == 0) && (x100 == 0)))))) rfl (by kernel_rfl) ((by kernel_rfl : _ = rd Tryz.prog (toVal ((Op.equal 52 (.agg #[.string x92, .int .i64 x94, .int .i64 x96, .int .i64 x98, .int .i64 x100]) (.agg #[.string (⟨#[99]⟩ : ByteArray), .int .i64 1, .int .i64 2, .int .i64 0, .int .i64 0])).bind fun v_ => Sem.pure (.bool v_))) h22).trans (rd_eqB (eq_T52 9997))) ?_
     refine oZ [(60, .bool ((x92 == (⟨#[99]⟩ : ByteArray)) && ((x94 == 1) && ((x96 == 2) && ((x98 == 0) && (x100 == 0)))))), (61, .bool ((x92 == (⟨#[99]⟩ : ByteArray)) && ((x94 == 1) && ((x96 == 2) && ((x98 == 0) && (x100 == 0))))))] ?_
     by_cases hc125 : ((x92 == (⟨#[99]⟩ : ByteArray)) && ((x94 == 1) && ((x96 == 2) && ((x98 == 0) && (x100 == 0))))) = true
     · refine oA 59 true ((x92 == (⟨#[99]⟩ : ByteArray)) && ((x94 == 1) && ((x96 == 2) && ((x98 == 0) && (x100 == 0))))) (by rw [hc125]) ?_
       refine oA 60 true ((x92 == (⟨#[99]⟩ : ByteArray)) && ((x94 == 1) && ((x96 == 2) && ((x98 == 0) && (x100 == 0))))) (by rw [hc125]) ?_
       refine oA 61 true ((x92 == (⟨#[99]⟩ : ByteArray)) && ((x94 == 1) && ((x96 == 2) && ((x98 == 0) && (x100 == 0))))) (by rw [hc125]) ?_
       replace hM := ifT hc125 hM
       refine oZ [(62, .pointer (some ⟨b19, 2, none⟩))] ?_
       refine owp_rdG (.slice (some p54) x14n x14c) rfl (by kernel_rfl) (Eq.trans (b := (cellH h22 ⟨b19, 2, none⟩).bind fun v126 => some (.value v126)) (by kernel_rfl) (bindE (Blk.cell f24 2 (by kernel_rfl)) _)) ?_
       obtain ⟨hc127, hM⟩ := hM
       obtain ⟨hc128, hM⟩ := hM
       refine owp_rdG (.pointer (some (p54.add (((5 : Int)).toNat * 5)))) rfl (by kernel_rfl) (rd_ixS (P := Tryz.prog) (h := h22) (t := 34) (el := 52) (sz := 5) (ad := p54) (len := x14n) (c := x14c) (k := .i64) (i := 5) (by kernel_rfl) (by kernel_rfl) hc127 hc128 (by kernel_rfl)) ?_
       obtain ⟨x129, hc130, hM⟩ := hM
       obtain ⟨x131, hc132, hM⟩ := hM
       obtain ⟨x133, hc134, hM⟩ := hM
       obtain ⟨x135, hc136, hM⟩ := hM
       obtain ⟨x137, hc138, hM⟩ := hM
       refine owp_rdG (.agg #[.string x129, .int .i64 x131, .int .i64 x133, .int .i64 x135, .int .i64 x137]) rfl (by kernel_rfl) (Eq.trans (b := (cellH h22 (p54.add (((5 : Int)).toNat * 5))).bind fun v139 => (cellH h22 ((p54.add (((5 : Int)).toNat * 5)).add 1)).bind fun v140 => (cellH h22 ((p54.add (((5 : Int)).toNat * 5)).add 2)).bind fun v141 => (cellH h22 ((p54.add (((5 : Int)).toNat * 5)).add 3)).bind fun v142 => (cellH h22 ((p54.add (((5 : Int)).toNat * 5)).add 4)).bind fun v143 => some (.value (.agg #[v139, v140, v141, v142, v143]))) (by kernel_rfl) ((bindE hc130 _).trans ((bindE hc132 _).trans ((bindE hc134 _).trans ((bindE hc136 _).trans (bindE hc138 _)))))) ?_
       refine oZ [(66, .agg #[.string (⟨#[32]⟩ : ByteArray), .int .i64 1, .int .i64 0, .int .i64 0, .int .i64 0])] ?_
       refine owp_rdG (.bool ((x129 == (⟨#[32]⟩ : ByteArray)) && ((x131 == 1) && ((x133 == 0) && ((x135 == 0) && (x137 == 0)))))) rfl (by kernel_rfl) ((by kernel_rfl : _ = rd Tryz.prog (toVal ((Op.equal 52 (.agg #[.string x129, .int .i64 x131, .int .i64 x133, .int .i64 x135, .int .i64 x137]) (.agg #[.string (⟨#[32]⟩ : ByteArray), .int .i64 1, .int .i64 0, .int .i64 0, .int .i64 0])).bind fun v_ => Sem.pure (.bool v_))) h22).trans (rd_eqB (eq_T52 9997))) ?_
       refine oZ [(68, .bool ((x129 == (⟨#[32]⟩ : ByteArray)) && ((x131 == 1) && ((x133 == 0) && ((x135 == 0) && (x137 == 0)))))), (0, .bool ((x129 == (⟨#[32]⟩ : ByteArray)) && ((x131 == 1) && ((x133 == 0) && ((x135 == 0) && (x137 == 0))))))] ?_
       refine oE (cwp_ret ?_)
       exact ret_ (.bool ((x129 == (⟨#[32]⟩ : ByteArray)) && ((x131 == 1) && ((x133 == 0) && ((x135 == 0) && (x137 == 0)))))) (by kernel_rfl) ⟨_, rfl, hM⟩
     refine oA 59 false ((x92 == (⟨#[99]⟩ : ByteArray)) && ((x94 == 1) && ((x96 == 2) && ((x98 == 0) && (x100 == 0))))) (by rw [Bool.eq_false_iff.2 hc125]) ?_
     refine oA 60 false ((x92 == (⟨#[99]⟩ : ByteArray)) && ((x94 == 1) && ((x96 == 2) && ((x98 == 0) && (x100 == 0))))) (by rw [Bool.eq_false_iff.2 hc125]) ?_
     refine oA 61 false ((x92 == (⟨#[99]⟩ : ByteArray)) && ((x94 == 1) && ((x96 == 2) && ((x98 == 0) && (x100 == 0))))) (by rw [Bool.eq_false_iff.2 hc125]) ?_
     replace hM := ifF hc125 hM
     refine oZ [(62, undef), (63, undef), (64, undef), (65, undef), (66, undef), (67, undef), (68, .bool false), (0, .bool false)] ?_
     refine oE (cwp_ret ?_)
     exact ret_ (.bool false) (by kernel_rfl) ⟨_, rfl, hM⟩
   refine oA 50 false ((x55 == (⟨#[98]⟩ : ByteArray)) && ((x57 == 1) && ((x59 == 0) && ((x61 == 0) && (x63 == 0))))) (by rw [Bool.eq_false_iff.2 hc88]) ?_
   refine oA 51 false ((x55 == (⟨#[98]⟩ : ByteArray)) && ((x57 == 1) && ((x59 == 0) && ((x61 == 0) && (x63 == 0))))) (by rw [Bool.eq_false_iff.2 hc88]) ?_
   refine oA 52 false ((x55 == (⟨#[98]⟩ : ByteArray)) && ((x57 == 1) && ((x59 == 0) && ((x61 == 0) && (x63 == 0))))) (by rw [Bool.eq_false_iff.2 hc88]) ?_
   replace hM := ifF hc88 hM
   refine oZ [(53, undef), (54, undef), (55, undef), (56, undef), (57, undef), (58, undef), (59, undef), (60, .bool false), (61, .bool false), (62, undef), (63, undef), (64, undef), (65, undef), (66, undef), (67, undef), (68, .bool false), (0, .bool false)] ?_
   refine oE (cwp_ret ?_)
   exact ret_ (.bool false) (by kernel_rfl) ⟨_, rfl, hM⟩
 refine oA 43 false (((((decide (x12 = 3)) && (decide (x13 = 2))) && (decide ((x14n : Int) = 6))) && (decide (x15 = 1))) && (decide (x16 = 1))) (by rw [Bool.eq_false_iff.2 hc50]) ?_
 refine oA 44 false (((((decide (x12 = 3)) && (decide (x13 = 2))) && (decide ((x14n : Int) = 6))) && (decide (x15 = 1))) && (decide (x16 = 1))) (by rw [Bool.eq_false_iff.2 hc50]) ?_
 replace hM := ifF hc50 hM
 refine oZ [(45, undef), (46, undef), (47, undef), (48, undef), (49, undef), (50, undef), (51, .bool false), (52, .bool false), (53, undef), (54, undef), (55, undef), (56, undef), (57, undef), (58, undef), (59, undef), (60, .bool false), (61, .bool false), (62, undef), (63, undef), (64, undef), (65, undef), (66, undef), (67, undef), (68, .bool false), (0, .bool false)] ?_
 refine oE (cwp_ret ?_)
 replace hM := hM _ (Put.ext hP23 (New.ext hN21) (New.ge hN21 (Ext.refl _)))
 exact ret_ (.bool false) (by kernel_rfl) ⟨_, rfl, hM⟩
/- mullion/mullionlaw19.made -/
def law19_made (a1 : Int) (a2 : Int) (a3 : Int) (K : Option Addr → Option Addr → Bool → Heap → Prop) (h : Heap) : Prop :=
 newB h #[.int .i64 a1, .int .i64 a2, .int .i64 a3] 23 fun b4 h5 =>
 ldI h5 .i64 ⟨b4, 0, none⟩ fun x7 =>
 ldI h5 .i64 ⟨b4, 1, none⟩ fun x10 =>
 ldI h5 .i64 ⟨b4, 2, none⟩ fun x13 =>
 vt_New x7 x10 x13 (fun x17 x18 h16 =>
  ldI h16 .i64 ⟨b4, 0, none⟩ fun x19 =>
  ldI h16 .i64 ⟨b4, 1, none⟩ fun x22 =>
  ldI h16 .i64 ⟨b4, 2, none⟩ fun x25 =>
  ref19_New x19 x22 x25 (fun x29 x30 h28 =>
   law19_works  (fun x32 h31 =>
       K x17 x29 ((x32 && (decide (x18 = x30))) && (x17.isNone == x29.isNone)) h31) h28) h16) h5
theorem law19_made_ok (a1 : Int) (a2 : Int) (a3 : Int) (K : Option Addr → Option Addr → Bool → Heap → Prop) (h : Heap) (hM : law19_made a1 a2 a3 K h) : CallsH Tryz.prog 10 #[.agg #[.int .i64 a1, .int .i64 a2, .int .i64 a3]] (fun v h' => ∃ (r41 : Option Addr) (r42 : Option Addr) (r43 : Bool), v = .tuple #[.pointer r41, .pointer r42, .bool r43] ∧ K r41 r42 r43 h') h := by
 unfold law19_made at hM
 refine callsH_intro (n := 44) Tryz.func10 rfl rfl (by kernel_rfl) ?_
 refine cR ?_
 refine oG (hpNew #[.int .i64 a1, .int .i64 a2, .int .i64 a3] 23 (fun _ => by kernel_rfl) ?_)
 intro b4 h5 hN6
 replace hM := newB_of hN6 hM
 refine oZ [(2, .pointer none), (3, .pointer none), (4, .bool false)] ?_
 refine oE (cR ?_)
 refine oZ [(10, .pointer (some ⟨b4, 0, none⟩))] ?_
 obtain ⟨x7, hc8, hM⟩ := hM
 refine oL (.int .i64 x7) ⟨b4, 0, none⟩ hc8 ?_
 refine oZ [(12, .pointer (some ⟨b4, 1, none⟩))] ?_
 obtain ⟨x10, hc11, hM⟩ := hM
 refine oL (.int .i64 x10) ⟨b4, 1, none⟩ hc11 ?_
 refine oZ [(14, .pointer (some ⟨b4, 2, none⟩))] ?_
 obtain ⟨x13, hc14, hM⟩ := hM
 refine oL (.int .i64 x13) ⟨b4, 2, none⟩ hc14 ?_
 refine oG (hpCallE 29 #[.int .i64 x7, .int .i64 x10, .int .i64 x13] (by kernel_rfl) (vt_New_ok x7 x10 x13 _ h5 hM) ?_)
 clear hM
 rintro _ h16 ⟨x17, x18, rfl, hM⟩
 refine oZ [(9, .tuple #[.pointer x17, .int .i64 x18]), (17, .pointer x17), (18, .int .i64 x18), (5, .pointer x17), (6, .int .i64 x18)] ?_
 refine oE (cR ?_)
 refine oZ [(20, .pointer (some ⟨b4, 0, none⟩))] ?_
 obtain ⟨x19, hc20, hM⟩ := hM
 refine oL (.int .i64 x19) ⟨b4, 0, none⟩ hc20 ?_
 refine oZ [(22, .pointer (some ⟨b4, 1, none⟩))] ?_
 obtain ⟨x22, hc23, hM⟩ := hM
 refine oL (.int .i64 x22) ⟨b4, 1, none⟩ hc23 ?_
 refine oZ [(24, .pointer (some ⟨b4, 2, none⟩))] ?_
 obtain ⟨x25, hc26, hM⟩ := hM
 refine oL (.int .i64 x25) ⟨b4, 2, none⟩ hc26 ?_
 refine oG (hpCallE 30 #[.int .i64 x19, .int .i64 x22, .int .i64 x25] (by kernel_rfl) (ref19_New_ok x19 x22 x25 _ h16 hM) ?_)
 clear hM
 rintro _ h28 ⟨x29, x30, rfl, hM⟩
 refine oZ [(19, .tuple #[.pointer x29, .int .i64 x30]), (27, .pointer x29), (28, .int .i64 x30), (7, .pointer x29), (8, .int .i64 x30)] ?_
 refine oE (cR ?_)
 refine oZ [(29, .pointer x17), (30, .pointer x29)] ?_
 refine oG (hpCallE 31 #[] (by kernel_rfl) (law19_works_ok  _ h28 hM) ?_)
 clear hM
 rintro _ h31 ⟨x32, rfl, hM⟩
 refine oZ [(32, .bool x32)] ?_
 refine oB (x32) 4 [31, 32] (fun b_ => [(33, iteV b_ (.int .i64 x18 : Value) undef), (34, iteV b_ (.int .i64 x30 : Value) undef), (35, iteV b_ (.bool (decide (x18 = x30)) : Value) undef), (36, .bool (b_ && (decide (x18 = x30))))]) rfl (fun hb33 hq34 => oS [(33, .int .i64 x18), (34, .int .i64 x30), (35, .bool (decide (x18 = x30))), (36, .bool (decide (x18 = x30)))] rfl (hq34)) (fun hb35 hq36 => oS [(33, undef), (34, undef), (35, undef), (36, .bool false)] rfl (hq36)) ?_
 refine oZ [(37, .bool (x32 && (decide (x18 = x30))))] ?_
 refine oB (x32 && (decide (x18 = x30))) 6 [36, 37] (fun b_ => [(38, iteV b_ (.pointer x17 : Value) undef), (39, iteV b_ (.bool x17.isNone : Value) undef), (40, iteV b_ (.pointer x29 : Value) undef), (41, iteV b_ (.bool x29.isNone : Value) undef), (42, iteV b_ (.bool (x17.isNone == x29.isNone) : Value) undef), (43, .bool (b_ && (x17.isNone == x29.isNone)))]) rfl (fun hb37 hq38 => oS [(38, .pointer x17)] rfl (owp_rdG (.bool x17.isNone) rfl (by kernel_rfl) (rd_eqNil (P := Tryz.prog) (h := h31) (t := 25) (el := 80) (by kernel_rfl) (by kernel_rfl)) (oS [(40, .pointer x29)] rfl (owp_rdG (.bool x29.isNone) rfl (by kernel_rfl) (rd_eqNil (P := Tryz.prog) (h := h31) (t := 26) (el := 95) (by kernel_rfl) (by kernel_rfl)) (oS [(42, .bool (x17.isNone == x29.isNone)), (43, .bool (x17.isNone == x29.isNone))] rfl (hq38)))))) (fun hb39 hq40 => oS [(38, undef), (39, undef), (40, undef), (41, undef), (42, undef), (43, .bool false)] rfl (hq40)) ?_
 refine oZ [(2, .pointer x17), (3, .pointer x29), (4, .bool ((x32 && (decide (x18 = x30))) && (x17.isNone == x29.isNone)))] ?_
 refine oE (cwp_ret ?_)
 exact ret_ (.tuple #[.pointer x17, .pointer x29, .bool ((x32 && (decide (x18 = x30))) && (x17.isNone == x29.isNone))]) (by kernel_rfl) ⟨_, _, _, rfl, hM⟩
/- (*mullion/vt.Screen).Answer -/
def vt_Screen_Answer (a1 : Option Addr) (K : ByteArray → Heap → Prop) (h : Heap) : Prop :=
 nz a1 fun p2 =>
 ldS h (p2.add 30) fun x3 =>
 stN (p2.add 30) [.string (⟨#[]⟩ : ByteArray)] 0 h fun h6 =>
 K x3 h6
theorem vt_Screen_Answer_ok (a1 : Option Addr) (K : ByteArray → Heap → Prop) (h : Heap) (hM : vt_Screen_Answer a1 K h) : CallsH Tryz.prog 20 #[.pointer a1] (fun v h' => ∃ (r7 : ByteArray), v = .string r7 ∧ K r7 h') h := by
 unfold vt_Screen_Answer at hM
 refine callsH_intro (n := 12) Tryz.func20 rfl rfl (by kernel_rfl) ?_
 refine cR ?_
 refine oZ [(2, .string (⟨#[]⟩ : ByteArray))] ?_
 refine oE (cR ?_)
 refine oZ [(4, .pointer a1)] ?_
 obtain ⟨p2, rfl, hM⟩ := hM
 refine owp_rdG (.pointer (some p2)) rfl (by kernel_rfl) (by kernel_rfl) ?_
 refine oZ [(6, .pointer (some (p2.add 30)))] ?_
 obtain ⟨x3, hc4, hM⟩ := hM
 refine oL (.string x3) (p2.add 30) hc4 ?_
 refine oZ [(3, .string x3)] ?_
 refine oE (cR ?_)
 refine oZ [(8, .pointer (some p2)), (9, .pointer (some p2)), (10, .pointer (some (p2.add 30)))] ?_
 refine oT (p2.add 30) [.string (⟨#[]⟩ : ByteArray)] hM ?_
 clear hM
 intro h6 hM
 refine oE (cR ?_)
 refine oZ [(11, .string x3), (2, .string x3)] ?_
 refine oE (cwp_ret ?_)
 exact ret_ (.string x3) (by kernel_rfl) ⟨_, rfl, hM⟩
/- (*mullion/vt.Screen).Alternate -/
def vt_Screen_Alternate (a1 : Option Addr) (K : Bool → Heap → Prop) (h : Heap) : Prop :=
 nz a1 fun p2 =>
 ldB h (p2.add 7) fun x3 =>
 K x3 h
theorem vt_Screen_Alternate_ok (a1 : Option Addr) (K : Bool → Heap → Prop) (h : Heap) (hM : vt_Screen_Alternate a1 K h) : CallsH Tryz.prog 14 #[.pointer a1] (fun v h' => ∃ (r6 : Bool), v = .bool r6 ∧ K r6 h') h := by
 unfold vt_Screen_Alternate at hM
 refine callsH_intro (n := 7) Tryz.func14 rfl rfl (by kernel_rfl) ?_
 refine cR ?_
 refine oZ [(2, .bool false)] ?_
 refine oE (cR ?_)
 refine oZ [(3, .pointer a1)] ?_
 obtain ⟨p2, rfl, hM⟩ := hM
 refine owp_rdG (.pointer (some p2)) rfl (by kernel_rfl) (by kernel_rfl) ?_
 refine oZ [(5, .pointer (some (p2.add 7)))] ?_
 obtain ⟨x3, hc4, hM⟩ := hM
 refine oL (.bool x3) (p2.add 7) hc4 ?_
 refine oZ [(2, .bool x3)] ?_
 refine oE (cwp_ret ?_)
 exact ret_ (.bool x3) (by kernel_rfl) ⟨_, rfl, hM⟩
/- (*mullion/vt.Screen).History -/
def vt_Screen_History (a1 : Option Addr) (K : Int → Heap → Prop) (h : Heap) : Prop :=
 nz a1 fun p2 =>
 ldL h (p2.add 8) fun x3 x3n x3c =>
 K (x3n : Int) h
theorem vt_Screen_History_ok (a1 : Option Addr) (K : Int → Heap → Prop) (h : Heap) (hM : vt_Screen_History a1 K h) : CallsH Tryz.prog 15 #[.pointer a1] (fun v h' => ∃ (r6 : Int), v = .int .i64 r6 ∧ K r6 h') h := by
 unfold vt_Screen_History at hM
 refine callsH_intro (n := 8) Tryz.func15 rfl rfl (by kernel_rfl) ?_
 refine cR ?_
 refine oZ [(2, .int .i64 0)] ?_
 refine oE (cR ?_)
 refine oZ [(3, .pointer a1)] ?_
 obtain ⟨p2, rfl, hM⟩ := hM
 refine owp_rdG (.pointer (some p2)) rfl (by kernel_rfl) (by kernel_rfl) ?_
 refine oZ [(5, .pointer (some (p2.add 8)))] ?_
 obtain ⟨x3, x3n, x3c, hc4, hM⟩ := hM
 refine oL (.slice x3 x3n x3c) (p2.add 8) hc4 ?_
 refine oZ [(7, .int .i64 (x3n : Int)), (2, .int .i64 (x3n : Int))] ?_
 refine oE (cwp_ret ?_)
 exact ret_ (.int .i64 (x3n : Int)) (by kernel_rfl) ⟨_, rfl, hM⟩
/- strings.trimRightByte -/
def strings_trimRightByte_l0 (K0 : ByteArray → Heap → Prop) : Nat → ByteArray → Int → Heap → Prop
  | 0, _, _, _ => False
  | k + 1, y3, y4, h =>
  ((decide (0 < (y3.size : Int))) = true → 0 ≤ (IntKind.wrap .i64 ((y3.size : Int) - 1))) ∧
  ((decide (0 < (y3.size : Int))) = true → (IntKind.wrap .i64 ((y3.size : Int) - 1)) < (y3.size : Int)) ∧
  if ((decide (0 < (y3.size : Int))) && (decide ((byteAt y3 (IntKind.wrap .i64 ((y3.size : Int) - 1))) = y4))) = true then
   0 ≤ (IntKind.wrap .i64 ((y3.size : Int) - 1)) ∧
   (IntKind.wrap .i64 ((y3.size : Int) - 1)) ≤ (y3.size : Int) ∧
   strings_trimRightByte_l0 K0 k (y3.extract 0 ((IntKind.wrap .i64 ((y3.size : Int) - 1)).toNat)) y4 h
  else
  K0 y3 h
theorem strings_trimRightByte_l0_ok {Q : Exit → Env → Heap → Prop} (K0 : ByteArray → Heap → Prop) (hK0 : ∀ (z18 : ByteArray) (b : Env) (h : Heap), K0 z18 h → Q (.exit 0) (upd b 0 (.string z18)) h) : ∀ (k : Nat) (y3 : ByteArray) (y4 : Int) (b : Env) (h : Heap) (hM : strings_trimRightByte_l0 K0 k y3 y4 h), lwp Tryz.prog (partC Tryz.f92 [1, 0, 0, 0]) 23 Q k (upd (upd b 0 (.string y3)) 1 (.int .u8 y4)) h := by
  intro k
  induction k with
  | zero => intro y3 y4 b h hM; exact (show False from hM).elim
  | succ k ih =>
    intro y3 y4 b h hM
    unfold strings_trimRightByte_l0 at hM
    refine lwp_succ (cwp_part rfl ?_)
    refine cwp_seq (cR ?_)
    refine oZ [(5, .string y3), (6, .int .i64 (y3.size : Int)), (7, .bool (decide (0 < (y3.size : Int)))), (8, .bool (decide (0 < (y3.size : Int))))] ?_
    obtain ⟨hc9, hM⟩ := hM
    obtain ⟨hc10, hM⟩ := hM
    refine oB (decide (0 < (y3.size : Int))) 8 [7, 8] (fun b_ => [(9, iteV b_ (.string y3 : Value) undef), (10, iteV b_ (.string y3 : Value) undef), (11, iteV b_ (.int .i64 (y3.size : Int) : Value) undef), (12, iteV b_ (.int .i64 (IntKind.wrap .i64 ((y3.size : Int) - 1)) : Value) undef), (13, iteV b_ (.int .u8 (byteAt y3 (IntKind.wrap .i64 ((y3.size : Int) - 1))) : Value) undef), (14, iteV b_ (.int .u8 y4 : Value) undef), (15, iteV b_ (.bool (decide ((byteAt y3 (IntKind.wrap .i64 ((y3.size : Int) - 1))) = y4)) : Value) undef), (16, .bool (b_ && (decide ((byteAt y3 (IntKind.wrap .i64 ((y3.size : Int) - 1))) = y4))))]) rfl (fun hb7 hq8 => have hc5 := hc9 hb7; have hc6 := hc10 hb7; oS [(9, .string y3), (10, .string y3), (11, .int .i64 (y3.size : Int)), (12, .int .i64 (IntKind.wrap .i64 ((y3.size : Int) - 1)))] rfl (owp_rdG (.int .u8 (byteAt y3 (IntKind.wrap .i64 ((y3.size : Int) - 1)))) rfl (by kernel_rfl) (rd_ixStr (P := Tryz.prog) (h := h) (t := 9) (s := y3) (k := .i64) (i := (IntKind.wrap .i64 ((y3.size : Int) - 1))) (by kernel_rfl) hc5 hc6 (by kernel_rfl)) (oS [(14, .int .u8 y4), (15, .bool (decide ((byteAt y3 (IntKind.wrap .i64 ((y3.size : Int) - 1))) = y4))), (16, .bool (decide ((byteAt y3 (IntKind.wrap .i64 ((y3.size : Int) - 1))) = y4)))] rfl (hq8)))) (fun hb11 hq12 => oS [(9, undef), (10, undef), (11, undef), (12, undef), (13, undef), (14, undef), (15, undef), (16, .bool false)] rfl (hq12)) ?_
    refine oE ?_
    refine cwp_condB ((decide (0 < (y3.size : Int))) && (decide ((byteAt y3 (IntKind.wrap .i64 ((y3.size : Int) - 1))) = y4))) (by kernel_rfl) (fun hc13 => ?_) (fun hc13 => ?_)
    · replace hM := ifT hc13 hM
      refine cwp_skip (thenE_n (cwp_block (cwp_region ?_)))
      refine oZ [(17, .string y3), (18, .string y3), (19, .int .i64 (y3.size : Int)), (20, .int .i64 (IntKind.wrap .i64 ((y3.size : Int) - 1)))] ?_
      obtain ⟨hc14, hM⟩ := hM
      obtain ⟨hc15, hM⟩ := hM
      refine owp_rdG (.string (y3.extract 0 ((IntKind.wrap .i64 ((y3.size : Int) - 1)).toNat))) rfl (by kernel_rfl) (rd_slHi (P := Tryz.prog) (h := h) (t := 9) (s := y3) (k := .i64) (i := (IntKind.wrap .i64 ((y3.size : Int) - 1))) (by kernel_rfl) hc14 hc15 (by kernel_rfl)) ?_
      refine oZ [(0, .string (y3.extract 0 ((IntKind.wrap .i64 ((y3.size : Int) - 1)).toNat)))] ?_
      refine owp_nil (blockE_n ?_)
      exact lA 0 (.string (y3.extract 0 ((IntKind.wrap .i64 ((y3.size : Int) - 1)).toNat))) (lA 1 (.int .u8 y4) (ih (y3.extract 0 ((IntKind.wrap .i64 ((y3.size : Int) - 1)).toNat)) y4 _ _ hM))
    replace hM := ifF hc13 hM
    refine cwp_exit (thenE_x ?_)
    exact q_at (Q := Q (.exit 0)) 0 (.string y3) (by kernel_rfl) (hK0 y3 _ _ hM)
def strings_trimRightByte (a1 : ByteArray) (a2 : Int) (K : ByteArray → Heap → Prop) (h : Heap) : Prop :=
 ∃ k22, strings_trimRightByte_l0
  (fun z19 h20 =>
      K z19 h20) k22 a1 a2 h
theorem strings_trimRightByte_ok (a1 : ByteArray) (a2 : Int) (K : ByteArray → Heap → Prop) (h : Heap) (hM : strings_trimRightByte a1 a2 K h) : CallsH Tryz.prog 92 #[.string a1, .int .u8 a2] (fun v h' => ∃ (r23 : ByteArray), v = .string r23 ∧ K r23 h') h := by
 unfold strings_trimRightByte at hM
 refine callsH_intro (n := 23) Tryz.func92 rfl rfl (by kernel_rfl) ?_
 refine cR ?_
 refine oZ [(4, .string (⟨#[]⟩ : ByteArray))] ?_
 refine oE (cwp_seq (cwp_block ?_))
 obtain ⟨k_, hM⟩ := hM
 refine cwp_loop k_ (lwp_of_part (fn := Tryz.f92) (p := [1, 0, 0, 0]) (by kernel_rfl) (lA 0 (.string a1) (lA 1 (.int .u8 a2) (strings_trimRightByte_l0_ok _ ?_ k_ a1 a2 _ _ hM))))
 · intro z19 b21 h20 hM
   refine blockE_h (thenE_n (cR ?_))
   refine oZ [(22, .string z19), (4, .string z19)] ?_
   refine oE (cwp_ret ?_)
   exact ret_ (.string z19) (by kernel_rfl) ⟨_, rfl, hM⟩
end Go.Proofs.YthjdnhhifjpidaaGreatDoor.M
