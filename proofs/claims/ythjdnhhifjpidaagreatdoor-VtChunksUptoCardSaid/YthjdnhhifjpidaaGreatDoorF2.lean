/-
  PRINTED BY A PROGRAM OF THIS CLAIM'S (gen.py): for each Go function a Lean function over memory, and the proof that the code comes to what it says.
-/
import Derived.Test.YthjdnhhifjpidaaGreatDoorF1
import Derived.Test.YthjdnhhifjpidaaGreatDoorProg
set_option linter.unusedVariables false
set_option linter.unusedSimpArgs false
set_option maxRecDepth 100000
set_option maxHeartbeats 1000000
namespace Go.Proofs.YthjdnhhifjpidaaGreatDoor.M
open Go Go.Hp
/- (*mullion/vt.Screen).write -/
def vt_Screen_write_j5 (Kn : Heap → Prop) (y131 : Addr) (y132 : Int) (h : Heap) : Prop :=
 stN (y131.add 18) [.bool false] 0 h fun h133 =>
 ldI h133 .i64 (y131.add 9) fun x134 =>
 stN (y131.add 9) [.int .i64 (IntKind.wrap .i64 (x134 + y132))] 0 h133 fun h137 =>
 ldI h137 .i64 (y131.add 9) fun x138 =>
 ldI h137 .i64 y131 fun x142 =>
 if x142 ≤ x138 then
  ldI h137 .i64 y131 fun x147 =>
  stN (y131.add 9) [.int .i64 (IntKind.wrap .i64 (x147 - 1))] 0 h137 fun h150 =>
  ldB h150 (y131.add 24) fun x151 =>
  stN (y131.add 18) [.bool x151] 0 h150 fun h154 =>
  Kn  h154
 else
 Kn  h137
theorem vt_Screen_write_j5_ok {Q : Exit → Env → Heap → Prop} (Kn : Heap → Prop) (hKn : ∀  (b : Env) (h : Heap), Kn  h → Q .normal b h) (y131 : Addr) (y132 : Int) (b : Env) (h : Heap) (hM : vt_Screen_write_j5 Kn y131 y132 h) : cwp Tryz.prog (partC Tryz.f82 [1, 1, 1, 1, 1, 1, 1, 1, 1, 1, 1, 1, 1, 1, 1]) 179 Q (upd (upd b 0 (.pointer (some y131))) 4 (.int .i64 y132)) h := by
  unfold vt_Screen_write_j5 at hM
  refine cwp_part rfl ?_
  refine cR ?_
  refine oZ [(138, .pointer (some y131)), (139, .pointer (some y131)), (140, .pointer (some (y131.add 9))), (141, .pointer (some (y131.add 18)))] ?_
  refine oT (y131.add 18) [.bool false] hM ?_
  clear hM
  intro h133 hM
  refine oE (cR ?_)
  refine oZ [(142, .pointer (some y131)), (143, .pointer (some y131)), (144, .pointer (some (y131.add 9))), (145, .pointer (some (y131.add 9)))] ?_
  obtain ⟨x134, hc135, hM⟩ := hM
  refine oL (.int .i64 x134) (y131.add 9) hc135 ?_
  refine oZ [(147, .int .i64 y132), (148, .int .i64 (IntKind.wrap .i64 (x134 + y132))), (149, .pointer (some y131)), (150, .pointer (some (y131.add 9))), (151, .pointer (some (y131.add 9)))] ?_
  refine oT (y131.add 9) [.int .i64 (IntKind.wrap .i64 (x134 + y132))] hM ?_
  clear hM
  intro h137 hM
  refine oE (cwp_seq ?_)
  refine cwp_draw (by kernel_rfl) ?_
  refine kq 0 (.pointer (some y131)) ?_
  refine kq 1 (.pointer (some y131)) ?_
  refine kq 2 (.pointer (some (y131.add 9))) ?_
  refine kq 3 (.pointer (some (y131.add 9))) ?_
  obtain ⟨x138, hc139, hM⟩ := hM
  refine kl 4 (.int .i64 x138) (y131.add 9) [9] [] hc139 ?_
  refine kq 5 (.pointer (some y131)) ?_
  refine kq 6 (.pointer (some y131)) ?_
  refine kq 7 (.pointer (some y131)) ?_
  obtain ⟨x142, hc143, hM⟩ := hM
  refine kl 8 (.int .i64 x142) y131 [9] [] hc143 ?_
  refine kq 9 (.bool (decide (x142 ≤ x138))) ?_
  refine k_done (by kernel_rfl) ?_
  refine thenE_n ?_
  refine cwp_condD (x142 ≤ x138) (by kernel_rfl) (fun hc146 => ?_) (fun hc146 => ?_)
  · replace hM := ifT hc146 hM
    refine cR ?_
    refine oZ [(162, .pointer (some y131)), (163, .pointer (some y131)), (164, .pointer (some y131)), (165, .pointer (some y131))] ?_
    obtain ⟨x147, hc148, hM⟩ := hM
    refine oL (.int .i64 x147) y131 hc148 ?_
    refine oZ [(167, .int .i64 (IntKind.wrap .i64 (x147 - 1))), (168, .pointer (some y131)), (169, .pointer (some (y131.add 9))), (170, .pointer (some (y131.add 9)))] ?_
    refine oT (y131.add 9) [.int .i64 (IntKind.wrap .i64 (x147 - 1))] hM ?_
    clear hM
    intro h150 hM
    refine oE (cwp_region ?_)
    refine oZ [(171, .pointer (some y131)), (172, .pointer (some y131)), (173, .pointer (some y131)), (174, .pointer (some (y131.add 24)))] ?_
    obtain ⟨x151, hc152, hM⟩ := hM
    refine oL (.bool x151) (y131.add 24) hc152 ?_
    refine oZ [(176, .pointer (some y131)), (177, .pointer (some (y131.add 9))), (178, .pointer (some (y131.add 18)))] ?_
    refine oT (y131.add 18) [.bool x151] hM ?_
    clear hM
    intro h154 hM
    refine owp_nil ?_
    exact hKn  _ _ hM
  replace hM := ifF hc146 hM
  refine cwp_skip ?_
  exact hKn  _ _ hM
def vt_Screen_write_j4 (Kn : Heap → Prop) (y78 : Addr) (y79 : Int) (y80 : Int) (h : Heap) : Prop :=
 vt_Screen_row (some y78) (fun x82 x82n x82c h81 =>
  ldI h81 .i64 (y78.add 9) fun x83 =>
  vt_row_cut x82 x82n x82c x83 (fun  h86 =>
   ldI h86 .i64 (y78.add 9) fun x87 =>
   vt_row_cut x82 x82n x82c (IntKind.wrap .i64 (x87 + y80)) (fun  h90 =>
    ldI h90 .i64 (y78.add 9) fun x91 =>
    ldI h90 .i64 (y78.add 11) fun x95 =>
    ldI h90 .i64 (y78.add 12) fun x97 =>
    ldI h90 .i64 (y78.add 13) fun x99 =>
    nz x82 fun p109 =>
    0 ≤ x91 ∧
    x91 < (x82n : Int) ∧
    stN (p109.add ((x91).toNat * 5)) [.string (Utf8.encode y79), .int .i64 y80, .int .i64 x95, .int .i64 x97, .int .i64 x99] 0 h90 fun h110 =>
    if y80 = 2 then
     ldI h110 .i64 (y78.add 9) fun x112 =>
     ldI h110 .i64 (y78.add 11) fun x116 =>
     ldI h110 .i64 (y78.add 12) fun x118 =>
     ldI h110 .i64 (y78.add 13) fun x120 =>
     0 ≤ (IntKind.wrap .i64 (x112 + 1)) ∧
     (IntKind.wrap .i64 (x112 + 1)) < (x82n : Int) ∧
     stN (p109.add ((IntKind.wrap .i64 (x112 + 1)).toNat * 5)) [.string (⟨#[]⟩ : ByteArray), .int .i64 0, .int .i64 x116, .int .i64 x118, .int .i64 x120] 0 h110 fun h130 =>
     vt_Screen_write_j5
      (fun  h155 =>
          Kn  h155) y78 y80 h130
    else
    vt_Screen_write_j5
     (fun  h158 =>
            Kn  h158) y78 y80 h110) h86) h81) h
theorem vt_Screen_write_j4_ok {Q : Exit → Env → Heap → Prop} (Kn : Heap → Prop) (hKn : ∀  (b : Env) (h : Heap), Kn  h → Q .normal b h) (y78 : Addr) (y79 : Int) (y80 : Int) (b : Env) (h : Heap) (hM : vt_Screen_write_j4 Kn y78 y79 y80 h) : cwp Tryz.prog (partC Tryz.f82 [1, 1, 1, 1, 1, 1, 1, 1, 1, 1]) 179 Q (upd (upd (upd b 0 (.pointer (some y78))) 1 (.int .i32 y79)) 4 (.int .i64 y80)) h := by
  unfold vt_Screen_write_j4 at hM
  refine cwp_part rfl ?_
  refine cR ?_
  refine oZ [(88, .pointer (some y78))] ?_
  refine oG (hpCallE 108 #[.pointer (some y78)] (by kernel_rfl) (vt_Screen_row_ok (some y78) _ h hM) ?_)
  clear hM
  rintro _ h81 ⟨x82, x82n, x82c, rfl, hM⟩
  refine oZ [(7, .slice x82 x82n x82c)] ?_
  refine oE (cR ?_)
  refine oZ [(90, .slice x82 x82n x82c), (91, .pointer (some y78)), (92, .pointer (some y78)), (93, .pointer (some (y78.add 9))), (94, .pointer (some (y78.add 9)))] ?_
  obtain ⟨x83, hc84, hM⟩ := hM
  refine oL (.int .i64 x83) (y78.add 9) hc84 ?_
  refine oG (hpCallE 56 #[.slice x82 x82n x82c, .int .i64 x83] (by kernel_rfl) (vt_row_cut_ok x82 x82n x82c x83 _ h81 hM) ?_)
  clear hM
  rintro _ h86 ⟨rfl, hM⟩
  refine oE (cR ?_)
  refine oZ [(97, .slice x82 x82n x82c), (98, .pointer (some y78)), (99, .pointer (some y78)), (100, .pointer (some (y78.add 9))), (101, .pointer (some (y78.add 9)))] ?_
  obtain ⟨x87, hc88, hM⟩ := hM
  refine oL (.int .i64 x87) (y78.add 9) hc88 ?_
  refine oZ [(103, .int .i64 y80), (104, .int .i64 (IntKind.wrap .i64 (x87 + y80)))] ?_
  refine oG (hpCallE 56 #[.slice x82 x82n x82c, .int .i64 (IntKind.wrap .i64 (x87 + y80))] (by kernel_rfl) (vt_row_cut_ok x82 x82n x82c (IntKind.wrap .i64 (x87 + y80)) _ h86 hM) ?_)
  clear hM
  rintro _ h90 ⟨rfl, hM⟩
  refine oE (cwp_seq ?_)
  refine cwp_draw (by kernel_rfl) ?_
  refine kq 0 (.slice x82 x82n x82c) ?_
  refine kq 1 (.pointer (some y78)) ?_
  refine kq 2 (.pointer (some y78)) ?_
  refine kq 3 (.pointer (some (y78.add 9))) ?_
  refine kq 4 (.pointer (some (y78.add 9))) ?_
  obtain ⟨x91, hc92, hM⟩ := hM
  refine kl 5 (.int .i64 x91) (y78.add 9) [15, 16] [16] hc92 ?_
  refine kq 6 (.int .i32 y79) ?_
  refine kq 7 (.string (Utf8.encode y79)) ?_
  refine kq 8 (.int .i64 y80) ?_
  refine kq 9 (.pointer (some y78)) ?_
  refine kq 10 (.pointer (some y78)) ?_
  refine kq 11 (.pointer (some (y78.add 9))) ?_
  refine kq 12 (.pointer (some (y78.add 11))) ?_
  obtain ⟨x95, hc96, hM⟩ := hM
  obtain ⟨x97, hc98, hM⟩ := hM
  obtain ⟨x99, hc100, hM⟩ := hM
  refine k_load (i := 13) (.agg #[.int .i64 x95, .int .i64 x97, .int .i64 x99]) (fun h' => cellH h' (y78.add 11) = some (.int .i64 x95) ∧ cellH h' (y78.add 12) = some (.int .i64 x97) ∧ cellH h' (y78.add 13) = some (.int .i64 x99) ∧ True) [14, 15, 16] [16] (by kernel_rfl) (by kernel_rfl) rfl rfl (by kernel_rfl) (fun h' hS => Eq.trans (b := (cellH h' (y78.add 11)).bind fun v104 => (cellH h' (y78.add 12)).bind fun v105 => (cellH h' (y78.add 13)).bind fun v106 => some (.value (.agg #[v104, v105, v106]))) (by kernel_rfl) ((bindE hS.1 _).trans ((bindE hS.2.1 _).trans (bindE hS.2.2.1 _)))) ⟨hc96, hc98, hc100, trivial⟩ (by kernel_rfl) ?_
  refine kq 14 (.agg #[.string (Utf8.encode y79), .int .i64 y80, .int .i64 x95, .int .i64 x97, .int .i64 x99]) ?_
  obtain ⟨p109, rfl, hM⟩ := hM
  obtain ⟨hc107, hM⟩ := hM
  obtain ⟨hc108, hM⟩ := hM
  refine k_pure (i := 15) [16] (.pointer (some (p109.add ((x91).toNat * 5)))) (by kernel_rfl) rfl rfl (by kernel_rfl) (fun h' => rd_ixS (P := Tryz.prog) (h := h') (t := 81) (el := 52) (sz := 5) (ad := p109) (len := x82n) (c := x82c) (k := .i64) (i := x91) (by kernel_rfl) (by kernel_rfl) hc107 hc108 (by kernel_rfl)) (by kernel_rfl) ?_
  refine kD 16 (hpSt (p109.add ((x91).toNat * 5)) [.string (Utf8.encode y79), .int .i64 y80, .int .i64 x95, .int .i64 x97, .int .i64 x99] (fun _ => by kernel_rfl) (by kernel_rfl) hM ?_)
  clear hM
  intro h110 hM
  refine ⟨trivial, ?_⟩
  refine k_done (by kernel_rfl) ?_
  refine thenE_n (cwp_seq (cR ?_))
  refine oZ [(122, .int .i64 y80), (123, .bool (decide (y80 = 2)))] ?_
  refine oE ?_
  refine cwp_condD (y80 = 2) (by kernel_rfl) (fun hc111 => ?_) (fun hc111 => ?_)
  · replace hM := ifT hc111 hM
    refine cwp_draw (by kernel_rfl) ?_
    refine kq 0 (.slice (some p109) x82n x82c) ?_
    refine kq 1 (.pointer (some y78)) ?_
    refine kq 2 (.pointer (some y78)) ?_
    refine kq 3 (.pointer (some (y78.add 9))) ?_
    refine kq 4 (.pointer (some (y78.add 9))) ?_
    obtain ⟨x112, hc113, hM⟩ := hM
    refine kl 5 (.int .i64 x112) (y78.add 9) [6, 13, 14] [14] hc113 ?_
    refine kq 6 (.int .i64 (IntKind.wrap .i64 (x112 + 1))) ?_
    refine kq 7 (.pointer (some y78)) ?_
    refine kq 8 (.pointer (some y78)) ?_
    refine kq 9 (.pointer (some (y78.add 9))) ?_
    refine kq 10 (.pointer (some (y78.add 11))) ?_
    obtain ⟨x116, hc117, hM⟩ := hM
    obtain ⟨x118, hc119, hM⟩ := hM
    obtain ⟨x120, hc121, hM⟩ := hM
    refine k_load (i := 11) (.agg #[.int .i64 x116, .int .i64 x118, .int .i64 x120]) (fun h' => cellH h' (y78.add 11) = some (.int .i64 x116) ∧ cellH h' (y78.add 12) = some (.int .i64 x118) ∧ cellH h' (y78.add 13) = some (.int .i64 x120) ∧ True) [12, 13, 14] [14] (by kernel_rfl) (by kernel_rfl) rfl rfl (by kernel_rfl) (fun h' hS => Eq.trans (b := (cellH h' (y78.add 11)).bind fun v125 => (cellH h' (y78.add 12)).bind fun v126 => (cellH h' (y78.add 13)).bind fun v127 => some (.value (.agg #[v125, v126, v127]))) (by kernel_rfl) ((bindE hS.1 _).trans ((bindE hS.2.1 _).trans (bindE hS.2.2.1 _)))) ⟨hc117, hc119, hc121, trivial⟩ (by kernel_rfl) ?_
    refine kq 12 (.agg #[.string (⟨#[]⟩ : ByteArray), .int .i64 0, .int .i64 x116, .int .i64 x118, .int .i64 x120]) ?_
    obtain ⟨hc128, hM⟩ := hM
    obtain ⟨hc129, hM⟩ := hM
    refine k_pure (i := 13) [14] (.pointer (some (p109.add ((IntKind.wrap .i64 (x112 + 1)).toNat * 5)))) (by kernel_rfl) rfl rfl (by kernel_rfl) (fun h' => rd_ixS (P := Tryz.prog) (h := h') (t := 81) (el := 52) (sz := 5) (ad := p109) (len := x82n) (c := x82c) (k := .i64) (i := (IntKind.wrap .i64 (x112 + 1))) (by kernel_rfl) (by kernel_rfl) hc128 hc129 (by kernel_rfl)) (by kernel_rfl) ?_
    refine kD 14 (hpSt (p109.add ((IntKind.wrap .i64 (x112 + 1)).toNat * 5)) [.string (⟨#[]⟩ : ByteArray), .int .i64 0, .int .i64 x116, .int .i64 x118, .int .i64 x120] (fun _ => by kernel_rfl) (by kernel_rfl) hM ?_)
    clear hM
    intro h130 hM
    refine ⟨trivial, ?_⟩
    refine k_done (by kernel_rfl) ?_
    refine thenE_n ?_
    refine cwp_of_part (fn := Tryz.f82) (p := [1, 1, 1, 1, 1, 1, 1, 1, 1, 1, 1, 1, 1, 1, 1]) (by kernel_rfl) (cA 0 (.pointer (some y78)) (cA 4 (.int .i64 y80) (vt_Screen_write_j5_ok _ ?_ y78 y80 _ _ hM)))
    · intro  b156 h155 hM
      exact hKn  _ _ hM
  replace hM := ifF hc111 hM
  refine cwp_skip (thenE_n ?_)
  refine cwp_of_part (fn := Tryz.f82) (p := [1, 1, 1, 1, 1, 1, 1, 1, 1, 1, 1, 1, 1, 1, 1]) (by kernel_rfl) (cA 0 (.pointer (some y78)) (cA 4 (.int .i64 y80) (vt_Screen_write_j5_ok _ ?_ y78 y80 _ _ hM)))
  · intro  b159 h158 hM
    exact hKn  _ _ hM
def vt_Screen_write_j3 (Kn : Heap → Prop) (y68 : Addr) (y69 : Int) (y70 : Int) (y71 : Int) (h : Heap) : Prop :=
 stN (y68.add 40) [.int .i32 y71] 0 h fun h72 =>
 ldB h72 (y68.add 22) fun x73 =>
 if x73 = true then
  vt_Screen_open (some y68) y70 (fun  h77 =>
   vt_Screen_write_j4
    (fun  h161 =>
         Kn  h161) y68 y69 y70 h77) h72
 else
 vt_Screen_write_j4
  (fun  h164 =>
      Kn  h164) y68 y69 y70 h72
theorem vt_Screen_write_j3_ok {Q : Exit → Env → Heap → Prop} (Kn : Heap → Prop) (hKn : ∀  (b : Env) (h : Heap), Kn  h → Q .normal b h) (y68 : Addr) (y69 : Int) (y70 : Int) (y71 : Int) (b : Env) (h : Heap) (hM : vt_Screen_write_j3 Kn y68 y69 y70 y71 h) : cwp Tryz.prog (partC Tryz.f82 [1, 1, 1, 1, 1, 1, 1, 1]) 179 Q (upd (upd (upd (upd b 0 (.pointer (some y68))) 1 (.int .i32 y69)) 4 (.int .i64 y70)) 5 (.int .i32 y71)) h := by
  unfold vt_Screen_write_j3 at hM
  refine cwp_part rfl ?_
  refine cR ?_
  refine oZ [(77, .pointer (some y68)), (78, .int .i32 y71), (79, .pointer (some y68)), (80, .pointer (some (y68.add 40)))] ?_
  refine oT (y68.add 40) [.int .i32 y71] hM ?_
  clear hM
  intro h72 hM
  refine oE (cwp_seq (cR ?_))
  refine oZ [(81, .pointer (some y68)), (82, .pointer (some y68)), (83, .pointer (some (y68.add 22)))] ?_
  obtain ⟨x73, hc74, hM⟩ := hM
  refine oL (.bool x73) (y68.add 22) hc74 ?_
  refine oE ?_
  refine cwp_condB x73 (by kernel_rfl) (fun hc76 => ?_) (fun hc76 => ?_)
  · replace hM := ifT hc76 hM
    refine cwp_region ?_
    refine oZ [(85, .pointer (some y68)), (86, .int .i64 y70)] ?_
    refine oG (hpCallE 107 #[.pointer (some y68), .int .i64 y70] (by kernel_rfl) (vt_Screen_open_ok (some y68) y70 _ h72 hM) ?_)
    clear hM
    rintro _ h77 ⟨rfl, hM⟩
    refine oE ?_
    refine cwp_of_part (fn := Tryz.f82) (p := [1, 1, 1, 1, 1, 1, 1, 1, 1, 1]) (by kernel_rfl) (cA 0 (.pointer (some y68)) (cA 1 (.int .i32 y69) (cA 4 (.int .i64 y70) (vt_Screen_write_j4_ok _ ?_ y68 y69 y70 _ _ hM))))
    · intro  b162 h161 hM
      exact hKn  _ _ hM
  replace hM := ifF hc76 hM
  refine cwp_skip (thenE_n ?_)
  refine cwp_of_part (fn := Tryz.f82) (p := [1, 1, 1, 1, 1, 1, 1, 1, 1, 1]) (by kernel_rfl) (cA 0 (.pointer (some y68)) (cA 1 (.int .i32 y69) (cA 4 (.int .i64 y70) (vt_Screen_write_j4_ok _ ?_ y68 y69 y70 _ _ hM))))
  · intro  b165 h164 hM
    exact hKn  _ _ hM
def vt_Screen_write_j2 (Kn : Heap → Prop) (Kr : Heap → Prop) (y41 : Addr) (y42 : Int) (y43 : Int) (y44 : Int) (h : Heap) : Prop :=
 if y43 = 2 then
  ldI h .i64 (y41.add 9) fun x46 =>
  ldI h .i64 y41 fun x50 =>
  if x46 = (IntKind.wrap .i64 (x50 - 1)) then
   ldB h (y41.add 24) fun x55 =>
   if (!x55) = true then
    Kr  h
   else
   ldI h .i64 y41 fun x62 =>
   if x62 = 1 then
    Kr  h
   else
   stN (y41.add 9) [.int .i64 0] 0 h fun h66 =>
   vt_Screen_feed (some y41) (fun  h67 =>
    vt_Screen_write_j3
     (fun  h167 =>
          Kn  h167) y41 y42 y43 y44 h67) h66
  else
  vt_Screen_write_j3
   (fun  h170 =>
       Kn  h170) y41 y42 y43 y44 h
 else
 vt_Screen_write_j3
  (fun  h173 =>
      Kn  h173) y41 y42 y43 y44 h
theorem vt_Screen_write_j2_ok {Q : Exit → Env → Heap → Prop} (Kn : Heap → Prop) (hKn : ∀  (b : Env) (h : Heap), Kn  h → Q .normal b h) (Kr : Heap → Prop) (hKr : ∀  (b : Env) (h : Heap), Kr  h → Q .ret b h) (y41 : Addr) (y42 : Int) (y43 : Int) (y44 : Int) (b : Env) (h : Heap) (hM : vt_Screen_write_j2 Kn Kr y41 y42 y43 y44 h) : cwp Tryz.prog (partC Tryz.f82 [1, 1, 1, 1, 1, 1, 1]) 179 Q (upd (upd (upd (upd b 0 (.pointer (some y41))) 1 (.int .i32 y42)) 4 (.int .i64 y43)) 5 (.int .i32 y44)) h := by
  unfold vt_Screen_write_j2 at hM
  refine cwp_part rfl ?_
  refine cwp_seq (cwp_seq ?_)
  refine cwp_draw (by kernel_rfl) ?_
  refine kq 0 (.int .i64 y43) ?_
  refine kq 1 (.bool (decide (y43 = 2))) ?_
  refine kq 2 (.bool (decide (y43 = 2))) ?_
  by_cases hc45 : y43 = 2
  · refine kA 45 true (decide (y43 = 2)) (by rw [decide_eq_true hc45]) ?_
    refine kA 46 true (decide (y43 = 2)) (by rw [decide_eq_true hc45]) ?_
    replace hM := ifT hc45 hM
    refine kq 3 (.pointer (some y41)) ?_
    refine kq 4 (.pointer (some y41)) ?_
    refine kq 5 (.pointer (some (y41.add 9))) ?_
    refine kq 6 (.pointer (some (y41.add 9))) ?_
    obtain ⟨x46, hc47, hM⟩ := hM
    refine kl 7 (.int .i64 x46) (y41.add 9) [13, 14] [] hc47 ?_
    refine kq 8 (.pointer (some y41)) ?_
    refine kq 9 (.pointer (some y41)) ?_
    refine kq 10 (.pointer (some y41)) ?_
    obtain ⟨x50, hc51, hM⟩ := hM
    refine kl 11 (.int .i64 x50) y41 [12, 13, 14] [] hc51 ?_
    refine kq 12 (.int .i64 (IntKind.wrap .i64 (x50 - 1))) ?_
    refine kq 13 (.bool (decide (x46 = (IntKind.wrap .i64 (x50 - 1))))) ?_
    refine kq 14 (.bool (decide (x46 = (IntKind.wrap .i64 (x50 - 1))))) ?_
    refine k_done (by kernel_rfl) ?_
    refine thenE_n ?_
    refine cwp_condD (x46 = (IntKind.wrap .i64 (x50 - 1))) (by kernel_rfl) (fun hc54 => ?_) (fun hc54 => ?_)
    · replace hM := ifT hc54 hM
      refine cwp_seq (cR ?_)
      refine oZ [(59, .pointer (some y41)), (60, .pointer (some y41)), (61, .pointer (some (y41.add 24)))] ?_
      obtain ⟨x55, hc56, hM⟩ := hM
      refine oL (.bool x55) (y41.add 24) hc56 ?_
      refine oZ [(63, .bool (!x55)), (64, .bool (!x55))] ?_
      by_cases hc61 : (!x55) = true
      · refine oA 63 true (!x55) (by rw [hc61]) ?_
        refine oA 64 true (!x55) (by rw [hc61]) ?_
        replace hM := ifT hc61 hM
        refine oZ [(65, undef), (66, undef), (67, undef), (68, undef), (69, undef), (70, .bool true)] ?_
        refine oE ?_
        refine cwp_cond (t := true) (by kernel_rfl) (fun hx_ => ?_) (fun hx_ => ?_)
        all_goals first | (cases hx_; done) | skip
        refine cwp_ret (thenE_r (thenE_r ?_))
        exact hKr  _ _ hM
      refine oA 63 false (!x55) (by rw [Bool.eq_false_iff.2 hc61]) ?_
      refine oA 64 false (!x55) (by rw [Bool.eq_false_iff.2 hc61]) ?_
      replace hM := ifF hc61 hM
      refine oZ [(65, .pointer (some y41)), (66, .pointer (some y41)), (67, .pointer (some y41))] ?_
      obtain ⟨x62, hc63, hM⟩ := hM
      refine oL (.int .i64 x62) y41 hc63 ?_
      refine oZ [(69, .bool (decide (x62 = 1))), (70, .bool (decide (x62 = 1)))] ?_
      refine oE ?_
      refine cwp_condD (x62 = 1) (by kernel_rfl) (fun hc65 => ?_) (fun hc65 => ?_)
      · replace hM := ifT hc65 hM
        refine cwp_ret (thenE_r (thenE_r ?_))
        exact hKr  _ _ hM
      replace hM := ifF hc65 hM
      refine cwp_skip (thenE_n (cR ?_))
      refine oZ [(71, .pointer (some y41)), (72, .pointer (some y41)), (73, .pointer (some (y41.add 9))), (74, .pointer (some (y41.add 9)))] ?_
      refine oT (y41.add 9) [.int .i64 0] hM ?_
      clear hM
      intro h66 hM
      refine oE (cwp_region ?_)
      refine oZ [(75, .pointer (some y41))] ?_
      refine oG (hpCallE 106 #[.pointer (some y41)] (by kernel_rfl) (vt_Screen_feed_ok (some y41) _ h66 hM) ?_)
      clear hM
      rintro _ h67 ⟨rfl, hM⟩
      refine oE ?_
      refine cwp_of_part (fn := Tryz.f82) (p := [1, 1, 1, 1, 1, 1, 1, 1]) (by kernel_rfl) (cA 0 (.pointer (some y41)) (cA 1 (.int .i32 y42) (cA 4 (.int .i64 y43) (cA 5 (.int .i32 y44) (vt_Screen_write_j3_ok _ ?_ y41 y42 y43 y44 _ _ hM)))))
      · intro  b168 h167 hM
        exact hKn  _ _ hM
    replace hM := ifF hc54 hM
    refine cwp_skip (thenE_n ?_)
    refine cwp_of_part (fn := Tryz.f82) (p := [1, 1, 1, 1, 1, 1, 1, 1]) (by kernel_rfl) (cA 0 (.pointer (some y41)) (cA 1 (.int .i32 y42) (cA 4 (.int .i64 y43) (cA 5 (.int .i32 y44) (vt_Screen_write_j3_ok _ ?_ y41 y42 y43 y44 _ _ hM)))))
    · intro  b171 h170 hM
      exact hKn  _ _ hM
  refine kA 45 false (decide (y43 = 2)) (by rw [decide_eq_false hc45]) ?_
  refine kA 46 false (decide (y43 = 2)) (by rw [decide_eq_false hc45]) ?_
  replace hM := ifF hc45 hM
  refine km 3 ?_
  refine km 4 ?_
  refine km 5 ?_
  refine km 6 ?_
  refine km 7 ?_
  refine km 8 ?_
  refine km 9 ?_
  refine km 10 ?_
  refine km 11 ?_
  refine km 12 ?_
  refine km 13 ?_
  refine kq 14 (.bool false) ?_
  refine k_done (by kernel_rfl) ?_
  refine thenE_n ?_
  refine cwp_cond (t := false) (by kernel_rfl) (fun hx_ => ?_) (fun hx_ => ?_)
  all_goals first | (cases hx_; done) | skip
  refine cwp_skip (thenE_n ?_)
  refine cwp_of_part (fn := Tryz.f82) (p := [1, 1, 1, 1, 1, 1, 1, 1]) (by kernel_rfl) (cA 0 (.pointer (some y41)) (cA 1 (.int .i32 y42) (cA 4 (.int .i64 y43) (cA 5 (.int .i32 y44) (vt_Screen_write_j3_ok _ ?_ y41 y42 y43 y44 _ _ hM)))))
  · intro  b174 h173 hM
    exact hKn  _ _ hM
def vt_Screen_write_j1 (Kn : Heap → Prop) (Kr : Heap → Prop) (y24 : Addr) (y25 : Int) (y26 : Int) (y27 : Int) (h : Heap) : Prop :=
 ldB h (y24.add 18) fun x28 =>
 if x28 = true then
  ldB h (y24.add 24) fun x35 =>
  if x35 = true then
   stN (y24.add 9) [.int .i64 0] 0 h fun h39 =>
   vt_Screen_feed (some y24) (fun  h40 =>
    vt_Screen_write_j2
     (fun  h176 =>
         Kn  h176)
     (fun  h178 =>
          Kr  h178) y24 y25 y26 y27 h40) h39
  else
  vt_Screen_write_j2
   (fun  h181 =>
       Kn  h181)
   (fun  h183 =>
       Kr  h183) y24 y25 y26 y27 h
 else
 vt_Screen_write_j2
  (fun  h186 =>
      Kn  h186)
  (fun  h188 =>
      Kr  h188) y24 y25 y26 y27 h
theorem vt_Screen_write_j1_ok {Q : Exit → Env → Heap → Prop} (Kn : Heap → Prop) (hKn : ∀  (b : Env) (h : Heap), Kn  h → Q .normal b h) (Kr : Heap → Prop) (hKr : ∀  (b : Env) (h : Heap), Kr  h → Q .ret b h) (y24 : Addr) (y25 : Int) (y26 : Int) (y27 : Int) (b : Env) (h : Heap) (hM : vt_Screen_write_j1 Kn Kr y24 y25 y26 y27 h) : cwp Tryz.prog (partC Tryz.f82 [1, 1, 1, 1, 1, 1]) 179 Q (upd (upd (upd (upd b 0 (.pointer (some y24))) 1 (.int .i32 y25)) 4 (.int .i64 y26)) 5 (.int .i32 y27)) h := by
  unfold vt_Screen_write_j1 at hM
  refine cwp_part rfl ?_
  refine cwp_seq (cR ?_)
  refine oZ [(27, .pointer (some y24)), (28, .pointer (some y24)), (29, .pointer (some (y24.add 9))), (30, .pointer (some (y24.add 18)))] ?_
  obtain ⟨x28, hc29, hM⟩ := hM
  refine oL (.bool x28) (y24.add 18) hc29 ?_
  refine oZ [(32, .bool x28)] ?_
  by_cases hc34 : x28 = true
  · refine oA 31 true x28 (by rw [hc34]) ?_
    refine oA 32 true x28 (by rw [hc34]) ?_
    replace hM := ifT hc34 hM
    refine oZ [(33, .pointer (some y24)), (34, .pointer (some y24)), (35, .pointer (some (y24.add 24)))] ?_
    obtain ⟨x35, hc36, hM⟩ := hM
    refine oL (.bool x35) (y24.add 24) hc36 ?_
    refine oZ [(37, .bool x35)] ?_
    refine oE ?_
    refine cwp_condB x35 (by kernel_rfl) (fun hc38 => ?_) (fun hc38 => ?_)
    · replace hM := ifT hc38 hM
      refine cR ?_
      refine oZ [(38, .pointer (some y24)), (39, .pointer (some y24)), (40, .pointer (some (y24.add 9))), (41, .pointer (some (y24.add 9)))] ?_
      refine oT (y24.add 9) [.int .i64 0] hM ?_
      clear hM
      intro h39 hM
      refine oE (cwp_region ?_)
      refine oZ [(42, .pointer (some y24))] ?_
      refine oG (hpCallE 106 #[.pointer (some y24)] (by kernel_rfl) (vt_Screen_feed_ok (some y24) _ h39 hM) ?_)
      clear hM
      rintro _ h40 ⟨rfl, hM⟩
      refine oE ?_
      refine cwp_of_part (fn := Tryz.f82) (p := [1, 1, 1, 1, 1, 1, 1]) (by kernel_rfl) (cA 0 (.pointer (some y24)) (cA 1 (.int .i32 y25) (cA 4 (.int .i64 y26) (cA 5 (.int .i32 y27) (vt_Screen_write_j2_ok _ ?_ _ ?_ y24 y25 y26 y27 _ _ hM)))))
      · intro  b177 h176 hM
        exact hKn  _ _ hM
      · intro  b179 h178 hM
        exact hKr  _ _ hM
    replace hM := ifF hc38 hM
    refine cwp_skip (thenE_n ?_)
    refine cwp_of_part (fn := Tryz.f82) (p := [1, 1, 1, 1, 1, 1, 1]) (by kernel_rfl) (cA 0 (.pointer (some y24)) (cA 1 (.int .i32 y25) (cA 4 (.int .i64 y26) (cA 5 (.int .i32 y27) (vt_Screen_write_j2_ok _ ?_ _ ?_ y24 y25 y26 y27 _ _ hM)))))
    · intro  b182 h181 hM
      exact hKn  _ _ hM
    · intro  b184 h183 hM
      exact hKr  _ _ hM
  refine oA 31 false x28 (by rw [Bool.eq_false_iff.2 hc34]) ?_
  refine oA 32 false x28 (by rw [Bool.eq_false_iff.2 hc34]) ?_
  replace hM := ifF hc34 hM
  refine oZ [(33, undef), (34, undef), (35, undef), (36, undef), (37, .bool false)] ?_
  refine oE ?_
  refine cwp_cond (t := false) (by kernel_rfl) (fun hx_ => ?_) (fun hx_ => ?_)
  all_goals first | (cases hx_; done) | skip
  refine cwp_skip (thenE_n ?_)
  refine cwp_of_part (fn := Tryz.f82) (p := [1, 1, 1, 1, 1, 1, 1]) (by kernel_rfl) (cA 0 (.pointer (some y24)) (cA 1 (.int .i32 y25) (cA 4 (.int .i64 y26) (cA 5 (.int .i32 y27) (vt_Screen_write_j2_ok _ ?_ _ ?_ y24 y25 y26 y27 _ _ hM)))))
  · intro  b187 h186 hM
    exact hKn  _ _ hM
  · intro  b189 h188 hM
    exact hKr  _ _ hM
def vt_Screen_write_j0 (Kn : Heap → Prop) (Kr : Heap → Prop) (y11 : Addr) (y12 : Int) (y13 : Int) (y14 : Int) (y15 : Int) (h : Heap) : Prop :=
 0 ≤ y15 ∧
 y15 < (2 : Int) ∧
 ldB h ((y11.add 15).add (y15.toNat * 1)) fun x18 =>
 if x18 = true then
  gap h fun h22 =>
  vt_Screen_write_j1
   (fun  h191 =>
       Kn  h191)
   (fun  h193 =>
       Kr  h193) y11 (vt_drawn y12) y13 y14 h22
 else
 vt_Screen_write_j1
  (fun  h196 =>
      Kn  h196)
  (fun  h198 =>
      Kr  h198) y11 y12 y13 y14 h
theorem vt_Screen_write_j0_ok {Q : Exit → Env → Heap → Prop} (Kn : Heap → Prop) (hKn : ∀  (b : Env) (h : Heap), Kn  h → Q .normal b h) (Kr : Heap → Prop) (hKr : ∀  (b : Env) (h : Heap), Kr  h → Q .ret b h) (y11 : Addr) (y12 : Int) (y13 : Int) (y14 : Int) (y15 : Int) (b : Env) (h : Heap) (hM : vt_Screen_write_j0 Kn Kr y11 y12 y13 y14 y15 h) : cwp Tryz.prog (partC Tryz.f82 [1, 1, 1, 1, 1]) 179 Q (upd (upd (upd (upd (upd b 0 (.pointer (some y11))) 1 (.int .i32 y12)) 4 (.int .i64 y13)) 5 (.int .i32 y14)) 6 (.int .i64 y15)) h := by
  unfold vt_Screen_write_j0 at hM
  refine cwp_part rfl ?_
  refine cwp_seq (cR ?_)
  refine oZ [(18, .pointer (some y11)), (19, .int .i64 y15), (20, .pointer (some y11)), (21, .pointer (some (y11.add 9))), (22, .pointer (some (y11.add 15)))] ?_
  obtain ⟨hc16, hM⟩ := hM
  obtain ⟨hc17, hM⟩ := hM
  refine owp_rdG (.pointer (some ((y11.add 15).add (y15.toNat * 1)))) rfl (by kernel_rfl) (rd_ixA (P := Tryz.prog) (h := h) (t := 72) (el := 4) (sz := 1) (len := 2) (ad := (y11.add 15)) (k := .i64) (i := y15) (by kernel_rfl) (by kernel_rfl) hc16 hc17 (by kernel_rfl)) ?_
  obtain ⟨x18, hc19, hM⟩ := hM
  refine oL (.bool x18) ((y11.add 15).add (y15.toNat * 1)) hc19 ?_
  refine oE ?_
  refine cwp_condB x18 (by kernel_rfl) (fun hc21 => ?_) (fun hc21 => ?_)
  · replace hM := ifT hc21 hM
    refine cwp_region ?_
    refine oZ [(25, .int .i32 y12)] ?_
    refine oG (hpCallP 105 #[.int .i32 y12] (.int .i32 (vt_drawn y12)) (by kernel_rfl) (vt_drawn_ok y12 _ h rfl) ?_)
    intro h22 hx23
    refine oZ [(1, .int .i32 (vt_drawn y12))] ?_
    refine oE ?_
    replace hM := hM _ hx23
    refine cwp_of_part (fn := Tryz.f82) (p := [1, 1, 1, 1, 1, 1]) (by kernel_rfl) (cA 0 (.pointer (some y11)) (cA 1 (.int .i32 (vt_drawn y12)) (cA 4 (.int .i64 y13) (cA 5 (.int .i32 y14) (vt_Screen_write_j1_ok _ ?_ _ ?_ y11 (vt_drawn y12) y13 y14 _ _ hM)))))
    · intro  b192 h191 hM
      exact hKn  _ _ hM
    · intro  b194 h193 hM
      exact hKr  _ _ hM
  replace hM := ifF hc21 hM
  refine cwp_skip (thenE_n ?_)
  refine cwp_of_part (fn := Tryz.f82) (p := [1, 1, 1, 1, 1, 1]) (by kernel_rfl) (cA 0 (.pointer (some y11)) (cA 1 (.int .i32 y12) (cA 4 (.int .i64 y13) (cA 5 (.int .i32 y14) (vt_Screen_write_j1_ok _ ?_ _ ?_ y11 y12 y13 y14 _ _ hM)))))
  · intro  b197 h196 hM
    exact hKn  _ _ hM
  · intro  b199 h198 hM
    exact hKr  _ _ hM
def vt_Screen_write (a1 : Option Addr) (a2 : Int) (K : Heap → Prop) (h : Heap) : Prop :=
 vt_Width a2 (fun x4 h3 =>
  if x4 < 1 then
   K h3
  else
  nz a1 fun p6 =>
  ldB h3 (p6.add 17) fun x7 =>
  if x7 = true then
   vt_Screen_write_j0
    (fun  h201 =>
        K h201)
    (fun  h203 =>
        K h203) p6 a2 x4 a2 1 h3
  else
  vt_Screen_write_j0
   (fun  h206 =>
       K h206)
   (fun  h208 =>
        K h208) p6 a2 x4 a2 0 h3) h
theorem vt_Screen_write_ok (a1 : Option Addr) (a2 : Int) (K : Heap → Prop) (h : Heap) (hM : vt_Screen_write a1 a2 K h) : CallsH Tryz.prog 82 #[.pointer a1, .int .i32 a2] (fun v h' => v = .tuple #[] ∧ K h') h := by
 unfold vt_Screen_write at hM
 refine callsH_intro (n := 179) Tryz.func82 rfl rfl (by kernel_rfl) ?_
 refine cR ?_
 refine oZ [(8, .int .i32 a2)] ?_
 refine oG (hpCallE 85 #[.int .i32 a2] (by kernel_rfl) (vt_Width_ok a2 _ h hM) ?_)
 clear hM
 rintro _ h3 ⟨x4, rfl, hM⟩
 refine oZ [(4, .int .i64 x4)] ?_
 refine oE (cwp_seq (cR ?_))
 refine oZ [(10, .int .i64 x4), (11, .bool (decide (x4 < 1)))] ?_
 refine oE ?_
 refine cwp_condD (x4 < 1) (by kernel_rfl) (fun hc5 => ?_) (fun hc5 => ?_)
 · replace hM := ifT hc5 hM
   refine cwp_ret (thenE_r ?_)
   exact ret_ (.tuple #[]) (by kernel_rfl) ⟨rfl, hM⟩
 replace hM := ifF hc5 hM
 refine cwp_skip (thenE_n (cR ?_))
 refine oZ [(12, .int .i32 a2), (5, .int .i32 a2)] ?_
 refine oE (cR ?_)
 refine oZ [(6, .int .i64 0)] ?_
 refine oE (cwp_seq (cR ?_))
 refine oZ [(13, .pointer a1)] ?_
 obtain ⟨p6, rfl, hM⟩ := hM
 refine owp_rdG (.pointer (some p6)) rfl (by kernel_rfl) (by kernel_rfl) ?_
 refine oZ [(15, .pointer (some (p6.add 9))), (16, .pointer (some (p6.add 17)))] ?_
 obtain ⟨x7, hc8, hM⟩ := hM
 refine oL (.bool x7) (p6.add 17) hc8 ?_
 refine oE ?_
 refine cwp_condB x7 (by kernel_rfl) (fun hc10 => ?_) (fun hc10 => ?_)
 · replace hM := ifT hc10 hM
   refine cwp_region ?_
   refine oZ [(6, .int .i64 1)] ?_
   refine oE ?_
   refine cwp_of_part (fn := Tryz.f82) (p := [1, 1, 1, 1, 1]) (by kernel_rfl) (cA 0 (.pointer (some p6)) (cA 1 (.int .i32 a2) (cA 4 (.int .i64 x4) (cA 5 (.int .i32 a2) (cA 6 (.int .i64 1) (vt_Screen_write_j0_ok _ ?_ _ ?_ p6 a2 x4 a2 1 _ _ hM))))))
   · intro  b202 h201 hM
     exact end_ (.tuple #[]) (by kernel_rfl) ⟨rfl, hM⟩
   · intro  b204 h203 hM
     exact ret_ (.tuple #[]) (by kernel_rfl) ⟨rfl, hM⟩
 replace hM := ifF hc10 hM
 refine cwp_skip (thenE_n ?_)
 refine cwp_of_part (fn := Tryz.f82) (p := [1, 1, 1, 1, 1]) (by kernel_rfl) (cA 0 (.pointer (some p6)) (cA 1 (.int .i32 a2) (cA 4 (.int .i64 x4) (cA 5 (.int .i32 a2) (cA 6 (.int .i64 0) (vt_Screen_write_j0_ok _ ?_ _ ?_ p6 a2 x4 a2 0 _ _ hM))))))
 · intro  b207 h206 hM
   exact end_ (.tuple #[]) (by kernel_rfl) ⟨rfl, hM⟩
 · intro  b209 h208 hM
   exact ret_ (.tuple #[]) (by kernel_rfl) ⟨rfl, hM⟩
/- (*mullion/vt.Screen).broken -/
def vt_Screen_broken (a1 : Option Addr) (K : Heap → Prop) (h : Heap) : Prop :=
 nz a1 fun p2 =>
 ldI h .i64 (p2.add 38) fun x3 =>
 if 0 < x3 then
  stN (p2.add 38) [.int .i64 0] 0 h fun h7 =>
  vt_Screen_write (some p2) 65533 (fun  h8 =>
    K h8) h7
 else
 K h
theorem vt_Screen_broken_ok (a1 : Option Addr) (K : Heap → Prop) (h : Heap) (hM : vt_Screen_broken a1 K h) : CallsH Tryz.prog 57 #[.pointer a1] (fun v h' => v = .tuple #[] ∧ K h') h := by
 unfold vt_Screen_broken at hM
 refine callsH_intro (n := 12) Tryz.func57 rfl rfl (by kernel_rfl) ?_
 refine cR ?_
 refine oZ [(2, .pointer a1)] ?_
 obtain ⟨p2, rfl, hM⟩ := hM
 refine owp_rdG (.pointer (some p2)) rfl (by kernel_rfl) (by kernel_rfl) ?_
 refine oZ [(4, .pointer (some (p2.add 38)))] ?_
 obtain ⟨x3, hc4, hM⟩ := hM
 refine oL (.int .i64 x3) (p2.add 38) hc4 ?_
 refine oZ [(6, .bool (decide (0 < x3)))] ?_
 refine oE ?_
 refine cwp_condD (0 < x3) (by kernel_rfl) (fun hc6 => ?_) (fun hc6 => ?_)
 · replace hM := ifT hc6 hM
   refine cR ?_
   refine oZ [(7, .pointer (some p2)), (8, .pointer (some p2)), (9, .pointer (some (p2.add 38)))] ?_
   refine oT (p2.add 38) [.int .i64 0] hM ?_
   clear hM
   intro h7 hM
   refine oE (cwp_region ?_)
   refine oZ [(10, .pointer (some p2))] ?_
   refine oG (hpCallE 82 #[.pointer (some p2), .int .i32 65533] (by kernel_rfl) (vt_Screen_write_ok (some p2) 65533 _ h7 hM) ?_)
   clear hM
   rintro _ h8 ⟨rfl, hM⟩
   refine owp_nil ?_
   exact end_ (.tuple #[]) (by kernel_rfl) ⟨rfl, hM⟩
 replace hM := ifF hc6 hM
 refine cwp_skip ?_
 exact end_ (.tuple #[]) (by kernel_rfl) ⟨rfl, hM⟩
/- (*mullion/vt.Screen).named -/
def vt_Screen_named (a1 : Option Addr) (K : Heap → Prop) (h : Heap) : Prop :=
 nz a1 fun p2 =>
 ldL h (p2.add 32) fun x3 x3n x3c =>
 bytM h x3 x3n fun x6 =>
 if 2 ≤ (x6.size : Int) then
  (0 : Int) < (x6.size : Int) ∧
  if (byteAt x6 0) = 48 then
   (1 : Int) < (x6.size : Int) ∧
   if (byteAt x6 1) = 59 then
    0 ≤ (imin (x6.size : Int) 130) ∧
    (imin (x6.size : Int) 130) ≤ (x6.size : Int) ∧
    (2 : Int) ≤ (imin (x6.size : Int) 130) ∧
    stN (p2.add 28) [.string (x6.extract ((2 : Int).toNat) ((imin (x6.size : Int) 130).toNat))] 0 h fun h22 =>
    K h22
   else
   K h
  else
  (0 : Int) < (x6.size : Int) ∧
  if (byteAt x6 0) = 50 then
   (1 : Int) < (x6.size : Int) ∧
   if (byteAt x6 1) = 59 then
    0 ≤ (imin (x6.size : Int) 130) ∧
    (imin (x6.size : Int) 130) ≤ (x6.size : Int) ∧
    (2 : Int) ≤ (imin (x6.size : Int) 130) ∧
    stN (p2.add 28) [.string (x6.extract ((2 : Int).toNat) ((imin (x6.size : Int) 130).toNat))] 0 h fun h34 =>
    K h34
   else
   K h
  else
  K h
 else
 K h
theorem vt_Screen_named_ok (a1 : Option Addr) (K : Heap → Prop) (h : Heap) (hM : vt_Screen_named a1 K h) : CallsH Tryz.prog 58 #[.pointer a1] (fun v h' => v = .tuple #[] ∧ K h') h := by
 unfold vt_Screen_named at hM
 refine callsH_intro (n := 34) Tryz.func58 rfl rfl (by kernel_rfl) ?_
 refine cR ?_
 refine oZ [(3, .pointer a1)] ?_
 obtain ⟨p2, rfl, hM⟩ := hM
 refine owp_rdG (.pointer (some p2)) rfl (by kernel_rfl) (by kernel_rfl) ?_
 refine oZ [(5, .pointer (some (p2.add 32)))] ?_
 obtain ⟨x3, x3n, x3c, hc4, hM⟩ := hM
 refine oL (.slice x3 x3n x3c) (p2.add 32) hc4 ?_
 obtain ⟨x6, hx7, hM⟩ := hM
 refine owp_rdG (.string x6) rfl (by kernel_rfl) (rd_bytS (P := Tryz.prog) (h := h) (a := x3) (n := x3n) (c := x3c) hx7 (by kernel_rfl)) ?_
 refine oZ [(2, .string x6)] ?_
 refine oE (cR ?_)
 refine oZ [(8, .string x6), (9, .int .i64 (x6.size : Int)), (10, .bool (decide (2 ≤ (x6.size : Int)))), (11, .bool (decide (2 ≤ (x6.size : Int))))] ?_
 by_cases hc10 : 2 ≤ (x6.size : Int)
 · refine oA 10 true (decide (2 ≤ (x6.size : Int))) (by rw [decide_eq_true hc10]) ?_
   refine oA 11 true (decide (2 ≤ (x6.size : Int))) (by rw [decide_eq_true hc10]) ?_
   replace hM := ifT hc10 hM
   refine oZ [(12, .string x6)] ?_
   have hc11 : 0 ≤ (0 : Int) := by decide
   obtain ⟨hc12, hM⟩ := hM
   refine owp_rdG (.int .u8 (byteAt x6 0)) rfl (by kernel_rfl) (rd_ixStr (P := Tryz.prog) (h := h) (t := 9) (s := x6) (k := .i64) (i := 0) (by kernel_rfl) hc11 hc12 (by kernel_rfl)) ?_
   refine oZ [(14, .bool (decide ((byteAt x6 0) = 48))), (15, .bool (decide ((byteAt x6 0) = 48)))] ?_
   by_cases hc15 : (byteAt x6 0) = 48
   · refine oA 14 true (decide ((byteAt x6 0) = 48)) (by rw [decide_eq_true hc15]) ?_
     refine oA 15 true (decide ((byteAt x6 0) = 48)) (by rw [decide_eq_true hc15]) ?_
     replace hM := ifT hc15 hM
     refine oZ [(16, undef), (17, undef), (18, undef), (19, .bool true), (20, .bool true), (21, .bool true), (22, .string x6)] ?_
     have hc16 : 0 ≤ (1 : Int) := by decide
     obtain ⟨hc17, hM⟩ := hM
     refine owp_rdG (.int .u8 (byteAt x6 1)) rfl (by kernel_rfl) (rd_ixStr (P := Tryz.prog) (h := h) (t := 9) (s := x6) (k := .i64) (i := 1) (by kernel_rfl) hc16 hc17 (by kernel_rfl)) ?_
     refine oZ [(24, .bool (decide ((byteAt x6 1) = 59))), (25, .bool (decide ((byteAt x6 1) = 59)))] ?_
     refine oE ?_
     refine cwp_condD ((byteAt x6 1) = 59) (by kernel_rfl) (fun hc18 => ?_) (fun hc18 => ?_)
     · replace hM := ifT hc18 hM
       refine cwp_region ?_
       refine oZ [(26, .pointer (some p2)), (27, .string x6), (28, .string x6), (29, .int .i64 (x6.size : Int)), (30, .int .i64 (imin (x6.size : Int) 130))] ?_
       obtain ⟨hc19, hM⟩ := hM
       obtain ⟨hc20, hM⟩ := hM
       obtain ⟨hc21, hM⟩ := hM
       refine owp_rdG (.string (x6.extract ((2 : Int).toNat) ((imin (x6.size : Int) 130).toNat))) rfl (by kernel_rfl) (rd_slLH (P := Tryz.prog) (h := h) (t := 9) (s := x6) (k := .i64) (k' := .i64) (i := (2 : Int)) (j := (imin (x6.size : Int) 130)) (by kernel_rfl) hc19 hc20 (by decide) hc21 (by kernel_rfl)) ?_
       refine oZ [(32, .pointer (some p2)), (33, .pointer (some (p2.add 28)))] ?_
       refine oT (p2.add 28) [.string (x6.extract ((2 : Int).toNat) ((imin (x6.size : Int) 130).toNat))] hM ?_
       clear hM
       intro h22 hM
       refine owp_nil ?_
       exact end_ (.tuple #[]) (by kernel_rfl) ⟨rfl, hM⟩
     replace hM := ifF hc18 hM
     refine cwp_skip ?_
     exact end_ (.tuple #[]) (by kernel_rfl) ⟨rfl, hM⟩
   refine oA 14 false (decide ((byteAt x6 0) = 48)) (by rw [decide_eq_false hc15]) ?_
   refine oA 15 false (decide ((byteAt x6 0) = 48)) (by rw [decide_eq_false hc15]) ?_
   replace hM := ifF hc15 hM
   refine oZ [(16, .string x6)] ?_
   have hc23 : 0 ≤ (0 : Int) := by decide
   obtain ⟨hc24, hM⟩ := hM
   refine owp_rdG (.int .u8 (byteAt x6 0)) rfl (by kernel_rfl) (rd_ixStr (P := Tryz.prog) (h := h) (t := 9) (s := x6) (k := .i64) (i := 0) (by kernel_rfl) hc23 hc24 (by kernel_rfl)) ?_
   refine oZ [(18, .bool (decide ((byteAt x6 0) = 50))), (19, .bool (decide ((byteAt x6 0) = 50))), (20, .bool (decide ((byteAt x6 0) = 50))), (21, .bool (decide ((byteAt x6 0) = 50)))] ?_
   by_cases hc27 : (byteAt x6 0) = 50
   · refine oA 18 true (decide ((byteAt x6 0) = 50)) (by rw [decide_eq_true hc27]) ?_
     refine oA 19 true (decide ((byteAt x6 0) = 50)) (by rw [decide_eq_true hc27]) ?_
     refine oA 20 true (decide ((byteAt x6 0) = 50)) (by rw [decide_eq_true hc27]) ?_
     refine oA 21 true (decide ((byteAt x6 0) = 50)) (by rw [decide_eq_true hc27]) ?_
     replace hM := ifT hc27 hM
     refine oZ [(22, .string x6)] ?_
     have hc28 : 0 ≤ (1 : Int) := by decide
     obtain ⟨hc29, hM⟩ := hM
     refine owp_rdG (.int .u8 (byteAt x6 1)) rfl (by kernel_rfl) (rd_ixStr (P := Tryz.prog) (h := h) (t := 9) (s := x6) (k := .i64) (i := 1) (by kernel_rfl) hc28 hc29 (by kernel_rfl)) ?_
     refine oZ [(24, .bool (decide ((byteAt x6 1) = 59))), (25, .bool (decide ((byteAt x6 1) = 59)))] ?_
     refine oE ?_
     refine cwp_condD ((byteAt x6 1) = 59) (by kernel_rfl) (fun hc30 => ?_) (fun hc30 => ?_)
     · replace hM := ifT hc30 hM
       refine cwp_region ?_
       refine oZ [(26, .pointer (some p2)), (27, .string x6), (28, .string x6), (29, .int .i64 (x6.size : Int)), (30, .int .i64 (imin (x6.size : Int) 130))] ?_
       obtain ⟨hc31, hM⟩ := hM
       obtain ⟨hc32, hM⟩ := hM
       obtain ⟨hc33, hM⟩ := hM
       refine owp_rdG (.string (x6.extract ((2 : Int).toNat) ((imin (x6.size : Int) 130).toNat))) rfl (by kernel_rfl) (rd_slLH (P := Tryz.prog) (h := h) (t := 9) (s := x6) (k := .i64) (k' := .i64) (i := (2 : Int)) (j := (imin (x6.size : Int) 130)) (by kernel_rfl) hc31 hc32 (by decide) hc33 (by kernel_rfl)) ?_
       refine oZ [(32, .pointer (some p2)), (33, .pointer (some (p2.add 28)))] ?_
       refine oT (p2.add 28) [.string (x6.extract ((2 : Int).toNat) ((imin (x6.size : Int) 130).toNat))] hM ?_
       clear hM
       intro h34 hM
       refine owp_nil ?_
       exact end_ (.tuple #[]) (by kernel_rfl) ⟨rfl, hM⟩
     replace hM := ifF hc30 hM
     refine cwp_skip ?_
     exact end_ (.tuple #[]) (by kernel_rfl) ⟨rfl, hM⟩
   refine oA 18 false (decide ((byteAt x6 0) = 50)) (by rw [decide_eq_false hc27]) ?_
   refine oA 19 false (decide ((byteAt x6 0) = 50)) (by rw [decide_eq_false hc27]) ?_
   refine oA 20 false (decide ((byteAt x6 0) = 50)) (by rw [decide_eq_false hc27]) ?_
   refine oA 21 false (decide ((byteAt x6 0) = 50)) (by rw [decide_eq_false hc27]) ?_
   replace hM := ifF hc27 hM
   refine oZ [(22, undef), (23, undef), (24, undef), (25, .bool false)] ?_
   refine oE ?_
   refine cwp_cond (t := false) (by kernel_rfl) (fun hx_ => ?_) (fun hx_ => ?_)
   all_goals first | (cases hx_; done) | skip
   refine cwp_skip ?_
   exact end_ (.tuple #[]) (by kernel_rfl) ⟨rfl, hM⟩
 refine oA 10 false (decide (2 ≤ (x6.size : Int))) (by rw [decide_eq_false hc10]) ?_
 refine oA 11 false (decide (2 ≤ (x6.size : Int))) (by rw [decide_eq_false hc10]) ?_
 replace hM := ifF hc10 hM
 refine oZ [(12, undef), (13, undef), (14, undef), (15, undef), (16, undef), (17, undef), (18, undef), (19, undef), (20, .bool false), (21, .bool false), (22, undef), (23, undef), (24, undef), (25, .bool false)] ?_
 refine oE ?_
 refine cwp_cond (t := false) (by kernel_rfl) (fun hx_ => ?_) (fun hx_ => ?_)
 all_goals first | (cases hx_; done) | skip
 refine cwp_skip ?_
 exact end_ (.tuple #[]) (by kernel_rfl) ⟨rfl, hM⟩
/- (*mullion/vt.Screen).begin -/
def vt_Screen_begin (a1 : Option Addr) (a2 : Int) (K : Heap → Prop) (h : Heap) : Prop :=
 nz a1 fun p3 =>
 stN (p3.add 31) [.int .i64 a2] 0 h fun h4 =>
 ldL h4 (p3.add 32) fun x5 x5n x5c =>
 (0 : Int) ≤ (x5c : Int) ∧
 stN (p3.add 32) [.slice (cutA x5 x5c 0 1) ((0 : Int).toNat - 0) (x5c - 0)] 0 h4 fun h9 =>
 stN (p3.add 33) [.bool false] 0 h9 fun h10 =>
 K h10
theorem vt_Screen_begin_ok (a1 : Option Addr) (a2 : Int) (K : Heap → Prop) (h : Heap) (hM : vt_Screen_begin a1 a2 K h) : CallsH Tryz.prog 59 #[.pointer a1, .int .i64 a2] (fun v h' => v = .tuple #[] ∧ K h') h := by
 unfold vt_Screen_begin at hM
 refine callsH_intro (n := 19) Tryz.func59 rfl rfl (by kernel_rfl) ?_
 refine cR ?_
 refine oZ [(4, .pointer a1), (5, .int .i64 a2)] ?_
 obtain ⟨p3, rfl, hM⟩ := hM
 refine owp_rdG (.pointer (some p3)) rfl (by kernel_rfl) (by kernel_rfl) ?_
 refine oZ [(7, .pointer (some (p3.add 31)))] ?_
 refine oT (p3.add 31) [.int .i64 a2] hM ?_
 clear hM
 intro h4 hM
 refine oE (cR ?_)
 refine oZ [(8, .pointer (some p3)), (9, .pointer (some p3)), (10, .pointer (some p3)), (11, .pointer (some (p3.add 32)))] ?_
 obtain ⟨x5, x5n, x5c, hc6, hM⟩ := hM
 refine oL (.slice x5 x5n x5c) (p3.add 32) hc6 ?_
 obtain ⟨hc8, hM⟩ := hM
 refine owp_rdG (.slice (cutA x5 x5c 0 1) ((0 : Int).toNat - 0) (x5c - 0)) rfl (by kernel_rfl) (rd_sSHi (P := Tryz.prog) (h := h4) (t := 77) (el := 5) (sz := 1) (a := x5) (n := x5n) (c := x5c) (k := .i64) (i := (0 : Int)) (by kernel_rfl) (by kernel_rfl) (by decide) hc8 (by kernel_rfl)) ?_
 refine oZ [(14, .pointer (some p3)), (15, .pointer (some (p3.add 32)))] ?_
 refine oT (p3.add 32) [.slice (cutA x5 x5c 0 1) ((0 : Int).toNat - 0) (x5c - 0)] hM ?_
 clear hM
 intro h9 hM
 refine oE (cwp_region ?_)
 refine oZ [(16, .pointer (some p3)), (17, .pointer (some p3)), (18, .pointer (some (p3.add 33)))] ?_
 refine oT (p3.add 33) [.bool false] hM ?_
 clear hM
 intro h10 hM
 refine owp_nil ?_
 exact end_ (.tuple #[]) (by kernel_rfl) ⟨rfl, hM⟩
/- (*mullion/vt.Screen).goes -/
def vt_Screen_goes_j0 (Kr : Bool → Heap → Prop) (y12 : Int) (y13 : Int) (y14 : Int) (h : Heap) : Prop :=
 Kr ((decide (y13 ≤ y12)) && (decide (y12 ≤ y14))) h
theorem vt_Screen_goes_j0_ok {Q : Exit → Env → Heap → Prop} (Kr : Bool → Heap → Prop) (hKr : ∀ (z21 : Bool) (b : Env) (h : Heap), Kr z21 h → Q .ret (upd b 4 (.bool z21)) h) (y12 : Int) (y13 : Int) (y14 : Int) (b : Env) (h : Heap) (hM : vt_Screen_goes_j0 Kr y12 y13 y14 h) : cwp Tryz.prog (partC Tryz.f83 [1, 1, 1]) 33 Q (upd (upd (upd b 1 (.int .u8 y12)) 5 (.int .u8 y13)) 6 (.int .u8 y14)) h := by
  unfold vt_Screen_goes_j0 at hM
  refine cwp_part rfl ?_
  refine cR ?_
  refine oZ [(25, .int .u8 y12), (26, .int .u8 y13), (27, .bool (decide (y13 ≤ y12))), (28, .bool (decide (y13 ≤ y12)))] ?_
  refine oB (decide (y13 ≤ y12)) 4 [27, 28] (fun b_ => [(29, iteV b_ (.int .u8 y12 : Value) undef), (30, iteV b_ (.int .u8 y14 : Value) undef), (31, iteV b_ (.bool (decide (y12 ≤ y14)) : Value) undef), (32, .bool (b_ && (decide (y12 ≤ y14))))]) rfl (fun hb15 hq16 => oS [(29, .int .u8 y12), (30, .int .u8 y14), (31, .bool (decide (y12 ≤ y14))), (32, .bool (decide (y12 ≤ y14)))] rfl (hq16)) (fun hb17 hq18 => oS [(29, undef), (30, undef), (31, undef), (32, .bool false)] rfl (hq18)) ?_
  refine oZ [(4, .bool ((decide (y13 ≤ y12)) && (decide (y12 ≤ y14))))] ?_
  refine oE (cwp_ret ?_)
  exact q_at (Q := Q .ret) 4 (.bool ((decide (y13 ≤ y12)) && (decide (y12 ≤ y14)))) (by kernel_rfl) (hKr ((decide (y13 ≤ y12)) && (decide (y12 ≤ y14))) _ _ hM)
def vt_Screen_goes (a1 : Option Addr) (a2 : Int) (K : Bool → Heap → Prop) (h : Heap) : Prop :=
 nz a1 fun p3 =>
 ldI h .i64 (p3.add 38) fun x4 =>
 if x4 = 1 then
  ldI h .u8 (p3.add 34) fun x8 =>
  if x8 = 224 then
   vt_Screen_goes_j0
    (fun z22 h23 =>
        K z22 h23) a2 160 191 h
  else
  if x8 = 237 then
   vt_Screen_goes_j0
    (fun z27 h28 =>
        K z27 h28) a2 128 159 h
  else
  if x8 = 240 then
   vt_Screen_goes_j0
    (fun z32 h33 =>
        K z32 h33) a2 144 191 h
  else
  if x8 = 244 then
   vt_Screen_goes_j0
    (fun z37 h38 =>
        K z37 h38) a2 128 143 h
  else
  vt_Screen_goes_j0
   (fun z41 h42 =>
       K z41 h42) a2 128 191 h
 else
 vt_Screen_goes_j0
  (fun z45 h46 =>
      K z45 h46) a2 128 191 h
theorem vt_Screen_goes_ok (a1 : Option Addr) (a2 : Int) (K : Bool → Heap → Prop) (h : Heap) (hM : vt_Screen_goes a1 a2 K h) : CallsH Tryz.prog 83 #[.pointer a1, .int .u8 a2] (fun v h' => ∃ (r49 : Bool), v = .bool r49 ∧ K r49 h') h := by
 unfold vt_Screen_goes at hM
 refine callsH_intro (n := 33) Tryz.func83 rfl rfl (by kernel_rfl) ?_
 refine cR ?_
 refine oZ [(4, .bool false)] ?_
 refine oE (cR ?_)
 refine oZ [(5, .int .u8 128), (6, .int .u8 191)] ?_
 refine oE (cwp_seq (cR ?_))
 refine oZ [(7, .pointer a1)] ?_
 obtain ⟨p3, rfl, hM⟩ := hM
 refine owp_rdG (.pointer (some p3)) rfl (by kernel_rfl) (by kernel_rfl) ?_
 refine oZ [(9, .pointer (some (p3.add 38)))] ?_
 obtain ⟨x4, hc5, hM⟩ := hM
 refine oL (.int .i64 x4) (p3.add 38) hc5 ?_
 refine oZ [(11, .bool (decide (x4 = 1)))] ?_
 refine oE ?_
 refine cwp_condD (x4 = 1) (by kernel_rfl) (fun hc7 => ?_) (fun hc7 => ?_)
 · replace hM := ifT hc7 hM
   refine cR ?_
   refine oZ [(12, .pointer (some p3)), (13, .pointer (some p3)), (14, .pointer (some (p3.add 34))), (15, .pointer (some (p3.add 34)))] ?_
   obtain ⟨x8, hc9, hM⟩ := hM
   refine oL (.int .u8 x8) (p3.add 34) hc9 ?_
   refine oE (cwp_block (cR ?_))
   refine oZ [(18, .bool (decide (x8 = 224))), (17, .bool (decide (x8 = 224)))] ?_
   refine oE ?_
   refine cwp_condD (x8 = 224) (by kernel_rfl) (fun hc11 => ?_) (fun hc11 => ?_)
   · replace hM := ifT hc11 hM
     refine cwp_region ?_
     refine oZ [(5, .int .u8 160)] ?_
     refine owp_nil (blockE_n (thenE_n ?_))
     refine cwp_of_part (fn := Tryz.f83) (p := [1, 1, 1]) (by kernel_rfl) (cA 1 (.int .u8 a2) (cA 5 (.int .u8 160) (cA 6 (.int .u8 191) (vt_Screen_goes_j0_ok _ ?_ a2 160 191 _ _ hM))))
     · intro z22 b24 h23 hM
       exact ret_ (.bool z22) (by kernel_rfl) ⟨_, rfl, hM⟩
   replace hM := ifF hc11 hM
   refine cR ?_
   refine oZ [(20, .bool (decide (x8 = 237))), (19, .bool (decide (x8 = 237)))] ?_
   refine oE ?_
   refine cwp_condD (x8 = 237) (by kernel_rfl) (fun hc26 => ?_) (fun hc26 => ?_)
   · replace hM := ifT hc26 hM
     refine cwp_region ?_
     refine oZ [(6, .int .u8 159)] ?_
     refine owp_nil (blockE_n (thenE_n ?_))
     refine cwp_of_part (fn := Tryz.f83) (p := [1, 1, 1]) (by kernel_rfl) (cA 1 (.int .u8 a2) (cA 5 (.int .u8 128) (cA 6 (.int .u8 159) (vt_Screen_goes_j0_ok _ ?_ a2 128 159 _ _ hM))))
     · intro z27 b29 h28 hM
       exact ret_ (.bool z27) (by kernel_rfl) ⟨_, rfl, hM⟩
   replace hM := ifF hc26 hM
   refine cR ?_
   refine oZ [(22, .bool (decide (x8 = 240))), (21, .bool (decide (x8 = 240)))] ?_
   refine oE ?_
   refine cwp_condD (x8 = 240) (by kernel_rfl) (fun hc31 => ?_) (fun hc31 => ?_)
   · replace hM := ifT hc31 hM
     refine cwp_region ?_
     refine oZ [(5, .int .u8 144)] ?_
     refine owp_nil (blockE_n (thenE_n ?_))
     refine cwp_of_part (fn := Tryz.f83) (p := [1, 1, 1]) (by kernel_rfl) (cA 1 (.int .u8 a2) (cA 5 (.int .u8 144) (cA 6 (.int .u8 191) (vt_Screen_goes_j0_ok _ ?_ a2 144 191 _ _ hM))))
     · intro z32 b34 h33 hM
       exact ret_ (.bool z32) (by kernel_rfl) ⟨_, rfl, hM⟩
   replace hM := ifF hc31 hM
   refine cR ?_
   refine oZ [(24, .bool (decide (x8 = 244))), (23, .bool (decide (x8 = 244)))] ?_
   refine oE ?_
   refine cwp_condD (x8 = 244) (by kernel_rfl) (fun hc36 => ?_) (fun hc36 => ?_)
   · replace hM := ifT hc36 hM
     refine cwp_region ?_
     refine oZ [(6, .int .u8 143)] ?_
     refine owp_nil (blockE_n (thenE_n ?_))
     refine cwp_of_part (fn := Tryz.f83) (p := [1, 1, 1]) (by kernel_rfl) (cA 1 (.int .u8 a2) (cA 5 (.int .u8 128) (cA 6 (.int .u8 143) (vt_Screen_goes_j0_ok _ ?_ a2 128 143 _ _ hM))))
     · intro z37 b39 h38 hM
       exact ret_ (.bool z37) (by kernel_rfl) ⟨_, rfl, hM⟩
   replace hM := ifF hc36 hM
   refine cwp_skip (blockE_n (thenE_n ?_))
   refine cwp_of_part (fn := Tryz.f83) (p := [1, 1, 1]) (by kernel_rfl) (cA 1 (.int .u8 a2) (cA 5 (.int .u8 128) (cA 6 (.int .u8 191) (vt_Screen_goes_j0_ok _ ?_ a2 128 191 _ _ hM))))
   · intro z41 b43 h42 hM
     exact ret_ (.bool z41) (by kernel_rfl) ⟨_, rfl, hM⟩
 replace hM := ifF hc7 hM
 refine cwp_skip (thenE_n ?_)
 refine cwp_of_part (fn := Tryz.f83) (p := [1, 1, 1]) (by kernel_rfl) (cA 1 (.int .u8 a2) (cA 5 (.int .u8 128) (cA 6 (.int .u8 191) (vt_Screen_goes_j0_ok _ ?_ a2 128 191 _ _ hM))))
 · intro z45 b47 h46 hM
   exact ret_ (.bool z45) (by kernel_rfl) ⟨_, rfl, hM⟩
/- unicode/utf8.decodeRuneSlow -/
def unicode_utf8_decodeRuneSlow (a1 : Option Addr) (a1n : Nat) (a1c : Nat) (K : Int → Int → Heap → Prop) (h : Heap) : Prop :=
 if (a1n : Int) < 1 then
  K 65533 0 h
 else
 nz a1 fun p5 =>
 0 ≤ (0 : Int) ∧
 (0 : Int) < (a1n : Int) ∧
 ldI h .u8 (p5.add (((0 : Int)).toNat * 1)) fun x6 =>
 0 ≤ x6 ∧
 x6 < (256 : Int) ∧
 ldI h .u8 ((⟨0, 0, none⟩ : Addr).add (x6.toNat * 1)) fun x11 =>
 if 240 ≤ x11 then
  0 ≤ (0 : Int) ∧
  (0 : Int) < (a1n : Int) ∧
  ldI h .u8 (p5.add (((0 : Int)).toNat * 1)) fun x17 =>
  K (iOr .i32 (iAndNot .i32 (IntKind.wrap .i32 (x17)) (Int.fdiv (IntKind.wrap .i32 ((IntKind.wrap .i32 (x11)) * 2 ^ 31)) (2 ^ 31))) (iAnd .i32 65533 (Int.fdiv (IntKind.wrap .i32 ((IntKind.wrap .i32 (x11)) * 2 ^ 31)) (2 ^ 31)))) 1 h
 else
 0 ≤ (Int.fdiv x11 (2 ^ 4)) ∧
 (Int.fdiv x11 (2 ^ 4)) < (16 : Int) ∧
 cellsAt h ⟨1, 0, none⟩ 0 (tab1.flatMap tab1f) ∧
 if (a1n : Int) < (IntKind.wrap .i64 (iAnd .u8 x11 7)) then
  gap h fun h28 =>
  K 65533 1 h28
 else
 0 ≤ (1 : Int) ∧
 (1 : Int) < (a1n : Int) ∧
 gap h fun h28 =>
 ldI h28 .u8 (p5.add (((1 : Int)).toNat * 1)) fun x34 =>
 if ((decide (x34 < ((tab1.getD ((Int.fdiv x11 (2 ^ 4))).toNat tab1d).1))) || (decide (((tab1.getD ((Int.fdiv x11 (2 ^ 4))).toNat tab1d).2) < x34))) = true then
  K 65533 1 h28
 else
 if (IntKind.wrap .i64 (iAnd .u8 x11 7)) ≤ 2 then
  K (iOr .i32 (IntKind.wrap .i32 ((IntKind.wrap .i32 (iAnd .u8 x6 31)) * 2 ^ 6)) (IntKind.wrap .i32 (iAnd .u8 x34 63))) 2 h28
 else
 0 ≤ (2 : Int) ∧
 (2 : Int) < (a1n : Int) ∧
 ldI h28 .u8 (p5.add (((2 : Int)).toNat * 1)) fun x47 =>
 if ((decide (x47 < 128)) || (decide (191 < x47))) = true then
  K 65533 1 h28
 else
 if (IntKind.wrap .i64 (iAnd .u8 x11 7)) ≤ 3 then
  K (iOr .i32 (iOr .i32 (IntKind.wrap .i32 ((IntKind.wrap .i32 (iAnd .u8 x6 15)) * 2 ^ 12)) (IntKind.wrap .i32 ((IntKind.wrap .i32 (iAnd .u8 x34 63)) * 2 ^ 6))) (IntKind.wrap .i32 (iAnd .u8 x47 63))) 3 h28
 else
 0 ≤ (3 : Int) ∧
 (3 : Int) < (a1n : Int) ∧
 ldI h28 .u8 (p5.add (((3 : Int)).toNat * 1)) fun x58 =>
 if ((decide (x58 < 128)) || (decide (191 < x58))) = true then
  K 65533 1 h28
 else
 K (iOr .i32 (iOr .i32 (iOr .i32 (IntKind.wrap .i32 ((IntKind.wrap .i32 (iAnd .u8 x6 7)) * 2 ^ 18)) (IntKind.wrap .i32 ((IntKind.wrap .i32 (iAnd .u8 x34 63)) * 2 ^ 12))) (IntKind.wrap .i32 ((IntKind.wrap .i32 (iAnd .u8 x47 63)) * 2 ^ 6))) (IntKind.wrap .i32 (iAnd .u8 x58 63))) 4 h28
theorem unicode_utf8_decodeRuneSlow_ok (a1 : Option Addr) (a1n : Nat) (a1c : Nat) (K : Int → Int → Heap → Prop) (h : Heap) (hM : unicode_utf8_decodeRuneSlow a1 a1n a1c K h) : CallsH Tryz.prog 109 #[.slice a1 a1n a1c] (fun v h' => ∃ (r66 : Int) (r67 : Int), v = .tuple #[.int .i32 r66, .int .i64 r67] ∧ K r66 r67 h') h := by
 unfold unicode_utf8_decodeRuneSlow at hM
 refine callsH_intro (n := 122) Tryz.func109 rfl rfl (by kernel_rfl) ?_
 refine cR ?_
 refine oZ [(2, .int .i32 0), (3, .int .i64 0)] ?_
 refine oE (cR ?_)
 refine oZ [(13, .slice a1 a1n a1c), (14, .int .i64 (a1n : Int)), (4, .int .i64 (a1n : Int))] ?_
 refine oE (cwp_seq (cR ?_))
 refine oZ [(15, .int .i64 (a1n : Int)), (16, .bool (decide ((a1n : Int) < 1)))] ?_
 refine oE ?_
 refine cwp_condD ((a1n : Int) < 1) (by kernel_rfl) (fun hc2 => ?_) (fun hc2 => ?_)
 · replace hM := ifT hc2 hM
   refine cR ?_
   refine oZ [(2, .int .i32 65533), (3, .int .i64 0)] ?_
   refine oE (cwp_ret (thenE_r ?_))
   exact ret_ (.tuple #[.int .i32 65533, .int .i64 0]) (by kernel_rfl) ⟨_, _, rfl, hM⟩
 replace hM := ifF hc2 hM
 refine cwp_skip (thenE_n (cR ?_))
 refine oZ [(17, .slice a1 a1n a1c)] ?_
 obtain ⟨p5, rfl, hM⟩ := hM
 obtain ⟨hc3, hM⟩ := hM
 obtain ⟨hc4, hM⟩ := hM
 refine owp_rdG (.pointer (some (p5.add (((0 : Int)).toNat * 1)))) rfl (by kernel_rfl) (rd_ixS (P := Tryz.prog) (h := h) (t := 77) (el := 5) (sz := 1) (ad := p5) (len := a1n) (c := a1c) (k := .i64) (i := 0) (by kernel_rfl) (by kernel_rfl) hc3 hc4 (by kernel_rfl)) ?_
 obtain ⟨x6, hc7, hM⟩ := hM
 refine oL (.int .u8 x6) (p5.add (((0 : Int)).toNat * 1)) hc7 ?_
 refine oZ [(5, .int .u8 x6)] ?_
 refine oE (cR ?_)
 refine oZ [(20, .int .u8 x6)] ?_
 obtain ⟨hc9, hM⟩ := hM
 obtain ⟨hc10, hM⟩ := hM
 refine owp_rdG (.pointer (some ((⟨0, 0, none⟩ : Addr).add (x6.toNat * 1)))) rfl (by kernel_rfl) (rd_ixA (P := Tryz.prog) (h := h) (t := 159) (el := 5) (sz := 1) (len := 256) (ad := ⟨0, 0, none⟩) (k := .u8) (i := x6) (by kernel_rfl) (by kernel_rfl) hc9 hc10 (by kernel_rfl)) ?_
 obtain ⟨x11, hc12, hM⟩ := hM
 refine oL (.int .u8 x11) ((⟨0, 0, none⟩ : Addr).add (x6.toNat * 1)) hc12 ?_
 refine oZ [(6, .int .u8 x11)] ?_
 refine oE (cwp_seq (cR ?_))
 refine oZ [(23, .int .u8 x11), (24, .bool (decide (240 ≤ x11)))] ?_
 refine oE ?_
 refine cwp_condD (240 ≤ x11) (by kernel_rfl) (fun hc14 => ?_) (fun hc14 => ?_)
 · replace hM := ifT hc14 hM
   refine cR ?_
   refine oZ [(25, .int .u8 x11), (26, .int .i32 (IntKind.wrap .i32 (x11))), (27, .int .i32 (IntKind.wrap .i32 ((IntKind.wrap .i32 (x11)) * 2 ^ 31))), (28, .int .i32 (Int.fdiv (IntKind.wrap .i32 ((IntKind.wrap .i32 (x11)) * 2 ^ 31)) (2 ^ 31))), (7, .int .i32 (Int.fdiv (IntKind.wrap .i32 ((IntKind.wrap .i32 (x11)) * 2 ^ 31)) (2 ^ 31)))] ?_
   refine oE (cR ?_)
   refine oZ [(29, .slice (some p5) a1n a1c)] ?_
   obtain ⟨hc15, hM⟩ := hM
   obtain ⟨hc16, hM⟩ := hM
   refine owp_rdG (.pointer (some (p5.add (((0 : Int)).toNat * 1)))) rfl (by kernel_rfl) (rd_ixS (P := Tryz.prog) (h := h) (t := 77) (el := 5) (sz := 1) (ad := p5) (len := a1n) (c := a1c) (k := .i64) (i := 0) (by kernel_rfl) (by kernel_rfl) hc15 hc16 (by kernel_rfl)) ?_
   obtain ⟨x17, hc18, hM⟩ := hM
   refine oL (.int .u8 x17) (p5.add (((0 : Int)).toNat * 1)) hc18 ?_
   refine oZ [(32, .int .i32 (IntKind.wrap .i32 (x17))), (33, .int .i32 (Int.fdiv (IntKind.wrap .i32 ((IntKind.wrap .i32 (x11)) * 2 ^ 31)) (2 ^ 31))), (34, .int .i32 (iAndNot .i32 (IntKind.wrap .i32 (x17)) (Int.fdiv (IntKind.wrap .i32 ((IntKind.wrap .i32 (x11)) * 2 ^ 31)) (2 ^ 31)))), (35, .int .i32 (Int.fdiv (IntKind.wrap .i32 ((IntKind.wrap .i32 (x11)) * 2 ^ 31)) (2 ^ 31))), (36, .int .i32 (iAnd .i32 65533 (Int.fdiv (IntKind.wrap .i32 ((IntKind.wrap .i32 (x11)) * 2 ^ 31)) (2 ^ 31)))), (37, .int .i32 (iOr .i32 (iAndNot .i32 (IntKind.wrap .i32 (x17)) (Int.fdiv (IntKind.wrap .i32 ((IntKind.wrap .i32 (x11)) * 2 ^ 31)) (2 ^ 31))) (iAnd .i32 65533 (Int.fdiv (IntKind.wrap .i32 ((IntKind.wrap .i32 (x11)) * 2 ^ 31)) (2 ^ 31))))), (2, .int .i32 (iOr .i32 (iAndNot .i32 (IntKind.wrap .i32 (x17)) (Int.fdiv (IntKind.wrap .i32 ((IntKind.wrap .i32 (x11)) * 2 ^ 31)) (2 ^ 31))) (iAnd .i32 65533 (Int.fdiv (IntKind.wrap .i32 ((IntKind.wrap .i32 (x11)) * 2 ^ 31)) (2 ^ 31))))), (3, .int .i64 1)] ?_
   refine oE (cwp_ret (thenE_r ?_))
   exact ret_ (.tuple #[.int .i32 (iOr .i32 (iAndNot .i32 (IntKind.wrap .i32 (x17)) (Int.fdiv (IntKind.wrap .i32 ((IntKind.wrap .i32 (x11)) * 2 ^ 31)) (2 ^ 31))) (iAnd .i32 65533 (Int.fdiv (IntKind.wrap .i32 ((IntKind.wrap .i32 (x11)) * 2 ^ 31)) (2 ^ 31)))), .int .i64 1]) (by kernel_rfl) ⟨_, _, rfl, hM⟩
 replace hM := ifF hc14 hM
 refine cwp_skip (thenE_n (cR ?_))
 refine oZ [(38, .int .u8 x11), (39, .int .u8 (iAnd .u8 x11 7)), (40, .int .i64 (IntKind.wrap .i64 (iAnd .u8 x11 7))), (8, .int .i64 (IntKind.wrap .i64 (iAnd .u8 x11 7)))] ?_
 refine oE (cR ?_)
 refine oZ [(41, .int .u8 x11), (42, .int .u8 (Int.fdiv x11 (2 ^ 4)))] ?_
 obtain ⟨hc20, hM⟩ := hM
 obtain ⟨hc21, hM⟩ := hM
 refine owp_rdG (.pointer (some ((⟨1, 0, none⟩ : Addr).add (((Int.fdiv x11 (2 ^ 4))).toNat * 2)))) rfl (by kernel_rfl) (rd_ixA (P := Tryz.prog) (h := h) (t := 163) (el := 162) (sz := 2) (len := 16) (ad := ⟨1, 0, none⟩) (k := .u8) (i := (Int.fdiv x11 (2 ^ 4))) (by kernel_rfl) (by kernel_rfl) hc20 hc21 (by kernel_rfl)) ?_
 obtain ⟨hc22, hM⟩ := hM
 refine owp_rdG (.agg #[.int .u8 ((tab1.getD ((Int.fdiv x11 (2 ^ 4))).toNat tab1d).1), .int .u8 ((tab1.getD ((Int.fdiv x11 (2 ^ 4))).toNat tab1d).2)]) rfl (by kernel_rfl) (Eq.trans (b := (cellH h ((⟨1, 0, none⟩ : Addr).add (((Int.fdiv x11 (2 ^ 4))).toNat * 2))).bind fun v23 => (cellH h (((⟨1, 0, none⟩ : Addr).add (((Int.fdiv x11 (2 ^ 4))).toNat * 2)).add 1)).bind fun v24 => some (.value (.agg #[v23, v24]))) (by kernel_rfl) ((bindE (cell_tab0 tab1f tab1 tab1d hc22 (fun _ => rfl) (ltTab hc20 hc21 (by kernel_rfl)) rfl) _).trans (bindE (cell_tab tab1f tab1 tab1d hc22 (fun _ => rfl) (ltTab hc20 hc21 (by kernel_rfl)) 1 rfl) _))) ?_
 refine oG (hpNew #[.int .u8 0, .int .u8 0] 162 (fun _ => by kernel_rfl) ?_)
 intro b25 h26 hN27
 refine owp_hpD rfl (by kernel_rfl) (hpStB b25 0 [.int .u8 ((tab1.getD ((Int.fdiv x11 (2 ^ 4))).toNat tab1d).1), .int .u8 ((tab1.getD ((Int.fdiv x11 (2 ^ 4))).toNat tab1d).2)] (New.blk hN27) (fun _ => by kernel_rfl) rfl rfl ?_)
 intro h28 hP29
 have f30 : Blk h28 b25 #[.int .u8 ((tab1.getD ((Int.fdiv x11 (2 ^ 4))).toNat tab1d).1), .int .u8 ((tab1.getD ((Int.fdiv x11 (2 ^ 4))).toNat tab1d).2)] 162 := hP29.blk
 refine oE (cwp_seq (cR ?_))
 refine oZ [(45, .int .i64 (a1n : Int)), (46, .int .i64 (IntKind.wrap .i64 (iAnd .u8 x11 7))), (47, .bool (decide ((a1n : Int) < (IntKind.wrap .i64 (iAnd .u8 x11 7)))))] ?_
 refine oE ?_
 refine cwp_condD ((a1n : Int) < (IntKind.wrap .i64 (iAnd .u8 x11 7))) (by kernel_rfl) (fun hc31 => ?_) (fun hc31 => ?_)
 · replace hM := ifT hc31 hM
   refine cR ?_
   refine oZ [(2, .int .i32 65533), (3, .int .i64 1)] ?_
   refine oE (cwp_ret (thenE_r ?_))
   replace hM := hM _ (Put.ext hP29 (New.ext hN27) (New.ge hN27 (Ext.refl _)))
   exact ret_ (.tuple #[.int .i32 65533, .int .i64 1]) (by kernel_rfl) ⟨_, _, rfl, hM⟩
 replace hM := ifF hc31 hM
 refine cwp_skip (thenE_n (cR ?_))
 refine oZ [(48, .slice (some p5) a1n a1c)] ?_
 obtain ⟨hc32, hM⟩ := hM
 obtain ⟨hc33, hM⟩ := hM
 refine owp_rdG (.pointer (some (p5.add (((1 : Int)).toNat * 1)))) rfl (by kernel_rfl) (rd_ixS (P := Tryz.prog) (h := h28) (t := 77) (el := 5) (sz := 1) (ad := p5) (len := a1n) (c := a1c) (k := .i64) (i := 1) (by kernel_rfl) (by kernel_rfl) hc32 hc33 (by kernel_rfl)) ?_
 replace hM := hM _ (Put.ext hP29 (New.ext hN27) (New.ge hN27 (Ext.refl _)))
 obtain ⟨x34, hc35, hM⟩ := hM
 refine oL (.int .u8 x34) (p5.add (((1 : Int)).toNat * 1)) hc35 ?_
 refine oZ [(10, .int .u8 x34)] ?_
 refine oE (cwp_seq (cR ?_))
 refine oZ [(51, .int .u8 x34), (52, .pointer (some ⟨b25, 0, none⟩))] ?_
 refine owp_rdG (.int .u8 ((tab1.getD ((Int.fdiv x11 (2 ^ 4))).toNat tab1d).1)) rfl (by kernel_rfl) (Eq.trans (b := (cellH h28 ⟨b25, 0, none⟩).bind fun v37 => some (.value v37)) (by kernel_rfl) (bindE (Blk.cell f30 0 (by kernel_rfl)) _)) ?_
 refine oZ [(54, .bool (decide (x34 < ((tab1.getD ((Int.fdiv x11 (2 ^ 4))).toNat tab1d).1)))), (55, .bool (decide (x34 < ((tab1.getD ((Int.fdiv x11 (2 ^ 4))).toNat tab1d).1))))] ?_
 refine oB (decide (x34 < ((tab1.getD ((Int.fdiv x11 (2 ^ 4))).toNat tab1d).1))) 5 [54, 55] (fun b_ => [(56, iteV b_ undef (.pointer (some ⟨b25, 1, none⟩) : Value)), (57, iteV b_ undef (.int .u8 ((tab1.getD ((Int.fdiv x11 (2 ^ 4))).toNat tab1d).2) : Value)), (58, iteV b_ undef (.int .u8 x34 : Value)), (59, iteV b_ undef (.bool (decide (((tab1.getD ((Int.fdiv x11 (2 ^ 4))).toNat tab1d).2) < x34)) : Value)), (60, .bool (b_ || (decide (((tab1.getD ((Int.fdiv x11 (2 ^ 4))).toNat tab1d).2) < x34))))]) rfl (fun hb39 hq40 => oS [(56, undef), (57, undef), (58, undef), (59, undef), (60, .bool true)] rfl (hq40)) (fun hb41 hq42 => oS [(56, .pointer (some ⟨b25, 1, none⟩))] rfl (owp_rdG (.int .u8 ((tab1.getD ((Int.fdiv x11 (2 ^ 4))).toNat tab1d).2)) rfl (by kernel_rfl) (Eq.trans (b := (cellH h28 ⟨b25, 1, none⟩).bind fun v38 => some (.value v38)) (by kernel_rfl) (bindE (Blk.cell f30 1 (by kernel_rfl)) _)) (oS [(58, .int .u8 x34), (59, .bool (decide (((tab1.getD ((Int.fdiv x11 (2 ^ 4))).toNat tab1d).2) < x34))), (60, .bool (decide (((tab1.getD ((Int.fdiv x11 (2 ^ 4))).toNat tab1d).2) < x34)))] rfl (hq42)))) ?_
 refine oE ?_
 refine cwp_condB ((decide (x34 < ((tab1.getD ((Int.fdiv x11 (2 ^ 4))).toNat tab1d).1))) || (decide (((tab1.getD ((Int.fdiv x11 (2 ^ 4))).toNat tab1d).2) < x34))) (by kernel_rfl) (fun hc43 => ?_) (fun hc43 => ?_)
 · replace hM := ifT hc43 hM
   refine cR ?_
   refine oZ [(2, .int .i32 65533), (3, .int .i64 1)] ?_
   refine oE (cwp_ret (thenE_r ?_))
   exact ret_ (.tuple #[.int .i32 65533, .int .i64 1]) (by kernel_rfl) ⟨_, _, rfl, hM⟩
 replace hM := ifF hc43 hM
 refine cwp_skip (thenE_n (cwp_seq (cR ?_)))
 refine oZ [(61, .int .i64 (IntKind.wrap .i64 (iAnd .u8 x11 7))), (62, .bool (decide ((IntKind.wrap .i64 (iAnd .u8 x11 7)) ≤ 2)))] ?_
 refine oE ?_
 refine cwp_condD ((IntKind.wrap .i64 (iAnd .u8 x11 7)) ≤ 2) (by kernel_rfl) (fun hc44 => ?_) (fun hc44 => ?_)
 · replace hM := ifT hc44 hM
   refine cR ?_
   refine oZ [(63, .int .u8 x6), (64, .int .u8 (iAnd .u8 x6 31)), (65, .int .i32 (IntKind.wrap .i32 (iAnd .u8 x6 31))), (66, .int .i32 (IntKind.wrap .i32 ((IntKind.wrap .i32 (iAnd .u8 x6 31)) * 2 ^ 6))), (67, .int .u8 x34), (68, .int .u8 (iAnd .u8 x34 63)), (69, .int .i32 (IntKind.wrap .i32 (iAnd .u8 x34 63))), (70, .int .i32 (iOr .i32 (IntKind.wrap .i32 ((IntKind.wrap .i32 (iAnd .u8 x6 31)) * 2 ^ 6)) (IntKind.wrap .i32 (iAnd .u8 x34 63)))), (2, .int .i32 (iOr .i32 (IntKind.wrap .i32 ((IntKind.wrap .i32 (iAnd .u8 x6 31)) * 2 ^ 6)) (IntKind.wrap .i32 (iAnd .u8 x34 63)))), (3, .int .i64 2)] ?_
   refine oE (cwp_ret (thenE_r ?_))
   exact ret_ (.tuple #[.int .i32 (iOr .i32 (IntKind.wrap .i32 ((IntKind.wrap .i32 (iAnd .u8 x6 31)) * 2 ^ 6)) (IntKind.wrap .i32 (iAnd .u8 x34 63))), .int .i64 2]) (by kernel_rfl) ⟨_, _, rfl, hM⟩
 replace hM := ifF hc44 hM
 refine cwp_skip (thenE_n (cR ?_))
 refine oZ [(71, .slice (some p5) a1n a1c)] ?_
 obtain ⟨hc45, hM⟩ := hM
 obtain ⟨hc46, hM⟩ := hM
 refine owp_rdG (.pointer (some (p5.add (((2 : Int)).toNat * 1)))) rfl (by kernel_rfl) (rd_ixS (P := Tryz.prog) (h := h28) (t := 77) (el := 5) (sz := 1) (ad := p5) (len := a1n) (c := a1c) (k := .i64) (i := 2) (by kernel_rfl) (by kernel_rfl) hc45 hc46 (by kernel_rfl)) ?_
 obtain ⟨x47, hc48, hM⟩ := hM
 refine oL (.int .u8 x47) (p5.add (((2 : Int)).toNat * 1)) hc48 ?_
 refine oZ [(11, .int .u8 x47)] ?_
 refine oE (cwp_seq (cR ?_))
 refine oZ [(74, .int .u8 x47), (75, .bool (decide (x47 < 128))), (76, .bool (decide (x47 < 128)))] ?_
 refine oB (decide (x47 < 128)) 3 [75, 76] (fun b_ => [(77, iteV b_ undef (.int .u8 x47 : Value)), (78, iteV b_ undef (.bool (decide (191 < x47)) : Value)), (79, .bool (b_ || (decide (191 < x47))))]) rfl (fun hb50 hq51 => oS [(77, undef), (78, undef), (79, .bool true)] rfl (hq51)) (fun hb52 hq53 => oS [(77, .int .u8 x47), (78, .bool (decide (191 < x47))), (79, .bool (decide (191 < x47)))] rfl (hq53)) ?_
 refine oE ?_
 refine cwp_condB ((decide (x47 < 128)) || (decide (191 < x47))) (by kernel_rfl) (fun hc54 => ?_) (fun hc54 => ?_)
 · replace hM := ifT hc54 hM
   refine cR ?_
   refine oZ [(2, .int .i32 65533), (3, .int .i64 1)] ?_
   refine oE (cwp_ret (thenE_r ?_))
   exact ret_ (.tuple #[.int .i32 65533, .int .i64 1]) (by kernel_rfl) ⟨_, _, rfl, hM⟩
 replace hM := ifF hc54 hM
 refine cwp_skip (thenE_n (cwp_seq (cR ?_)))
 refine oZ [(80, .int .i64 (IntKind.wrap .i64 (iAnd .u8 x11 7))), (81, .bool (decide ((IntKind.wrap .i64 (iAnd .u8 x11 7)) ≤ 3)))] ?_
 refine oE ?_
 refine cwp_condD ((IntKind.wrap .i64 (iAnd .u8 x11 7)) ≤ 3) (by kernel_rfl) (fun hc55 => ?_) (fun hc55 => ?_)
 · replace hM := ifT hc55 hM
   refine cR ?_
   refine oZ [(82, .int .u8 x6), (83, .int .u8 (iAnd .u8 x6 15)), (84, .int .i32 (IntKind.wrap .i32 (iAnd .u8 x6 15))), (85, .int .i32 (IntKind.wrap .i32 ((IntKind.wrap .i32 (iAnd .u8 x6 15)) * 2 ^ 12))), (86, .int .u8 x34), (87, .int .u8 (iAnd .u8 x34 63)), (88, .int .i32 (IntKind.wrap .i32 (iAnd .u8 x34 63))), (89, .int .i32 (IntKind.wrap .i32 ((IntKind.wrap .i32 (iAnd .u8 x34 63)) * 2 ^ 6))), (90, .int .i32 (iOr .i32 (IntKind.wrap .i32 ((IntKind.wrap .i32 (iAnd .u8 x6 15)) * 2 ^ 12)) (IntKind.wrap .i32 ((IntKind.wrap .i32 (iAnd .u8 x34 63)) * 2 ^ 6)))), (91, .int .u8 x47), (92, .int .u8 (iAnd .u8 x47 63)), (93, .int .i32 (IntKind.wrap .i32 (iAnd .u8 x47 63))), (94, .int .i32 (iOr .i32 (iOr .i32 (IntKind.wrap .i32 ((IntKind.wrap .i32 (iAnd .u8 x6 15)) * 2 ^ 12)) (IntKind.wrap .i32 ((IntKind.wrap .i32 (iAnd .u8 x34 63)) * 2 ^ 6))) (IntKind.wrap .i32 (iAnd .u8 x47 63)))), (2, .int .i32 (iOr .i32 (iOr .i32 (IntKind.wrap .i32 ((IntKind.wrap .i32 (iAnd .u8 x6 15)) * 2 ^ 12)) (IntKind.wrap .i32 ((IntKind.wrap .i32 (iAnd .u8 x34 63)) * 2 ^ 6))) (IntKind.wrap .i32 (iAnd .u8 x47 63)))), (3, .int .i64 3)] ?_
   refine oE (cwp_ret (thenE_r ?_))
   exact ret_ (.tuple #[.int .i32 (iOr .i32 (iOr .i32 (IntKind.wrap .i32 ((IntKind.wrap .i32 (iAnd .u8 x6 15)) * 2 ^ 12)) (IntKind.wrap .i32 ((IntKind.wrap .i32 (iAnd .u8 x34 63)) * 2 ^ 6))) (IntKind.wrap .i32 (iAnd .u8 x47 63))), .int .i64 3]) (by kernel_rfl) ⟨_, _, rfl, hM⟩
 replace hM := ifF hc55 hM
 refine cwp_skip (thenE_n (cR ?_))
 refine oZ [(95, .slice (some p5) a1n a1c)] ?_
 obtain ⟨hc56, hM⟩ := hM
 obtain ⟨hc57, hM⟩ := hM
 refine owp_rdG (.pointer (some (p5.add (((3 : Int)).toNat * 1)))) rfl (by kernel_rfl) (rd_ixS (P := Tryz.prog) (h := h28) (t := 77) (el := 5) (sz := 1) (ad := p5) (len := a1n) (c := a1c) (k := .i64) (i := 3) (by kernel_rfl) (by kernel_rfl) hc56 hc57 (by kernel_rfl)) ?_
 obtain ⟨x58, hc59, hM⟩ := hM
 refine oL (.int .u8 x58) (p5.add (((3 : Int)).toNat * 1)) hc59 ?_
 refine oZ [(12, .int .u8 x58)] ?_
 refine oE (cwp_seq (cR ?_))
 refine oZ [(98, .int .u8 x58), (99, .bool (decide (x58 < 128))), (100, .bool (decide (x58 < 128)))] ?_
 refine oB (decide (x58 < 128)) 3 [99, 100] (fun b_ => [(101, iteV b_ undef (.int .u8 x58 : Value)), (102, iteV b_ undef (.bool (decide (191 < x58)) : Value)), (103, .bool (b_ || (decide (191 < x58))))]) rfl (fun hb61 hq62 => oS [(101, undef), (102, undef), (103, .bool true)] rfl (hq62)) (fun hb63 hq64 => oS [(101, .int .u8 x58), (102, .bool (decide (191 < x58))), (103, .bool (decide (191 < x58)))] rfl (hq64)) ?_
 refine oE ?_
 refine cwp_condB ((decide (x58 < 128)) || (decide (191 < x58))) (by kernel_rfl) (fun hc65 => ?_) (fun hc65 => ?_)
 · replace hM := ifT hc65 hM
   refine cR ?_
   refine oZ [(2, .int .i32 65533), (3, .int .i64 1)] ?_
   refine oE (cwp_ret (thenE_r ?_))
   exact ret_ (.tuple #[.int .i32 65533, .int .i64 1]) (by kernel_rfl) ⟨_, _, rfl, hM⟩
 replace hM := ifF hc65 hM
 refine cwp_skip (thenE_n (cR ?_))
 refine oZ [(104, .int .u8 x6), (105, .int .u8 (iAnd .u8 x6 7)), (106, .int .i32 (IntKind.wrap .i32 (iAnd .u8 x6 7))), (107, .int .i32 (IntKind.wrap .i32 ((IntKind.wrap .i32 (iAnd .u8 x6 7)) * 2 ^ 18))), (108, .int .u8 x34), (109, .int .u8 (iAnd .u8 x34 63)), (110, .int .i32 (IntKind.wrap .i32 (iAnd .u8 x34 63))), (111, .int .i32 (IntKind.wrap .i32 ((IntKind.wrap .i32 (iAnd .u8 x34 63)) * 2 ^ 12))), (112, .int .i32 (iOr .i32 (IntKind.wrap .i32 ((IntKind.wrap .i32 (iAnd .u8 x6 7)) * 2 ^ 18)) (IntKind.wrap .i32 ((IntKind.wrap .i32 (iAnd .u8 x34 63)) * 2 ^ 12)))), (113, .int .u8 x47), (114, .int .u8 (iAnd .u8 x47 63)), (115, .int .i32 (IntKind.wrap .i32 (iAnd .u8 x47 63))), (116, .int .i32 (IntKind.wrap .i32 ((IntKind.wrap .i32 (iAnd .u8 x47 63)) * 2 ^ 6))), (117, .int .i32 (iOr .i32 (iOr .i32 (IntKind.wrap .i32 ((IntKind.wrap .i32 (iAnd .u8 x6 7)) * 2 ^ 18)) (IntKind.wrap .i32 ((IntKind.wrap .i32 (iAnd .u8 x34 63)) * 2 ^ 12))) (IntKind.wrap .i32 ((IntKind.wrap .i32 (iAnd .u8 x47 63)) * 2 ^ 6)))), (118, .int .u8 x58), (119, .int .u8 (iAnd .u8 x58 63)), (120, .int .i32 (IntKind.wrap .i32 (iAnd .u8 x58 63))), (121, .int .i32 (iOr .i32 (iOr .i32 (iOr .i32 (IntKind.wrap .i32 ((IntKind.wrap .i32 (iAnd .u8 x6 7)) * 2 ^ 18)) (IntKind.wrap .i32 ((IntKind.wrap .i32 (iAnd .u8 x34 63)) * 2 ^ 12))) (IntKind.wrap .i32 ((IntKind.wrap .i32 (iAnd .u8 x47 63)) * 2 ^ 6))) (IntKind.wrap .i32 (iAnd .u8 x58 63)))), (2, .int .i32 (iOr .i32 (iOr .i32 (iOr .i32 (IntKind.wrap .i32 ((IntKind.wrap .i32 (iAnd .u8 x6 7)) * 2 ^ 18)) (IntKind.wrap .i32 ((IntKind.wrap .i32 (iAnd .u8 x34 63)) * 2 ^ 12))) (IntKind.wrap .i32 ((IntKind.wrap .i32 (iAnd .u8 x47 63)) * 2 ^ 6))) (IntKind.wrap .i32 (iAnd .u8 x58 63)))), (3, .int .i64 4)] ?_
 refine oE (cwp_ret ?_)
 exact ret_ (.tuple #[.int .i32 (iOr .i32 (iOr .i32 (iOr .i32 (IntKind.wrap .i32 ((IntKind.wrap .i32 (iAnd .u8 x6 7)) * 2 ^ 18)) (IntKind.wrap .i32 ((IntKind.wrap .i32 (iAnd .u8 x34 63)) * 2 ^ 12))) (IntKind.wrap .i32 ((IntKind.wrap .i32 (iAnd .u8 x47 63)) * 2 ^ 6))) (IntKind.wrap .i32 (iAnd .u8 x58 63))), .int .i64 4]) (by kernel_rfl) ⟨_, _, rfl, hM⟩
/- unicode/utf8.DecodeRune -/
def unicode_utf8_DecodeRune_l0 (K0 : Option Addr → Nat → Nat → Heap → Prop) (Kr : Int → Int → Heap → Prop) : Nat → Option Addr → Nat → Nat → Option Addr → Nat → Nat → Int → Int → Heap → Prop
  | 0, _, _, _, _, _, _, _, _, _ => False
  | k + 1, y2, y2n, y2c, y3, y3n, y3c, y4, y5, h =>
  if y5 < y4 then
   nz y3 fun p9 =>
   0 ≤ y5 ∧
   y5 < (y3n : Int) ∧
   ldI h .u8 (p9.add ((y5).toNat * 1)) fun x10 =>
   if x10 < 128 then
    Kr (IntKind.wrap .i32 (x10)) 1 h
   else
   K0 y2 y2n y2c h
  else
  K0 y2 y2n y2c h
theorem unicode_utf8_DecodeRune_l0_ok {Q : Exit → Env → Heap → Prop} (K0 : Option Addr → Nat → Nat → Heap → Prop) (hK0 : ∀ (z18 : Option Addr) (z18n : Nat) (z18c : Nat) (b : Env) (h : Heap), K0 z18 z18n z18c h → Q (.exit 0) (upd b 0 (.slice z18 z18n z18c)) h) (Kr : Int → Int → Heap → Prop) (hKr : ∀ (z21 : Int) (z22 : Int) (b : Env) (h : Heap), Kr z21 z22 h → Q .ret (upd (upd b 2 (.int .i32 z21)) 3 (.int .i64 z22)) h) : ∀ (k : Nat) (y2 : Option Addr) (y2n : Nat) (y2c : Nat) (y3 : Option Addr) (y3n : Nat) (y3c : Nat) (y4 : Int) (y5 : Int) (b : Env) (h : Heap) (hM : unicode_utf8_DecodeRune_l0 K0 Kr k y2 y2n y2c y3 y3n y3c y4 y5 h), lwp Tryz.prog (partC Tryz.f84 [1, 0, 1, 0, 0]) 22 Q k (upd (upd (upd (upd b 0 (.slice y2 y2n y2c)) 6 (.slice y3 y3n y3c)) 7 (.int .i64 y4)) 8 (.int .i64 y5)) h := by
  intro k
  induction k with
  | zero => intro y2 y2n y2c y3 y3n y3c y4 y5 b h hM; exact (show False from hM).elim
  | succ k ih =>
    intro y2 y2n y2c y3 y3n y3c y4 y5 b h hM
    unfold unicode_utf8_DecodeRune_l0 at hM
    refine lwp_succ (cwp_part rfl ?_)
    refine cR ?_
    refine oZ [(9, .bool (decide (y5 < y4)))] ?_
    refine oE (cwp_seq ?_)
    refine cwp_condD (y5 < y4) (by kernel_rfl) (fun hc6 => ?_) (fun hc6 => ?_)
    · replace hM := ifT hc6 hM
      refine cwp_skip (thenE_n (cwp_seq (cwp_block (cR ?_))))
      obtain ⟨p9, rfl, hM⟩ := hM
      obtain ⟨hc7, hM⟩ := hM
      obtain ⟨hc8, hM⟩ := hM
      refine owp_rdG (.pointer (some (p9.add ((y5).toNat * 1)))) rfl (by kernel_rfl) (rd_ixS (P := Tryz.prog) (h := h) (t := 77) (el := 5) (sz := 1) (ad := p9) (len := y3n) (c := y3c) (k := .i64) (i := y5) (by kernel_rfl) (by kernel_rfl) hc7 hc8 (by kernel_rfl)) ?_
      obtain ⟨x10, hc11, hM⟩ := hM
      refine oL (.int .u8 x10) (p9.add ((y5).toNat * 1)) hc11 ?_
      refine oZ [(5, .int .u8 x10)] ?_
      refine oE (cwp_seq (cR ?_))
      refine oZ [(12, .int .u8 x10), (13, .bool (decide (x10 < 128)))] ?_
      refine oE ?_
      refine cwp_condD (x10 < 128) (by kernel_rfl) (fun hc13 => ?_) (fun hc13 => ?_)
      · replace hM := ifT hc13 hM
        refine cR ?_
        refine oZ [(14, .int .u8 x10), (15, .int .i32 (IntKind.wrap .i32 (x10))), (2, .int .i32 (IntKind.wrap .i32 (x10))), (3, .int .i64 1)] ?_
        refine oE (cwp_ret (thenE_r (blockE_r (thenE_r ?_))))
        exact q_at (Q := Q .ret) 2 (.int .i32 (IntKind.wrap .i32 (x10))) (by kernel_rfl) (q_at (Q := Q .ret) 3 (.int .i64 1) (by kernel_rfl) (hKr (IntKind.wrap .i32 (x10)) 1 _ _ hM))
      replace hM := ifF hc13 hM
      refine cwp_skip (thenE_n (cwp_exit (blockE_x rfl (thenE_x ?_))))
      exact q_at (Q := Q (.exit 0)) 0 (.slice y2 y2n y2c) (by kernel_rfl) (hK0 y2 y2n y2c _ _ hM)
    replace hM := ifF hc6 hM
    refine cwp_exit (thenE_x ?_)
    exact q_at (Q := Q (.exit 0)) 0 (.slice y2 y2n y2c) (by kernel_rfl) (hK0 y2 y2n y2c _ _ hM)
def unicode_utf8_DecodeRune (a1 : Option Addr) (a1n : Nat) (a1c : Nat) (K : Int → Int → Heap → Prop) (h : Heap) : Prop :=
 ∃ k33, unicode_utf8_DecodeRune_l0
  (fun z23 z23n z23c h24 =>
    unicode_utf8_decodeRuneSlow z23 z23n z23c (fun x26 x27 h25 =>
        K x26 x27 h25) h24)
  (fun z29 z30 h31 =>
      K z29 z30 h31) k33 a1 a1n a1c a1 a1n a1c (a1n : Int) 0 h
theorem unicode_utf8_DecodeRune_ok (a1 : Option Addr) (a1n : Nat) (a1c : Nat) (K : Int → Int → Heap → Prop) (h : Heap) (hM : unicode_utf8_DecodeRune a1 a1n a1c K h) : CallsH Tryz.prog 84 #[.slice a1 a1n a1c] (fun v h' => ∃ (r34 : Int) (r35 : Int), v = .tuple #[.int .i32 r34, .int .i64 r35] ∧ K r34 r35 h') h := by
 unfold unicode_utf8_DecodeRune at hM
 refine callsH_intro (n := 22) Tryz.func84 rfl rfl (by kernel_rfl) ?_
 refine cR ?_
 refine oZ [(2, .int .i32 0), (3, .int .i64 0)] ?_
 refine oE (cwp_seq (cR ?_))
 refine oZ [(6, .slice a1 a1n a1c), (7, .int .i64 (a1n : Int)), (8, .int .i64 0)] ?_
 refine oE (cwp_block ?_)
 obtain ⟨k_, hM⟩ := hM
 refine cwp_loop k_ (lwp_of_part (fn := Tryz.f84) (p := [1, 0, 1, 0, 0]) (by kernel_rfl) (lA 0 (.slice a1 a1n a1c) (lA 6 (.slice a1 a1n a1c) (lA 7 (.int .i64 (a1n : Int)) (lA 8 (.int .i64 0) (unicode_utf8_DecodeRune_l0_ok _ ?_ _ ?_ k_ a1 a1n a1c a1 a1n a1c (a1n : Int) 0 _ _ hM))))))
 · intro z23 z23n z23c b28 h24 hM
   refine blockE_h (thenE_n (cR ?_))
   refine oZ [(18, .slice z23 z23n z23c)] ?_
   refine oG (hpCallE 109 #[.slice z23 z23n z23c] (by kernel_rfl) (unicode_utf8_decodeRuneSlow_ok z23 z23n z23c _ h24 hM) ?_)
   clear hM
   rintro _ h25 ⟨x26, x27, rfl, hM⟩
   refine oZ [(17, .tuple #[.int .i32 x26, .int .i64 x27]), (20, .int .i32 x26), (21, .int .i64 x27), (2, .int .i32 x26), (3, .int .i64 x27)] ?_
   refine oE (cwp_ret ?_)
   exact ret_ (.tuple #[.int .i32 x26, .int .i64 x27]) (by kernel_rfl) ⟨_, _, rfl, hM⟩
 · intro z29 z30 b32 h31 hM
   refine blockE_r (thenE_r ?_)
   exact ret_ (.tuple #[.int .i32 z29, .int .i64 z30]) (by kernel_rfl) ⟨_, _, rfl, hM⟩
/- (*mullion/vt.Screen).to -/
def vt_Screen_to (a1 : Option Addr) (a2 : Int) (a3 : Int) (K : Heap → Prop) (h : Heap) : Prop :=
 nz a1 fun p4 =>
 ldI h .i64 p4 fun x5 =>
 stN (p4.add 9) [.int .i64 (imax 0 (imin a2 (IntKind.wrap .i64 (x5 - 1))))] 0 h fun h8 =>
 ldI h8 .i64 (p4.add 1) fun x9 =>
 stN (p4.add 10) [.int .i64 (imax 0 (imin a3 (IntKind.wrap .i64 (x9 - 1))))] 0 h8 fun h12 =>
 stN (p4.add 18) [.bool false] 0 h12 fun h13 =>
 K h13
theorem vt_Screen_to_ok (a1 : Option Addr) (a2 : Int) (a3 : Int) (K : Heap → Prop) (h : Heap) (hM : vt_Screen_to a1 a2 a3 K h) : CallsH Tryz.prog 111 #[.pointer a1, .int .i64 a2, .int .i64 a3] (fun v h' => v = .tuple #[] ∧ K h') h := by
 unfold vt_Screen_to at hM
 refine callsH_intro (n := 34) Tryz.func111 rfl rfl (by kernel_rfl) ?_
 refine cR ?_
 refine oZ [(6, .pointer a1), (7, .int .i64 a2), (8, .pointer a1)] ?_
 obtain ⟨p4, rfl, hM⟩ := hM
 refine owp_rdG (.pointer (some p4)) rfl (by kernel_rfl) (by kernel_rfl) ?_
 refine oZ [(10, .pointer (some p4))] ?_
 obtain ⟨x5, hc6, hM⟩ := hM
 refine oL (.int .i64 x5) p4 hc6 ?_
 refine oZ [(12, .int .i64 (IntKind.wrap .i64 (x5 - 1))), (13, .int .i64 (imin a2 (IntKind.wrap .i64 (x5 - 1)))), (14, .int .i64 (imax 0 (imin a2 (IntKind.wrap .i64 (x5 - 1))))), (15, .pointer (some p4)), (16, .pointer (some (p4.add 9))), (17, .pointer (some (p4.add 9)))] ?_
 refine oT (p4.add 9) [.int .i64 (imax 0 (imin a2 (IntKind.wrap .i64 (x5 - 1))))] hM ?_
 clear hM
 intro h8 hM
 refine oE (cR ?_)
 refine oZ [(18, .pointer (some p4)), (19, .int .i64 a3), (20, .pointer (some p4)), (21, .pointer (some p4)), (22, .pointer (some (p4.add 1)))] ?_
 obtain ⟨x9, hc10, hM⟩ := hM
 refine oL (.int .i64 x9) (p4.add 1) hc10 ?_
 refine oZ [(24, .int .i64 (IntKind.wrap .i64 (x9 - 1))), (25, .int .i64 (imin a3 (IntKind.wrap .i64 (x9 - 1)))), (26, .int .i64 (imax 0 (imin a3 (IntKind.wrap .i64 (x9 - 1))))), (27, .pointer (some p4)), (28, .pointer (some (p4.add 9))), (29, .pointer (some (p4.add 10)))] ?_
 refine oT (p4.add 10) [.int .i64 (imax 0 (imin a3 (IntKind.wrap .i64 (x9 - 1))))] hM ?_
 clear hM
 intro h12 hM
 refine oE (cwp_region ?_)
 refine oZ [(30, .pointer (some p4)), (31, .pointer (some p4)), (32, .pointer (some (p4.add 9))), (33, .pointer (some (p4.add 18)))] ?_
 refine oT (p4.add 18) [.bool false] hM ?_
 clear hM
 intro h13 hM
 refine owp_nil ?_
 exact end_ (.tuple #[]) (by kernel_rfl) ⟨rfl, hM⟩
/- (*mullion/vt.Screen).tab -/
def vt_Screen_tab_l1 (K2 : Addr → Int → Int → Heap → Prop) : Nat → Addr → Int → Int → Heap → Prop
  | 0, _, _, _, _ => False
  | k + 1, y18, y19, y20, h =>
  ldI h .i64 y18 fun x21 =>
  if y20 < (IntKind.wrap .i64 (x21 - 1)) then
   ldL h (y18.add 21) fun x28 x28n x28c =>
   nz x28 fun p33 =>
   0 ≤ y20 ∧
   y20 < (x28n : Int) ∧
   ldB h (p33.add ((y20).toNat * 1)) fun x34 =>
   if (!x34) = true then
    vt_Screen_tab_l1 K2 k y18 y19 (IntKind.wrap .i64 (y20 + 1)) h
   else
   K2 y18 y19 y20 h
  else
  K2 y18 y19 y20 h
theorem vt_Screen_tab_l1_ok {Q : Exit → Env → Heap → Prop} (K2 : Addr → Int → Int → Heap → Prop) (hK2 : ∀ (z44 : Addr) (z45 : Int) (z46 : Int) (b : Env) (h : Heap), K2 z44 z45 z46 h → Q (.exit 2) (upd (upd (upd b 0 (.pointer (some z44))) 1 (.int .i64 z45)) 4 (.int .i64 z46)) h) : ∀ (k : Nat) (y18 : Addr) (y19 : Int) (y20 : Int) (b : Env) (h : Heap) (hM : vt_Screen_tab_l1 K2 k y18 y19 y20 h), lwp Tryz.prog (partC Tryz.f112 [1, 0, 0, 0, 1, 0, 0, 1, 0, 0]) 52 Q k (upd (upd (upd b 0 (.pointer (some y18))) 1 (.int .i64 y19)) 4 (.int .i64 y20)) h := by
  intro k
  induction k with
  | zero => intro y18 y19 y20 b h hM; exact (show False from hM).elim
  | succ k ih =>
    intro y18 y19 y20 b h hM
    unfold vt_Screen_tab_l1 at hM
    refine lwp_succ (cwp_part rfl ?_)
    refine cwp_seq (cR ?_)
    refine oZ [(25, .int .i64 y20), (26, .pointer (some y18)), (27, .pointer (some y18)), (28, .pointer (some y18))] ?_
    obtain ⟨x21, hc22, hM⟩ := hM
    refine oL (.int .i64 x21) y18 hc22 ?_
    refine oZ [(30, .int .i64 (IntKind.wrap .i64 (x21 - 1))), (31, .bool (decide (y20 < (IntKind.wrap .i64 (x21 - 1))))), (32, .bool (decide (y20 < (IntKind.wrap .i64 (x21 - 1)))))] ?_
    by_cases hc27 : y20 < (IntKind.wrap .i64 (x21 - 1))
    · refine oA 31 true (decide (y20 < (IntKind.wrap .i64 (x21 - 1)))) (by rw [decide_eq_true hc27]) ?_
      refine oA 32 true (decide (y20 < (IntKind.wrap .i64 (x21 - 1)))) (by rw [decide_eq_true hc27]) ?_
      replace hM := ifT hc27 hM
      refine oZ [(33, .pointer (some y18)), (34, .pointer (some y18)), (35, .pointer (some (y18.add 21)))] ?_
      obtain ⟨x28, x28n, x28c, hc29, hM⟩ := hM
      refine oL (.slice x28 x28n x28c) (y18.add 21) hc29 ?_
      refine oZ [(37, .int .i64 y20)] ?_
      obtain ⟨p33, rfl, hM⟩ := hM
      obtain ⟨hc31, hM⟩ := hM
      obtain ⟨hc32, hM⟩ := hM
      refine owp_rdG (.pointer (some (p33.add ((y20).toNat * 1)))) rfl (by kernel_rfl) (rd_ixS (P := Tryz.prog) (h := h) (t := 75) (el := 4) (sz := 1) (ad := p33) (len := x28n) (c := x28c) (k := .i64) (i := y20) (by kernel_rfl) (by kernel_rfl) hc31 hc32 (by kernel_rfl)) ?_
      obtain ⟨x34, hc35, hM⟩ := hM
      refine oL (.bool x34) (p33.add ((y20).toNat * 1)) hc35 ?_
      refine oZ [(40, .bool (!x34)), (41, .bool (!x34))] ?_
      refine oE ?_
      refine cwp_condB (!x34) (by kernel_rfl) (fun hc37 => ?_) (fun hc37 => ?_)
      · replace hM := ifT hc37 hM
        refine cwp_skip (thenE_n (cwp_seq (cwp_block (cwp_skip (blockE_n (thenE_n (cwp_region ?_)))))))
        refine oZ [(42, .int .i64 y20), (43, .int .i64 (IntKind.wrap .i64 (y20 + 1))), (4, .int .i64 (IntKind.wrap .i64 (y20 + 1)))] ?_
        refine owp_nil ?_
        exact lA 0 (.pointer (some y18)) (lA 1 (.int .i64 y19) (lA 4 (.int .i64 (IntKind.wrap .i64 (y20 + 1))) (ih y18 y19 (IntKind.wrap .i64 (y20 + 1)) _ _ hM)))
      replace hM := ifF hc37 hM
      refine cwp_exit (thenE_x ?_)
      exact q_at (Q := Q (.exit 2)) 0 (.pointer (some y18)) (by kernel_rfl) (q_at (Q := Q (.exit 2)) 1 (.int .i64 y19) (by kernel_rfl) (q_at (Q := Q (.exit 2)) 4 (.int .i64 y20) (by kernel_rfl) (hK2 y18 y19 y20 _ _ hM)))
    refine oA 31 false (decide (y20 < (IntKind.wrap .i64 (x21 - 1)))) (by rw [decide_eq_false hc27]) ?_
    refine oA 32 false (decide (y20 < (IntKind.wrap .i64 (x21 - 1)))) (by rw [decide_eq_false hc27]) ?_
    replace hM := ifF hc27 hM
    refine oZ [(33, undef), (34, undef), (35, undef), (36, undef), (37, undef), (38, undef), (39, undef), (40, undef), (41, .bool false)] ?_
    refine oE ?_
    refine cwp_cond (t := false) (by kernel_rfl) (fun hx_ => ?_) (fun hx_ => ?_)
    all_goals first | (cases hx_; done) | skip
    refine cwp_exit (thenE_x ?_)
    exact q_at (Q := Q (.exit 2)) 0 (.pointer (some y18)) (by kernel_rfl) (q_at (Q := Q (.exit 2)) 1 (.int .i64 y19) (by kernel_rfl) (q_at (Q := Q (.exit 2)) 4 (.int .i64 y20) (by kernel_rfl) (hK2 y18 y19 y20 _ _ hM)))
def vt_Screen_tab_l0 (K0 : Addr → Int → Heap → Prop) : Nat → Addr → Int → Int → Heap → Prop
  | 0, _, _, _, _ => False
  | k + 1, y7, y8, y9, h =>
  if 0 < y8 then
   ldI h .i64 y7 fun x14 =>
   if y9 < (IntKind.wrap .i64 (x14 - 1)) then
    ∃ k52, vt_Screen_tab_l1
     (fun z47 z48 z49 h50 =>
         vt_Screen_tab_l0 K0 k z47 (IntKind.wrap .i64 (z48 - 1)) z49 h50) k52 y7 y8 (IntKind.wrap .i64 (y9 + 1)) h
   else
   K0 y7 y9 h
  else
  K0 y7 y9 h
theorem vt_Screen_tab_l0_ok {Q : Exit → Env → Heap → Prop} (K0 : Addr → Int → Heap → Prop) (hK0 : ∀ (z57 : Addr) (z58 : Int) (b : Env) (h : Heap), K0 z57 z58 h → Q (.exit 0) (upd (upd b 0 (.pointer (some z57))) 4 (.int .i64 z58)) h) : ∀ (k : Nat) (y7 : Addr) (y8 : Int) (y9 : Int) (b : Env) (h : Heap) (hM : vt_Screen_tab_l0 K0 k y7 y8 y9 h), lwp Tryz.prog (partC Tryz.f112 [1, 0, 0, 0]) 52 Q k (upd (upd (upd b 0 (.pointer (some y7))) 1 (.int .i64 y8)) 4 (.int .i64 y9)) h := by
  intro k
  induction k with
  | zero => intro y7 y8 y9 b h hM; exact (show False from hM).elim
  | succ k ih =>
    intro y7 y8 y9 b h hM
    unfold vt_Screen_tab_l0 at hM
    refine lwp_succ (cwp_part rfl ?_)
    refine cwp_seq (cR ?_)
    refine oZ [(10, .int .i64 y8), (11, .bool (decide (0 < y8))), (12, .bool (decide (0 < y8)))] ?_
    by_cases hc13 : 0 < y8
    · refine oA 11 true (decide (0 < y8)) (by rw [decide_eq_true hc13]) ?_
      refine oA 12 true (decide (0 < y8)) (by rw [decide_eq_true hc13]) ?_
      replace hM := ifT hc13 hM
      refine oZ [(13, .int .i64 y9), (14, .pointer (some y7)), (15, .pointer (some y7)), (16, .pointer (some y7))] ?_
      obtain ⟨x14, hc15, hM⟩ := hM
      refine oL (.int .i64 x14) y7 hc15 ?_
      refine oZ [(18, .int .i64 (IntKind.wrap .i64 (x14 - 1))), (19, .bool (decide (y9 < (IntKind.wrap .i64 (x14 - 1))))), (20, .bool (decide (y9 < (IntKind.wrap .i64 (x14 - 1)))))] ?_
      refine oE ?_
      refine cwp_condD (y9 < (IntKind.wrap .i64 (x14 - 1))) (by kernel_rfl) (fun hc17 => ?_) (fun hc17 => ?_)
      · replace hM := ifT hc17 hM
        refine cwp_skip (thenE_n (cwp_seq (cwp_block (cR ?_))))
        refine oZ [(23, .int .i64 y9), (24, .int .i64 (IntKind.wrap .i64 (y9 + 1))), (4, .int .i64 (IntKind.wrap .i64 (y9 + 1)))] ?_
        refine oE (cwp_block ?_)
        obtain ⟨k_, hM⟩ := hM
        refine cwp_loop k_ (lwp_of_part (fn := Tryz.f112) (p := [1, 0, 0, 0, 1, 0, 0, 1, 0, 0]) (by kernel_rfl) (lA 0 (.pointer (some y7)) (lA 1 (.int .i64 y8) (lA 4 (.int .i64 (IntKind.wrap .i64 (y9 + 1))) (vt_Screen_tab_l1_ok _ ?_ k_ y7 y8 (IntKind.wrap .i64 (y9 + 1)) _ _ hM)))))
        · intro z47 z48 z49 b51 h50 hM
          refine blockE_h (blockE_n (thenE_n (cwp_region ?_)))
          refine oZ [(21, .int .i64 z48), (22, .int .i64 (IntKind.wrap .i64 (z48 - 1))), (1, .int .i64 (IntKind.wrap .i64 (z48 - 1)))] ?_
          refine owp_nil ?_
          exact lA 0 (.pointer (some z47)) (lA 1 (.int .i64 (IntKind.wrap .i64 (z48 - 1))) (lA 4 (.int .i64 z49) (ih z47 (IntKind.wrap .i64 (z48 - 1)) z49 _ _ hM)))
      replace hM := ifF hc17 hM
      refine cwp_exit (thenE_x ?_)
      exact q_at (Q := Q (.exit 0)) 0 (.pointer (some y7)) (by kernel_rfl) (q_at (Q := Q (.exit 0)) 4 (.int .i64 y9) (by kernel_rfl) (hK0 y7 y9 _ _ hM))
    refine oA 11 false (decide (0 < y8)) (by rw [decide_eq_false hc13]) ?_
    refine oA 12 false (decide (0 < y8)) (by rw [decide_eq_false hc13]) ?_
    replace hM := ifF hc13 hM
    refine oZ [(13, undef), (14, undef), (15, undef), (16, undef), (17, undef), (18, undef), (19, undef), (20, .bool false)] ?_
    refine oE ?_
    refine cwp_cond (t := false) (by kernel_rfl) (fun hx_ => ?_) (fun hx_ => ?_)
    all_goals first | (cases hx_; done) | skip
    refine cwp_exit (thenE_x ?_)
    exact q_at (Q := Q (.exit 0)) 0 (.pointer (some y7)) (by kernel_rfl) (q_at (Q := Q (.exit 0)) 4 (.int .i64 y9) (by kernel_rfl) (hK0 y7 y9 _ _ hM))
def vt_Screen_tab (a1 : Option Addr) (a2 : Int) (K : Heap → Prop) (h : Heap) : Prop :=
 nz a1 fun p3 =>
 ldI h .i64 (p3.add 9) fun x4 =>
 ∃ k67, vt_Screen_tab_l0
  (fun z59 z60 h61 =>
    ldI h61 .i64 (z59.add 10) fun x62 =>
    vt_Screen_to (some z59) z60 x62 (fun  h65 =>
        K h65) h61) k67 p3 a2 x4 h
theorem vt_Screen_tab_ok (a1 : Option Addr) (a2 : Int) (K : Heap → Prop) (h : Heap) (hM : vt_Screen_tab a1 a2 K h) : CallsH Tryz.prog 112 #[.pointer a1, .int .i64 a2] (fun v h' => v = .tuple #[] ∧ K h') h := by
 unfold vt_Screen_tab at hM
 refine callsH_intro (n := 52) Tryz.func112 rfl rfl (by kernel_rfl) ?_
 refine cR ?_
 refine oZ [(5, .pointer a1)] ?_
 obtain ⟨p3, rfl, hM⟩ := hM
 refine owp_rdG (.pointer (some p3)) rfl (by kernel_rfl) (by kernel_rfl) ?_
 refine oZ [(7, .pointer (some (p3.add 9))), (8, .pointer (some (p3.add 9)))] ?_
 obtain ⟨x4, hc5, hM⟩ := hM
 refine oL (.int .i64 x4) (p3.add 9) hc5 ?_
 refine oZ [(4, .int .i64 x4)] ?_
 refine oE (cwp_seq (cwp_block ?_))
 obtain ⟨k_, hM⟩ := hM
 refine cwp_loop k_ (lwp_of_part (fn := Tryz.f112) (p := [1, 0, 0, 0]) (by kernel_rfl) (lA 0 (.pointer (some p3)) (lA 1 (.int .i64 a2) (lA 4 (.int .i64 x4) (vt_Screen_tab_l0_ok _ ?_ k_ p3 a2 x4 _ _ hM)))))
 · intro z59 z60 b66 h61 hM
   refine blockE_h (thenE_n (cwp_region ?_))
   refine oZ [(44, .pointer (some z59)), (45, .int .i64 z60), (46, .pointer (some z59)), (47, .pointer (some z59)), (48, .pointer (some (z59.add 9))), (49, .pointer (some (z59.add 10)))] ?_
   obtain ⟨x62, hc63, hM⟩ := hM
   refine oL (.int .i64 x62) (z59.add 10) hc63 ?_
   refine oG (hpCallE 111 #[.pointer (some z59), .int .i64 z60, .int .i64 x62] (by kernel_rfl) (vt_Screen_to_ok (some z59) z60 x62 _ h61 hM) ?_)
   clear hM
   rintro _ h65 ⟨rfl, hM⟩
   refine owp_nil ?_
   exact end_ (.tuple #[]) (by kernel_rfl) ⟨rfl, hM⟩
/- (*mullion/vt.Screen).does -/
def vt_Screen_does_j0 (Kn : Heap → Prop) (y23 : Option Addr) (y24 : Int) (y25 : Bool) (h : Heap) : Prop :=
 if y25 = true then
  nz y23 fun p27 =>
  ldB h (p27.add 23) fun x28 =>
  if x28 = true then
   stN (p27.add 9) [.int .i64 0] 0 h fun h32 =>
   vt_Screen_feed (some p27) (fun  h33 =>
     Kn  h33) h32
  else
  vt_Screen_feed (some p27) (fun  h34 =>
    Kn  h34) h
 else
 if y24 = 13 then
  nz y23 fun p36 =>
  ldI h .i64 (p36.add 10) fun x37 =>
  vt_Screen_to (some p36) 0 x37 (fun  h40 =>
    Kn  h40) h
 else
 if y24 = 14 then
  nz y23 fun p42 =>
  stN (p42.add 17) [.bool true] 0 h fun h43 =>
  Kn  h43
 else
 if y24 = 15 then
  nz y23 fun p45 =>
  stN (p45.add 17) [.bool false] 0 h fun h46 =>
  Kn  h46
 else
 Kn  h
theorem vt_Screen_does_j0_ok {Q : Exit → Env → Heap → Prop} (Kn : Heap → Prop) (hKn : ∀  (b : Env) (h : Heap), Kn  h → Q .normal b h) (y23 : Option Addr) (y24 : Int) (y25 : Bool) (b : Env) (h : Heap) (hM : vt_Screen_does_j0 Kn y23 y24 y25 h) : cwp Tryz.prog (partC Tryz.f86 [1, 0, 1, 1, 1, 1, 1, 1, 1]) 68 Q (upd (upd (upd b 0 (.pointer y23)) 4 (.int .u8 y24)) 33 (.bool y25)) h := by
  unfold vt_Screen_does_j0 at hM
  refine cwp_part rfl ?_
  refine cwp_condB y25 (by kernel_rfl) (fun hc26 => ?_) (fun hc26 => ?_)
  · replace hM := ifT hc26 hM
    refine cwp_seq (cR ?_)
    refine oZ [(37, .pointer y23)] ?_
    obtain ⟨p27, rfl, hM⟩ := hM
    refine owp_rdG (.pointer (some p27)) rfl (by kernel_rfl) (by kernel_rfl) ?_
    refine oZ [(39, .pointer (some (p27.add 23)))] ?_
    obtain ⟨x28, hc29, hM⟩ := hM
    refine oL (.bool x28) (p27.add 23) hc29 ?_
    refine oE ?_
    refine cwp_condB x28 (by kernel_rfl) (fun hc31 => ?_) (fun hc31 => ?_)
    · replace hM := ifT hc31 hM
      refine cwp_region ?_
      refine oZ [(41, .pointer (some p27)), (42, .pointer (some p27)), (43, .pointer (some (p27.add 9))), (44, .pointer (some (p27.add 9)))] ?_
      refine oT (p27.add 9) [.int .i64 0] hM ?_
      clear hM
      intro h32 hM
      refine oE (cwp_region ?_)
      refine oZ [(45, .pointer (some p27))] ?_
      refine oG (hpCallE 106 #[.pointer (some p27)] (by kernel_rfl) (vt_Screen_feed_ok (some p27) _ h32 hM) ?_)
      clear hM
      rintro _ h33 ⟨rfl, hM⟩
      refine owp_nil ?_
      exact hKn  _ _ hM
    replace hM := ifF hc31 hM
    refine cwp_skip (thenE_n (cwp_region ?_))
    refine oZ [(45, .pointer (some p27))] ?_
    refine oG (hpCallE 106 #[.pointer (some p27)] (by kernel_rfl) (vt_Screen_feed_ok (some p27) _ h hM) ?_)
    clear hM
    rintro _ h34 ⟨rfl, hM⟩
    refine owp_nil ?_
    exact hKn  _ _ hM
  replace hM := ifF hc26 hM
  refine cR ?_
  refine oZ [(48, .bool (decide (y24 = 13))), (47, .bool (decide (y24 = 13)))] ?_
  refine oE ?_
  refine cwp_condD (y24 = 13) (by kernel_rfl) (fun hc35 => ?_) (fun hc35 => ?_)
  · replace hM := ifT hc35 hM
    refine cwp_region ?_
    refine oZ [(49, .pointer y23), (50, .pointer y23)] ?_
    obtain ⟨p36, rfl, hM⟩ := hM
    refine owp_rdG (.pointer (some p36)) rfl (by kernel_rfl) (by kernel_rfl) ?_
    refine oZ [(52, .pointer (some (p36.add 9))), (53, .pointer (some (p36.add 10)))] ?_
    obtain ⟨x37, hc38, hM⟩ := hM
    refine oL (.int .i64 x37) (p36.add 10) hc38 ?_
    refine oG (hpCallE 111 #[.pointer (some p36), .int .i64 0, .int .i64 x37] (by kernel_rfl) (vt_Screen_to_ok (some p36) 0 x37 _ h hM) ?_)
    clear hM
    rintro _ h40 ⟨rfl, hM⟩
    refine owp_nil ?_
    exact hKn  _ _ hM
  replace hM := ifF hc35 hM
  refine cR ?_
  refine oZ [(57, .bool (decide (y24 = 14))), (56, .bool (decide (y24 = 14)))] ?_
  refine oE ?_
  refine cwp_condD (y24 = 14) (by kernel_rfl) (fun hc41 => ?_) (fun hc41 => ?_)
  · replace hM := ifT hc41 hM
    refine cwp_region ?_
    refine oZ [(58, .pointer y23)] ?_
    obtain ⟨p42, rfl, hM⟩ := hM
    refine owp_rdG (.pointer (some p42)) rfl (by kernel_rfl) (by kernel_rfl) ?_
    refine oZ [(60, .pointer (some (p42.add 9))), (61, .pointer (some (p42.add 17)))] ?_
    refine oT (p42.add 17) [.bool true] hM ?_
    clear hM
    intro h43 hM
    refine owp_nil ?_
    exact hKn  _ _ hM
  replace hM := ifF hc41 hM
  refine cR ?_
  refine oZ [(63, .bool (decide (y24 = 15))), (62, .bool (decide (y24 = 15)))] ?_
  refine oE ?_
  refine cwp_condD (y24 = 15) (by kernel_rfl) (fun hc44 => ?_) (fun hc44 => ?_)
  · replace hM := ifT hc44 hM
    refine cwp_region ?_
    refine oZ [(64, .pointer y23)] ?_
    obtain ⟨p45, rfl, hM⟩ := hM
    refine owp_rdG (.pointer (some p45)) rfl (by kernel_rfl) (by kernel_rfl) ?_
    refine oZ [(66, .pointer (some (p45.add 9))), (67, .pointer (some (p45.add 17)))] ?_
    refine oT (p45.add 17) [.bool false] hM ?_
    clear hM
    intro h46 hM
    refine owp_nil ?_
    exact hKn  _ _ hM
  replace hM := ifF hc44 hM
  refine cwp_skip ?_
  exact hKn  _ _ hM
def vt_Screen_does (a1 : Option Addr) (a2 : Int) (K : Heap → Prop) (h : Heap) : Prop :=
 if a2 = 7 then
  nz a1 fun p4 =>
  ldI h .i64 (p4.add 29) fun x5 =>
  stN (p4.add 29) [.int .i64 (IntKind.wrap .i64 (x5 + 1))] 0 h fun h8 =>
  K h8
 else
 if a2 = 8 then
  nz a1 fun p10 =>
  ldI h .i64 (p10.add 9) fun x11 =>
  ldI h .i64 (p10.add 10) fun x15 =>
  vt_Screen_to (some p10) (IntKind.wrap .i64 (x11 - 1)) x15 (fun  h19 =>
    K h19) h
 else
 if a2 = 9 then
  vt_Screen_tab a1 1 (fun  h21 =>
    K h21) h
 else
 if a2 = 10 then
  vt_Screen_does_j0
   (fun  h47 =>
       K h47) a1 a2 (decide (a2 = 10)) h
 else
 if a2 = 11 then
  vt_Screen_does_j0
   (fun  h51 =>
       K h51) a1 a2 (decide (a2 = 11)) h
 else
 vt_Screen_does_j0
  (fun  h54 =>
      K h54) a1 a2 (decide (a2 = 12)) h
theorem vt_Screen_does_ok (a1 : Option Addr) (a2 : Int) (K : Heap → Prop) (h : Heap) (hM : vt_Screen_does a1 a2 K h) : CallsH Tryz.prog 86 #[.pointer a1, .int .u8 a2] (fun v h' => v = .tuple #[] ∧ K h') h := by
 unfold vt_Screen_does at hM
 refine callsH_intro (n := 68) Tryz.func86 rfl rfl (by kernel_rfl) ?_
 refine cR ?_
 refine oZ [(4, .int .u8 a2)] ?_
 refine oE (cwp_block (cR ?_))
 refine oZ [(6, .bool (decide (a2 = 7))), (5, .bool (decide (a2 = 7)))] ?_
 refine oE ?_
 refine cwp_condD (a2 = 7) (by kernel_rfl) (fun hc3 => ?_) (fun hc3 => ?_)
 · replace hM := ifT hc3 hM
   refine cwp_region ?_
   refine oZ [(7, .pointer a1)] ?_
   obtain ⟨p4, rfl, hM⟩ := hM
   refine owp_rdG (.pointer (some p4)) rfl (by kernel_rfl) (by kernel_rfl) ?_
   refine oZ [(9, .pointer (some (p4.add 29)))] ?_
   obtain ⟨x5, hc6, hM⟩ := hM
   refine oL (.int .i64 x5) (p4.add 29) hc6 ?_
   refine oZ [(11, .int .i64 (IntKind.wrap .i64 (x5 + 1))), (12, .pointer (some p4)), (13, .pointer (some (p4.add 29)))] ?_
   refine oT (p4.add 29) [.int .i64 (IntKind.wrap .i64 (x5 + 1))] hM ?_
   clear hM
   intro h8 hM
   refine owp_nil (blockE_n ?_)
   exact end_ (.tuple #[]) (by kernel_rfl) ⟨rfl, hM⟩
 replace hM := ifF hc3 hM
 refine cR ?_
 refine oZ [(15, .bool (decide (a2 = 8))), (14, .bool (decide (a2 = 8)))] ?_
 refine oE ?_
 refine cwp_condD (a2 = 8) (by kernel_rfl) (fun hc9 => ?_) (fun hc9 => ?_)
 · replace hM := ifT hc9 hM
   refine cwp_draw (by kernel_rfl) ?_
   refine kq 0 (.pointer a1) ?_
   refine kq 1 (.pointer a1) ?_
   obtain ⟨p10, rfl, hM⟩ := hM
   refine kq 2 (.pointer (some p10)) ?_
   refine kq 3 (.pointer (some (p10.add 9))) ?_
   refine kq 4 (.pointer (some (p10.add 9))) ?_
   obtain ⟨x11, hc12, hM⟩ := hM
   refine kl 5 (.int .i64 x11) (p10.add 9) [6, 12] [12] hc12 ?_
   refine kq 6 (.int .i64 (IntKind.wrap .i64 (x11 - 1))) ?_
   refine kq 7 (.pointer (some p10)) ?_
   refine kq 8 (.pointer (some p10)) ?_
   refine kq 9 (.pointer (some (p10.add 9))) ?_
   refine kq 10 (.pointer (some (p10.add 10))) ?_
   obtain ⟨x15, hc16, hM⟩ := hM
   refine kl 11 (.int .i64 x15) (p10.add 10) [12] [12] hc16 ?_
   refine kE 12 (hpCallE 111 #[.pointer (some p10), .int .i64 (IntKind.wrap .i64 (x11 - 1)), .int .i64 x15] (by kernel_rfl) (vt_Screen_to_ok (some p10) (IntKind.wrap .i64 (x11 - 1)) x15 _ h hM) ?_)
   clear hM
   rintro _ h19 ⟨rfl, hM⟩
   refine ⟨trivial, ?_⟩
   refine k_done (by kernel_rfl) ?_
   refine blockE_n ?_
   exact end_ (.tuple #[]) (by kernel_rfl) ⟨rfl, hM⟩
 replace hM := ifF hc9 hM
 refine cR ?_
 refine oZ [(30, .bool (decide (a2 = 9))), (29, .bool (decide (a2 = 9)))] ?_
 refine oE ?_
 refine cwp_condD (a2 = 9) (by kernel_rfl) (fun hc20 => ?_) (fun hc20 => ?_)
 · replace hM := ifT hc20 hM
   refine cwp_region ?_
   refine oZ [(31, .pointer a1)] ?_
   refine oG (hpCallE 112 #[.pointer a1, .int .i64 1] (by kernel_rfl) (vt_Screen_tab_ok a1 1 _ h hM) ?_)
   clear hM
   rintro _ h21 ⟨rfl, hM⟩
   refine owp_nil (blockE_n ?_)
   exact end_ (.tuple #[]) (by kernel_rfl) ⟨rfl, hM⟩
 replace hM := ifF hc20 hM
 refine cwp_seq (cR ?_)
 refine oZ [(34, .bool (decide (a2 = 10))), (33, .bool (decide (a2 = 10)))] ?_
 refine oE ?_
 refine cwp_condD (a2 = 10) (by kernel_rfl) (fun hc22 => ?_) (fun hc22 => ?_)
 · replace hM := ifT hc22 hM
   refine cwp_skip (thenE_n ?_)
   refine cwp_of_part (fn := Tryz.f86) (p := [1, 0, 1, 1, 1, 1, 1, 1, 1]) (by kernel_rfl) (cA 0 (.pointer a1) (cA 4 (.int .u8 a2) (cA 33 (.bool (decide (a2 = 10))) (vt_Screen_does_j0_ok _ ?_ a1 a2 (decide (a2 = 10)) _ _ hM))))
   · intro  b48 h47 hM
     refine blockE_n ?_
     exact end_ (.tuple #[]) (by kernel_rfl) ⟨rfl, hM⟩
 replace hM := ifF hc22 hM
 refine cR ?_
 refine oZ [(35, .bool (decide (a2 = 11))), (33, .bool (decide (a2 = 11)))] ?_
 refine oE ?_
 refine cwp_condD (a2 = 11) (by kernel_rfl) (fun hc50 => ?_) (fun hc50 => ?_)
 · replace hM := ifT hc50 hM
   refine cwp_skip (thenE_n ?_)
   refine cwp_of_part (fn := Tryz.f86) (p := [1, 0, 1, 1, 1, 1, 1, 1, 1]) (by kernel_rfl) (cA 0 (.pointer a1) (cA 4 (.int .u8 a2) (cA 33 (.bool (decide (a2 = 11))) (vt_Screen_does_j0_ok _ ?_ a1 a2 (decide (a2 = 11)) _ _ hM))))
   · intro  b52 h51 hM
     refine blockE_n ?_
     exact end_ (.tuple #[]) (by kernel_rfl) ⟨rfl, hM⟩
 replace hM := ifF hc50 hM
 refine cwp_region ?_
 refine oZ [(36, .bool (decide (a2 = 12))), (33, .bool (decide (a2 = 12)))] ?_
 refine oE ?_
 refine cwp_of_part (fn := Tryz.f86) (p := [1, 0, 1, 1, 1, 1, 1, 1, 1]) (by kernel_rfl) (cA 0 (.pointer a1) (cA 4 (.int .u8 a2) (cA 33 (.bool (decide (a2 = 12))) (vt_Screen_does_j0_ok _ ?_ a1 a2 (decide (a2 = 12)) _ _ hM))))
 · intro  b55 h54 hM
   refine blockE_n ?_
   exact end_ (.tuple #[]) (by kernel_rfl) ⟨rfl, hM⟩
/- (*mullion/vt.Screen).ground -/
def vt_Screen_ground_j0 (Kn : Heap → Prop) (y46 : Addr) (y47 : Int) (h : Heap) : Prop :=
 if y47 < 32 then
  vt_Screen_does (some y46) y47 (fun  h49 =>
    Kn  h49) h
 else
 if y47 < 127 then
  vt_Screen_write (some y46) (IntKind.wrap .i32 (y47)) (fun  h51 =>
    Kn  h51) h
 else
 if y47 = 127 then
  Kn  h
 else
 if ((decide (194 ≤ y47)) && (decide (y47 ≤ 244))) = true then
  stN (y46.add 34) [.int .u8 y47] 0 h fun h58 =>
  stN (y46.add 38) [.int .i64 1] 0 h58 fun h59 =>
  stN (y46.add 39) [.int .i64 2] 0 h59 fun h60 =>
  if 224 ≤ y47 then
   stN (y46.add 39) [.int .i64 3] 0 h60 fun h62 =>
   if 240 ≤ y47 then
    stN (y46.add 39) [.int .i64 4] 0 h62 fun h64 =>
    Kn  h64
   else
   Kn  h62
  else
  if 240 ≤ y47 then
   stN (y46.add 39) [.int .i64 4] 0 h60 fun h66 =>
   Kn  h66
  else
  Kn  h60
 else
 vt_Screen_write (some y46) 65533 (fun  h67 =>
   Kn  h67) h
theorem vt_Screen_ground_j0_ok {Q : Exit → Env → Heap → Prop} (Kn : Heap → Prop) (hKn : ∀  (b : Env) (h : Heap), Kn  h → Q .normal b h) (y46 : Addr) (y47 : Int) (b : Env) (h : Heap) (hM : vt_Screen_ground_j0 Kn y46 y47 h) : cwp Tryz.prog (partC Tryz.f60 [1]) 108 Q (upd (upd b 0 (.pointer (some y46))) 1 (.int .u8 y47)) h := by
  unfold vt_Screen_ground_j0 at hM
  refine cwp_part rfl ?_
  refine cwp_block (cR ?_)
  refine oZ [(65, .int .u8 y47), (66, .bool (decide (y47 < 32))), (64, .bool (decide (y47 < 32)))] ?_
  refine oE ?_
  refine cwp_condD (y47 < 32) (by kernel_rfl) (fun hc48 => ?_) (fun hc48 => ?_)
  · replace hM := ifT hc48 hM
    refine cwp_region ?_
    refine oZ [(67, .pointer (some y46)), (68, .int .u8 y47)] ?_
    refine oG (hpCallE 86 #[.pointer (some y46), .int .u8 y47] (by kernel_rfl) (vt_Screen_does_ok (some y46) y47 _ h hM) ?_)
    clear hM
    rintro _ h49 ⟨rfl, hM⟩
    refine owp_nil (blockE_n ?_)
    exact hKn  _ _ hM
  replace hM := ifF hc48 hM
  refine cR ?_
  refine oZ [(71, .int .u8 y47), (72, .bool (decide (y47 < 127))), (70, .bool (decide (y47 < 127)))] ?_
  refine oE ?_
  refine cwp_condD (y47 < 127) (by kernel_rfl) (fun hc50 => ?_) (fun hc50 => ?_)
  · replace hM := ifT hc50 hM
    refine cwp_region ?_
    refine oZ [(73, .pointer (some y46)), (74, .int .u8 y47), (75, .int .i32 (IntKind.wrap .i32 (y47)))] ?_
    refine oG (hpCallE 82 #[.pointer (some y46), .int .i32 (IntKind.wrap .i32 (y47))] (by kernel_rfl) (vt_Screen_write_ok (some y46) (IntKind.wrap .i32 (y47)) _ h hM) ?_)
    clear hM
    rintro _ h51 ⟨rfl, hM⟩
    refine owp_nil (blockE_n ?_)
    exact hKn  _ _ hM
  replace hM := ifF hc50 hM
  refine cR ?_
  refine oZ [(78, .int .u8 y47), (79, .bool (decide (y47 = 127))), (77, .bool (decide (y47 = 127)))] ?_
  refine oE ?_
  refine cwp_condD (y47 = 127) (by kernel_rfl) (fun hc52 => ?_) (fun hc52 => ?_)
  · replace hM := ifT hc52 hM
    refine cwp_skip (blockE_n ?_)
    exact hKn  _ _ hM
  replace hM := ifF hc52 hM
  refine cR ?_
  refine oZ [(81, .int .u8 y47), (82, .bool (decide (194 ≤ y47))), (83, .bool (decide (194 ≤ y47)))] ?_
  refine oB (decide (194 ≤ y47)) 3 [82, 83] (fun b_ => [(84, iteV b_ (.int .u8 y47 : Value) undef), (85, iteV b_ (.bool (decide (y47 ≤ 244)) : Value) undef), (86, .bool (b_ && (decide (y47 ≤ 244))))]) rfl (fun hb53 hq54 => oS [(84, .int .u8 y47), (85, .bool (decide (y47 ≤ 244))), (86, .bool (decide (y47 ≤ 244)))] rfl (hq54)) (fun hb55 hq56 => oS [(84, undef), (85, undef), (86, .bool false)] rfl (hq56)) ?_
  refine oZ [(80, .bool ((decide (194 ≤ y47)) && (decide (y47 ≤ 244))))] ?_
  refine oE ?_
  refine cwp_condB ((decide (194 ≤ y47)) && (decide (y47 ≤ 244))) (by kernel_rfl) (fun hc57 => ?_) (fun hc57 => ?_)
  · replace hM := ifT hc57 hM
    refine cR ?_
    refine oZ [(87, .pointer (some y46)), (88, .int .u8 y47), (89, .pointer (some y46)), (90, .pointer (some (y46.add 34))), (91, .pointer (some (y46.add 34)))] ?_
    refine oT (y46.add 34) [.int .u8 y47] hM ?_
    clear hM
    intro h58 hM
    refine oE (cR ?_)
    refine oZ [(92, .pointer (some y46)), (93, .pointer (some y46)), (94, .pointer (some (y46.add 38)))] ?_
    refine oT (y46.add 38) [.int .i64 1] hM ?_
    clear hM
    intro h59 hM
    refine oE (cR ?_)
    refine oZ [(95, .pointer (some y46)), (96, .pointer (some y46)), (97, .pointer (some (y46.add 39)))] ?_
    refine oT (y46.add 39) [.int .i64 2] hM ?_
    clear hM
    intro h60 hM
    refine oE (cwp_seq (cR ?_))
    refine oZ [(98, .int .u8 y47), (99, .bool (decide (224 ≤ y47)))] ?_
    refine oE ?_
    refine cwp_condD (224 ≤ y47) (by kernel_rfl) (fun hc61 => ?_) (fun hc61 => ?_)
    · replace hM := ifT hc61 hM
      refine cwp_region ?_
      refine oZ [(100, .pointer (some y46)), (101, .pointer (some y46)), (102, .pointer (some (y46.add 39)))] ?_
      refine oT (y46.add 39) [.int .i64 3] hM ?_
      clear hM
      intro h62 hM
      refine oE (cR ?_)
      refine oZ [(103, .int .u8 y47), (104, .bool (decide (240 ≤ y47)))] ?_
      refine oE ?_
      refine cwp_condD (240 ≤ y47) (by kernel_rfl) (fun hc63 => ?_) (fun hc63 => ?_)
      · replace hM := ifT hc63 hM
        refine cwp_region ?_
        refine oZ [(105, .pointer (some y46)), (106, .pointer (some y46)), (107, .pointer (some (y46.add 39)))] ?_
        refine oT (y46.add 39) [.int .i64 4] hM ?_
        clear hM
        intro h64 hM
        refine owp_nil (blockE_n ?_)
        exact hKn  _ _ hM
      replace hM := ifF hc63 hM
      refine cwp_skip (blockE_n ?_)
      exact hKn  _ _ hM
    replace hM := ifF hc61 hM
    refine cwp_skip (thenE_n (cR ?_))
    refine oZ [(103, .int .u8 y47), (104, .bool (decide (240 ≤ y47)))] ?_
    refine oE ?_
    refine cwp_condD (240 ≤ y47) (by kernel_rfl) (fun hc65 => ?_) (fun hc65 => ?_)
    · replace hM := ifT hc65 hM
      refine cwp_region ?_
      refine oZ [(105, .pointer (some y46)), (106, .pointer (some y46)), (107, .pointer (some (y46.add 39)))] ?_
      refine oT (y46.add 39) [.int .i64 4] hM ?_
      clear hM
      intro h66 hM
      refine owp_nil (blockE_n ?_)
      exact hKn  _ _ hM
    replace hM := ifF hc65 hM
    refine cwp_skip (blockE_n ?_)
    exact hKn  _ _ hM
  replace hM := ifF hc57 hM
  refine cwp_region ?_
  refine oZ [(62, .pointer (some y46))] ?_
  refine oG (hpCallE 82 #[.pointer (some y46), .int .i32 65533] (by kernel_rfl) (vt_Screen_write_ok (some y46) 65533 _ h hM) ?_)
  clear hM
  rintro _ h67 ⟨rfl, hM⟩
  refine owp_nil (blockE_n ?_)
  exact hKn  _ _ hM
def vt_Screen_ground (a1 : Option Addr) (a2 : Int) (K : Heap → Prop) (h : Heap) : Prop :=
 nz a1 fun p3 =>
 ldI h .i64 (p3.add 38) fun x4 =>
 if 0 < x4 then
  vt_Screen_goes (some p3) a2 (fun x9 h8 =>
   if x9 = true then
    ldI h8 .i64 (p3.add 38) fun x11 =>
    0 ≤ x11 ∧
    x11 < (4 : Int) ∧
    stN ((p3.add 34).add (x11.toNat * 1)) [.int .u8 a2] 0 h8 fun h17 =>
    ldI h17 .i64 (p3.add 38) fun x18 =>
    stN (p3.add 38) [.int .i64 (IntKind.wrap .i64 (x18 + 1))] 0 h17 fun h21 =>
    ldI h21 .i64 (p3.add 38) fun x22 =>
    ldI h21 .i64 (p3.add 39) fun x26 =>
    if x22 = x26 then
     stN (p3.add 38) [.int .i64 0] 0 h21 fun h31 =>
     ldI h31 .i64 (p3.add 39) fun x32 =>
     0 ≤ x32 ∧
     x32 ≤ (4 : Int) ∧
     unicode_utf8_DecodeRune (some (p3.add 34)) x32.toNat 4 (fun x39 x40 h38 =>
      vt_Width x39 (fun x42 h41 =>
       if 0 ≤ x42 then
        vt_Screen_write (some p3) x39 (fun  h44 =>
          K h44) h41
       else
         K h41) h38) h31
    else
    K h21
   else
   vt_Screen_broken (some p3) (fun  h45 =>
    vt_Screen_ground_j0
     (fun  h68 =>
           K h68) p3 a2 h45) h8) h
 else
 vt_Screen_ground_j0
  (fun  h71 =>
      K h71) p3 a2 h
theorem vt_Screen_ground_ok (a1 : Option Addr) (a2 : Int) (K : Heap → Prop) (h : Heap) (hM : vt_Screen_ground a1 a2 K h) : CallsH Tryz.prog 60 #[.pointer a1, .int .u8 a2] (fun v h' => v = .tuple #[] ∧ K h') h := by
 unfold vt_Screen_ground at hM
 refine callsH_intro (n := 108) Tryz.func60 rfl rfl (by kernel_rfl) ?_
 refine cwp_seq (cR ?_)
 refine oZ [(6, .pointer a1)] ?_
 obtain ⟨p3, rfl, hM⟩ := hM
 refine owp_rdG (.pointer (some p3)) rfl (by kernel_rfl) (by kernel_rfl) ?_
 refine oZ [(8, .pointer (some (p3.add 38)))] ?_
 obtain ⟨x4, hc5, hM⟩ := hM
 refine oL (.int .i64 x4) (p3.add 38) hc5 ?_
 refine oZ [(10, .bool (decide (0 < x4)))] ?_
 refine oE ?_
 refine cwp_condD (0 < x4) (by kernel_rfl) (fun hc7 => ?_) (fun hc7 => ?_)
 · replace hM := ifT hc7 hM
   refine cwp_seq (cR ?_)
   refine oZ [(11, .pointer (some p3)), (12, .int .u8 a2)] ?_
   refine oG (hpCallE 83 #[.pointer (some p3), .int .u8 a2] (by kernel_rfl) (vt_Screen_goes_ok (some p3) a2 _ h hM) ?_)
   clear hM
   rintro _ h8 ⟨x9, rfl, hM⟩
   refine oE ?_
   refine cwp_condB x9 (by kernel_rfl) (fun hc10 => ?_) (fun hc10 => ?_)
   · replace hM := ifT hc10 hM
     refine cwp_seq ?_
     refine cwp_draw (by kernel_rfl) ?_
     refine kq 0 (.pointer (some p3)) ?_
     refine kq 1 (.pointer (some p3)) ?_
     refine kq 2 (.pointer (some p3)) ?_
     refine kq 3 (.pointer (some (p3.add 38))) ?_
     obtain ⟨x11, hc12, hM⟩ := hM
     refine kl 4 (.int .i64 x11) (p3.add 38) [8, 9] [9] hc12 ?_
     refine kq 5 (.int .u8 a2) ?_
     refine kq 6 (.pointer (some p3)) ?_
     refine kq 7 (.pointer (some (p3.add 34))) ?_
     obtain ⟨hc15, hM⟩ := hM
     obtain ⟨hc16, hM⟩ := hM
     refine k_pure (i := 8) [9] (.pointer (some ((p3.add 34).add (x11.toNat * 1)))) (by kernel_rfl) rfl rfl (by kernel_rfl) (fun h' => rd_ixA (P := Tryz.prog) (h := h') (t := 78) (el := 5) (sz := 1) (len := 4) (ad := (p3.add 34)) (k := .i64) (i := x11) (by kernel_rfl) (by kernel_rfl) hc15 hc16 (by kernel_rfl)) (by kernel_rfl) ?_
     refine kD 9 (hpSt ((p3.add 34).add (x11.toNat * 1)) [.int .u8 a2] (fun _ => by kernel_rfl) (by kernel_rfl) hM ?_)
     clear hM
     intro h17 hM
     refine ⟨trivial, ?_⟩
     refine k_done (by kernel_rfl) ?_
     refine thenE_n (cwp_seq (cR ?_))
     refine oZ [(23, .pointer (some p3)), (24, .pointer (some p3)), (25, .pointer (some (p3.add 38)))] ?_
     obtain ⟨x18, hc19, hM⟩ := hM
     refine oL (.int .i64 x18) (p3.add 38) hc19 ?_
     refine oZ [(27, .int .i64 (IntKind.wrap .i64 (x18 + 1))), (28, .pointer (some p3)), (29, .pointer (some (p3.add 38)))] ?_
     refine oT (p3.add 38) [.int .i64 (IntKind.wrap .i64 (x18 + 1))] hM ?_
     clear hM
     intro h21 hM
     refine oE (cwp_seq ?_)
     refine cwp_draw (by kernel_rfl) ?_
     refine kq 0 (.pointer (some p3)) ?_
     refine kq 1 (.pointer (some p3)) ?_
     refine kq 2 (.pointer (some (p3.add 38))) ?_
     obtain ⟨x22, hc23, hM⟩ := hM
     refine kl 3 (.int .i64 x22) (p3.add 38) [8] [] hc23 ?_
     refine kq 4 (.pointer (some p3)) ?_
     refine kq 5 (.pointer (some p3)) ?_
     refine kq 6 (.pointer (some (p3.add 39))) ?_
     obtain ⟨x26, hc27, hM⟩ := hM
     refine kl 7 (.int .i64 x26) (p3.add 39) [8] [] hc27 ?_
     refine kq 8 (.bool (decide (x22 = x26))) ?_
     refine k_done (by kernel_rfl) ?_
     refine thenE_n ?_
     refine cwp_condD (x22 = x26) (by kernel_rfl) (fun hc30 => ?_) (fun hc30 => ?_)
     · replace hM := ifT hc30 hM
       refine cR ?_
       refine oZ [(39, .pointer (some p3)), (40, .pointer (some p3)), (41, .pointer (some (p3.add 38)))] ?_
       refine oT (p3.add 38) [.int .i64 0] hM ?_
       clear hM
       intro h31 hM
       refine oE (cwp_seq ?_)
       refine cwp_draw (by kernel_rfl) ?_
       refine kq 0 (.pointer (some p3)) ?_
       refine kq 1 (.pointer (some p3)) ?_
       refine kq 2 (.pointer (some (p3.add 34))) ?_
       refine kq 3 (.pointer (some p3)) ?_
       refine kq 4 (.pointer (some p3)) ?_
       refine kq 5 (.pointer (some (p3.add 39))) ?_
       obtain ⟨x32, hc33, hM⟩ := hM
       refine kl 6 (.int .i64 x32) (p3.add 39) [7, 8, 9, 10, 11, 12, 13] [8] hc33 ?_
       obtain ⟨hc36, hM⟩ := hM
       obtain ⟨hc37, hM⟩ := hM
       refine k_pure (i := 7) [8, 9, 10, 11, 12, 13] (.slice (some (p3.add 34)) x32.toNat 4) (by kernel_rfl) rfl rfl (by kernel_rfl) (fun h' => rd_sAHi (P := Tryz.prog) (h := h') (t := 78) (el := 5) (sz := 1) (m := 4) (a := (p3.add 34)) (k := .i64) (i := x32) (by kernel_rfl) (by kernel_rfl) (by decide) hc36 hc37 (by kernel_rfl)) (by kernel_rfl) ?_
       refine kE 8 (hpCallE 84 #[.slice (some (p3.add 34)) x32.toNat 4] (by kernel_rfl) (unicode_utf8_DecodeRune_ok (some (p3.add 34)) x32.toNat 4 _ h31 hM) ?_)
       clear hM
       rintro _ h38 ⟨x39, x40, rfl, hM⟩
       refine ⟨trivial, ?_⟩
       refine kq 9 (.tuple #[.int .i32 x39, .int .i64 x40]) ?_
       refine kq 10 (.int .i32 x39) ?_
       refine kq 11 (.int .i64 x40) ?_
       refine kq 12 (.int .i32 x39) ?_
       refine kq 13 (.int .i64 x40) ?_
       refine k_done (by kernel_rfl) ?_
       refine thenE_n (cR ?_)
       refine oZ [(54, .int .i32 x39)] ?_
       refine oG (hpCallE 85 #[.int .i32 x39] (by kernel_rfl) (vt_Width_ok x39 _ h38 hM) ?_)
       clear hM
       rintro _ h41 ⟨x42, rfl, hM⟩
       refine oZ [(56, .bool (decide (0 ≤ x42)))] ?_
       refine oE ?_
       refine cwp_condD (0 ≤ x42) (by kernel_rfl) (fun hc43 => ?_) (fun hc43 => ?_)
       · replace hM := ifT hc43 hM
         refine cwp_region ?_
         refine oZ [(57, .pointer (some p3)), (58, .int .i32 x39)] ?_
         refine oG (hpCallE 82 #[.pointer (some p3), .int .i32 x39] (by kernel_rfl) (vt_Screen_write_ok (some p3) x39 _ h41 hM) ?_)
         clear hM
         rintro _ h44 ⟨rfl, hM⟩
         refine oE (cwp_ret (thenE_r (thenE_r ?_)))
         exact ret_ (.tuple #[]) (by kernel_rfl) ⟨rfl, hM⟩
       replace hM := ifF hc43 hM
       refine cwp_skip (thenE_n (cwp_ret (thenE_r (thenE_r ?_))))
       exact ret_ (.tuple #[]) (by kernel_rfl) ⟨rfl, hM⟩
     replace hM := ifF hc30 hM
     refine cwp_skip (thenE_n (cwp_ret (thenE_r (thenE_r ?_))))
     exact ret_ (.tuple #[]) (by kernel_rfl) ⟨rfl, hM⟩
   replace hM := ifF hc10 hM
   refine cwp_skip (thenE_n (cwp_region ?_))
   refine oZ [(60, .pointer (some p3))] ?_
   refine oG (hpCallE 57 #[.pointer (some p3)] (by kernel_rfl) (vt_Screen_broken_ok (some p3) _ h8 hM) ?_)
   clear hM
   rintro _ h45 ⟨rfl, hM⟩
   refine oE ?_
   refine cwp_of_part (fn := Tryz.f60) (p := [1]) (by kernel_rfl) (cA 0 (.pointer (some p3)) (cA 1 (.int .u8 a2) (vt_Screen_ground_j0_ok _ ?_ p3 a2 _ _ hM)))
   · intro  b69 h68 hM
     exact end_ (.tuple #[]) (by kernel_rfl) ⟨rfl, hM⟩
 replace hM := ifF hc7 hM
 refine cwp_skip (thenE_n ?_)
 refine cwp_of_part (fn := Tryz.f60) (p := [1]) (by kernel_rfl) (cA 0 (.pointer (some p3)) (cA 1 (.int .u8 a2) (vt_Screen_ground_j0_ok _ ?_ p3 a2 _ _ hM)))
 · intro  b72 h71 hM
   exact end_ (.tuple #[]) (by kernel_rfl) ⟨rfl, hM⟩
/- (*mullion/vt.Screen).gather -/
def vt_Screen_gather (a1 : Option Addr) (a2 : Int) (K : Heap → Prop) (h : Heap) : Prop :=
 nz a1 fun p3 =>
 ldL h (p3.add 32) fun x4 x4n x4c =>
 if (x4n : Int) = 256 then
  stN (p3.add 33) [.bool true] 0 h fun h8 =>
  K h8
 else
 ldL h (p3.add 32) fun x9 x9n x9c =>
 gap h fun h13 =>
 appH h13 5 1 [.int .u8 0] x9 x9n x9c [.int .u8 a2] 1 fun s16 s16c h15 =>
 stN (p3.add 32) [.slice s16 (x9n + 1) s16c] 0 h15 fun h17 =>
 K h17
theorem vt_Screen_gather_ok (a1 : Option Addr) (a2 : Int) (K : Heap → Prop) (h : Heap) (hM : vt_Screen_gather a1 a2 K h) : CallsH Tryz.prog 87 #[.pointer a1, .int .u8 a2] (fun v h' => v = .tuple #[] ∧ K h') h := by
 unfold vt_Screen_gather at hM
 refine callsH_intro (n := 23) Tryz.func87 rfl rfl (by kernel_rfl) ?_
 refine cwp_seq (cR ?_)
 refine oZ [(4, .pointer a1)] ?_
 obtain ⟨p3, rfl, hM⟩ := hM
 refine owp_rdG (.pointer (some p3)) rfl (by kernel_rfl) (by kernel_rfl) ?_
 refine oZ [(6, .pointer (some (p3.add 32)))] ?_
 obtain ⟨x4, x4n, x4c, hc5, hM⟩ := hM
 refine oL (.slice x4 x4n x4c) (p3.add 32) hc5 ?_
 refine oZ [(8, .int .i64 (x4n : Int)), (9, .bool (decide ((x4n : Int) = 256)))] ?_
 refine oE ?_
 refine cwp_condD ((x4n : Int) = 256) (by kernel_rfl) (fun hc7 => ?_) (fun hc7 => ?_)
 · replace hM := ifT hc7 hM
   refine cR ?_
   refine oZ [(10, .pointer (some p3)), (11, .pointer (some p3)), (12, .pointer (some (p3.add 33)))] ?_
   refine oT (p3.add 33) [.bool true] hM ?_
   clear hM
   intro h8 hM
   refine oE (cwp_ret (thenE_r ?_))
   exact ret_ (.tuple #[]) (by kernel_rfl) ⟨rfl, hM⟩
 replace hM := ifF hc7 hM
 refine cwp_skip (thenE_n (cwp_region ?_))
 refine oZ [(13, .pointer (some p3)), (14, .pointer (some p3)), (15, .pointer (some p3)), (16, .pointer (some (p3.add 32)))] ?_
 obtain ⟨x9, x9n, x9c, hc10, hM⟩ := hM
 refine oL (.slice x9 x9n x9c) (p3.add 32) hc10 ?_
 refine oZ [(18, .int .u8 a2)] ?_
 refine oG (hpNewS #[.int .u8 a2] 5 1 (fun _ => by kernel_rfl) ?_)
 intro b12 h13 hN14
 replace hM := hM _ (New.ext hN14)
 refine oG (hpApp (t := 77) (ty := 77) (et := 5) (zv := .int .u8 0) (sz := 1) (by_ := 1) (base := x9) (n' := x9n) (c := x9c) (xb := (some ⟨b12, 0, none⟩)) (m := 1) (xc := 1) (new := [.int .u8 a2]) (fun _ => by kernel_rfl) (by kernel_rfl) (by kernel_rfl) [.int .u8 0] rfl rfl (by decide) rfl rfl ⟨Blk.cell (New.blk hN14) 0 (by kernel_rfl), trivial⟩ hM ?_)
 clear hM
 intro s16 s16c h15 hM
 refine oZ [(21, .pointer (some p3)), (22, .pointer (some (p3.add 32)))] ?_
 refine oT (p3.add 32) [.slice s16 (x9n + 1) s16c] hM ?_
 clear hM
 intro h17 hM
 refine owp_nil ?_
 exact end_ (.tuple #[]) (by kernel_rfl) ⟨rfl, hM⟩
/- (*mullion/vt.Screen).keepCursor -/
def vt_Screen_keepCursor (a1 : Option Addr) (K : Heap → Prop) (h : Heap) : Prop :=
 nz a1 fun p2 =>
 ldI h .i64 (p2.add 9) fun x3 =>
 ldI h .i64 (p2.add 10) fun x5 =>
 ldI h .i64 (p2.add 11) fun x7 =>
 ldI h .i64 (p2.add 12) fun x9 =>
 ldI h .i64 (p2.add 13) fun x11 =>
 ldB h (p2.add 14) fun x13 =>
 ldB h (p2.add 15) fun x15 =>
 ldB h (p2.add 16) fun x17 =>
 ldB h (p2.add 17) fun x19 =>
 ldB h (p2.add 18) fun x21 =>
 newB h #[.int .i64 0, .int .i64 0, .int .i64 0, .int .i64 0, .int .i64 0, .bool false, .bool false, .bool false, .bool false, .bool false] 74 fun b23 h24 =>
 stN ⟨b23, 0, none⟩ [.int .i64 x3, .int .i64 x5, .int .i64 x7, .int .i64 x9, .int .i64 x11, .bool x13, .bool x15, .bool x17, .bool x19, .bool x21] 0 h24 fun h26 =>
 vt_Screen_shown (some p2) (fun x28 h27 =>
  nz x28 fun p29 =>
  stN (p29.add 1) [.pointer (some ⟨b23, 0, none⟩)] 0 h27 fun h30 =>
   K h30) h26
theorem vt_Screen_keepCursor_ok (a1 : Option Addr) (K : Heap → Prop) (h : Heap) (hM : vt_Screen_keepCursor a1 K h) : CallsH Tryz.prog 113 #[.pointer a1] (fun v h' => v = .tuple #[] ∧ K h') h := by
 unfold vt_Screen_keepCursor at hM
 refine callsH_intro (n := 11) Tryz.func113 rfl rfl (by kernel_rfl) ?_
 refine cR ?_
 refine oZ [(3, .pointer a1)] ?_
 obtain ⟨p2, rfl, hM⟩ := hM
 refine owp_rdG (.pointer (some p2)) rfl (by kernel_rfl) (by kernel_rfl) ?_
 refine oZ [(5, .pointer (some (p2.add 9)))] ?_
 obtain ⟨x3, hc4, hM⟩ := hM
 obtain ⟨x5, hc6, hM⟩ := hM
 obtain ⟨x7, hc8, hM⟩ := hM
 obtain ⟨x9, hc10, hM⟩ := hM
 obtain ⟨x11, hc12, hM⟩ := hM
 obtain ⟨x13, hc14, hM⟩ := hM
 obtain ⟨x15, hc16, hM⟩ := hM
 obtain ⟨x17, hc18, hM⟩ := hM
 obtain ⟨x19, hc20, hM⟩ := hM
 obtain ⟨x21, hc22, hM⟩ := hM
 refine owp_rdG (.agg #[.int .i64 x3, .int .i64 x5, .int .i64 x7, .int .i64 x9, .int .i64 x11, .bool x13, .bool x15, .bool x17, .bool x19, .bool x21]) rfl (by kernel_rfl) (rd_loadStr (P := Tryz.prog) (h := h) (t := 74) (a := (p2.add 9)) (.int .i64 x3 :: .int .i64 x5 :: .int .i64 x7 :: .int .i64 x9 :: .int .i64 x11 :: .bool x13 :: .bool x15 :: .bool x17 :: .bool x19 :: .bool x21 :: []) Tryz.underlying74 (by kernel_rfl) (cN 0 hc4 (cN 1 hc6 (cN 2 hc8 (cN 3 hc10 (cN 4 hc12 (cN 5 hc14 (cN 6 hc16 (cN 7 hc18 (cN 8 hc20 (cN 9 hc22 trivial)))))))))) (by kernel_rfl)) ?_
 refine oG (hpNew #[.int .i64 0, .int .i64 0, .int .i64 0, .int .i64 0, .int .i64 0, .bool false, .bool false, .bool false, .bool false, .bool false] 74 (fun _ => by kernel_rfl) ?_)
 intro b23 h24 hN25
 replace hM := newB_of hN25 hM
 refine oT ⟨b23, 0, none⟩ [.int .i64 x3, .int .i64 x5, .int .i64 x7, .int .i64 x9, .int .i64 x11, .bool x13, .bool x15, .bool x17, .bool x19, .bool x21] hM ?_
 clear hM
 intro h26 hM
 refine oE (cwp_region ?_)
 refine oZ [(7, .pointer (some p2))] ?_
 refine oG (hpCallE 39 #[.pointer (some p2)] (by kernel_rfl) (vt_Screen_shown_ok (some p2) _ h26 hM) ?_)
 clear hM
 rintro _ h27 ⟨x28, rfl, hM⟩
 obtain ⟨p29, rfl, hM⟩ := hM
 refine owp_rdG (.pointer (some p29)) rfl (by kernel_rfl) (by kernel_rfl) ?_
 refine oZ [(10, .pointer (some (p29.add 1)))] ?_
 refine oT (p29.add 1) [.pointer (some ⟨b23, 0, none⟩)] hM ?_
 clear hM
 intro h30 hM
 refine owp_nil ?_
 exact end_ (.tuple #[]) (by kernel_rfl) ⟨rfl, hM⟩
/- (*mullion/vt.Screen).backCursor -/
def vt_Screen_backCursor (a1 : Option Addr) (K : Heap → Prop) (h : Heap) : Prop :=
 vt_Screen_shown a1 (fun x3 h2 =>
  nz x3 fun p4 =>
  ldP h2 (p4.add 1) fun x5 =>
  if (!x5.isNone) = true then
   nz x5 fun p9 =>
   ldI h2 .i64 p9 fun x10 =>
   ldI h2 .i64 (p9.add 1) fun x12 =>
   ldI h2 .i64 (p9.add 2) fun x14 =>
   ldI h2 .i64 (p9.add 3) fun x16 =>
   ldI h2 .i64 (p9.add 4) fun x18 =>
   ldB h2 (p9.add 5) fun x20 =>
   ldB h2 (p9.add 6) fun x22 =>
   ldB h2 (p9.add 7) fun x24 =>
   ldB h2 (p9.add 8) fun x26 =>
   ldB h2 (p9.add 9) fun x28 =>
   nz a1 fun p30 =>
   stN (p30.add 9) [.int .i64 x10, .int .i64 x12, .int .i64 x14, .int .i64 x16, .int .i64 x18, .bool x20, .bool x22, .bool x24, .bool x26, .bool x28] 0 h2 fun h31 =>
   K h31
  else
  nz a1 fun p32 =>
  stN (p32.add 9) [.int .i64 0, .int .i64 0, .int .i64 0, .int .i64 0, .int .i64 0, .bool false, .bool false, .bool false, .bool false, .bool false] 0 h2 fun h33 =>
   K h33) h
theorem vt_Screen_backCursor_ok (a1 : Option Addr) (K : Heap → Prop) (h : Heap) (hM : vt_Screen_backCursor a1 K h) : CallsH Tryz.prog 114 #[.pointer a1] (fun v h' => v = .tuple #[] ∧ K h') h := by
 unfold vt_Screen_backCursor at hM
 refine callsH_intro (n := 20) Tryz.func114 rfl rfl (by kernel_rfl) ?_
 refine cR ?_
 refine oZ [(3, .pointer a1)] ?_
 refine oG (hpCallE 39 #[.pointer a1] (by kernel_rfl) (vt_Screen_shown_ok a1 _ h hM) ?_)
 clear hM
 rintro _ h2 ⟨x3, rfl, hM⟩
 obtain ⟨p4, rfl, hM⟩ := hM
 refine owp_rdG (.pointer (some p4)) rfl (by kernel_rfl) (by kernel_rfl) ?_
 refine oZ [(6, .pointer (some (p4.add 1)))] ?_
 obtain ⟨x5, hc6, hM⟩ := hM
 refine oL (.pointer x5) (p4.add 1) hc6 ?_
 refine oZ [(2, .pointer x5)] ?_
 refine oE (cR ?_)
 refine oZ [(8, .pointer x5)] ?_
 refine owp_rdG (.bool (!x5.isNone)) rfl (by kernel_rfl) (rd_neNil (P := Tryz.prog) (h := h2) (t := 69) (el := 74) (by kernel_rfl) (by kernel_rfl)) ?_
 refine oE ?_
 refine cwp_condB (!x5.isNone) (by kernel_rfl) (fun hc8 => ?_) (fun hc8 => ?_)
 · replace hM := ifT hc8 hM
   refine cwp_region ?_
   refine oZ [(10, .pointer a1), (11, .pointer x5)] ?_
   obtain ⟨p9, rfl, hM⟩ := hM
   refine owp_rdG (.pointer (some p9)) rfl (by kernel_rfl) (by kernel_rfl) ?_
   obtain ⟨x10, hc11, hM⟩ := hM
   obtain ⟨x12, hc13, hM⟩ := hM
   obtain ⟨x14, hc15, hM⟩ := hM
   obtain ⟨x16, hc17, hM⟩ := hM
   obtain ⟨x18, hc19, hM⟩ := hM
   obtain ⟨x20, hc21, hM⟩ := hM
   obtain ⟨x22, hc23, hM⟩ := hM
   obtain ⟨x24, hc25, hM⟩ := hM
   obtain ⟨x26, hc27, hM⟩ := hM
   obtain ⟨x28, hc29, hM⟩ := hM
   refine owp_rdG (.agg #[.int .i64 x10, .int .i64 x12, .int .i64 x14, .int .i64 x16, .int .i64 x18, .bool x20, .bool x22, .bool x24, .bool x26, .bool x28]) rfl (by kernel_rfl) (rd_loadStr (P := Tryz.prog) (h := h2) (t := 74) (a := p9) (.int .i64 x10 :: .int .i64 x12 :: .int .i64 x14 :: .int .i64 x16 :: .int .i64 x18 :: .bool x20 :: .bool x22 :: .bool x24 :: .bool x26 :: .bool x28 :: []) Tryz.underlying74 (by kernel_rfl) (cN 0 hc11 (cN 1 hc13 (cN 2 hc15 (cN 3 hc17 (cN 4 hc19 (cN 5 hc21 (cN 6 hc23 (cN 7 hc25 (cN 8 hc27 (cN 9 hc29 trivial)))))))))) (by kernel_rfl)) ?_
   obtain ⟨p30, rfl, hM⟩ := hM
   refine owp_rdG (.pointer (some p30)) rfl (by kernel_rfl) (by kernel_rfl) ?_
   refine oZ [(15, .pointer (some (p30.add 9)))] ?_
   refine oT (p30.add 9) [.int .i64 x10, .int .i64 x12, .int .i64 x14, .int .i64 x16, .int .i64 x18, .bool x20, .bool x22, .bool x24, .bool x26, .bool x28] hM ?_
   clear hM
   intro h31 hM
   refine owp_nil ?_
   exact end_ (.tuple #[]) (by kernel_rfl) ⟨rfl, hM⟩
 replace hM := ifF hc8 hM
 refine cwp_region ?_
 refine oZ [(16, .pointer a1), (17, .agg #[.int .i64 0, .int .i64 0, .int .i64 0, .int .i64 0, .int .i64 0, .bool false, .bool false, .bool false, .bool false, .bool false])] ?_
 obtain ⟨p32, rfl, hM⟩ := hM
 refine owp_rdG (.pointer (some p32)) rfl (by kernel_rfl) (by kernel_rfl) ?_
 refine oZ [(19, .pointer (some (p32.add 9)))] ?_
 refine oT (p32.add 9) [.int .i64 0, .int .i64 0, .int .i64 0, .int .i64 0, .int .i64 0, .bool false, .bool false, .bool false, .bool false, .bool false] hM ?_
 clear hM
 intro h33 hM
 refine owp_nil ?_
 exact end_ (.tuple #[]) (by kernel_rfl) ⟨rfl, hM⟩
/- (*mullion/vt.Screen).down -/
def vt_Screen_down_l0 (K0 : Heap → Prop) : Nat → Option Addr → Int → Int → Option Addr → Nat → Nat → Int → Int → Heap → Prop
  | 0, _, _, _, _, _, _, _, _, _ => False
  | k + 1, y11, y12, y13, y14, y14n, y14c, y15, y16, h =>
  if y16 < y15 then
   0 ≤ (IntKind.wrap .i64 (y13 + 1)) ∧
   (IntKind.wrap .i64 (y13 + 1)) ≤ (y14c : Int) ∧
   0 ≤ (IntKind.wrap .i64 (y12 + 1)) ∧
   (IntKind.wrap .i64 (y12 + 1)) ≤ (IntKind.wrap .i64 (y13 + 1)) ∧
   0 ≤ y13 ∧
   y13 ≤ (y14c : Int) ∧
   0 ≤ y12 ∧
   y12 ≤ y13 ∧
   cpM h 1 (cutA y14 y14c (IntKind.wrap .i64 (y12 + 1)).toNat 1) ((IntKind.wrap .i64 (y13 + 1)).toNat - (IntKind.wrap .i64 (y12 + 1)).toNat) (cutA y14 y14c y12.toNat 1) (y13.toNat - y12.toNat) fun h26 =>
   nz y11 fun p27 =>
   ldI h26 .i64 p27 fun x28 =>
   vt_Screen_erased (some p27) (fun x33 x34 x35 x36 x37 h32 =>
    (cellH h32 p27 = some (.int .i64 x28)) ∧
    vt_fresh x28 x35 x36 x37 (fun x40 x40n x40c h39 =>
     nz y14 fun p43 =>
     0 ≤ y12 ∧
     y12 < (y14n : Int) ∧
     stN (p43.add ((y12).toNat * 1)) [.slice x40 x40n x40c] 0 h39 fun h44 =>
       vt_Screen_down_l0 K0 k (some p27) y12 y13 (some p43) y14n y14c y15 (IntKind.wrap .i64 (y16 + 1)) h44) h32) h26
  else
  K0  h
theorem vt_Screen_down_l0_ok {Q : Exit → Env → Heap → Prop} (K0 : Heap → Prop) (hK0 : ∀  (b : Env) (h : Heap), K0  h → Q (.exit 0) b h) : ∀ (k : Nat) (y11 : Option Addr) (y12 : Int) (y13 : Int) (y14 : Option Addr) (y14n : Nat) (y14c : Nat) (y15 : Int) (y16 : Int) (b : Env) (h : Heap) (hM : vt_Screen_down_l0 K0 k y11 y12 y13 y14 y14n y14c y15 y16 h), lwp Tryz.prog (partC Tryz.f115 [1, 1, 0, 0]) 45 Q k (upd (upd (upd (upd (upd (upd b 0 (.pointer y11)) 1 (.int .i64 y12)) 2 (.int .i64 y13)) 8 (.slice y14 y14n y14c)) 19 (.int .i64 y15)) 20 (.int .i64 y16)) h := by
  intro k
  induction k with
  | zero => intro y11 y12 y13 y14 y14n y14c y15 y16 b h hM; exact (show False from hM).elim
  | succ k ih =>
    intro y11 y12 y13 y14 y14n y14c y15 y16 b h hM
    unfold vt_Screen_down_l0 at hM
    refine lwp_succ (cwp_part rfl ?_)
    refine cR ?_
    refine oZ [(21, .bool (decide (y16 < y15)))] ?_
    refine oE (cwp_seq ?_)
    refine cwp_condD (y16 < y15) (by kernel_rfl) (fun hc17 => ?_) (fun hc17 => ?_)
    · replace hM := ifT hc17 hM
      refine cwp_skip (thenE_n (cwp_seq (cwp_block (cwp_seq ?_))))
      refine cwp_draw (by kernel_rfl) ?_
      refine kq 0 (.slice y14 y14n y14c) ?_
      refine kq 1 (.int .i64 y12) ?_
      refine kq 2 (.int .i64 (IntKind.wrap .i64 (y12 + 1))) ?_
      refine kq 3 (.int .i64 y13) ?_
      refine kq 4 (.int .i64 (IntKind.wrap .i64 (y13 + 1))) ?_
      obtain ⟨hc18, hM⟩ := hM
      obtain ⟨hc19, hM⟩ := hM
      obtain ⟨hc20, hM⟩ := hM
      obtain ⟨hc21, hM⟩ := hM
      refine k_pure (i := 5) [10] (.slice (cutA y14 y14c (IntKind.wrap .i64 (y12 + 1)).toNat 1) ((IntKind.wrap .i64 (y13 + 1)).toNat - (IntKind.wrap .i64 (y12 + 1)).toNat) (y14c - (IntKind.wrap .i64 (y12 + 1)).toNat)) (by kernel_rfl) rfl rfl (by kernel_rfl) (fun h' => rd_sSLH (P := Tryz.prog) (h := h') (t := 68) (el := 81) (sz := 1) (a := y14) (n := y14n) (c := y14c) (k := .i64) (k' := .i64) (i := (IntKind.wrap .i64 (y12 + 1))) (j := (IntKind.wrap .i64 (y13 + 1))) (by kernel_rfl) (by kernel_rfl) hc18 hc19 hc20 hc21 (by kernel_rfl)) (by kernel_rfl) ?_
      refine kq 6 (.slice y14 y14n y14c) ?_
      refine kq 7 (.int .i64 y12) ?_
      refine kq 8 (.int .i64 y13) ?_
      obtain ⟨hc22, hM⟩ := hM
      obtain ⟨hc23, hM⟩ := hM
      obtain ⟨hc24, hM⟩ := hM
      obtain ⟨hc25, hM⟩ := hM
      refine k_pure (i := 9) [10] (.slice (cutA y14 y14c y12.toNat 1) (y13.toNat - y12.toNat) (y14c - y12.toNat)) (by kernel_rfl) rfl rfl (by kernel_rfl) (fun h' => rd_sSLH (P := Tryz.prog) (h := h') (t := 68) (el := 81) (sz := 1) (a := y14) (n := y14n) (c := y14c) (k := .i64) (k' := .i64) (i := y12) (j := y13) (by kernel_rfl) (by kernel_rfl) hc22 hc23 hc24 hc25 (by kernel_rfl)) (by kernel_rfl) ?_
      refine kE 10 (hpCp (t := 68) (t2 := 68) (ty := 3) (et := 81) (sz := 1) (d := (cutA y14 y14c (IntKind.wrap .i64 (y12 + 1)).toNat 1)) (dn := ((IntKind.wrap .i64 (y13 + 1)).toNat - (IntKind.wrap .i64 (y12 + 1)).toNat)) (dc := (y14c - (IntKind.wrap .i64 (y12 + 1)).toNat)) (s := (cutA y14 y14c y12.toNat 1)) (sn := (y13.toNat - y12.toNat)) (sc := (y14c - y12.toNat)) (fun _ => by kernel_rfl) (by kernel_rfl) (by kernel_rfl) hM ?_)
      clear hM
      intro h26 hM
      refine ⟨trivial, ?_⟩
      refine k_done (by kernel_rfl) ?_
      refine thenE_n ?_
      refine cwp_draw (by kernel_rfl) ?_
      refine kq 0 (.slice y14 y14n y14c) ?_
      refine kq 1 (.int .i64 y12) ?_
      refine kq 2 (.pointer y11) ?_
      obtain ⟨p27, rfl, hM⟩ := hM
      refine kq 3 (.pointer (some p27)) ?_
      refine kq 4 (.pointer (some p27)) ?_
      obtain ⟨x28, hc29, hM⟩ := hM
      refine kl 5 (.int .i64 x28) p27 [9, 10, 11] [9, 11] hc29 ?_
      refine kq 6 (.pointer (some p27)) ?_
      refine kE 7 (hpCallE 139 #[.pointer (some p27)] (by kernel_rfl) (vt_Screen_erased_ok (some p27) _ h26 hM) ?_)
      clear hM
      rintro _ h32 ⟨x33, x34, x35, x36, x37, rfl, hM⟩
      obtain ⟨hk38, hM⟩ := hM
      refine ⟨⟨⟨hk38, trivial⟩, trivial⟩, ?_⟩
      refine kq 8 (.agg #[.int .i64 x35, .int .i64 x36, .int .i64 x37]) ?_
      refine kE 9 (hpCallE 33 #[.int .i64 x28, .agg #[.int .i64 x35, .int .i64 x36, .int .i64 x37]] (by kernel_rfl) (vt_fresh_ok x28 x35 x36 x37 _ h32 hM) ?_)
      clear hM
      rintro _ h39 ⟨x40, x40n, x40c, rfl, hM⟩
      refine ⟨trivial, ?_⟩
      obtain ⟨p43, rfl, hM⟩ := hM
      obtain ⟨hc41, hM⟩ := hM
      obtain ⟨hc42, hM⟩ := hM
      refine k_pure (i := 10) [11] (.pointer (some (p43.add ((y12).toNat * 1)))) (by kernel_rfl) rfl rfl (by kernel_rfl) (fun h' => rd_ixS (P := Tryz.prog) (h := h') (t := 68) (el := 81) (sz := 1) (ad := p43) (len := y14n) (c := y14c) (k := .i64) (i := y12) (by kernel_rfl) (by kernel_rfl) hc41 hc42 (by kernel_rfl)) (by kernel_rfl) ?_
      refine kD 11 (hpSt (p43.add ((y12).toNat * 1)) [.slice x40 x40n x40c] (fun _ => by kernel_rfl) (by kernel_rfl) hM ?_)
      clear hM
      intro h44 hM
      refine ⟨trivial, ?_⟩
      refine k_done (by kernel_rfl) ?_
      refine blockE_n (thenE_n (cwp_region ?_))
      refine oZ [(44, .int .i64 (IntKind.wrap .i64 (y16 + 1))), (20, .int .i64 (IntKind.wrap .i64 (y16 + 1)))] ?_
      refine owp_nil ?_
      exact lA 0 (.pointer (some p27)) (lA 1 (.int .i64 y12) (lA 2 (.int .i64 y13) (lA 8 (.slice (some p43) y14n y14c) (lA 19 (.int .i64 y15) (lA 20 (.int .i64 (IntKind.wrap .i64 (y16 + 1))) (ih (some p27) y12 y13 (some p43) y14n y14c y15 (IntKind.wrap .i64 (y16 + 1)) _ _ hM))))))
    replace hM := ifF hc17 hM
    refine cwp_exit (thenE_x ?_)
    exact hK0  _ _ hM
def vt_Screen_down (a1 : Option Addr) (a2 : Int) (a3 : Int) (a4 : Int) (K : Heap → Prop) (h : Heap) : Prop :=
 vt_Screen_shown a1 (fun x6 h5 =>
  nz x6 fun p7 =>
  ldL h5 p7 fun x8 x8n x8c =>
  ∃ k47, vt_Screen_down_l0
   (fun  h45 =>
        K h45) k47 a1 a2 a3 x8 x8n x8c (imin a4 (IntKind.wrap .i64 ((IntKind.wrap .i64 (a3 - a2)) + 1))) 0 h5) h
theorem vt_Screen_down_ok (a1 : Option Addr) (a2 : Int) (a3 : Int) (a4 : Int) (K : Heap → Prop) (h : Heap) (hM : vt_Screen_down a1 a2 a3 a4 K h) : CallsH Tryz.prog 115 #[.pointer a1, .int .i64 a2, .int .i64 a3, .int .i64 a4] (fun v h' => v = .tuple #[] ∧ K h') h := by
 unfold vt_Screen_down at hM
 refine callsH_intro (n := 45) Tryz.func115 rfl rfl (by kernel_rfl) ?_
 refine cR ?_
 refine oZ [(9, .pointer a1)] ?_
 refine oG (hpCallE 39 #[.pointer a1] (by kernel_rfl) (vt_Screen_shown_ok a1 _ h hM) ?_)
 clear hM
 rintro _ h5 ⟨x6, rfl, hM⟩
 obtain ⟨p7, rfl, hM⟩ := hM
 refine owp_rdG (.pointer (some p7)) rfl (by kernel_rfl) (by kernel_rfl) ?_
 refine oZ [(12, .pointer (some p7))] ?_
 obtain ⟨x8, x8n, x8c, hc9, hM⟩ := hM
 refine oL (.slice x8 x8n x8c) p7 hc9 ?_
 refine oZ [(8, .slice x8 x8n x8c)] ?_
 refine oE (cR ?_)
 refine oZ [(14, .int .i64 a4), (15, .int .i64 a3), (16, .int .i64 a2), (17, .int .i64 (IntKind.wrap .i64 (a3 - a2))), (18, .int .i64 (IntKind.wrap .i64 ((IntKind.wrap .i64 (a3 - a2)) + 1))), (19, .int .i64 (imin a4 (IntKind.wrap .i64 ((IntKind.wrap .i64 (a3 - a2)) + 1)))), (20, .int .i64 0)] ?_
 refine oE (cwp_block ?_)
 obtain ⟨k_, hM⟩ := hM
 refine cwp_loop k_ (lwp_of_part (fn := Tryz.f115) (p := [1, 1, 0, 0]) (by kernel_rfl) (lA 0 (.pointer a1) (lA 1 (.int .i64 a2) (lA 2 (.int .i64 a3) (lA 8 (.slice x8 x8n x8c) (lA 19 (.int .i64 (imin a4 (IntKind.wrap .i64 ((IntKind.wrap .i64 (a3 - a2)) + 1)))) (lA 20 (.int .i64 0) (vt_Screen_down_l0_ok _ ?_ k_ a1 a2 a3 x8 x8n x8c (imin a4 (IntKind.wrap .i64 ((IntKind.wrap .i64 (a3 - a2)) + 1))) 0 _ _ hM))))))))
 · intro  b46 h45 hM
   refine blockE_h ?_
   exact end_ (.tuple #[]) (by kernel_rfl) ⟨rfl, hM⟩
/- (*mullion/vt.Screen).escaped -/
def vt_Screen_escaped_j0 (Kn : Heap → Prop) (Kr : Heap → Prop) (y19 : Addr) (y20 : Int) (h : Heap) : Prop :=
 ldL h (y19.add 32) fun x21 x21n x21c =>
 if 0 < (x21n : Int) then
  Kr  h
 else
 if y20 = 55 then
  vt_Screen_keepCursor (some y19) (fun  h26 =>
    Kn  h26) h
 else
 if y20 = 56 then
  vt_Screen_backCursor (some y19) (fun  h28 =>
    Kn  h28) h
 else
 if y20 = 69 then
  stN (y19.add 9) [.int .i64 0] 0 h fun h30 =>
  vt_Screen_feed (some y19) (fun  h31 =>
    Kn  h31) h30
 else
 if y20 = 68 then
  vt_Screen_feed (some y19) (fun  h33 =>
    Kn  h33) h
 else
 if y20 = 77 then
  ldI h .i64 (y19.add 10) fun x35 =>
  ldI h .i64 (y19.add 19) fun x39 =>
  if x35 = x39 then
   ldI h .i64 (y19.add 19) fun x44 =>
   ldI h .i64 (y19.add 20) fun x48 =>
   vt_Screen_down (some y19) x44 x48 1 (fun  h52 =>
    stN (y19.add 18) [.bool false] 0 h52 fun h53 =>
     Kn  h53) h
  else
  ldI h .i64 (y19.add 9) fun x54 =>
  ldI h .i64 (y19.add 10) fun x58 =>
  vt_Screen_to (some y19) x54 (IntKind.wrap .i64 (x58 - 1)) (fun  h62 =>
    Kn  h62) h
 else
 if y20 = 72 then
  ldL h (y19.add 21) fun x64 x64n x64c =>
  ldI h .i64 (y19.add 9) fun x68 =>
  nz x64 fun p74 =>
  0 ≤ x68 ∧
  x68 < (x64n : Int) ∧
  stN (p74.add ((x68).toNat * 1)) [.bool true] 0 h fun h75 =>
  Kn  h75
 else
 if y20 = 99 then
  vt_Screen_reset (some y19) (fun  h77 =>
    Kn  h77) h
 else
 Kn  h
theorem vt_Screen_escaped_j0_ok {Q : Exit → Env → Heap → Prop} (Kn : Heap → Prop) (hKn : ∀  (b : Env) (h : Heap), Kn  h → Q .normal b h) (Kr : Heap → Prop) (hKr : ∀  (b : Env) (h : Heap), Kr  h → Q .ret b h) (y19 : Addr) (y20 : Int) (b : Env) (h : Heap) (hM : vt_Screen_escaped_j0 Kn Kr y19 y20 h) : cwp Tryz.prog (partC Tryz.f88 [1]) 169 Q (upd (upd b 0 (.pointer (some y19))) 1 (.int .u8 y20)) h := by
  unfold vt_Screen_escaped_j0 at hM
  refine cwp_part rfl ?_
  refine cwp_seq (cR ?_)
  refine oZ [(89, .pointer (some y19)), (90, .pointer (some y19)), (91, .pointer (some (y19.add 32)))] ?_
  obtain ⟨x21, x21n, x21c, hc22, hM⟩ := hM
  refine oL (.slice x21 x21n x21c) (y19.add 32) hc22 ?_
  refine oZ [(93, .int .i64 (x21n : Int)), (94, .bool (decide (0 < (x21n : Int))))] ?_
  refine oE ?_
  refine cwp_condD (0 < (x21n : Int)) (by kernel_rfl) (fun hc24 => ?_) (fun hc24 => ?_)
  · replace hM := ifT hc24 hM
    refine cwp_ret (thenE_r ?_)
    exact hKr  _ _ hM
  replace hM := ifF hc24 hM
  refine cwp_skip (thenE_n (cR ?_))
  refine oZ [(95, .int .u8 y20)] ?_
  refine oE (cwp_block (cwp_seq (cwp_block (cwp_seq (cwp_block (cwp_seq (cwp_block (cwp_seq (cwp_block (cwp_seq (cwp_block (cwp_seq (cwp_block (cwp_seq (cwp_block (cwp_seq (cwp_seq (cR ?_))))))))))))))))))
  refine oZ [(97, .bool (decide (y20 = 55))), (96, .bool (decide (y20 = 55)))] ?_
  refine oE ?_
  refine cwp_condD (y20 = 55) (by kernel_rfl) (fun hc25 => ?_) (fun hc25 => ?_)
  · replace hM := ifT hc25 hM
    refine cwp_exit (thenE_x (thenE_x (blockE_h (thenE_n (cR ?_)))))
    refine oZ [(110, .pointer (some y19))] ?_
    refine oG (hpCallE 113 #[.pointer (some y19)] (by kernel_rfl) (vt_Screen_keepCursor_ok (some y19) _ h hM) ?_)
    clear hM
    rintro _ h26 ⟨rfl, hM⟩
    refine oE (cwp_exit (blockE_x rfl (thenE_x (blockE_x rfl (thenE_x (blockE_x rfl (thenE_x (blockE_x rfl (thenE_x (blockE_x rfl (thenE_x (blockE_x rfl (thenE_x (blockE_h ?_))))))))))))))
    exact hKn  _ _ hM
  replace hM := ifF hc25 hM
  refine cwp_skip (thenE_n (cwp_seq (cR ?_)))
  refine oZ [(99, .bool (decide (y20 = 56))), (98, .bool (decide (y20 = 56)))] ?_
  refine oE ?_
  refine cwp_condD (y20 = 56) (by kernel_rfl) (fun hc27 => ?_) (fun hc27 => ?_)
  · replace hM := ifT hc27 hM
    refine cwp_exit (thenE_x (thenE_x (blockE_x rfl (thenE_x (blockE_h (thenE_n (cR ?_)))))))
    refine oZ [(112, .pointer (some y19))] ?_
    refine oG (hpCallE 114 #[.pointer (some y19)] (by kernel_rfl) (vt_Screen_backCursor_ok (some y19) _ h hM) ?_)
    clear hM
    rintro _ h28 ⟨rfl, hM⟩
    refine oE (cwp_exit (blockE_x rfl (thenE_x (blockE_x rfl (thenE_x (blockE_x rfl (thenE_x (blockE_x rfl (thenE_x (blockE_x rfl (thenE_x (blockE_h ?_))))))))))))
    exact hKn  _ _ hM
  replace hM := ifF hc27 hM
  refine cwp_skip (thenE_n (cwp_seq (cR ?_)))
  refine oZ [(101, .bool (decide (y20 = 69))), (100, .bool (decide (y20 = 69)))] ?_
  refine oE ?_
  refine cwp_condD (y20 = 69) (by kernel_rfl) (fun hc29 => ?_) (fun hc29 => ?_)
  · replace hM := ifT hc29 hM
    refine cwp_exit (thenE_x (thenE_x (blockE_x rfl (thenE_x (blockE_x rfl (thenE_x (blockE_h (thenE_n (cwp_region ?_)))))))))
    refine oZ [(114, .pointer (some y19)), (115, .pointer (some y19)), (116, .pointer (some (y19.add 9))), (117, .pointer (some (y19.add 9)))] ?_
    refine oT (y19.add 9) [.int .i64 0] hM ?_
    clear hM
    intro h30 hM
    refine owp_nil (blockE_n (thenE_n (cR ?_)))
    refine oZ [(118, .pointer (some y19))] ?_
    refine oG (hpCallE 106 #[.pointer (some y19)] (by kernel_rfl) (vt_Screen_feed_ok (some y19) _ h30 hM) ?_)
    clear hM
    rintro _ h31 ⟨rfl, hM⟩
    refine oE (cwp_exit (blockE_x rfl (thenE_x (blockE_x rfl (thenE_x (blockE_x rfl (thenE_x (blockE_h ?_))))))))
    exact hKn  _ _ hM
  replace hM := ifF hc29 hM
  refine cwp_skip (thenE_n (cwp_seq (cR ?_)))
  refine oZ [(103, .bool (decide (y20 = 68))), (102, .bool (decide (y20 = 68)))] ?_
  refine oE ?_
  refine cwp_condD (y20 = 68) (by kernel_rfl) (fun hc32 => ?_) (fun hc32 => ?_)
  · replace hM := ifT hc32 hM
    refine cwp_exit (thenE_x (thenE_x (blockE_x rfl (thenE_x (blockE_x rfl (thenE_x (blockE_x rfl (thenE_x (blockE_h (thenE_n (cR ?_)))))))))))
    refine oZ [(118, .pointer (some y19))] ?_
    refine oG (hpCallE 106 #[.pointer (some y19)] (by kernel_rfl) (vt_Screen_feed_ok (some y19) _ h hM) ?_)
    clear hM
    rintro _ h33 ⟨rfl, hM⟩
    refine oE (cwp_exit (blockE_x rfl (thenE_x (blockE_x rfl (thenE_x (blockE_x rfl (thenE_x (blockE_h ?_))))))))
    exact hKn  _ _ hM
  replace hM := ifF hc32 hM
  refine cwp_skip (thenE_n (cwp_seq (cR ?_)))
  refine oZ [(105, .bool (decide (y20 = 77))), (104, .bool (decide (y20 = 77)))] ?_
  refine oE ?_
  refine cwp_condD (y20 = 77) (by kernel_rfl) (fun hc34 => ?_) (fun hc34 => ?_)
  · replace hM := ifT hc34 hM
    refine cwp_exit (thenE_x (thenE_x (blockE_x rfl (thenE_x (blockE_x rfl (thenE_x (blockE_x rfl (thenE_x (blockE_x rfl (thenE_x (blockE_h (thenE_n (cwp_seq (cwp_seq ?_))))))))))))))
    refine cwp_draw (by kernel_rfl) ?_
    refine kq 0 (.pointer (some y19)) ?_
    refine kq 1 (.pointer (some y19)) ?_
    refine kq 2 (.pointer (some (y19.add 9))) ?_
    refine kq 3 (.pointer (some (y19.add 10))) ?_
    obtain ⟨x35, hc36, hM⟩ := hM
    refine kl 4 (.int .i64 x35) (y19.add 10) [9] [] hc36 ?_
    refine kq 5 (.pointer (some y19)) ?_
    refine kq 6 (.pointer (some y19)) ?_
    refine kq 7 (.pointer (some (y19.add 19))) ?_
    obtain ⟨x39, hc40, hM⟩ := hM
    refine kl 8 (.int .i64 x39) (y19.add 19) [9] [] hc40 ?_
    refine kq 9 (.bool (decide (x35 = x39))) ?_
    refine k_done (by kernel_rfl) ?_
    refine thenE_n ?_
    refine cwp_condD (x35 = x39) (by kernel_rfl) (fun hc43 => ?_) (fun hc43 => ?_)
    · replace hM := ifT hc43 hM
      refine cwp_seq ?_
      refine cwp_draw (by kernel_rfl) ?_
      refine kq 0 (.pointer (some y19)) ?_
      refine kq 1 (.pointer (some y19)) ?_
      refine kq 2 (.pointer (some y19)) ?_
      refine kq 3 (.pointer (some (y19.add 19))) ?_
      obtain ⟨x44, hc45, hM⟩ := hM
      refine kl 4 (.int .i64 x44) (y19.add 19) [9] [9] hc45 ?_
      refine kq 5 (.pointer (some y19)) ?_
      refine kq 6 (.pointer (some y19)) ?_
      refine kq 7 (.pointer (some (y19.add 20))) ?_
      obtain ⟨x48, hc49, hM⟩ := hM
      refine kl 8 (.int .i64 x48) (y19.add 20) [9] [9] hc49 ?_
      refine kE 9 (hpCallE 115 #[.pointer (some y19), .int .i64 x44, .int .i64 x48, .int .i64 1] (by kernel_rfl) (vt_Screen_down_ok (some y19) x44 x48 1 _ h hM) ?_)
      clear hM
      rintro _ h52 ⟨rfl, hM⟩
      refine ⟨trivial, ?_⟩
      refine k_done (by kernel_rfl) ?_
      refine thenE_n (cwp_region ?_)
      refine oZ [(140, .pointer (some y19)), (141, .pointer (some y19)), (142, .pointer (some (y19.add 9))), (143, .pointer (some (y19.add 18)))] ?_
      refine oT (y19.add 18) [.bool false] hM ?_
      clear hM
      intro h53 hM
      refine oE (cwp_exit (blockE_x rfl (thenE_x (blockE_x rfl (thenE_x (blockE_h ?_))))))
      exact hKn  _ _ hM
    replace hM := ifF hc43 hM
    refine cwp_draw (by kernel_rfl) ?_
    refine kq 0 (.pointer (some y19)) ?_
    refine kq 1 (.pointer (some y19)) ?_
    refine kq 2 (.pointer (some y19)) ?_
    refine kq 3 (.pointer (some (y19.add 9))) ?_
    refine kq 4 (.pointer (some (y19.add 9))) ?_
    obtain ⟨x54, hc55, hM⟩ := hM
    refine kl 5 (.int .i64 x54) (y19.add 9) [12] [12] hc55 ?_
    refine kq 6 (.pointer (some y19)) ?_
    refine kq 7 (.pointer (some y19)) ?_
    refine kq 8 (.pointer (some (y19.add 9))) ?_
    refine kq 9 (.pointer (some (y19.add 10))) ?_
    obtain ⟨x58, hc59, hM⟩ := hM
    refine kl 10 (.int .i64 x58) (y19.add 10) [11, 12] [12] hc59 ?_
    refine kq 11 (.int .i64 (IntKind.wrap .i64 (x58 - 1))) ?_
    refine kE 12 (hpCallE 111 #[.pointer (some y19), .int .i64 x54, .int .i64 (IntKind.wrap .i64 (x58 - 1))] (by kernel_rfl) (vt_Screen_to_ok (some y19) x54 (IntKind.wrap .i64 (x58 - 1)) _ h hM) ?_)
    clear hM
    rintro _ h62 ⟨rfl, hM⟩
    refine ⟨trivial, ?_⟩
    refine k_done (by kernel_rfl) ?_
    refine thenE_n (cwp_exit (blockE_x rfl (thenE_x (blockE_x rfl (thenE_x (blockE_h ?_))))))
    exact hKn  _ _ hM
  replace hM := ifF hc34 hM
  refine cwp_skip (thenE_n (cwp_seq (cR ?_)))
  refine oZ [(107, .bool (decide (y20 = 72))), (106, .bool (decide (y20 = 72)))] ?_
  refine oE ?_
  refine cwp_condD (y20 = 72) (by kernel_rfl) (fun hc63 => ?_) (fun hc63 => ?_)
  · replace hM := ifT hc63 hM
    refine cwp_exit (thenE_x (thenE_x (blockE_x rfl (thenE_x (blockE_x rfl (thenE_x (blockE_x rfl (thenE_x (blockE_x rfl (thenE_x (blockE_x rfl (thenE_x (blockE_h (thenE_n (cwp_seq ?_)))))))))))))))
    refine cwp_draw (by kernel_rfl) ?_
    refine kq 0 (.pointer (some y19)) ?_
    refine kq 1 (.pointer (some y19)) ?_
    refine kq 2 (.pointer (some (y19.add 21))) ?_
    obtain ⟨x64, x64n, x64c, hc65, hM⟩ := hM
    refine kl 3 (.slice x64 x64n x64c) (y19.add 21) [9, 10] [10] hc65 ?_
    refine kq 4 (.pointer (some y19)) ?_
    refine kq 5 (.pointer (some y19)) ?_
    refine kq 6 (.pointer (some (y19.add 9))) ?_
    refine kq 7 (.pointer (some (y19.add 9))) ?_
    obtain ⟨x68, hc69, hM⟩ := hM
    refine kl 8 (.int .i64 x68) (y19.add 9) [9, 10] [10] hc69 ?_
    obtain ⟨p74, rfl, hM⟩ := hM
    obtain ⟨hc72, hM⟩ := hM
    obtain ⟨hc73, hM⟩ := hM
    refine k_pure (i := 9) [10] (.pointer (some (p74.add ((x68).toNat * 1)))) (by kernel_rfl) rfl rfl (by kernel_rfl) (fun h' => rd_ixS (P := Tryz.prog) (h := h') (t := 75) (el := 4) (sz := 1) (ad := p74) (len := x64n) (c := x64c) (k := .i64) (i := x68) (by kernel_rfl) (by kernel_rfl) hc72 hc73 (by kernel_rfl)) (by kernel_rfl) ?_
    refine kD 10 (hpSt (p74.add ((x68).toNat * 1)) [.bool true] (fun _ => by kernel_rfl) (by kernel_rfl) hM ?_)
    clear hM
    intro h75 hM
    refine ⟨trivial, ?_⟩
    refine k_done (by kernel_rfl) ?_
    refine thenE_n (cwp_exit (blockE_x rfl (thenE_x (blockE_h ?_))))
    exact hKn  _ _ hM
  replace hM := ifF hc63 hM
  refine cwp_skip (thenE_n (cR ?_))
  refine oZ [(109, .bool (decide (y20 = 99))), (108, .bool (decide (y20 = 99)))] ?_
  refine oE ?_
  refine cwp_condD (y20 = 99) (by kernel_rfl) (fun hc76 => ?_) (fun hc76 => ?_)
  · replace hM := ifT hc76 hM
    refine cwp_exit (thenE_x (blockE_x rfl (thenE_x (blockE_x rfl (thenE_x (blockE_x rfl (thenE_x (blockE_x rfl (thenE_x (blockE_x rfl (thenE_x (blockE_x rfl (thenE_x (blockE_h (thenE_n (cR ?_))))))))))))))))
    refine oZ [(167, .pointer (some y19))] ?_
    refine oG (hpCallE 53 #[.pointer (some y19)] (by kernel_rfl) (vt_Screen_reset_ok (some y19) _ h hM) ?_)
    clear hM
    rintro _ h77 ⟨rfl, hM⟩
    refine oE (cwp_exit (blockE_h ?_))
    exact hKn  _ _ hM
  replace hM := ifF hc76 hM
  refine cwp_skip (thenE_n (cwp_exit (blockE_x rfl (thenE_x (blockE_x rfl (thenE_x (blockE_x rfl (thenE_x (blockE_x rfl (thenE_x (blockE_x rfl (thenE_x (blockE_x rfl (thenE_x (blockE_x rfl (thenE_x (blockE_h ?_)))))))))))))))))
  exact hKn  _ _ hM
def vt_Screen_escaped_l2 (K3 : Addr → Int → Option Addr → Nat → Nat → Int → Int → Heap → Prop) : Nat → Addr → Int → Option Addr → Nat → Nat → Option Addr → Nat → Nat → Int → Int → Int → Int → Heap → Prop
  | 0, _, _, _, _, _, _, _, _, _, _, _, _, _ => False
  | k + 1, y131, y132, y133, y133n, y133c, y134, y134n, y134c, y135, y136, y137, y138, h =>
  if y138 < y137 then
   nz y133 fun p142 =>
   0 ≤ y138 ∧
   y138 < (y133n : Int) ∧
   stN (p142.add ((y138).toNat * 5)) [.string (⟨#[69]⟩ : ByteArray), .int .i64 1, .int .i64 0, .int .i64 0, .int .i64 0] 0 h fun h143 =>
   vt_Screen_escaped_l2 K3 k y131 y132 (some p142) y133n y133c y134 y134n y134c y135 y136 y137 (IntKind.wrap .i64 (y138 + 1)) h143
  else
  K3 y131 y132 y134 y134n y134c y135 y136 h
theorem vt_Screen_escaped_l2_ok {Q : Exit → Env → Heap → Prop} (K3 : Addr → Int → Option Addr → Nat → Nat → Int → Int → Heap → Prop) (hK3 : ∀ (z154 : Addr) (z155 : Int) (z156 : Option Addr) (z156n : Nat) (z156c : Nat) (z157 : Int) (z158 : Int) (b : Env) (h : Heap), K3 z154 z155 z156 z156n z156c z157 z158 h → Q (.exit 3) (upd (upd (upd (upd (upd b 0 (.pointer (some z154))) 1 (.int .u8 z155)) 59 (.slice z156 z156n z156c)) 60 (.int .i64 z157)) 61 (.int .i64 z158)) h) : ∀ (k : Nat) (y131 : Addr) (y132 : Int) (y133 : Option Addr) (y133n : Nat) (y133c : Nat) (y134 : Option Addr) (y134n : Nat) (y134c : Nat) (y135 : Int) (y136 : Int) (y137 : Int) (y138 : Int) (b : Env) (h : Heap) (hM : vt_Screen_escaped_l2 K3 k y131 y132 y133 y133n y133c y134 y134n y134c y135 y136 y137 y138 h), lwp Tryz.prog (partC Tryz.f88 [0, 1, 0, 0, 1, 1, 1, 1, 1, 0, 0, 1, 0, 0, 1, 1, 0, 0, 1, 1, 0, 0]) 169 Q k (upd (upd (upd (upd (upd (upd (upd (upd b 0 (.pointer (some y131))) 1 (.int .u8 y132)) 5 (.slice y133 y133n y133c)) 59 (.slice y134 y134n y134c)) 60 (.int .i64 y135)) 61 (.int .i64 y136)) 66 (.int .i64 y137)) 67 (.int .i64 y138)) h := by
  intro k
  induction k with
  | zero => intro y131 y132 y133 y133n y133c y134 y134n y134c y135 y136 y137 y138 b h hM; exact (show False from hM).elim
  | succ k ih =>
    intro y131 y132 y133 y133n y133c y134 y134n y134c y135 y136 y137 y138 b h hM
    unfold vt_Screen_escaped_l2 at hM
    refine lwp_succ (cwp_part rfl ?_)
    refine cR ?_
    refine oZ [(68, .bool (decide (y138 < y137)))] ?_
    refine oE (cwp_seq ?_)
    refine cwp_condD (y138 < y137) (by kernel_rfl) (fun hc139 => ?_) (fun hc139 => ?_)
    · replace hM := ifT hc139 hM
      refine cwp_skip (thenE_n (cwp_seq (cwp_block (cR ?_))))
      refine oZ [(69, .int .i64 y138), (6, .int .i64 y138)] ?_
      refine oE (cwp_region ?_)
      refine oZ [(70, .slice y133 y133n y133c), (71, .int .i64 y138), (72, .agg #[.string (⟨#[69]⟩ : ByteArray), .int .i64 1, .int .i64 0, .int .i64 0, .int .i64 0])] ?_
      obtain ⟨p142, rfl, hM⟩ := hM
      obtain ⟨hc140, hM⟩ := hM
      obtain ⟨hc141, hM⟩ := hM
      refine owp_rdG (.pointer (some (p142.add ((y138).toNat * 5)))) rfl (by kernel_rfl) (rd_ixS (P := Tryz.prog) (h := h) (t := 81) (el := 52) (sz := 5) (ad := p142) (len := y133n) (c := y133c) (k := .i64) (i := y138) (by kernel_rfl) (by kernel_rfl) hc140 hc141 (by kernel_rfl)) ?_
      refine oT (p142.add ((y138).toNat * 5)) [.string (⟨#[69]⟩ : ByteArray), .int .i64 1, .int .i64 0, .int .i64 0, .int .i64 0] hM ?_
      clear hM
      intro h143 hM
      refine owp_nil (blockE_n (thenE_n (cwp_region ?_)))
      refine oZ [(74, .int .i64 (IntKind.wrap .i64 (y138 + 1))), (67, .int .i64 (IntKind.wrap .i64 (y138 + 1)))] ?_
      refine owp_nil ?_
      exact lA 0 (.pointer (some y131)) (lA 1 (.int .u8 y132) (lA 5 (.slice (some p142) y133n y133c) (lA 59 (.slice y134 y134n y134c) (lA 60 (.int .i64 y135) (lA 61 (.int .i64 y136) (lA 66 (.int .i64 y137) (lA 67 (.int .i64 (IntKind.wrap .i64 (y138 + 1))) (ih y131 y132 (some p142) y133n y133c y134 y134n y134c y135 y136 y137 (IntKind.wrap .i64 (y138 + 1)) _ _ hM))))))))
    replace hM := ifF hc139 hM
    refine cwp_exit (thenE_x ?_)
    exact q_at (Q := Q (.exit 3)) 0 (.pointer (some y131)) (by kernel_rfl) (q_at (Q := Q (.exit 3)) 1 (.int .u8 y132) (by kernel_rfl) (q_at (Q := Q (.exit 3)) 59 (.slice y134 y134n y134c) (by kernel_rfl) (q_at (Q := Q (.exit 3)) 60 (.int .i64 y135) (by kernel_rfl) (q_at (Q := Q (.exit 3)) 61 (.int .i64 y136) (by kernel_rfl) (hK3 y131 y132 y134 y134n y134c y135 y136 _ _ hM)))))
def vt_Screen_escaped_l1 (K1 : Addr → Int → Heap → Prop) : Nat → Addr → Int → Option Addr → Nat → Nat → Int → Int → Heap → Prop
  | 0, _, _, _, _, _, _, _, _ => False
  | k + 1, y119, y120, y121, y121n, y121c, y122, y123, h =>
  if y123 < y122 then
   nz y121 fun p127 =>
   0 ≤ y123 ∧
   y123 < (y121n : Int) ∧
   ldL h (p127.add ((y123).toNat * 1)) fun x128 x128n x128c =>
   ∃ k166, vt_Screen_escaped_l2
    (fun z159 z160 z161 z161n z161c z162 z163 h164 =>
        vt_Screen_escaped_l1 K1 k z159 z160 z161 z161n z161c z162 (IntKind.wrap .i64 (z163 + 1)) h164) k166 y119 y120 x128 x128n x128c (some p127) y121n y121c y122 y123 (x128n : Int) 0 h
  else
  K1 y119 y120 h
theorem vt_Screen_escaped_l1_ok {Q : Exit → Env → Heap → Prop} (K1 : Addr → Int → Heap → Prop) (hK1 : ∀ (z171 : Addr) (z172 : Int) (b : Env) (h : Heap), K1 z171 z172 h → Q (.exit 1) (upd (upd b 0 (.pointer (some z171))) 1 (.int .u8 z172)) h) : ∀ (k : Nat) (y119 : Addr) (y120 : Int) (y121 : Option Addr) (y121n : Nat) (y121c : Nat) (y122 : Int) (y123 : Int) (b : Env) (h : Heap) (hM : vt_Screen_escaped_l1 K1 k y119 y120 y121 y121n y121c y122 y123 h), lwp Tryz.prog (partC Tryz.f88 [0, 1, 0, 0, 1, 1, 1, 1, 1, 0, 0, 1, 0, 0]) 169 Q k (upd (upd (upd (upd (upd b 0 (.pointer (some y119))) 1 (.int .u8 y120)) 59 (.slice y121 y121n y121c)) 60 (.int .i64 y122)) 61 (.int .i64 y123)) h := by
  intro k
  induction k with
  | zero => intro y119 y120 y121 y121n y121c y122 y123 b h hM; exact (show False from hM).elim
  | succ k ih =>
    intro y119 y120 y121 y121n y121c y122 y123 b h hM
    unfold vt_Screen_escaped_l1 at hM
    refine lwp_succ (cwp_part rfl ?_)
    refine cR ?_
    refine oZ [(62, .bool (decide (y123 < y122)))] ?_
    refine oE (cwp_seq ?_)
    refine cwp_condD (y123 < y122) (by kernel_rfl) (fun hc124 => ?_) (fun hc124 => ?_)
    · replace hM := ifT hc124 hM
      refine cwp_skip (thenE_n (cwp_seq (cwp_block (cR ?_))))
      obtain ⟨p127, rfl, hM⟩ := hM
      obtain ⟨hc125, hM⟩ := hM
      obtain ⟨hc126, hM⟩ := hM
      refine owp_rdG (.pointer (some (p127.add ((y123).toNat * 1)))) rfl (by kernel_rfl) (rd_ixS (P := Tryz.prog) (h := h) (t := 68) (el := 81) (sz := 1) (ad := p127) (len := y121n) (c := y121c) (k := .i64) (i := y123) (by kernel_rfl) (by kernel_rfl) hc125 hc126 (by kernel_rfl)) ?_
      obtain ⟨x128, x128n, x128c, hc129, hM⟩ := hM
      refine oL (.slice x128 x128n x128c) (p127.add ((y123).toNat * 1)) hc129 ?_
      refine oZ [(5, .slice x128 x128n x128c)] ?_
      refine oE (cR ?_)
      refine oZ [(65, .slice x128 x128n x128c), (66, .int .i64 (x128n : Int)), (67, .int .i64 0)] ?_
      refine oE (cwp_block ?_)
      obtain ⟨k_, hM⟩ := hM
      refine cwp_loop k_ (lwp_of_part (fn := Tryz.f88) (p := [0, 1, 0, 0, 1, 1, 1, 1, 1, 0, 0, 1, 0, 0, 1, 1, 0, 0, 1, 1, 0, 0]) (by kernel_rfl) (lA 0 (.pointer (some y119)) (lA 1 (.int .u8 y120) (lA 5 (.slice x128 x128n x128c) (lA 59 (.slice (some p127) y121n y121c) (lA 60 (.int .i64 y122) (lA 61 (.int .i64 y123) (lA 66 (.int .i64 (x128n : Int)) (lA 67 (.int .i64 0) (vt_Screen_escaped_l2_ok _ ?_ k_ y119 y120 x128 x128n x128c (some p127) y121n y121c y122 y123 (x128n : Int) 0 _ _ hM))))))))))
      · intro z159 z160 z161 z161n z161c z162 z163 b165 h164 hM
        refine blockE_h (blockE_n (thenE_n (cwp_region ?_)))
        refine oZ [(75, .int .i64 (IntKind.wrap .i64 (z163 + 1))), (61, .int .i64 (IntKind.wrap .i64 (z163 + 1)))] ?_
        refine owp_nil ?_
        exact lA 0 (.pointer (some z159)) (lA 1 (.int .u8 z160) (lA 59 (.slice z161 z161n z161c) (lA 60 (.int .i64 z162) (lA 61 (.int .i64 (IntKind.wrap .i64 (z163 + 1))) (ih z159 z160 z161 z161n z161c z162 (IntKind.wrap .i64 (z163 + 1)) _ _ hM)))))
    replace hM := ifF hc124 hM
    refine cwp_exit (thenE_x ?_)
    exact q_at (Q := Q (.exit 1)) 0 (.pointer (some y119)) (by kernel_rfl) (q_at (Q := Q (.exit 1)) 1 (.int .u8 y120) (by kernel_rfl) (hK1 y119 y120 _ _ hM))
def vt_Screen_escaped (a1 : Option Addr) (a2 : Int) (K : Heap → Prop) (h : Heap) : Prop :=
 nz a1 fun p3 =>
 ldL h (p3.add 32) fun x4 x4n x4c =>
 if (x4n : Int) = 1 then
  ldL h (p3.add 32) fun x8 x8n x8c =>
  nz x8 fun p13 =>
  0 ≤ (0 : Int) ∧
  (0 : Int) < (x8n : Int) ∧
  ldI h .u8 (p13.add (((0 : Int)).toNat * 1)) fun x14 =>
  if x14 = 40 then
   stN (p3.add 15) [.bool (decide (a2 = 48))] 0 h fun h18 =>
   vt_Screen_escaped_j0
    (fun  h78 =>
        K h78)
    (fun  h80 =>
        K h80) p3 a2 h18
  else
  ldL h (p3.add 32) fun x83 x83n x83c =>
  nz x83 fun p88 =>
  0 ≤ (0 : Int) ∧
  (0 : Int) < (x83n : Int) ∧
  ldI h .u8 (p88.add (((0 : Int)).toNat * 1)) fun x89 =>
  if x89 = 41 then
   stN (p3.add 16) [.bool (decide (a2 = 48))] 0 h fun h93 =>
   vt_Screen_escaped_j0
    (fun  h94 =>
        K h94)
    (fun  h96 =>
        K h96) p3 a2 h93
  else
  ldL h (p3.add 32) fun x99 x99n x99c =>
  nz x99 fun p104 =>
  0 ≤ (0 : Int) ∧
  (0 : Int) < (x99n : Int) ∧
  ldI h .u8 (p104.add (((0 : Int)).toNat * 1)) fun x105 =>
  if ((decide (x105 = 35)) && (decide (a2 = 56))) = true then
   vt_Screen_shown (some p3) (fun x114 h113 =>
    nz x114 fun p115 =>
    ldL h113 p115 fun x116 x116n x116c =>
    ∃ k188, vt_Screen_escaped_l1
     (fun z173 z174 h175 =>
       ldI h175 .i64 (z173.add 1) fun x176 =>
       stN (z173.add 19) [.int .i64 0] 0 h175 fun h179 =>
       stN (z173.add 20) [.int .i64 (IntKind.wrap .i64 (x176 - 1))] 0 h179 fun h180 =>
       vt_Screen_to (some z173) 0 0 (fun  h181 =>
        vt_Screen_escaped_j0
         (fun  h182 =>
             K h182)
         (fun  h184 =>
                 K h184) z173 z174 h181) h180) k188 p3 a2 x116 x116n x116c (x116n : Int) 0 h113) h
  else
  vt_Screen_escaped_j0
   (fun  h189 =>
       K h189)
   (fun  h191 =>
       K h191) p3 a2 h
 else
 vt_Screen_escaped_j0
  (fun  h194 =>
      K h194)
  (fun  h196 =>
      K h196) p3 a2 h
theorem vt_Screen_escaped_ok (a1 : Option Addr) (a2 : Int) (K : Heap → Prop) (h : Heap) (hM : vt_Screen_escaped a1 a2 K h) : CallsH Tryz.prog 88 #[.pointer a1, .int .u8 a2] (fun v h' => v = .tuple #[] ∧ K h') h := by
 unfold vt_Screen_escaped at hM
 refine callsH_intro (n := 169) Tryz.func88 rfl rfl (by kernel_rfl) ?_
 refine cwp_seq (cR ?_)
 refine oZ [(7, .pointer a1)] ?_
 obtain ⟨p3, rfl, hM⟩ := hM
 refine owp_rdG (.pointer (some p3)) rfl (by kernel_rfl) (by kernel_rfl) ?_
 refine oZ [(9, .pointer (some (p3.add 32)))] ?_
 obtain ⟨x4, x4n, x4c, hc5, hM⟩ := hM
 refine oL (.slice x4 x4n x4c) (p3.add 32) hc5 ?_
 refine oZ [(11, .int .i64 (x4n : Int)), (12, .bool (decide ((x4n : Int) = 1)))] ?_
 refine oE ?_
 refine cwp_condD ((x4n : Int) = 1) (by kernel_rfl) (fun hc7 => ?_) (fun hc7 => ?_)
 · replace hM := ifT hc7 hM
   refine cwp_block (cR ?_)
   refine oZ [(14, .pointer (some p3)), (15, .pointer (some p3)), (16, .pointer (some (p3.add 32)))] ?_
   obtain ⟨x8, x8n, x8c, hc9, hM⟩ := hM
   refine oL (.slice x8 x8n x8c) (p3.add 32) hc9 ?_
   obtain ⟨p13, rfl, hM⟩ := hM
   obtain ⟨hc11, hM⟩ := hM
   obtain ⟨hc12, hM⟩ := hM
   refine owp_rdG (.pointer (some (p13.add (((0 : Int)).toNat * 1)))) rfl (by kernel_rfl) (rd_ixS (P := Tryz.prog) (h := h) (t := 77) (el := 5) (sz := 1) (ad := p13) (len := x8n) (c := x8c) (k := .i64) (i := 0) (by kernel_rfl) (by kernel_rfl) hc11 hc12 (by kernel_rfl)) ?_
   obtain ⟨x14, hc15, hM⟩ := hM
   refine oL (.int .u8 x14) (p13.add (((0 : Int)).toNat * 1)) hc15 ?_
   refine oZ [(20, .bool (decide (x14 = 40))), (13, .bool (decide (x14 = 40)))] ?_
   refine oE ?_
   refine cwp_condD (x14 = 40) (by kernel_rfl) (fun hc17 => ?_) (fun hc17 => ?_)
   · replace hM := ifT hc17 hM
     refine cwp_region ?_
     refine oZ [(21, .pointer (some p3)), (22, .int .u8 a2), (23, .bool (decide (a2 = 48))), (24, .pointer (some p3)), (25, .pointer (some (p3.add 9))), (26, .pointer (some (p3.add 15))), (27, .pointer (some (p3.add 15)))] ?_
     refine oT (p3.add 15) [.bool (decide (a2 = 48))] hM ?_
     clear hM
     intro h18 hM
     refine owp_nil (blockE_n (thenE_n ?_))
     refine cwp_of_part (fn := Tryz.f88) (p := [1]) (by kernel_rfl) (cA 0 (.pointer (some p3)) (cA 1 (.int .u8 a2) (vt_Screen_escaped_j0_ok _ ?_ _ ?_ p3 a2 _ _ hM)))
     · intro  b79 h78 hM
       exact end_ (.tuple #[]) (by kernel_rfl) ⟨rfl, hM⟩
     · intro  b81 h80 hM
       exact ret_ (.tuple #[]) (by kernel_rfl) ⟨rfl, hM⟩
   replace hM := ifF hc17 hM
   refine cR ?_
   refine oZ [(29, .pointer (some p3)), (30, .pointer (some p3)), (31, .pointer (some (p3.add 32)))] ?_
   obtain ⟨x83, x83n, x83c, hc84, hM⟩ := hM
   refine oL (.slice x83 x83n x83c) (p3.add 32) hc84 ?_
   obtain ⟨p88, rfl, hM⟩ := hM
   obtain ⟨hc86, hM⟩ := hM
   obtain ⟨hc87, hM⟩ := hM
   refine owp_rdG (.pointer (some (p88.add (((0 : Int)).toNat * 1)))) rfl (by kernel_rfl) (rd_ixS (P := Tryz.prog) (h := h) (t := 77) (el := 5) (sz := 1) (ad := p88) (len := x83n) (c := x83c) (k := .i64) (i := 0) (by kernel_rfl) (by kernel_rfl) hc86 hc87 (by kernel_rfl)) ?_
   obtain ⟨x89, hc90, hM⟩ := hM
   refine oL (.int .u8 x89) (p88.add (((0 : Int)).toNat * 1)) hc90 ?_
   refine oZ [(35, .bool (decide (x89 = 41))), (28, .bool (decide (x89 = 41)))] ?_
   refine oE ?_
   refine cwp_condD (x89 = 41) (by kernel_rfl) (fun hc92 => ?_) (fun hc92 => ?_)
   · replace hM := ifT hc92 hM
     refine cwp_region ?_
     refine oZ [(36, .pointer (some p3)), (37, .int .u8 a2), (38, .bool (decide (a2 = 48))), (39, .pointer (some p3)), (40, .pointer (some (p3.add 9))), (41, .pointer (some (p3.add 15))), (42, .pointer (some (p3.add 16)))] ?_
     refine oT (p3.add 16) [.bool (decide (a2 = 48))] hM ?_
     clear hM
     intro h93 hM
     refine owp_nil (blockE_n (thenE_n ?_))
     refine cwp_of_part (fn := Tryz.f88) (p := [1]) (by kernel_rfl) (cA 0 (.pointer (some p3)) (cA 1 (.int .u8 a2) (vt_Screen_escaped_j0_ok _ ?_ _ ?_ p3 a2 _ _ hM)))
     · intro  b95 h94 hM
       exact end_ (.tuple #[]) (by kernel_rfl) ⟨rfl, hM⟩
     · intro  b97 h96 hM
       exact ret_ (.tuple #[]) (by kernel_rfl) ⟨rfl, hM⟩
   replace hM := ifF hc92 hM
   refine cR ?_
   refine oZ [(44, .pointer (some p3)), (45, .pointer (some p3)), (46, .pointer (some (p3.add 32)))] ?_
   obtain ⟨x99, x99n, x99c, hc100, hM⟩ := hM
   refine oL (.slice x99 x99n x99c) (p3.add 32) hc100 ?_
   obtain ⟨p104, rfl, hM⟩ := hM
   obtain ⟨hc102, hM⟩ := hM
   obtain ⟨hc103, hM⟩ := hM
   refine owp_rdG (.pointer (some (p104.add (((0 : Int)).toNat * 1)))) rfl (by kernel_rfl) (rd_ixS (P := Tryz.prog) (h := h) (t := 77) (el := 5) (sz := 1) (ad := p104) (len := x99n) (c := x99c) (k := .i64) (i := 0) (by kernel_rfl) (by kernel_rfl) hc102 hc103 (by kernel_rfl)) ?_
   obtain ⟨x105, hc106, hM⟩ := hM
   refine oL (.int .u8 x105) (p104.add (((0 : Int)).toNat * 1)) hc106 ?_
   refine oZ [(50, .bool (decide (x105 = 35))), (51, .bool (decide (x105 = 35)))] ?_
   refine oB (decide (x105 = 35)) 3 [50, 51] (fun b_ => [(52, iteV b_ (.int .u8 a2 : Value) undef), (53, iteV b_ (.bool (decide (a2 = 56)) : Value) undef), (54, .bool (b_ && (decide (a2 = 56))))]) rfl (fun hb108 hq109 => oS [(52, .int .u8 a2), (53, .bool (decide (a2 = 56))), (54, .bool (decide (a2 = 56)))] rfl (hq109)) (fun hb110 hq111 => oS [(52, undef), (53, undef), (54, .bool false)] rfl (hq111)) ?_
   refine oZ [(43, .bool ((decide (x105 = 35)) && (decide (a2 = 56))))] ?_
   refine oE ?_
   refine cwp_condB ((decide (x105 = 35)) && (decide (a2 = 56))) (by kernel_rfl) (fun hc112 => ?_) (fun hc112 => ?_)
   · replace hM := ifT hc112 hM
     refine cwp_seq (cR ?_)
     refine oZ [(55, .pointer (some p3))] ?_
     refine oG (hpCallE 39 #[.pointer (some p3)] (by kernel_rfl) (vt_Screen_shown_ok (some p3) _ h hM) ?_)
     clear hM
     rintro _ h113 ⟨x114, rfl, hM⟩
     obtain ⟨p115, rfl, hM⟩ := hM
     refine owp_rdG (.pointer (some p115)) rfl (by kernel_rfl) (by kernel_rfl) ?_
     refine oZ [(58, .pointer (some p115))] ?_
     obtain ⟨x116, x116n, x116c, hc117, hM⟩ := hM
     refine oL (.slice x116 x116n x116c) p115 hc117 ?_
     refine oZ [(60, .int .i64 (x116n : Int)), (61, .int .i64 0)] ?_
     refine oE (cwp_block ?_)
     obtain ⟨k_, hM⟩ := hM
     refine cwp_loop k_ (lwp_of_part (fn := Tryz.f88) (p := [0, 1, 0, 0, 1, 1, 1, 1, 1, 0, 0, 1, 0, 0]) (by kernel_rfl) (lA 0 (.pointer (some p3)) (lA 1 (.int .u8 a2) (lA 59 (.slice x116 x116n x116c) (lA 60 (.int .i64 (x116n : Int)) (lA 61 (.int .i64 0) (vt_Screen_escaped_l1_ok _ ?_ k_ p3 a2 x116 x116n x116c (x116n : Int) 0 _ _ hM)))))))
     · intro z173 z174 b187 h175 hM
       refine blockE_h (thenE_n (cR ?_))
       refine oZ [(76, .pointer (some z173)), (77, .pointer (some z173)), (78, .pointer (some z173)), (79, .pointer (some z173)), (80, .pointer (some (z173.add 1)))] ?_
       obtain ⟨x176, hc177, hM⟩ := hM
       refine oL (.int .i64 x176) (z173.add 1) hc177 ?_
       refine oZ [(82, .int .i64 (IntKind.wrap .i64 (x176 - 1))), (83, .pointer (some z173)), (84, .pointer (some (z173.add 19)))] ?_
       refine oT (z173.add 19) [.int .i64 0] hM ?_
       clear hM
       intro h179 hM
       refine oZ [(85, .pointer (some z173)), (86, .pointer (some (z173.add 20)))] ?_
       refine oT (z173.add 20) [.int .i64 (IntKind.wrap .i64 (x176 - 1))] hM ?_
       clear hM
       intro h180 hM
       refine oE (cwp_region ?_)
       refine oZ [(87, .pointer (some z173))] ?_
       refine oG (hpCallE 111 #[.pointer (some z173), .int .i64 0, .int .i64 0] (by kernel_rfl) (vt_Screen_to_ok (some z173) 0 0 _ h180 hM) ?_)
       clear hM
       rintro _ h181 ⟨rfl, hM⟩
       refine owp_nil (blockE_n (thenE_n ?_))
       refine cwp_of_part (fn := Tryz.f88) (p := [1]) (by kernel_rfl) (cA 0 (.pointer (some z173)) (cA 1 (.int .u8 z174) (vt_Screen_escaped_j0_ok _ ?_ _ ?_ z173 z174 _ _ hM)))
       · intro  b183 h182 hM
         exact end_ (.tuple #[]) (by kernel_rfl) ⟨rfl, hM⟩
       · intro  b185 h184 hM
         exact ret_ (.tuple #[]) (by kernel_rfl) ⟨rfl, hM⟩
   replace hM := ifF hc112 hM
   refine cwp_skip (blockE_n (thenE_n ?_))
   refine cwp_of_part (fn := Tryz.f88) (p := [1]) (by kernel_rfl) (cA 0 (.pointer (some p3)) (cA 1 (.int .u8 a2) (vt_Screen_escaped_j0_ok _ ?_ _ ?_ p3 a2 _ _ hM)))
   · intro  b190 h189 hM
     exact end_ (.tuple #[]) (by kernel_rfl) ⟨rfl, hM⟩
   · intro  b192 h191 hM
     exact ret_ (.tuple #[]) (by kernel_rfl) ⟨rfl, hM⟩
 replace hM := ifF hc7 hM
 refine cwp_skip (thenE_n ?_)
 refine cwp_of_part (fn := Tryz.f88) (p := [1]) (by kernel_rfl) (cA 0 (.pointer (some p3)) (cA 1 (.int .u8 a2) (vt_Screen_escaped_j0_ok _ ?_ _ ?_ p3 a2 _ _ hM)))
 · intro  b195 h194 hM
   exact end_ (.tuple #[]) (by kernel_rfl) ⟨rfl, hM⟩
 · intro  b197 h196 hM
   exact ret_ (.tuple #[]) (by kernel_rfl) ⟨rfl, hM⟩
/- (*mullion/vt.Screen).escape -/
def vt_Screen_escape (a1 : Option Addr) (a2 : Int) (K : Heap → Prop) (h : Heap) : Prop :=
 nz a1 fun p3 =>
 ldL h (p3.add 32) fun x4 x4n x4c =>
 if ((decide ((x4n : Int) = 0)) && (decide (a2 = 91))) = true then
  vt_Screen_begin (some p3) 2 (fun  h12 =>
    K h12) h
 else
 if ((decide ((x4n : Int) = 0)) && (decide (a2 = 93))) = true then
  vt_Screen_begin (some p3) 3 (fun  h18 =>
    K h18) h
 else
 if ((decide ((x4n : Int) = 0)) && ((((decide (a2 = 80)) || (decide (a2 = 88))) || (decide (a2 = 94))) || (decide (a2 = 95)))) = true then
  stN (p3.add 31) [.int .i64 4] 0 h fun h36 =>
  K h36
 else
 if a2 < 32 then
  vt_Screen_does (some p3) a2 (fun  h38 =>
    K h38) h
 else
 if a2 < 48 then
  vt_Screen_gather (some p3) a2 (fun  h40 =>
    K h40) h
 else
 if a2 < 127 then
  stN (p3.add 31) [.int .i64 0] 0 h fun h42 =>
  ldB h42 (p3.add 33) fun x43 =>
  if (!x43) = true then
   vt_Screen_escaped (some p3) a2 (fun  h47 =>
     K h47) h42
  else
  K h42
 else
 if 128 ≤ a2 then
  stN (p3.add 31) [.int .i64 0] 0 h fun h49 =>
  vt_Screen_ground (some p3) a2 (fun  h50 =>
    K h50) h49
 else
 K h
theorem vt_Screen_escape_ok (a1 : Option Addr) (a2 : Int) (K : Heap → Prop) (h : Heap) (hM : vt_Screen_escape a1 a2 K h) : CallsH Tryz.prog 61 #[.pointer a1, .int .u8 a2] (fun v h' => v = .tuple #[] ∧ K h') h := by
 unfold vt_Screen_escape at hM
 refine callsH_intro (n := 83) Tryz.func61 rfl rfl (by kernel_rfl) ?_
 refine cR ?_
 refine oZ [(5, .pointer a1)] ?_
 obtain ⟨p3, rfl, hM⟩ := hM
 refine owp_rdG (.pointer (some p3)) rfl (by kernel_rfl) (by kernel_rfl) ?_
 refine oZ [(7, .pointer (some (p3.add 32)))] ?_
 obtain ⟨x4, x4n, x4c, hc5, hM⟩ := hM
 refine oL (.slice x4 x4n x4c) (p3.add 32) hc5 ?_
 refine oZ [(9, .int .i64 (x4n : Int)), (10, .bool (decide ((x4n : Int) = 0))), (4, .bool (decide ((x4n : Int) = 0)))] ?_
 refine oE (cwp_block (cR ?_))
 refine oZ [(12, .bool (decide ((x4n : Int) = 0))), (13, .bool (decide ((x4n : Int) = 0)))] ?_
 refine oB (decide ((x4n : Int) = 0)) 3 [10, 4, 12, 13] (fun b_ => [(14, iteV b_ (.int .u8 a2 : Value) undef), (15, iteV b_ (.bool (decide (a2 = 91)) : Value) undef), (16, .bool (b_ && (decide (a2 = 91))))]) rfl (fun hb7 hq8 => oS [(14, .int .u8 a2), (15, .bool (decide (a2 = 91))), (16, .bool (decide (a2 = 91)))] rfl (hq8)) (fun hb9 hq10 => oS [(14, undef), (15, undef), (16, .bool false)] rfl (hq10)) ?_
 refine oZ [(11, .bool ((decide ((x4n : Int) = 0)) && (decide (a2 = 91))))] ?_
 refine oE ?_
 refine cwp_condB ((decide ((x4n : Int) = 0)) && (decide (a2 = 91))) (by kernel_rfl) (fun hc11 => ?_) (fun hc11 => ?_)
 · replace hM := ifT hc11 hM
   refine cwp_region ?_
   refine oZ [(17, .pointer (some p3))] ?_
   refine oG (hpCallE 59 #[.pointer (some p3), .int .i64 2] (by kernel_rfl) (vt_Screen_begin_ok (some p3) 2 _ h hM) ?_)
   clear hM
   rintro _ h12 ⟨rfl, hM⟩
   refine owp_nil (blockE_n ?_)
   exact end_ (.tuple #[]) (by kernel_rfl) ⟨rfl, hM⟩
 replace hM := ifF hc11 hM
 refine cR ?_
 refine oZ [(20, .bool (decide ((x4n : Int) = 0))), (21, .bool (decide ((x4n : Int) = 0)))] ?_
 refine oB (decide ((x4n : Int) = 0)) 3 [10, 4, 12, 13, 20, 21] (fun b_ => [(22, iteV b_ (.int .u8 a2 : Value) undef), (23, iteV b_ (.bool (decide (a2 = 93)) : Value) undef), (24, .bool (b_ && (decide (a2 = 93))))]) rfl (fun hb13 hq14 => oS [(22, .int .u8 a2), (23, .bool (decide (a2 = 93))), (24, .bool (decide (a2 = 93)))] rfl (hq14)) (fun hb15 hq16 => oS [(22, undef), (23, undef), (24, .bool false)] rfl (hq16)) ?_
 refine oZ [(19, .bool ((decide ((x4n : Int) = 0)) && (decide (a2 = 93))))] ?_
 refine oE ?_
 refine cwp_condB ((decide ((x4n : Int) = 0)) && (decide (a2 = 93))) (by kernel_rfl) (fun hc17 => ?_) (fun hc17 => ?_)
 · replace hM := ifT hc17 hM
   refine cwp_region ?_
   refine oZ [(25, .pointer (some p3))] ?_
   refine oG (hpCallE 59 #[.pointer (some p3), .int .i64 3] (by kernel_rfl) (vt_Screen_begin_ok (some p3) 3 _ h hM) ?_)
   clear hM
   rintro _ h18 ⟨rfl, hM⟩
   refine owp_nil (blockE_n ?_)
   exact end_ (.tuple #[]) (by kernel_rfl) ⟨rfl, hM⟩
 replace hM := ifF hc17 hM
 refine cR ?_
 refine oZ [(28, .bool (decide ((x4n : Int) = 0))), (29, .bool (decide ((x4n : Int) = 0)))] ?_
 refine oB (decide ((x4n : Int) = 0)) 15 [10, 4, 12, 13, 20, 21, 28, 29] (fun b_ => [(30, iteV b_ (.int .u8 a2 : Value) undef), (31, iteV b_ (.bool (decide (a2 = 80)) : Value) undef), (32, iteV b_ (.bool (decide (a2 = 80)) : Value) undef), (33, iteV b_ (iteV (decide (a2 = 80)) undef (.int .u8 a2 : Value)) undef), (34, iteV b_ (iteV (decide (a2 = 80)) undef (.bool (decide (a2 = 88)) : Value)) undef), (35, iteV b_ (.bool ((decide (a2 = 80)) || (decide (a2 = 88))) : Value) undef), (36, iteV b_ (.bool ((decide (a2 = 80)) || (decide (a2 = 88))) : Value) undef), (37, iteV b_ (iteV ((decide (a2 = 80)) || (decide (a2 = 88))) undef (.int .u8 a2 : Value)) undef), (38, iteV b_ (iteV ((decide (a2 = 80)) || (decide (a2 = 88))) undef (.bool (decide (a2 = 94)) : Value)) undef), (39, iteV b_ (.bool (((decide (a2 = 80)) || (decide (a2 = 88))) || (decide (a2 = 94))) : Value) undef), (40, iteV b_ (.bool (((decide (a2 = 80)) || (decide (a2 = 88))) || (decide (a2 = 94))) : Value) undef), (41, iteV b_ (iteV (((decide (a2 = 80)) || (decide (a2 = 88))) || (decide (a2 = 94))) undef (.int .u8 a2 : Value)) undef), (42, iteV b_ (iteV (((decide (a2 = 80)) || (decide (a2 = 88))) || (decide (a2 = 94))) undef (.bool (decide (a2 = 95)) : Value)) undef), (43, iteV b_ (.bool ((((decide (a2 = 80)) || (decide (a2 = 88))) || (decide (a2 = 94))) || (decide (a2 = 95))) : Value) undef), (44, .bool (b_ && ((((decide (a2 = 80)) || (decide (a2 = 88))) || (decide (a2 = 94))) || (decide (a2 = 95)))))]) rfl (fun hb31 hq32 => oS [(30, .int .u8 a2), (31, .bool (decide (a2 = 80))), (32, .bool (decide (a2 = 80)))] rfl (oB (decide (a2 = 80)) 3 [31, 32] (fun b_ => [(33, iteV b_ undef (.int .u8 a2 : Value)), (34, iteV b_ undef (.bool (decide (a2 = 88)) : Value)), (35, .bool (b_ || (decide (a2 = 88))))]) rfl (fun hb19 hq20 => oS [(33, undef), (34, undef), (35, .bool true)] rfl (hq20)) (fun hb21 hq22 => oS [(33, .int .u8 a2), (34, .bool (decide (a2 = 88))), (35, .bool (decide (a2 = 88)))] rfl (hq22)) (oS [(36, .bool ((decide (a2 = 80)) || (decide (a2 = 88))))] rfl (oB ((decide (a2 = 80)) || (decide (a2 = 88))) 3 [35, 36] (fun b_ => [(37, iteV b_ undef (.int .u8 a2 : Value)), (38, iteV b_ undef (.bool (decide (a2 = 94)) : Value)), (39, .bool (b_ || (decide (a2 = 94))))]) rfl (fun hb23 hq24 => oS [(37, undef), (38, undef), (39, .bool true)] rfl (hq24)) (fun hb25 hq26 => oS [(37, .int .u8 a2), (38, .bool (decide (a2 = 94))), (39, .bool (decide (a2 = 94)))] rfl (hq26)) (oS [(40, .bool (((decide (a2 = 80)) || (decide (a2 = 88))) || (decide (a2 = 94))))] rfl (oB (((decide (a2 = 80)) || (decide (a2 = 88))) || (decide (a2 = 94))) 3 [39, 40] (fun b_ => [(41, iteV b_ undef (.int .u8 a2 : Value)), (42, iteV b_ undef (.bool (decide (a2 = 95)) : Value)), (43, .bool (b_ || (decide (a2 = 95))))]) rfl (fun hb27 hq28 => oS [(41, undef), (42, undef), (43, .bool true)] rfl (hq28)) (fun hb29 hq30 => oS [(41, .int .u8 a2), (42, .bool (decide (a2 = 95))), (43, .bool (decide (a2 = 95)))] rfl (hq30)) (oS [(44, .bool ((((decide (a2 = 80)) || (decide (a2 = 88))) || (decide (a2 = 94))) || (decide (a2 = 95))))] rfl (hq32)))))))) (fun hb33 hq34 => oS [(30, undef), (31, undef), (32, undef), (33, undef), (34, undef), (35, undef), (36, undef), (37, undef), (38, undef), (39, undef), (40, undef), (41, undef), (42, undef), (43, undef), (44, .bool false)] rfl (hq34)) ?_
 refine oZ [(27, .bool ((decide ((x4n : Int) = 0)) && ((((decide (a2 = 80)) || (decide (a2 = 88))) || (decide (a2 = 94))) || (decide (a2 = 95)))))] ?_
 refine oE ?_
 refine cwp_condB ((decide ((x4n : Int) = 0)) && ((((decide (a2 = 80)) || (decide (a2 = 88))) || (decide (a2 = 94))) || (decide (a2 = 95)))) (by kernel_rfl) (fun hc35 => ?_) (fun hc35 => ?_)
 · replace hM := ifT hc35 hM
   refine cwp_region ?_
   refine oZ [(45, .pointer (some p3)), (46, .pointer (some p3)), (47, .pointer (some (p3.add 31)))] ?_
   refine oT (p3.add 31) [.int .i64 4] hM ?_
   clear hM
   intro h36 hM
   refine owp_nil (blockE_n ?_)
   exact end_ (.tuple #[]) (by kernel_rfl) ⟨rfl, hM⟩
 replace hM := ifF hc35 hM
 refine cR ?_
 refine oZ [(49, .int .u8 a2), (50, .bool (decide (a2 < 32))), (48, .bool (decide (a2 < 32)))] ?_
 refine oE ?_
 refine cwp_condD (a2 < 32) (by kernel_rfl) (fun hc37 => ?_) (fun hc37 => ?_)
 · replace hM := ifT hc37 hM
   refine cwp_region ?_
   refine oZ [(51, .pointer (some p3)), (52, .int .u8 a2)] ?_
   refine oG (hpCallE 86 #[.pointer (some p3), .int .u8 a2] (by kernel_rfl) (vt_Screen_does_ok (some p3) a2 _ h hM) ?_)
   clear hM
   rintro _ h38 ⟨rfl, hM⟩
   refine owp_nil (blockE_n ?_)
   exact end_ (.tuple #[]) (by kernel_rfl) ⟨rfl, hM⟩
 replace hM := ifF hc37 hM
 refine cR ?_
 refine oZ [(55, .int .u8 a2), (56, .bool (decide (a2 < 48))), (54, .bool (decide (a2 < 48)))] ?_
 refine oE ?_
 refine cwp_condD (a2 < 48) (by kernel_rfl) (fun hc39 => ?_) (fun hc39 => ?_)
 · replace hM := ifT hc39 hM
   refine cwp_region ?_
   refine oZ [(57, .pointer (some p3)), (58, .int .u8 a2)] ?_
   refine oG (hpCallE 87 #[.pointer (some p3), .int .u8 a2] (by kernel_rfl) (vt_Screen_gather_ok (some p3) a2 _ h hM) ?_)
   clear hM
   rintro _ h40 ⟨rfl, hM⟩
   refine owp_nil (blockE_n ?_)
   exact end_ (.tuple #[]) (by kernel_rfl) ⟨rfl, hM⟩
 replace hM := ifF hc39 hM
 refine cR ?_
 refine oZ [(61, .int .u8 a2), (62, .bool (decide (a2 < 127))), (60, .bool (decide (a2 < 127)))] ?_
 refine oE ?_
 refine cwp_condD (a2 < 127) (by kernel_rfl) (fun hc41 => ?_) (fun hc41 => ?_)
 · replace hM := ifT hc41 hM
   refine cR ?_
   refine oZ [(63, .pointer (some p3)), (64, .pointer (some p3)), (65, .pointer (some (p3.add 31)))] ?_
   refine oT (p3.add 31) [.int .i64 0] hM ?_
   clear hM
   intro h42 hM
   refine oE (cR ?_)
   refine oZ [(66, .pointer (some p3)), (67, .pointer (some p3)), (68, .pointer (some (p3.add 33)))] ?_
   obtain ⟨x43, hc44, hM⟩ := hM
   refine oL (.bool x43) (p3.add 33) hc44 ?_
   refine oZ [(70, .bool (!x43))] ?_
   refine oE ?_
   refine cwp_condB (!x43) (by kernel_rfl) (fun hc46 => ?_) (fun hc46 => ?_)
   · replace hM := ifT hc46 hM
     refine cwp_region ?_
     refine oZ [(71, .pointer (some p3)), (72, .int .u8 a2)] ?_
     refine oG (hpCallE 88 #[.pointer (some p3), .int .u8 a2] (by kernel_rfl) (vt_Screen_escaped_ok (some p3) a2 _ h42 hM) ?_)
     clear hM
     rintro _ h47 ⟨rfl, hM⟩
     refine owp_nil (blockE_n ?_)
     exact end_ (.tuple #[]) (by kernel_rfl) ⟨rfl, hM⟩
   replace hM := ifF hc46 hM
   refine cwp_skip (blockE_n ?_)
   exact end_ (.tuple #[]) (by kernel_rfl) ⟨rfl, hM⟩
 replace hM := ifF hc41 hM
 refine cR ?_
 refine oZ [(75, .int .u8 a2), (76, .bool (decide (128 ≤ a2))), (74, .bool (decide (128 ≤ a2)))] ?_
 refine oE ?_
 refine cwp_condD (128 ≤ a2) (by kernel_rfl) (fun hc48 => ?_) (fun hc48 => ?_)
 · replace hM := ifT hc48 hM
   refine cR ?_
   refine oZ [(77, .pointer (some p3)), (78, .pointer (some p3)), (79, .pointer (some (p3.add 31)))] ?_
   refine oT (p3.add 31) [.int .i64 0] hM ?_
   clear hM
   intro h49 hM
   refine oE (cwp_region ?_)
   refine oZ [(80, .pointer (some p3)), (81, .int .u8 a2)] ?_
   refine oG (hpCallE 60 #[.pointer (some p3), .int .u8 a2] (by kernel_rfl) (vt_Screen_ground_ok (some p3) a2 _ h49 hM) ?_)
   clear hM
   rintro _ h50 ⟨rfl, hM⟩
   refine owp_nil (blockE_n ?_)
   exact end_ (.tuple #[]) (by kernel_rfl) ⟨rfl, hM⟩
 replace hM := ifF hc48 hM
 refine cwp_skip (blockE_n ?_)
 exact end_ (.tuple #[]) (by kernel_rfl) ⟨rfl, hM⟩
end Go.Proofs.YthjdnhhifjpidaaGreatDoor.M
