/-
  PRINTED BY A PROGRAM OF THIS CLAIM'S (gen.py): for each Go function a Lean function over memory, and the proof that the code comes to what it says.
-/
import Derived.Test.YthjdnhhifjpidaaDoorF2
import Derived.Test.YthjdnhhifjpidaaDoorProg
set_option linter.unusedVariables false
set_option linter.unusedSimpArgs false
set_option maxRecDepth 100000
set_option maxHeartbeats 1000000
namespace Go.Proofs.YthjdnhhifjpidaaDoor.M
open Go Go.Hp
abbrev lit0 : ByteArray := ⟨#[48, 49, 50, 51, 52, 53, 54, 55, 56, 57, 97, 98, 99, 100, 101, 102, 103, 104, 105, 106, 107, 108, 109, 110, 111, 112, 113, 114, 115, 116, 117, 118, 119, 120, 121, 122]⟩
abbrev lit1 : ByteArray := ⟨#[48, 48, 48, 49, 48, 50, 48, 51, 48, 52, 48, 53, 48, 54, 48, 55, 48, 56, 48, 57, 49, 48, 49, 49, 49, 50, 49, 51, 49, 52, 49, 53, 49, 54, 49, 55, 49, 56, 49, 57, 50, 48, 50, 49, 50, 50, 50, 51, 50, 52, 50, 53, 50, 54, 50, 55, 50, 56, 50, 57, 51, 48, 51, 49, 51, 50, 51, 51, 51, 52, 51, 53, 51, 54, 51, 55, 51, 56, 51, 57, 52, 48, 52, 49, 52, 50, 52, 51, 52, 52, 52, 53, 52, 54, 52, 55, 52, 56, 52, 57, 53, 48, 53, 49, 53, 50, 53, 51, 53, 52, 53, 53, 53, 54, 53, 55, 53, 56, 53, 57, 54, 48, 54, 49, 54, 50, 54, 51, 54, 52, 54, 53, 54, 54, 54, 55, 54, 56, 54, 57, 55, 48, 55, 49, 55, 50, 55, 51, 55, 52, 55, 53, 55, 54, 55, 55, 55, 56, 55, 57, 56, 48, 56, 49, 56, 50, 56, 51, 56, 52, 56, 53, 56, 54, 56, 55, 56, 56, 56, 57, 57, 48, 57, 49, 57, 50, 57, 51, 57, 52, 57, 53, 57, 54, 57, 55, 57, 56, 57, 57]⟩
/- (*mullion/vt.Screen).rowsDown -/
def vt_Screen_rowsDown_j0 (Kn : Heap → Prop) (y19 : Addr) (y20 : Int) (y21 : Int) (h : Heap) : Prop :=
 ldI h .i64 (y19.add 9) fun x22 =>
 ldI h .i64 (y19.add 10) fun x26 =>
 vt_Screen_to (some y19) x22 (imin y21 (IntKind.wrap .i64 (x26 + y20))) (fun  h30 =>
   Kn  h30) h
theorem vt_Screen_rowsDown_j0_ok {Q : Exit → Env → Heap → Prop} (Kn : Heap → Prop) (hKn : ∀  (b : Env) (h : Heap), Kn  h → Q .normal b h) (y19 : Addr) (y20 : Int) (y21 : Int) (b : Env) (h : Heap) (hM : vt_Screen_rowsDown_j0 Kn y19 y20 y21 h) : cwp Tryd.prog (partC Tryd.f68 [1, 1]) 40 Q (upd (upd (upd b 0 (.pointer (some y19))) 1 (.int .i64 y20)) 4 (.int .i64 y21)) h := by
  unfold vt_Screen_rowsDown_j0 at hM
  refine cwp_part rfl ?_
  refine cwp_draw (by kernel_rfl) ?_
  refine kp 0 [15] (.pointer (some y19)) ?_
  refine kp 1 [2, 3, 4, 5, 15] (.pointer (some y19)) ?_
  refine kp 2 [3, 4, 5, 15] (.pointer (some y19)) ?_
  refine kp 3 [4, 5, 15] (.pointer (some (y19.add 9))) ?_
  refine kp 4 [5, 15] (.pointer (some (y19.add 9))) ?_
  obtain ⟨x22, hc23, hM⟩ := hM
  refine kl 5 (.int .i64 x22) (y19.add 9) [15] [15] hc23 ?_
  refine kp 6 [14, 15] (.int .i64 y21) ?_
  refine kp 7 [8, 9, 10, 11, 13, 14, 15] (.pointer (some y19)) ?_
  refine kp 8 [9, 10, 11, 13, 14, 15] (.pointer (some y19)) ?_
  refine kp 9 [10, 11, 13, 14, 15] (.pointer (some (y19.add 9))) ?_
  refine kp 10 [11, 13, 14, 15] (.pointer (some (y19.add 10))) ?_
  obtain ⟨x26, hc27, hM⟩ := hM
  refine kl 11 (.int .i64 x26) (y19.add 10) [13, 14, 15] [15] hc27 ?_
  refine kp 12 [13, 14, 15] (.int .i64 y20) ?_
  refine kp 13 [14, 15] (.int .i64 (IntKind.wrap .i64 (x26 + y20))) ?_
  refine kp 14 [15] (.int .i64 (imin y21 (IntKind.wrap .i64 (x26 + y20)))) ?_
  refine k_eff (j := 15) (by kernel_rfl) rfl rfl (by kernel_rfl) (hpCallE 51 #[.pointer (some y19), .int .i64 x22, .int .i64 (imin y21 (IntKind.wrap .i64 (x26 + y20)))] (by kernel_rfl) (vt_Screen_to_ok (some y19) x22 (imin y21 (IntKind.wrap .i64 (x26 + y20))) _ h hM) ?_)
  clear hM
  rintro _ h30 ⟨rfl, hM⟩
  refine ⟨trivial, ?_⟩
  refine k_done (by kernel_rfl) ?_
  exact hKn  _ _ hM
def vt_Screen_rowsDown (a1 : Option Addr) (a2 : Int) (K : Heap → Prop) (h : Heap) : Prop :=
 nz a1 fun p3 =>
 ldI h .i64 (p3.add 1) fun x4 =>
 ldI h .i64 (p3.add 10) fun x7 =>
 ldI h .i64 (p3.add 20) fun x11 =>
 if x7 ≤ x11 then
  ldI h .i64 (p3.add 20) fun x16 =>
  vt_Screen_rowsDown_j0
   (fun  h31 =>
       K h31) p3 a2 x16 h
 else
 vt_Screen_rowsDown_j0
  (fun  h34 =>
      K h34) p3 a2 (IntKind.wrap .i64 (x4 - 1)) h
theorem vt_Screen_rowsDown_ok (a1 : Option Addr) (a2 : Int) (K : Heap → Prop) (h : Heap) (hM : vt_Screen_rowsDown a1 a2 K h) : CallsH Tryd.prog 68 #[.pointer a1, .int .i64 a2] (fun v h' => v = .tuple #[] ∧ K h') h := by
 unfold vt_Screen_rowsDown at hM
 refine callsH_intro (n := 40) Tryd.func68 rfl rfl (by kernel_rfl) ?_
 refine cR ?_
 refine oS [(5, .pointer a1)] rfl ?_
 obtain ⟨p3, rfl, hM⟩ := hM
 refine owp_rdG (.pointer (some p3)) rfl (by kernel_rfl) (by kernel_rfl) ?_
 refine oS [(7, .pointer (some (p3.add 1)))] rfl ?_
 obtain ⟨x4, hc5, hM⟩ := hM
 refine oL (.int .i64 x4) (p3.add 1) hc5 ?_
 refine oS [(9, .int .i64 (IntKind.wrap .i64 (x4 - 1))), (4, .int .i64 (IntKind.wrap .i64 (x4 - 1)))] rfl ?_
 refine oE (cwp_seq (cwp_seq ?_))
 refine cwp_draw (by kernel_rfl) ?_
 refine kp 0 [1, 2, 3, 4, 9] (.pointer (some p3)) ?_
 refine kp 1 [2, 3, 4, 9] (.pointer (some p3)) ?_
 refine kp 2 [3, 4, 9] (.pointer (some (p3.add 9))) ?_
 refine kp 3 [4, 9] (.pointer (some (p3.add 10))) ?_
 obtain ⟨x7, hc8, hM⟩ := hM
 refine kl 4 (.int .i64 x7) (p3.add 10) [9] [] hc8 ?_
 refine kp 5 [6, 7, 8, 9] (.pointer (some p3)) ?_
 refine kp 6 [7, 8, 9] (.pointer (some p3)) ?_
 refine kp 7 [8, 9] (.pointer (some (p3.add 20))) ?_
 obtain ⟨x11, hc12, hM⟩ := hM
 refine kl 8 (.int .i64 x11) (p3.add 20) [9] [] hc12 ?_
 refine kp 9 [] (.bool (decide (x7 ≤ x11))) ?_
 refine k_done (by kernel_rfl) ?_
 refine thenE_n ?_
 refine cwp_condD (x7 ≤ x11) (by kernel_rfl) (fun hc15 => ?_) (fun hc15 => ?_)
 · replace hM := ifT hc15 hM
   refine cwp_region ?_
   refine oS [(20, .pointer (some p3)), (21, .pointer (some p3)), (22, .pointer (some (p3.add 20)))] rfl ?_
   obtain ⟨x16, hc17, hM⟩ := hM
   refine oL (.int .i64 x16) (p3.add 20) hc17 ?_
   refine oS [(4, .int .i64 x16)] rfl ?_
   refine oE ?_
   refine cwp_of_part (fn := Tryd.f68) (p := [1, 1]) (by kernel_rfl) (cwp_at 0 (.pointer (some p3)) (by kernel_rfl) (cwp_at 1 (.int .i64 a2) (by kernel_rfl) (cwp_at 4 (.int .i64 x16) (by kernel_rfl) (vt_Screen_rowsDown_j0_ok _ ?_ p3 a2 x16 _ _ hM))))
   · intro  b32 h31 hM
     exact end_ (.tuple #[]) (by kernel_rfl) ⟨rfl, hM⟩
 replace hM := ifF hc15 hM
 refine cwp_skip (thenE_n ?_)
 refine cwp_of_part (fn := Tryd.f68) (p := [1, 1]) (by kernel_rfl) (cwp_at 0 (.pointer (some p3)) (by kernel_rfl) (cwp_at 1 (.int .i64 a2) (by kernel_rfl) (cwp_at 4 (.int .i64 (IntKind.wrap .i64 (x4 - 1))) (by kernel_rfl) (vt_Screen_rowsDown_j0_ok _ ?_ p3 a2 (IntKind.wrap .i64 (x4 - 1)) _ _ hM))))
 · intro  b35 h34 hM
   exact end_ (.tuple #[]) (by kernel_rfl) ⟨rfl, hM⟩
/- (*mullion/vt.Screen).back -/
def vt_Screen_back_l1 (K2 : Addr → Int → Int → Heap → Prop) : Nat → Addr → Int → Int → Heap → Prop
  | 0, _, _, _, _ => False
  | k + 1, y15, y16, y17, h =>
  if 0 < y17 then
   ldL h (y15.add 21) fun x22 x22n x22c =>
   nz x22 fun p27 =>
   0 ≤ y17 ∧
   y17 < (x22n : Int) ∧
   ldB h (p27.add ((y17).toNat * 1)) fun x28 =>
   if (!x28) = true then
    vt_Screen_back_l1 K2 k y15 y16 (IntKind.wrap .i64 (y17 - 1)) h
   else
   K2 y15 y16 y17 h
  else
  K2 y15 y16 y17 h
theorem vt_Screen_back_l1_ok {Q : Exit → Env → Heap → Prop} (K2 : Addr → Int → Int → Heap → Prop) (hK2 : ∀ (z38 : Addr) (z39 : Int) (z40 : Int) (b : Env) (h : Heap), K2 z38 z39 z40 h → Q (.exit 2) (upd (upd (upd b 0 (.pointer (some z38))) 1 (.int .i64 z39)) 4 (.int .i64 z40)) h) : ∀ (k : Nat) (y15 : Addr) (y16 : Int) (y17 : Int) (b : Env) (h : Heap) (hM : vt_Screen_back_l1 K2 k y15 y16 y17 h), lwp Tryd.prog (partC Tryd.f69 [1, 0, 0, 0, 1, 0, 0, 1, 0, 0]) 42 Q k (upd (upd (upd b 0 (.pointer (some y15))) 1 (.int .i64 y16)) 4 (.int .i64 y17)) h := by
  intro k
  induction k with
  | zero => intro y15 y16 y17 b h hM; exact (show False from hM).elim
  | succ k ih =>
    intro y15 y16 y17 b h hM
    unfold vt_Screen_back_l1 at hM
    refine lwp_succ (cwp_part rfl ?_)
    refine cwp_seq (cR ?_)
    refine oS [(20, .int .i64 y17), (21, .bool (decide (0 < y17))), (22, .bool (decide (0 < y17)))] rfl ?_
    by_cases hc21 : 0 < y17
    · refine oA 21 true (decide (0 < y17)) (by rw [decide_eq_true hc21]) ?_
      refine oA 22 true (decide (0 < y17)) (by rw [decide_eq_true hc21]) ?_
      replace hM := ifT hc21 hM
      refine oS [(23, .pointer (some y15)), (24, .pointer (some y15)), (25, .pointer (some (y15.add 21)))] rfl ?_
      obtain ⟨x22, x22n, x22c, hc23, hM⟩ := hM
      refine oL (.slice x22 x22n x22c) (y15.add 21) hc23 ?_
      refine oS [(27, .int .i64 y17)] rfl ?_
      obtain ⟨p27, rfl, hM⟩ := hM
      obtain ⟨hc25, hM⟩ := hM
      obtain ⟨hc26, hM⟩ := hM
      refine owp_rdG (.pointer (some (p27.add ((y17).toNat * 1)))) rfl (by kernel_rfl) (rd_ixS (P := Tryd.prog) (h := h) (t := 64) (el := 4) (sz := 1) (ad := p27) (len := x22n) (c := x22c) (k := .i64) (i := y17) (by kernel_rfl) (by kernel_rfl) hc25 hc26 (by kernel_rfl)) ?_
      obtain ⟨x28, hc29, hM⟩ := hM
      refine oL (.bool x28) (p27.add ((y17).toNat * 1)) hc29 ?_
      refine oS [(30, .bool (!x28)), (31, .bool (!x28))] rfl ?_
      refine oE ?_
      refine cwp_condB (!x28) (by kernel_rfl) (fun hc31 => ?_) (fun hc31 => ?_)
      · replace hM := ifT hc31 hM
        refine cwp_skip (thenE_n (cwp_seq (cwp_block (cwp_skip (blockE_n (thenE_n (cwp_region ?_)))))))
        refine oS [(32, .int .i64 y17), (33, .int .i64 (IntKind.wrap .i64 (y17 - 1))), (4, .int .i64 (IntKind.wrap .i64 (y17 - 1)))] rfl ?_
        refine owp_nil ?_
        exact lwp_at 0 (.pointer (some y15)) (by kernel_rfl) (lwp_at 1 (.int .i64 y16) (by kernel_rfl) (lwp_at 4 (.int .i64 (IntKind.wrap .i64 (y17 - 1))) (by kernel_rfl) (ih y15 y16 (IntKind.wrap .i64 (y17 - 1)) _ _ hM)))
      replace hM := ifF hc31 hM
      refine cwp_exit (thenE_x ?_)
      exact q_at (Q := Q (.exit 2)) 0 (.pointer (some y15)) (by kernel_rfl) (q_at (Q := Q (.exit 2)) 1 (.int .i64 y16) (by kernel_rfl) (q_at (Q := Q (.exit 2)) 4 (.int .i64 y17) (by kernel_rfl) (hK2 y15 y16 y17 _ _ hM)))
    refine oA 21 false (decide (0 < y17)) (by rw [decide_eq_false hc21]) ?_
    refine oA 22 false (decide (0 < y17)) (by rw [decide_eq_false hc21]) ?_
    replace hM := ifF hc21 hM
    refine oS [(23, undef), (24, undef), (25, undef), (26, undef), (27, undef), (28, undef), (29, undef), (30, undef), (31, .bool false)] rfl ?_
    refine oE ?_
    refine cwp_cond (t := false) (by kernel_rfl) (fun hx_ => ?_) (fun hx_ => ?_)
    all_goals first | (cases hx_; done) | skip
    refine cwp_exit (thenE_x ?_)
    exact q_at (Q := Q (.exit 2)) 0 (.pointer (some y15)) (by kernel_rfl) (q_at (Q := Q (.exit 2)) 1 (.int .i64 y16) (by kernel_rfl) (q_at (Q := Q (.exit 2)) 4 (.int .i64 y17) (by kernel_rfl) (hK2 y15 y16 y17 _ _ hM)))
def vt_Screen_back_l0 (K0 : Addr → Int → Heap → Prop) : Nat → Addr → Int → Int → Heap → Prop
  | 0, _, _, _, _ => False
  | k + 1, y7, y8, y9, h =>
  if ((decide (0 < y8)) && (decide (0 < y9))) = true then
   ∃ k46, vt_Screen_back_l1
    (fun z41 z42 z43 h44 =>
        vt_Screen_back_l0 K0 k z41 (IntKind.wrap .i64 (z42 - 1)) z43 h44) k46 y7 y8 (IntKind.wrap .i64 (y9 - 1)) h
  else
  K0 y7 y9 h
theorem vt_Screen_back_l0_ok {Q : Exit → Env → Heap → Prop} (K0 : Addr → Int → Heap → Prop) (hK0 : ∀ (z51 : Addr) (z52 : Int) (b : Env) (h : Heap), K0 z51 z52 h → Q (.exit 0) (upd (upd b 0 (.pointer (some z51))) 4 (.int .i64 z52)) h) : ∀ (k : Nat) (y7 : Addr) (y8 : Int) (y9 : Int) (b : Env) (h : Heap) (hM : vt_Screen_back_l0 K0 k y7 y8 y9 h), lwp Tryd.prog (partC Tryd.f69 [1, 0, 0, 0]) 42 Q k (upd (upd (upd b 0 (.pointer (some y7))) 1 (.int .i64 y8)) 4 (.int .i64 y9)) h := by
  intro k
  induction k with
  | zero => intro y7 y8 y9 b h hM; exact (show False from hM).elim
  | succ k ih =>
    intro y7 y8 y9 b h hM
    unfold vt_Screen_back_l0 at hM
    refine lwp_succ (cwp_part rfl ?_)
    refine cwp_seq (cR ?_)
    refine oS [(10, .int .i64 y8), (11, .bool (decide (0 < y8))), (12, .bool (decide (0 < y8)))] rfl ?_
    refine oB (decide (0 < y8)) 3 [11, 12] (fun b_ => [(13, iteV b_ (.int .i64 y9 : Value) undef), (14, iteV b_ (.bool (decide (0 < y9)) : Value) undef), (15, .bool (b_ && (decide (0 < y9))))]) rfl (fun hb10 hq11 => oS [(13, .int .i64 y9), (14, .bool (decide (0 < y9))), (15, .bool (decide (0 < y9)))] rfl (hq11)) (fun hb12 hq13 => oS [(13, undef), (14, undef), (15, .bool false)] rfl (hq13)) ?_
    refine oE ?_
    refine cwp_condB ((decide (0 < y8)) && (decide (0 < y9))) (by kernel_rfl) (fun hc14 => ?_) (fun hc14 => ?_)
    · replace hM := ifT hc14 hM
      refine cwp_skip (thenE_n (cwp_seq (cwp_block (cR ?_))))
      refine oS [(18, .int .i64 y9), (19, .int .i64 (IntKind.wrap .i64 (y9 - 1))), (4, .int .i64 (IntKind.wrap .i64 (y9 - 1)))] rfl ?_
      refine oE (cwp_block ?_)
      obtain ⟨k_, hM⟩ := hM
      refine cwp_loop k_ (lwp_of_part (fn := Tryd.f69) (p := [1, 0, 0, 0, 1, 0, 0, 1, 0, 0]) (by kernel_rfl) (lwp_at 0 (.pointer (some y7)) (by kernel_rfl) (lwp_at 1 (.int .i64 y8) (by kernel_rfl) (lwp_at 4 (.int .i64 (IntKind.wrap .i64 (y9 - 1))) (by kernel_rfl) (vt_Screen_back_l1_ok _ ?_ k_ y7 y8 (IntKind.wrap .i64 (y9 - 1)) _ _ hM)))))
      · intro z41 z42 z43 b45 h44 hM
        refine blockE_h (blockE_n (thenE_n (cwp_region ?_)))
        refine oS [(16, .int .i64 z42), (17, .int .i64 (IntKind.wrap .i64 (z42 - 1))), (1, .int .i64 (IntKind.wrap .i64 (z42 - 1)))] rfl ?_
        refine owp_nil ?_
        exact lwp_at 0 (.pointer (some z41)) (by kernel_rfl) (lwp_at 1 (.int .i64 (IntKind.wrap .i64 (z42 - 1))) (by kernel_rfl) (lwp_at 4 (.int .i64 z43) (by kernel_rfl) (ih z41 (IntKind.wrap .i64 (z42 - 1)) z43 _ _ hM)))
    replace hM := ifF hc14 hM
    refine cwp_exit (thenE_x ?_)
    exact q_at (Q := Q (.exit 0)) 0 (.pointer (some y7)) (by kernel_rfl) (q_at (Q := Q (.exit 0)) 4 (.int .i64 y9) (by kernel_rfl) (hK0 y7 y9 _ _ hM))
def vt_Screen_back (a1 : Option Addr) (a2 : Int) (K : Heap → Prop) (h : Heap) : Prop :=
 nz a1 fun p3 =>
 ldI h .i64 (p3.add 9) fun x4 =>
 ∃ k61, vt_Screen_back_l0
  (fun z53 z54 h55 =>
    ldI h55 .i64 (z53.add 10) fun x56 =>
    vt_Screen_to (some z53) z54 x56 (fun  h59 =>
        K h59) h55) k61 p3 a2 x4 h
theorem vt_Screen_back_ok (a1 : Option Addr) (a2 : Int) (K : Heap → Prop) (h : Heap) (hM : vt_Screen_back a1 a2 K h) : CallsH Tryd.prog 69 #[.pointer a1, .int .i64 a2] (fun v h' => v = .tuple #[] ∧ K h') h := by
 unfold vt_Screen_back at hM
 refine callsH_intro (n := 42) Tryd.func69 rfl rfl (by kernel_rfl) ?_
 refine cR ?_
 refine oS [(5, .pointer a1)] rfl ?_
 obtain ⟨p3, rfl, hM⟩ := hM
 refine owp_rdG (.pointer (some p3)) rfl (by kernel_rfl) (by kernel_rfl) ?_
 refine oS [(7, .pointer (some (p3.add 9))), (8, .pointer (some (p3.add 9)))] rfl ?_
 obtain ⟨x4, hc5, hM⟩ := hM
 refine oL (.int .i64 x4) (p3.add 9) hc5 ?_
 refine oS [(4, .int .i64 x4)] rfl ?_
 refine oE (cwp_seq (cwp_block ?_))
 obtain ⟨k_, hM⟩ := hM
 refine cwp_loop k_ (lwp_of_part (fn := Tryd.f69) (p := [1, 0, 0, 0]) (by kernel_rfl) (lwp_at 0 (.pointer (some p3)) (by kernel_rfl) (lwp_at 1 (.int .i64 a2) (by kernel_rfl) (lwp_at 4 (.int .i64 x4) (by kernel_rfl) (vt_Screen_back_l0_ok _ ?_ k_ p3 a2 x4 _ _ hM)))))
 · intro z53 z54 b60 h55 hM
   refine blockE_h (thenE_n (cwp_region ?_))
   refine oS [(34, .pointer (some z53)), (35, .int .i64 z54), (36, .pointer (some z53)), (37, .pointer (some z53)), (38, .pointer (some (z53.add 9))), (39, .pointer (some (z53.add 10)))] rfl ?_
   obtain ⟨x56, hc57, hM⟩ := hM
   refine oL (.int .i64 x56) (z53.add 10) hc57 ?_
   refine oG (hpCallE 51 #[.pointer (some z53), .int .i64 z54, .int .i64 x56] (by kernel_rfl) (vt_Screen_to_ok (some z53) z54 x56 _ h55 hM) ?_)
   clear hM
   rintro _ h59 ⟨rfl, hM⟩
   refine owp_nil ?_
   exact end_ (.tuple #[]) (by kernel_rfl) ⟨rfl, hM⟩
/- (mullion/vt.row).erase -/
def vt_row_erase_l0 (K0 : Heap → Prop) : Nat → Option Addr → Nat → Nat → Int → Nat → Int → Heap → Prop
  | 0, _, _, _, _, _, _, _ => False
  | k + 1, y14, y14n, y14c, y15, y16, y17, h =>
  if y17 < y15 then
   ldS h ⟨y16, 0, none⟩ fun x19 =>
   ldI h .i64 ⟨y16, 1, none⟩ fun x21 =>
   ldI h .i64 ⟨y16, 2, none⟩ fun x23 =>
   ldI h .i64 ⟨y16, 3, none⟩ fun x25 =>
   ldI h .i64 ⟨y16, 4, none⟩ fun x27 =>
   nz y14 fun p36 =>
   0 ≤ y17 ∧
   y17 < (y14n : Int) ∧
   stN (p36.add ((y17).toNat * 5)) [.string x19, .int .i64 x21, .int .i64 x23, .int .i64 x25, .int .i64 x27] 0 h fun h37 =>
   vt_row_erase_l0 K0 k (some p36) y14n y14c y15 y16 (IntKind.wrap .i64 (y17 + 1)) h37
  else
  K0  h
theorem vt_row_erase_l0_ok {Q : Exit → Env → Heap → Prop} (K0 : Heap → Prop) (hK0 : ∀  (b : Env) (h : Heap), K0  h → Q (.exit 0) b h) : ∀ (k : Nat) (y14 : Option Addr) (y14n : Nat) (y14c : Nat) (y15 : Int) (y16 : Nat) (y17 : Int) (b : Env) (h : Heap) (hM : vt_row_erase_l0 K0 k y14 y14n y14c y15 y16 y17 h), lwp Tryd.prog (partC Tryd.f75 [1, 1, 1, 1, 0, 0]) 25 Q k (upd (upd (upd (upd b 0 (.slice y14 y14n y14c)) 2 (.int .i64 y15)) 7 (.pointer (some ⟨y16, 0, none⟩))) 8 (.int .i64 y17)) h := by
  intro k
  induction k with
  | zero => intro y14 y14n y14c y15 y16 y17 b h hM; exact (show False from hM).elim
  | succ k ih =>
    intro y14 y14n y14c y15 y16 y17 b h hM
    unfold vt_row_erase_l0 at hM
    refine lwp_succ (cwp_part rfl ?_)
    refine cwp_seq (cR ?_)
    refine oS [(16, .int .i64 y17), (17, .int .i64 y15), (18, .bool (decide (y17 < y15)))] rfl ?_
    refine oE ?_
    refine cwp_condD (y17 < y15) (by kernel_rfl) (fun hc18 => ?_) (fun hc18 => ?_)
    · replace hM := ifT hc18 hM
      refine cwp_skip (thenE_n (cwp_seq (cwp_block (cwp_region ?_))))
      refine oS [(21, .slice y14 y14n y14c), (22, .int .i64 y17)] rfl ?_
      obtain ⟨x19, hc20, hM⟩ := hM
      obtain ⟨x21, hc22, hM⟩ := hM
      obtain ⟨x23, hc24, hM⟩ := hM
      obtain ⟨x25, hc26, hM⟩ := hM
      obtain ⟨x27, hc28, hM⟩ := hM
      refine owp_rdG (.agg #[.string x19, .int .i64 x21, .int .i64 x23, .int .i64 x25, .int .i64 x27]) rfl (by kernel_rfl) (Eq.trans (b := (cellH h ⟨y16, 0, none⟩).bind fun v29 => (cellH h ⟨y16, 1, none⟩).bind fun v30 => (cellH h ⟨y16, 2, none⟩).bind fun v31 => (cellH h ⟨y16, 3, none⟩).bind fun v32 => (cellH h ⟨y16, 4, none⟩).bind fun v33 => some (.value (.agg #[v29, v30, v31, v32, v33]))) (by kernel_rfl) ((bindE hc20 _).trans ((bindE hc22 _).trans ((bindE hc24 _).trans ((bindE hc26 _).trans (bindE hc28 _)))))) ?_
      obtain ⟨p36, rfl, hM⟩ := hM
      obtain ⟨hc34, hM⟩ := hM
      obtain ⟨hc35, hM⟩ := hM
      refine owp_rdG (.pointer (some (p36.add ((y17).toNat * 5)))) rfl (by kernel_rfl) (rd_ixS (P := Tryd.prog) (h := h) (t := 72) (el := 43) (sz := 5) (ad := p36) (len := y14n) (c := y14c) (k := .i64) (i := y17) (by kernel_rfl) (by kernel_rfl) hc34 hc35 (by kernel_rfl)) ?_
      refine oT (p36.add ((y17).toNat * 5)) [.string x19, .int .i64 x21, .int .i64 x23, .int .i64 x25, .int .i64 x27] hM ?_
      clear hM
      intro h37 hM
      refine owp_nil (blockE_n (thenE_n (cwp_region ?_)))
      refine oS [(19, .int .i64 y17), (20, .int .i64 (IntKind.wrap .i64 (y17 + 1))), (8, .int .i64 (IntKind.wrap .i64 (y17 + 1)))] rfl ?_
      refine owp_nil ?_
      exact lwp_at 0 (.slice (some p36) y14n y14c) (by kernel_rfl) (lwp_at 2 (.int .i64 y15) (by kernel_rfl) (lwp_at 7 (.pointer (some ⟨y16, 0, none⟩)) (by kernel_rfl) (lwp_at 8 (.int .i64 (IntKind.wrap .i64 (y17 + 1))) (by kernel_rfl) (ih (some p36) y14n y14c y15 y16 (IntKind.wrap .i64 (y17 + 1)) _ _ hM))))
    replace hM := ifF hc18 hM
    refine cwp_exit (thenE_x ?_)
    exact hK0  _ _ hM
def vt_row_erase (a1 : Option Addr) (a1n : Nat) (a1c : Nat) (a2 : Int) (a3 : Int) (a4 : ByteArray) (a5 : Int) (a6 : Int) (a7 : Int) (a8 : Int) (K : Heap → Prop) (h : Heap) : Prop :=
 newB h #[.string a4, .int .i64 a5, .int .i64 a6, .int .i64 a7, .int .i64 a8] 43 fun b9 h10 =>
 vt_row_cut a1 a1n a1c a2 (fun  h12 =>
  vt_row_cut a1 a1n a1c a3 (fun  h13 =>
   ∃ k40, vt_row_erase_l0
    (fun  h38 =>
          K h38) k40 a1 a1n a1c a3 b9 a2 h13) h12) h10
theorem vt_row_erase_ok (a1 : Option Addr) (a1n : Nat) (a1c : Nat) (a2 : Int) (a3 : Int) (a4 : ByteArray) (a5 : Int) (a6 : Int) (a7 : Int) (a8 : Int) (K : Heap → Prop) (h : Heap) (hM : vt_row_erase a1 a1n a1c a2 a3 a4 a5 a6 a7 a8 K h) : CallsH Tryd.prog 75 #[.slice a1 a1n a1c, .int .i64 a2, .int .i64 a3, .agg #[.string a4, .int .i64 a5, .int .i64 a6, .int .i64 a7, .int .i64 a8]] (fun v h' => v = .tuple #[] ∧ K h') h := by
 unfold vt_row_erase at hM
 refine callsH_intro (n := 25) Tryd.func75 rfl rfl (by kernel_rfl) ?_
 refine cR ?_
 refine oG (hpNew #[.string a4, .int .i64 a5, .int .i64 a6, .int .i64 a7, .int .i64 a8] 43 (fun _ => by kernel_rfl) ?_)
 intro b9 h10 hN11
 replace hM := newB_of hN11 hM
 refine oE (cR ?_)
 refine oS [(9, .slice a1 a1n a1c), (10, .int .i64 a2)] rfl ?_
 refine oG (hpCallE 49 #[.slice a1 a1n a1c, .int .i64 a2] (by kernel_rfl) (vt_row_cut_ok a1 a1n a1c a2 _ h10 hM) ?_)
 clear hM
 rintro _ h12 ⟨rfl, hM⟩
 refine oE (cR ?_)
 refine oS [(12, .slice a1 a1n a1c), (13, .int .i64 a3)] rfl ?_
 refine oG (hpCallE 49 #[.slice a1 a1n a1c, .int .i64 a3] (by kernel_rfl) (vt_row_cut_ok a1 a1n a1c a3 _ h12 hM) ?_)
 clear hM
 rintro _ h13 ⟨rfl, hM⟩
 refine oE (cR ?_)
 refine oS [(15, .int .i64 a2), (8, .int .i64 a2)] rfl ?_
 refine oE (cwp_block ?_)
 obtain ⟨k_, hM⟩ := hM
 refine cwp_loop k_ (lwp_of_part (fn := Tryd.f75) (p := [1, 1, 1, 1, 0, 0]) (by kernel_rfl) (lwp_at 0 (.slice a1 a1n a1c) (by kernel_rfl) (lwp_at 2 (.int .i64 a3) (by kernel_rfl) (lwp_at 7 (.pointer (some ⟨b9, 0, none⟩)) (by kernel_rfl) (lwp_at 8 (.int .i64 a2) (by kernel_rfl) (vt_row_erase_l0_ok _ ?_ k_ a1 a1n a1c a3 b9 a2 _ _ hM))))))
 · intro  b39 h38 hM
   refine blockE_h ?_
   exact end_ (.tuple #[]) (by kernel_rfl) ⟨rfl, hM⟩
/- (*mullion/vt.Screen).clears -/
def vt_Screen_clears_j0 (Kn : Addr → Int → Int → Option Addr → Nat → Nat → Nat → Heap → Prop) (y40 : Addr) (y41 : Int) (y42 : Int) (y43 : Option Addr) (y43n : Nat) (y43c : Nat) (y44 : Nat) (y45 : Int) (h : Heap) : Prop :=
 ldI h .i64 (y40.add 10) fun x46 =>
 nz y43 fun p52 =>
 0 ≤ x46 ∧
 x46 < (y43n : Int) ∧
 ldL h (p52.add ((x46).toNat * 1)) fun x53 x53n x53c =>
 ldI h .i64 y40 fun x57 =>
 ldS h ⟨y44, 0, none⟩ fun x61 =>
 ldI h .i64 ⟨y44, 1, none⟩ fun x63 =>
 ldI h .i64 ⟨y44, 2, none⟩ fun x65 =>
 ldI h .i64 ⟨y44, 3, none⟩ fun x67 =>
 ldI h .i64 ⟨y44, 4, none⟩ fun x69 =>
 vt_row_erase x53 x53n x53c y45 x57 x61 x63 x65 x67 x69 (fun  h81 =>
   Kn y40 y41 y42 (some p52) y43n y43c y44 h81) h
theorem vt_Screen_clears_j0_ok {Q : Exit → Env → Heap → Prop} (Kn : Addr → Int → Int → Option Addr → Nat → Nat → Nat → Heap → Prop) (hKn : ∀ (z92 : Addr) (z93 : Int) (z94 : Int) (z95 : Option Addr) (z95n : Nat) (z95c : Nat) (z96 : Nat) (b : Env) (h : Heap), Kn z92 z93 z94 z95 z95n z95c z96 h → Q .normal (upd (upd (upd (upd (upd b 0 (.pointer (some z92))) 1 (.int .u8 z93)) 2 (.int .i64 z94)) 6 (.slice z95 z95n z95c)) 7 (.pointer (some ⟨z96, 0, none⟩))) h) (y40 : Addr) (y41 : Int) (y42 : Int) (y43 : Option Addr) (y43n : Nat) (y43c : Nat) (y44 : Nat) (y45 : Int) (b : Env) (h : Heap) (hM : vt_Screen_clears_j0 Kn y40 y41 y42 y43 y43n y43c y44 y45 h) : cwp Tryd.prog (partC Tryd.f70 [1, 1, 1, 1, 1, 0, 1, 0, 1, 1]) 124 Q (upd (upd (upd (upd (upd (upd b 0 (.pointer (some y40))) 1 (.int .u8 y41)) 2 (.int .i64 y42)) 6 (.slice y43 y43n y43c)) 7 (.pointer (some ⟨y44, 0, none⟩))) 8 (.int .i64 y45)) h := by
  unfold vt_Screen_clears_j0 at hM
  refine cwp_part rfl ?_
  refine cwp_draw (by kernel_rfl) ?_
  refine kp 0 [6, 7, 14] (.slice y43 y43n y43c) ?_
  refine kp 1 [2, 3, 4, 5, 6, 7, 14] (.pointer (some y40)) ?_
  refine kp 2 [3, 4, 5, 6, 7, 14] (.pointer (some y40)) ?_
  refine kp 3 [4, 5, 6, 7, 14] (.pointer (some (y40.add 9))) ?_
  refine kp 4 [5, 6, 7, 14] (.pointer (some (y40.add 10))) ?_
  obtain ⟨x46, hc47, hM⟩ := hM
  refine kl 5 (.int .i64 x46) (y40.add 10) [6, 7, 14] [14] hc47 ?_
  obtain ⟨p52, rfl, hM⟩ := hM
  obtain ⟨hc50, hM⟩ := hM
  obtain ⟨hc51, hM⟩ := hM
  refine k_pure (i := 6) [7, 14] (.pointer (some (p52.add ((x46).toNat * 1)))) (by kernel_rfl) rfl rfl (by kernel_rfl) (fun h' => rd_ixS (P := Tryd.prog) (h := h') (t := 57) (el := 72) (sz := 1) (ad := p52) (len := y43n) (c := y43c) (k := .i64) (i := x46) (by kernel_rfl) (by kernel_rfl) hc50 hc51 (by kernel_rfl)) (by kernel_rfl) ?_
  obtain ⟨x53, x53n, x53c, hc54, hM⟩ := hM
  refine kl 7 (.slice x53 x53n x53c) (p52.add ((x46).toNat * 1)) [14] [14] hc54 ?_
  refine kp 8 [14] (.int .i64 y45) ?_
  refine kp 9 [10, 11, 12, 14] (.pointer (some y40)) ?_
  refine kp 10 [11, 12, 14] (.pointer (some y40)) ?_
  refine kp 11 [12, 14] (.pointer (some y40)) ?_
  obtain ⟨x57, hc58, hM⟩ := hM
  refine kl 12 (.int .i64 x57) y40 [14] [14] hc58 ?_
  obtain ⟨x61, hc62, hM⟩ := hM
  obtain ⟨x63, hc64, hM⟩ := hM
  obtain ⟨x65, hc66, hM⟩ := hM
  obtain ⟨x67, hc68, hM⟩ := hM
  obtain ⟨x69, hc70, hM⟩ := hM
  refine k_load (i := 13) (.agg #[.string x61, .int .i64 x63, .int .i64 x65, .int .i64 x67, .int .i64 x69]) (fun h' => cellH h' ⟨y44, 0, none⟩ = some (.string x61) ∧ cellH h' ⟨y44, 1, none⟩ = some (.int .i64 x63) ∧ cellH h' ⟨y44, 2, none⟩ = some (.int .i64 x65) ∧ cellH h' ⟨y44, 3, none⟩ = some (.int .i64 x67) ∧ cellH h' ⟨y44, 4, none⟩ = some (.int .i64 x69) ∧ True) [14] [14] (by kernel_rfl) (by kernel_rfl) rfl rfl (by kernel_rfl) (fun h' hS => Eq.trans (b := (cellH h' ⟨y44, 0, none⟩).bind fun v76 => (cellH h' ⟨y44, 1, none⟩).bind fun v77 => (cellH h' ⟨y44, 2, none⟩).bind fun v78 => (cellH h' ⟨y44, 3, none⟩).bind fun v79 => (cellH h' ⟨y44, 4, none⟩).bind fun v80 => some (.value (.agg #[v76, v77, v78, v79, v80]))) (by kernel_rfl) ((bindE hS.1 _).trans ((bindE hS.2.1 _).trans ((bindE hS.2.2.1 _).trans ((bindE hS.2.2.2.1 _).trans (bindE hS.2.2.2.2.1 _)))))) ⟨hc62, hc64, hc66, hc68, hc70, trivial⟩ (by kernel_rfl) ?_
  refine k_eff (j := 14) (by kernel_rfl) rfl rfl (by kernel_rfl) (hpCallE 75 #[.slice x53 x53n x53c, .int .i64 y45, .int .i64 x57, .agg #[.string x61, .int .i64 x63, .int .i64 x65, .int .i64 x67, .int .i64 x69]] (by kernel_rfl) (vt_row_erase_ok x53 x53n x53c y45 x57 x61 x63 x65 x67 x69 _ h hM) ?_)
  clear hM
  rintro _ h81 ⟨rfl, hM⟩
  refine ⟨trivial, ?_⟩
  refine k_done (by kernel_rfl) ?_
  exact q_at (Q := Q .normal) 0 (.pointer (some y40)) (by kernel_rfl) (q_at (Q := Q .normal) 1 (.int .u8 y41) (by kernel_rfl) (q_at (Q := Q .normal) 2 (.int .i64 y42) (by kernel_rfl) (q_at (Q := Q .normal) 6 (.slice (some p52) y43n y43c) (by kernel_rfl) (q_at (Q := Q .normal) 7 (.pointer (some ⟨y44, 0, none⟩)) (by kernel_rfl) (hKn y40 y41 y42 (some p52) y43n y43c y44 _ _ hM)))))
def vt_Screen_clears_l3 (K0 : Heap → Prop) : Nat → Addr → Int → Nat → Option Addr → Nat → Nat → Int → Int → Heap → Prop
  | 0, _, _, _, _, _, _, _, _, _ => False
  | k + 1, y151, y152, y153, y154, y154n, y154c, y155, y156, h =>
  if y156 < y155 then
   nz y154 fun p160 =>
   0 ≤ y156 ∧
   y156 < (y154n : Int) ∧
   ldL h (p160.add ((y156).toNat * 1)) fun x161 x161n x161c =>
   ldI h .i64 (y151.add 10) fun x164 =>
   if ((decide (y156 < x164)) && (decide (0 < y152))) = true then
    ldI h .i64 y151 fun x175 =>
    ldS h ⟨y153, 0, none⟩ fun x179 =>
    ldI h .i64 ⟨y153, 1, none⟩ fun x181 =>
    ldI h .i64 ⟨y153, 2, none⟩ fun x183 =>
    ldI h .i64 ⟨y153, 3, none⟩ fun x185 =>
    ldI h .i64 ⟨y153, 4, none⟩ fun x187 =>
    vt_row_erase x161 x161n x161c 0 x175 x179 x181 x183 x185 x187 (fun  h199 =>
      vt_Screen_clears_l3 K0 k y151 y152 y153 (some p160) y154n y154c y155 (IntKind.wrap .i64 (y156 + 1)) h199) h
   else
   ldI h .i64 (y151.add 10) fun x200 =>
   if ((decide (x200 < y156)) && (!decide (y152 = 1))) = true then
    ldI h .i64 y151 fun x208 =>
    ldS h ⟨y153, 0, none⟩ fun x212 =>
    ldI h .i64 ⟨y153, 1, none⟩ fun x214 =>
    ldI h .i64 ⟨y153, 2, none⟩ fun x216 =>
    ldI h .i64 ⟨y153, 3, none⟩ fun x218 =>
    ldI h .i64 ⟨y153, 4, none⟩ fun x220 =>
    vt_row_erase x161 x161n x161c 0 x208 x212 x214 x216 x218 x220 (fun  h232 =>
      vt_Screen_clears_l3 K0 k y151 y152 y153 (some p160) y154n y154c y155 (IntKind.wrap .i64 (y156 + 1)) h232) h
   else
   vt_Screen_clears_l3 K0 k y151 y152 y153 (some p160) y154n y154c y155 (IntKind.wrap .i64 (y156 + 1)) h
  else
  K0  h
theorem vt_Screen_clears_l3_ok {Q : Exit → Env → Heap → Prop} (K0 : Heap → Prop) (hK0 : ∀  (b : Env) (h : Heap), K0  h → Q (.exit 0) b h) : ∀ (k : Nat) (y151 : Addr) (y152 : Int) (y153 : Nat) (y154 : Option Addr) (y154n : Nat) (y154c : Nat) (y155 : Int) (y156 : Int) (b : Env) (h : Heap) (hM : vt_Screen_clears_l3 K0 k y151 y152 y153 y154 y154n y154c y155 y156 h), lwp Tryd.prog (partC Tryd.f70 [1, 1, 1, 1, 1, 1, 1, 1, 1, 0, 0]) 124 Q k (upd (upd (upd (upd (upd (upd b 0 (.pointer (some y151))) 2 (.int .i64 y152)) 7 (.pointer (some ⟨y153, 0, none⟩))) 85 (.slice y154 y154n y154c)) 86 (.int .i64 y155)) 87 (.int .i64 y156)) h := by
  intro k
  induction k with
  | zero => intro y151 y152 y153 y154 y154n y154c y155 y156 b h hM; exact (show False from hM).elim
  | succ k ih =>
    intro y151 y152 y153 y154 y154n y154c y155 y156 b h hM
    unfold vt_Screen_clears_l3 at hM
    refine lwp_succ (cwp_part rfl ?_)
    refine cR ?_
    refine oS [(88, .bool (decide (y156 < y155)))] rfl ?_
    refine oE (cwp_seq ?_)
    refine cwp_condD (y156 < y155) (by kernel_rfl) (fun hc157 => ?_) (fun hc157 => ?_)
    · replace hM := ifT hc157 hM
      refine cwp_skip (thenE_n (cwp_seq (cwp_block (cR ?_))))
      refine oS [(89, .int .i64 y156)] rfl ?_
      obtain ⟨p160, rfl, hM⟩ := hM
      obtain ⟨hc158, hM⟩ := hM
      obtain ⟨hc159, hM⟩ := hM
      refine owp_rdG (.pointer (some (p160.add ((y156).toNat * 1)))) rfl (by kernel_rfl) (rd_ixS (P := Tryd.prog) (h := h) (t := 57) (el := 72) (sz := 1) (ad := p160) (len := y154n) (c := y154c) (k := .i64) (i := y156) (by kernel_rfl) (by kernel_rfl) hc158 hc159 (by kernel_rfl)) ?_
      obtain ⟨x161, x161n, x161c, hc162, hM⟩ := hM
      refine oL (.slice x161 x161n x161c) (p160.add ((y156).toNat * 1)) hc162 ?_
      refine oS [(9, .int .i64 y156), (10, .slice x161 x161n x161c)] rfl ?_
      refine oE (cR ?_)
      refine oS [(92, .int .i64 y156), (93, .pointer (some y151)), (94, .pointer (some y151)), (95, .pointer (some (y151.add 9))), (96, .pointer (some (y151.add 10)))] rfl ?_
      obtain ⟨x164, hc165, hM⟩ := hM
      refine oL (.int .i64 x164) (y151.add 10) hc165 ?_
      refine oS [(98, .bool (decide (y156 < x164))), (99, .bool (decide (y156 < x164)))] rfl ?_
      refine oB (decide (y156 < x164)) 3 [98, 99] (fun b_ => [(100, iteV b_ (.int .i64 y152 : Value) undef), (101, iteV b_ (.bool (decide (0 < y152)) : Value) undef), (102, .bool (b_ && (decide (0 < y152))))]) rfl (fun hb167 hq168 => oS [(100, .int .i64 y152), (101, .bool (decide (0 < y152))), (102, .bool (decide (0 < y152)))] rfl (hq168)) (fun hb169 hq170 => oS [(100, undef), (101, undef), (102, .bool false)] rfl (hq170)) ?_
      refine oS [(103, .bool ((decide (y156 < x164)) && (decide (0 < y152))))] rfl ?_
      by_cases hc174 : ((decide (y156 < x164)) && (decide (0 < y152))) = true
      · refine oA 102 true ((decide (y156 < x164)) && (decide (0 < y152))) (by rw [hc174]) ?_
        refine oA 103 true ((decide (y156 < x164)) && (decide (0 < y152))) (by rw [hc174]) ?_
        replace hM := ifT hc174 hM
        refine oS [(104, undef), (105, undef), (106, undef), (107, undef), (108, undef), (109, undef), (110, undef), (111, undef), (112, undef), (113, undef), (114, undef), (115, .bool true)] rfl ?_
        refine oE ?_
        refine cwp_cond (t := true) (by kernel_rfl) (fun hx_ => ?_) (fun hx_ => ?_)
        all_goals first | (cases hx_; done) | skip
        refine cwp_draw (by kernel_rfl) ?_
        refine kp 0 [6] (.slice x161 x161n x161c) ?_
        refine kp 1 [2, 3, 4, 6] (.pointer (some y151)) ?_
        refine kp 2 [3, 4, 6] (.pointer (some y151)) ?_
        refine kp 3 [4, 6] (.pointer (some y151)) ?_
        obtain ⟨x175, hc176, hM⟩ := hM
        refine kl 4 (.int .i64 x175) y151 [6] [6] hc176 ?_
        obtain ⟨x179, hc180, hM⟩ := hM
        obtain ⟨x181, hc182, hM⟩ := hM
        obtain ⟨x183, hc184, hM⟩ := hM
        obtain ⟨x185, hc186, hM⟩ := hM
        obtain ⟨x187, hc188, hM⟩ := hM
        refine k_load (i := 5) (.agg #[.string x179, .int .i64 x181, .int .i64 x183, .int .i64 x185, .int .i64 x187]) (fun h' => cellH h' ⟨y153, 0, none⟩ = some (.string x179) ∧ cellH h' ⟨y153, 1, none⟩ = some (.int .i64 x181) ∧ cellH h' ⟨y153, 2, none⟩ = some (.int .i64 x183) ∧ cellH h' ⟨y153, 3, none⟩ = some (.int .i64 x185) ∧ cellH h' ⟨y153, 4, none⟩ = some (.int .i64 x187) ∧ True) [6] [6] (by kernel_rfl) (by kernel_rfl) rfl rfl (by kernel_rfl) (fun h' hS => Eq.trans (b := (cellH h' ⟨y153, 0, none⟩).bind fun v194 => (cellH h' ⟨y153, 1, none⟩).bind fun v195 => (cellH h' ⟨y153, 2, none⟩).bind fun v196 => (cellH h' ⟨y153, 3, none⟩).bind fun v197 => (cellH h' ⟨y153, 4, none⟩).bind fun v198 => some (.value (.agg #[v194, v195, v196, v197, v198]))) (by kernel_rfl) ((bindE hS.1 _).trans ((bindE hS.2.1 _).trans ((bindE hS.2.2.1 _).trans ((bindE hS.2.2.2.1 _).trans (bindE hS.2.2.2.2.1 _)))))) ⟨hc180, hc182, hc184, hc186, hc188, trivial⟩ (by kernel_rfl) ?_
        refine k_eff (j := 6) (by kernel_rfl) rfl rfl (by kernel_rfl) (hpCallE 75 #[.slice x161 x161n x161c, .int .i64 0, .int .i64 x175, .agg #[.string x179, .int .i64 x181, .int .i64 x183, .int .i64 x185, .int .i64 x187]] (by kernel_rfl) (vt_row_erase_ok x161 x161n x161c 0 x175 x179 x181 x183 x185 x187 _ h hM) ?_)
        clear hM
        rintro _ h199 ⟨rfl, hM⟩
        refine ⟨trivial, ?_⟩
        refine k_done (by kernel_rfl) ?_
        refine blockE_n (thenE_n (cwp_region ?_))
        refine oS [(123, .int .i64 (IntKind.wrap .i64 (y156 + 1))), (87, .int .i64 (IntKind.wrap .i64 (y156 + 1)))] rfl ?_
        refine owp_nil ?_
        exact lwp_at 0 (.pointer (some y151)) (by kernel_rfl) (lwp_at 2 (.int .i64 y152) (by kernel_rfl) (lwp_at 7 (.pointer (some ⟨y153, 0, none⟩)) (by kernel_rfl) (lwp_at 85 (.slice (some p160) y154n y154c) (by kernel_rfl) (lwp_at 86 (.int .i64 y155) (by kernel_rfl) (lwp_at 87 (.int .i64 (IntKind.wrap .i64 (y156 + 1))) (by kernel_rfl) (ih y151 y152 y153 (some p160) y154n y154c y155 (IntKind.wrap .i64 (y156 + 1)) _ _ hM))))))
      refine oA 102 false ((decide (y156 < x164)) && (decide (0 < y152))) (by rw [Bool.eq_false_iff.2 hc174]) ?_
      refine oA 103 false ((decide (y156 < x164)) && (decide (0 < y152))) (by rw [Bool.eq_false_iff.2 hc174]) ?_
      replace hM := ifF hc174 hM
      refine oS [(104, .int .i64 y156), (105, .pointer (some y151)), (106, .pointer (some y151)), (107, .pointer (some (y151.add 9))), (108, .pointer (some (y151.add 10)))] rfl ?_
      obtain ⟨x200, hc201, hM⟩ := hM
      refine oL (.int .i64 x200) (y151.add 10) hc201 ?_
      refine oS [(110, .bool (decide (x200 < y156))), (111, .bool (decide (x200 < y156)))] rfl ?_
      refine oB (decide (x200 < y156)) 3 [110, 111] (fun b_ => [(112, iteV b_ (.int .i64 y152 : Value) undef), (113, iteV b_ (.bool (!decide (y152 = 1)) : Value) undef), (114, .bool (b_ && (!decide (y152 = 1))))]) rfl (fun hb203 hq204 => oS [(112, .int .i64 y152), (113, .bool (!decide (y152 = 1))), (114, .bool (!decide (y152 = 1)))] rfl (hq204)) (fun hb205 hq206 => oS [(112, undef), (113, undef), (114, .bool false)] rfl (hq206)) ?_
      refine oS [(115, .bool ((decide (x200 < y156)) && (!decide (y152 = 1))))] rfl ?_
      refine oE ?_
      refine cwp_condB ((decide (x200 < y156)) && (!decide (y152 = 1))) (by kernel_rfl) (fun hc207 => ?_) (fun hc207 => ?_)
      · replace hM := ifT hc207 hM
        refine cwp_draw (by kernel_rfl) ?_
        refine kp 0 [6] (.slice x161 x161n x161c) ?_
        refine kp 1 [2, 3, 4, 6] (.pointer (some y151)) ?_
        refine kp 2 [3, 4, 6] (.pointer (some y151)) ?_
        refine kp 3 [4, 6] (.pointer (some y151)) ?_
        obtain ⟨x208, hc209, hM⟩ := hM
        refine kl 4 (.int .i64 x208) y151 [6] [6] hc209 ?_
        obtain ⟨x212, hc213, hM⟩ := hM
        obtain ⟨x214, hc215, hM⟩ := hM
        obtain ⟨x216, hc217, hM⟩ := hM
        obtain ⟨x218, hc219, hM⟩ := hM
        obtain ⟨x220, hc221, hM⟩ := hM
        refine k_load (i := 5) (.agg #[.string x212, .int .i64 x214, .int .i64 x216, .int .i64 x218, .int .i64 x220]) (fun h' => cellH h' ⟨y153, 0, none⟩ = some (.string x212) ∧ cellH h' ⟨y153, 1, none⟩ = some (.int .i64 x214) ∧ cellH h' ⟨y153, 2, none⟩ = some (.int .i64 x216) ∧ cellH h' ⟨y153, 3, none⟩ = some (.int .i64 x218) ∧ cellH h' ⟨y153, 4, none⟩ = some (.int .i64 x220) ∧ True) [6] [6] (by kernel_rfl) (by kernel_rfl) rfl rfl (by kernel_rfl) (fun h' hS => Eq.trans (b := (cellH h' ⟨y153, 0, none⟩).bind fun v227 => (cellH h' ⟨y153, 1, none⟩).bind fun v228 => (cellH h' ⟨y153, 2, none⟩).bind fun v229 => (cellH h' ⟨y153, 3, none⟩).bind fun v230 => (cellH h' ⟨y153, 4, none⟩).bind fun v231 => some (.value (.agg #[v227, v228, v229, v230, v231]))) (by kernel_rfl) ((bindE hS.1 _).trans ((bindE hS.2.1 _).trans ((bindE hS.2.2.1 _).trans ((bindE hS.2.2.2.1 _).trans (bindE hS.2.2.2.2.1 _)))))) ⟨hc213, hc215, hc217, hc219, hc221, trivial⟩ (by kernel_rfl) ?_
        refine k_eff (j := 6) (by kernel_rfl) rfl rfl (by kernel_rfl) (hpCallE 75 #[.slice x161 x161n x161c, .int .i64 0, .int .i64 x208, .agg #[.string x212, .int .i64 x214, .int .i64 x216, .int .i64 x218, .int .i64 x220]] (by kernel_rfl) (vt_row_erase_ok x161 x161n x161c 0 x208 x212 x214 x216 x218 x220 _ h hM) ?_)
        clear hM
        rintro _ h232 ⟨rfl, hM⟩
        refine ⟨trivial, ?_⟩
        refine k_done (by kernel_rfl) ?_
        refine blockE_n (thenE_n (cwp_region ?_))
        refine oS [(123, .int .i64 (IntKind.wrap .i64 (y156 + 1))), (87, .int .i64 (IntKind.wrap .i64 (y156 + 1)))] rfl ?_
        refine owp_nil ?_
        exact lwp_at 0 (.pointer (some y151)) (by kernel_rfl) (lwp_at 2 (.int .i64 y152) (by kernel_rfl) (lwp_at 7 (.pointer (some ⟨y153, 0, none⟩)) (by kernel_rfl) (lwp_at 85 (.slice (some p160) y154n y154c) (by kernel_rfl) (lwp_at 86 (.int .i64 y155) (by kernel_rfl) (lwp_at 87 (.int .i64 (IntKind.wrap .i64 (y156 + 1))) (by kernel_rfl) (ih y151 y152 y153 (some p160) y154n y154c y155 (IntKind.wrap .i64 (y156 + 1)) _ _ hM))))))
      replace hM := ifF hc207 hM
      refine cwp_skip (blockE_n (thenE_n (cwp_region ?_)))
      refine oS [(123, .int .i64 (IntKind.wrap .i64 (y156 + 1))), (87, .int .i64 (IntKind.wrap .i64 (y156 + 1)))] rfl ?_
      refine owp_nil ?_
      exact lwp_at 0 (.pointer (some y151)) (by kernel_rfl) (lwp_at 2 (.int .i64 y152) (by kernel_rfl) (lwp_at 7 (.pointer (some ⟨y153, 0, none⟩)) (by kernel_rfl) (lwp_at 85 (.slice (some p160) y154n y154c) (by kernel_rfl) (lwp_at 86 (.int .i64 y155) (by kernel_rfl) (lwp_at 87 (.int .i64 (IntKind.wrap .i64 (y156 + 1))) (by kernel_rfl) (ih y151 y152 y153 (some p160) y154n y154c y155 (IntKind.wrap .i64 (y156 + 1)) _ _ hM))))))
    replace hM := ifF hc157 hM
    refine cwp_exit (thenE_x ?_)
    exact hK0  _ _ hM
def vt_Screen_clears_j2 (Kn : Heap → Prop) (Kr : Heap → Prop) (y145 : Addr) (y146 : Int) (y147 : Int) (y148 : Option Addr) (y148n : Nat) (y148c : Nat) (y149 : Nat) (h : Heap) : Prop :=
 if y146 = 75 then
  Kr  h
 else
 ∃ k235, vt_Screen_clears_l3
  (fun  h233 =>
      Kn  h233) k235 y145 y147 y149 y148 y148n y148c (y148n : Int) 0 h
theorem vt_Screen_clears_j2_ok {Q : Exit → Env → Heap → Prop} (Kn : Heap → Prop) (hKn : ∀  (b : Env) (h : Heap), Kn  h → Q .normal b h) (Kr : Heap → Prop) (hKr : ∀  (b : Env) (h : Heap), Kr  h → Q .ret b h) (y145 : Addr) (y146 : Int) (y147 : Int) (y148 : Option Addr) (y148n : Nat) (y148c : Nat) (y149 : Nat) (b : Env) (h : Heap) (hM : vt_Screen_clears_j2 Kn Kr y145 y146 y147 y148 y148n y148c y149 h) : cwp Tryd.prog (partC Tryd.f70 [1, 1, 1, 1, 1, 1, 1]) 124 Q (upd (upd (upd (upd (upd b 0 (.pointer (some y145))) 1 (.int .u8 y146)) 2 (.int .i64 y147)) 6 (.slice y148 y148n y148c)) 7 (.pointer (some ⟨y149, 0, none⟩))) h := by
  unfold vt_Screen_clears_j2 at hM
  refine cwp_part rfl ?_
  refine cwp_seq (cR ?_)
  refine oS [(83, .int .u8 y146), (84, .bool (decide (y146 = 75)))] rfl ?_
  refine oE ?_
  refine cwp_condD (y146 = 75) (by kernel_rfl) (fun hc150 => ?_) (fun hc150 => ?_)
  · replace hM := ifT hc150 hM
    refine cwp_ret (thenE_r ?_)
    exact hKr  _ _ hM
  replace hM := ifF hc150 hM
  refine cwp_skip (thenE_n (cR ?_))
  refine oS [(85, .slice y148 y148n y148c), (86, .int .i64 (y148n : Int)), (87, .int .i64 0)] rfl ?_
  refine oE (cwp_block ?_)
  obtain ⟨k_, hM⟩ := hM
  refine cwp_loop k_ (lwp_of_part (fn := Tryd.f70) (p := [1, 1, 1, 1, 1, 1, 1, 1, 1, 0, 0]) (by kernel_rfl) (lwp_at 0 (.pointer (some y145)) (by kernel_rfl) (lwp_at 2 (.int .i64 y147) (by kernel_rfl) (lwp_at 7 (.pointer (some ⟨y149, 0, none⟩)) (by kernel_rfl) (lwp_at 85 (.slice y148 y148n y148c) (by kernel_rfl) (lwp_at 86 (.int .i64 (y148n : Int)) (by kernel_rfl) (lwp_at 87 (.int .i64 0) (by kernel_rfl) (vt_Screen_clears_l3_ok _ ?_ k_ y145 y147 y149 y148 y148n y148c (y148n : Int) 0 _ _ hM))))))))
  · intro  b234 h233 hM
    refine blockE_h ?_
    exact hKn  _ _ hM
def vt_Screen_clears_j1 (Kn : Heap → Prop) (Kr : Heap → Prop) (y103 : Addr) (y104 : Int) (y105 : Int) (y106 : Option Addr) (y106n : Nat) (y106c : Nat) (y107 : Nat) (h : Heap) : Prop :=
 if y105 = 1 then
  ldI h .i64 (y103.add 10) fun x109 =>
  nz y106 fun p115 =>
  0 ≤ x109 ∧
  x109 < (y106n : Int) ∧
  ldL h (p115.add ((x109).toNat * 1)) fun x116 x116n x116c =>
  ldI h .i64 (y103.add 9) fun x120 =>
  ldS h ⟨y107, 0, none⟩ fun x124 =>
  ldI h .i64 ⟨y107, 1, none⟩ fun x126 =>
  ldI h .i64 ⟨y107, 2, none⟩ fun x128 =>
  ldI h .i64 ⟨y107, 3, none⟩ fun x130 =>
  ldI h .i64 ⟨y107, 4, none⟩ fun x132 =>
  vt_row_erase x116 x116n x116c 0 (IntKind.wrap .i64 (x120 + 1)) x124 x126 x128 x130 x132 (fun  h144 =>
   vt_Screen_clears_j2
    (fun  h236 =>
        Kn  h236)
    (fun  h238 =>
         Kr  h238) y103 y104 y105 (some p115) y106n y106c y107 h144) h
 else
 vt_Screen_clears_j2
  (fun  h241 =>
      Kn  h241)
  (fun  h243 =>
      Kr  h243) y103 y104 y105 y106 y106n y106c y107 h
theorem vt_Screen_clears_j1_ok {Q : Exit → Env → Heap → Prop} (Kn : Heap → Prop) (hKn : ∀  (b : Env) (h : Heap), Kn  h → Q .normal b h) (Kr : Heap → Prop) (hKr : ∀  (b : Env) (h : Heap), Kr  h → Q .ret b h) (y103 : Addr) (y104 : Int) (y105 : Int) (y106 : Option Addr) (y106n : Nat) (y106c : Nat) (y107 : Nat) (b : Env) (h : Heap) (hM : vt_Screen_clears_j1 Kn Kr y103 y104 y105 y106 y106n y106c y107 h) : cwp Tryd.prog (partC Tryd.f70 [1, 1, 1, 1, 1, 1]) 124 Q (upd (upd (upd (upd (upd b 0 (.pointer (some y103))) 1 (.int .u8 y104)) 2 (.int .i64 y105)) 6 (.slice y106 y106n y106c)) 7 (.pointer (some ⟨y107, 0, none⟩))) h := by
  unfold vt_Screen_clears_j1 at hM
  refine cwp_part rfl ?_
  refine cwp_seq (cR ?_)
  refine oS [(65, .int .i64 y105), (66, .bool (decide (y105 = 1)))] rfl ?_
  refine oE ?_
  refine cwp_condD (y105 = 1) (by kernel_rfl) (fun hc108 => ?_) (fun hc108 => ?_)
  · replace hM := ifT hc108 hM
    refine cwp_draw (by kernel_rfl) ?_
    refine kp 0 [6, 7, 15] (.slice y106 y106n y106c) ?_
    refine kp 1 [2, 3, 4, 5, 6, 7, 15] (.pointer (some y103)) ?_
    refine kp 2 [3, 4, 5, 6, 7, 15] (.pointer (some y103)) ?_
    refine kp 3 [4, 5, 6, 7, 15] (.pointer (some (y103.add 9))) ?_
    refine kp 4 [5, 6, 7, 15] (.pointer (some (y103.add 10))) ?_
    obtain ⟨x109, hc110, hM⟩ := hM
    refine kl 5 (.int .i64 x109) (y103.add 10) [6, 7, 15] [15] hc110 ?_
    obtain ⟨p115, rfl, hM⟩ := hM
    obtain ⟨hc113, hM⟩ := hM
    obtain ⟨hc114, hM⟩ := hM
    refine k_pure (i := 6) [7, 15] (.pointer (some (p115.add ((x109).toNat * 1)))) (by kernel_rfl) rfl rfl (by kernel_rfl) (fun h' => rd_ixS (P := Tryd.prog) (h := h') (t := 57) (el := 72) (sz := 1) (ad := p115) (len := y106n) (c := y106c) (k := .i64) (i := x109) (by kernel_rfl) (by kernel_rfl) hc113 hc114 (by kernel_rfl)) (by kernel_rfl) ?_
    obtain ⟨x116, x116n, x116c, hc117, hM⟩ := hM
    refine kl 7 (.slice x116 x116n x116c) (p115.add ((x109).toNat * 1)) [15] [15] hc117 ?_
    refine kp 8 [9, 10, 11, 12, 13, 15] (.pointer (some y103)) ?_
    refine kp 9 [10, 11, 12, 13, 15] (.pointer (some y103)) ?_
    refine kp 10 [11, 12, 13, 15] (.pointer (some (y103.add 9))) ?_
    refine kp 11 [12, 13, 15] (.pointer (some (y103.add 9))) ?_
    obtain ⟨x120, hc121, hM⟩ := hM
    refine kl 12 (.int .i64 x120) (y103.add 9) [13, 15] [15] hc121 ?_
    refine kp 13 [15] (.int .i64 (IntKind.wrap .i64 (x120 + 1))) ?_
    obtain ⟨x124, hc125, hM⟩ := hM
    obtain ⟨x126, hc127, hM⟩ := hM
    obtain ⟨x128, hc129, hM⟩ := hM
    obtain ⟨x130, hc131, hM⟩ := hM
    obtain ⟨x132, hc133, hM⟩ := hM
    refine k_load (i := 14) (.agg #[.string x124, .int .i64 x126, .int .i64 x128, .int .i64 x130, .int .i64 x132]) (fun h' => cellH h' ⟨y107, 0, none⟩ = some (.string x124) ∧ cellH h' ⟨y107, 1, none⟩ = some (.int .i64 x126) ∧ cellH h' ⟨y107, 2, none⟩ = some (.int .i64 x128) ∧ cellH h' ⟨y107, 3, none⟩ = some (.int .i64 x130) ∧ cellH h' ⟨y107, 4, none⟩ = some (.int .i64 x132) ∧ True) [15] [15] (by kernel_rfl) (by kernel_rfl) rfl rfl (by kernel_rfl) (fun h' hS => Eq.trans (b := (cellH h' ⟨y107, 0, none⟩).bind fun v139 => (cellH h' ⟨y107, 1, none⟩).bind fun v140 => (cellH h' ⟨y107, 2, none⟩).bind fun v141 => (cellH h' ⟨y107, 3, none⟩).bind fun v142 => (cellH h' ⟨y107, 4, none⟩).bind fun v143 => some (.value (.agg #[v139, v140, v141, v142, v143]))) (by kernel_rfl) ((bindE hS.1 _).trans ((bindE hS.2.1 _).trans ((bindE hS.2.2.1 _).trans ((bindE hS.2.2.2.1 _).trans (bindE hS.2.2.2.2.1 _)))))) ⟨hc125, hc127, hc129, hc131, hc133, trivial⟩ (by kernel_rfl) ?_
    refine k_eff (j := 15) (by kernel_rfl) rfl rfl (by kernel_rfl) (hpCallE 75 #[.slice x116 x116n x116c, .int .i64 0, .int .i64 (IntKind.wrap .i64 (x120 + 1)), .agg #[.string x124, .int .i64 x126, .int .i64 x128, .int .i64 x130, .int .i64 x132]] (by kernel_rfl) (vt_row_erase_ok x116 x116n x116c 0 (IntKind.wrap .i64 (x120 + 1)) x124 x126 x128 x130 x132 _ h hM) ?_)
    clear hM
    rintro _ h144 ⟨rfl, hM⟩
    refine ⟨trivial, ?_⟩
    refine k_done (by kernel_rfl) ?_
    refine thenE_n ?_
    refine cwp_of_part (fn := Tryd.f70) (p := [1, 1, 1, 1, 1, 1, 1]) (by kernel_rfl) (cwp_at 0 (.pointer (some y103)) (by kernel_rfl) (cwp_at 1 (.int .u8 y104) (by kernel_rfl) (cwp_at 2 (.int .i64 y105) (by kernel_rfl) (cwp_at 6 (.slice (some p115) y106n y106c) (by kernel_rfl) (cwp_at 7 (.pointer (some ⟨y107, 0, none⟩)) (by kernel_rfl) (vt_Screen_clears_j2_ok _ ?_ _ ?_ y103 y104 y105 (some p115) y106n y106c y107 _ _ hM))))))
    · intro  b237 h236 hM
      exact hKn  _ _ hM
    · intro  b239 h238 hM
      exact hKr  _ _ hM
  replace hM := ifF hc108 hM
  refine cwp_skip (thenE_n ?_)
  refine cwp_of_part (fn := Tryd.f70) (p := [1, 1, 1, 1, 1, 1, 1]) (by kernel_rfl) (cwp_at 0 (.pointer (some y103)) (by kernel_rfl) (cwp_at 1 (.int .u8 y104) (by kernel_rfl) (cwp_at 2 (.int .i64 y105) (by kernel_rfl) (cwp_at 6 (.slice y106 y106n y106c) (by kernel_rfl) (cwp_at 7 (.pointer (some ⟨y107, 0, none⟩)) (by kernel_rfl) (vt_Screen_clears_j2_ok _ ?_ _ ?_ y103 y104 y105 y106 y106n y106c y107 _ _ hM))))))
  · intro  b242 h241 hM
    exact hKn  _ _ hM
  · intro  b244 h243 hM
    exact hKr  _ _ hM
def vt_Screen_clears (a1 : Option Addr) (a2 : Int) (a3 : Int) (K : Heap → Prop) (h : Heap) : Prop :=
 vt_Screen_shown a1 (fun x5 h4 =>
  nz x5 fun p6 =>
  ldL h4 p6 fun x7 x7n x7c =>
  vt_Screen_erased a1 (fun x11 x12 x13 x14 x15 h10 =>
   newB h10 #[.string (⟨#[]⟩ : ByteArray), .int .i64 0, .int .i64 0, .int .i64 0, .int .i64 0] 43 fun b16 h17 =>
   stN ⟨b16, 0, none⟩ [.string x11, .int .i64 x12, .int .i64 x13, .int .i64 x14, .int .i64 x15] 0 h17 fun h19 =>
   if ((decide (a3 = 3)) && (decide (a2 = 74))) = true then
    nz a1 fun p25 =>
    stN (p25.add 8) [.slice none 0 0] 0 h19 fun h26 =>
    stN (p25.add 18) [.bool false] 0 h26 fun h27 =>
    K h27
   else
   if 2 < a3 then
    K h19
   else
   nz a1 fun p29 =>
   stN (p29.add 18) [.bool false] 0 h19 fun h30 =>
   if ((decide (a3 = 0)) || (decide (a3 = 2))) = true then
    ldI h30 .i64 (p29.add 9) fun x36 =>
    if a3 = 2 then
     vt_Screen_clears_j0
      (fun z97 z98 z99 z100 z100n z100c z101 h102 =>
        vt_Screen_clears_j1
         (fun  h246 =>
             K h246)
         (fun  h248 =>
               K h248) z97 z98 z99 z100 z100n z100c z101 h102) p29 a2 a3 x7 x7n x7c b16 0 h30
    else
    vt_Screen_clears_j0
     (fun z253 z254 z255 z256 z256n z256c z257 h258 =>
       vt_Screen_clears_j1
        (fun  h259 =>
            K h259)
        (fun  h261 =>
              K h261) z253 z254 z255 z256 z256n z256c z257 h258) p29 a2 a3 x7 x7n x7c b16 x36 h30
   else
   vt_Screen_clears_j1
    (fun  h266 =>
        K h266)
    (fun  h268 =>
          K h268) p29 a2 a3 x7 x7n x7c b16 h30) h4) h
theorem vt_Screen_clears_ok (a1 : Option Addr) (a2 : Int) (a3 : Int) (K : Heap → Prop) (h : Heap) (hM : vt_Screen_clears a1 a2 a3 K h) : CallsH Tryd.prog 70 #[.pointer a1, .int .u8 a2, .int .i64 a3] (fun v h' => v = .tuple #[] ∧ K h') h := by
 unfold vt_Screen_clears at hM
 refine callsH_intro (n := 124) Tryd.func70 rfl rfl (by kernel_rfl) ?_
 refine cR ?_
 refine oS [(11, .pointer a1)] rfl ?_
 refine oG (hpCallE 22 #[.pointer a1] (by kernel_rfl) (vt_Screen_shown_ok a1 _ h hM) ?_)
 clear hM
 rintro _ h4 ⟨x5, rfl, hM⟩
 obtain ⟨p6, rfl, hM⟩ := hM
 refine owp_rdG (.pointer (some p6)) rfl (by kernel_rfl) (by kernel_rfl) ?_
 refine oS [(14, .pointer (some p6))] rfl ?_
 obtain ⟨x7, x7n, x7c, hc8, hM⟩ := hM
 refine oL (.slice x7 x7n x7c) p6 hc8 ?_
 refine oS [(6, .slice x7 x7n x7c)] rfl ?_
 refine oE (cR ?_)
 refine oS [(16, .pointer a1)] rfl ?_
 refine oG (hpCallE 63 #[.pointer a1] (by kernel_rfl) (vt_Screen_erased_ok a1 _ h4 hM) ?_)
 clear hM
 rintro _ h10 ⟨x11, x12, x13, x14, x15, rfl, hM⟩
 refine oG (hpNew #[.string (⟨#[]⟩ : ByteArray), .int .i64 0, .int .i64 0, .int .i64 0, .int .i64 0] 43 (fun _ => by kernel_rfl) ?_)
 intro b16 h17 hN18
 replace hM := newB_of hN18 hM
 refine oT ⟨b16, 0, none⟩ [.string x11, .int .i64 x12, .int .i64 x13, .int .i64 x14, .int .i64 x15] hM ?_
 clear hM
 intro h19 hM
 refine oE (cwp_seq (cR ?_))
 refine oS [(18, .int .i64 a3), (19, .bool (decide (a3 = 3))), (20, .bool (decide (a3 = 3)))] rfl ?_
 refine oB (decide (a3 = 3)) 3 [19, 20] (fun b_ => [(21, iteV b_ (.int .u8 a2 : Value) undef), (22, iteV b_ (.bool (decide (a2 = 74)) : Value) undef), (23, .bool (b_ && (decide (a2 = 74))))]) rfl (fun hb20 hq21 => oS [(21, .int .u8 a2), (22, .bool (decide (a2 = 74))), (23, .bool (decide (a2 = 74)))] rfl (hq21)) (fun hb22 hq23 => oS [(21, undef), (22, undef), (23, .bool false)] rfl (hq23)) ?_
 refine oE ?_
 refine cwp_condB ((decide (a3 = 3)) && (decide (a2 = 74))) (by kernel_rfl) (fun hc24 => ?_) (fun hc24 => ?_)
 · replace hM := ifT hc24 hM
   refine cR ?_
   refine oS [(24, .pointer a1)] rfl ?_
   obtain ⟨p25, rfl, hM⟩ := hM
   refine owp_rdG (.pointer (some p25)) rfl (by kernel_rfl) (by kernel_rfl) ?_
   refine oS [(26, .pointer (some (p25.add 8)))] rfl ?_
   refine oT (p25.add 8) [.slice none 0 0] hM ?_
   clear hM
   intro h26 hM
   refine oE (cR ?_)
   refine oS [(27, .pointer (some p25)), (28, .pointer (some p25)), (29, .pointer (some (p25.add 9))), (30, .pointer (some (p25.add 18)))] rfl ?_
   refine oT (p25.add 18) [.bool false] hM ?_
   clear hM
   intro h27 hM
   refine oE (cwp_ret (thenE_r ?_))
   exact ret_ (.tuple #[]) (by kernel_rfl) ⟨rfl, hM⟩
 replace hM := ifF hc24 hM
 refine cwp_skip (thenE_n (cwp_seq (cR ?_)))
 refine oS [(31, .int .i64 a3), (32, .bool (decide (2 < a3)))] rfl ?_
 refine oE ?_
 refine cwp_condD (2 < a3) (by kernel_rfl) (fun hc28 => ?_) (fun hc28 => ?_)
 · replace hM := ifT hc28 hM
   refine cwp_ret (thenE_r ?_)
   exact ret_ (.tuple #[]) (by kernel_rfl) ⟨rfl, hM⟩
 replace hM := ifF hc28 hM
 refine cwp_skip (thenE_n (cR ?_))
 refine oS [(33, .pointer a1)] rfl ?_
 obtain ⟨p29, rfl, hM⟩ := hM
 refine owp_rdG (.pointer (some p29)) rfl (by kernel_rfl) (by kernel_rfl) ?_
 refine oS [(35, .pointer (some (p29.add 9))), (36, .pointer (some (p29.add 18)))] rfl ?_
 refine oT (p29.add 18) [.bool false] hM ?_
 clear hM
 intro h30 hM
 refine oE (cwp_seq (cR ?_))
 refine oS [(37, .int .i64 a3), (38, .bool (decide (a3 = 0))), (39, .bool (decide (a3 = 0)))] rfl ?_
 refine oB (decide (a3 = 0)) 3 [38, 39] (fun b_ => [(40, iteV b_ undef (.int .i64 a3 : Value)), (41, iteV b_ undef (.bool (decide (a3 = 2)) : Value)), (42, .bool (b_ || (decide (a3 = 2))))]) rfl (fun hb31 hq32 => oS [(40, undef), (41, undef), (42, .bool true)] rfl (hq32)) (fun hb33 hq34 => oS [(40, .int .i64 a3), (41, .bool (decide (a3 = 2))), (42, .bool (decide (a3 = 2)))] rfl (hq34)) ?_
 refine oE ?_
 refine cwp_condB ((decide (a3 = 0)) || (decide (a3 = 2))) (by kernel_rfl) (fun hc35 => ?_) (fun hc35 => ?_)
 · replace hM := ifT hc35 hM
   refine cR ?_
   refine oS [(43, .pointer (some p29)), (44, .pointer (some p29)), (45, .pointer (some (p29.add 9))), (46, .pointer (some (p29.add 9)))] rfl ?_
   obtain ⟨x36, hc37, hM⟩ := hM
   refine oL (.int .i64 x36) (p29.add 9) hc37 ?_
   refine oS [(8, .int .i64 x36)] rfl ?_
   refine oE (cwp_seq (cR ?_))
   refine oS [(48, .int .i64 a3), (49, .bool (decide (a3 = 2)))] rfl ?_
   refine oE ?_
   refine cwp_condD (a3 = 2) (by kernel_rfl) (fun hc39 => ?_) (fun hc39 => ?_)
   · replace hM := ifT hc39 hM
     refine cwp_region ?_
     refine oS [(8, .int .i64 0)] rfl ?_
     refine oE ?_
     refine cwp_of_part (fn := Tryd.f70) (p := [1, 1, 1, 1, 1, 0, 1, 0, 1, 1]) (by kernel_rfl) (cwp_at 0 (.pointer (some p29)) (by kernel_rfl) (cwp_at 1 (.int .u8 a2) (by kernel_rfl) (cwp_at 2 (.int .i64 a3) (by kernel_rfl) (cwp_at 6 (.slice x7 x7n x7c) (by kernel_rfl) (cwp_at 7 (.pointer (some ⟨b16, 0, none⟩)) (by kernel_rfl) (cwp_at 8 (.int .i64 0) (by kernel_rfl) (vt_Screen_clears_j0_ok _ ?_ p29 a2 a3 x7 x7n x7c b16 0 _ _ hM)))))))
     · intro z97 z98 z99 z100 z100n z100c z101 b251 h102 hM
       refine thenE_n ?_
       refine cwp_of_part (fn := Tryd.f70) (p := [1, 1, 1, 1, 1, 1]) (by kernel_rfl) (cwp_at 0 (.pointer (some z97)) (by kernel_rfl) (cwp_at 1 (.int .u8 z98) (by kernel_rfl) (cwp_at 2 (.int .i64 z99) (by kernel_rfl) (cwp_at 6 (.slice z100 z100n z100c) (by kernel_rfl) (cwp_at 7 (.pointer (some ⟨z101, 0, none⟩)) (by kernel_rfl) (vt_Screen_clears_j1_ok _ ?_ _ ?_ z97 z98 z99 z100 z100n z100c z101 _ _ hM))))))
       · intro  b247 h246 hM
         exact end_ (.tuple #[]) (by kernel_rfl) ⟨rfl, hM⟩
       · intro  b249 h248 hM
         exact ret_ (.tuple #[]) (by kernel_rfl) ⟨rfl, hM⟩
   replace hM := ifF hc39 hM
   refine cwp_skip (thenE_n ?_)
   refine cwp_of_part (fn := Tryd.f70) (p := [1, 1, 1, 1, 1, 0, 1, 0, 1, 1]) (by kernel_rfl) (cwp_at 0 (.pointer (some p29)) (by kernel_rfl) (cwp_at 1 (.int .u8 a2) (by kernel_rfl) (cwp_at 2 (.int .i64 a3) (by kernel_rfl) (cwp_at 6 (.slice x7 x7n x7c) (by kernel_rfl) (cwp_at 7 (.pointer (some ⟨b16, 0, none⟩)) (by kernel_rfl) (cwp_at 8 (.int .i64 x36) (by kernel_rfl) (vt_Screen_clears_j0_ok _ ?_ p29 a2 a3 x7 x7n x7c b16 x36 _ _ hM)))))))
   · intro z253 z254 z255 z256 z256n z256c z257 b264 h258 hM
     refine thenE_n ?_
     refine cwp_of_part (fn := Tryd.f70) (p := [1, 1, 1, 1, 1, 1]) (by kernel_rfl) (cwp_at 0 (.pointer (some z253)) (by kernel_rfl) (cwp_at 1 (.int .u8 z254) (by kernel_rfl) (cwp_at 2 (.int .i64 z255) (by kernel_rfl) (cwp_at 6 (.slice z256 z256n z256c) (by kernel_rfl) (cwp_at 7 (.pointer (some ⟨z257, 0, none⟩)) (by kernel_rfl) (vt_Screen_clears_j1_ok _ ?_ _ ?_ z253 z254 z255 z256 z256n z256c z257 _ _ hM))))))
     · intro  b260 h259 hM
       exact end_ (.tuple #[]) (by kernel_rfl) ⟨rfl, hM⟩
     · intro  b262 h261 hM
       exact ret_ (.tuple #[]) (by kernel_rfl) ⟨rfl, hM⟩
 replace hM := ifF hc35 hM
 refine cwp_skip (thenE_n ?_)
 refine cwp_of_part (fn := Tryd.f70) (p := [1, 1, 1, 1, 1, 1]) (by kernel_rfl) (cwp_at 0 (.pointer (some p29)) (by kernel_rfl) (cwp_at 1 (.int .u8 a2) (by kernel_rfl) (cwp_at 2 (.int .i64 a3) (by kernel_rfl) (cwp_at 6 (.slice x7 x7n x7c) (by kernel_rfl) (cwp_at 7 (.pointer (some ⟨b16, 0, none⟩)) (by kernel_rfl) (vt_Screen_clears_j1_ok _ ?_ _ ?_ p29 a2 a3 x7 x7n x7c b16 _ _ hM))))))
 · intro  b267 h266 hM
   exact end_ (.tuple #[]) (by kernel_rfl) ⟨rfl, hM⟩
 · intro  b269 h268 hM
   exact ret_ (.tuple #[]) (by kernel_rfl) ⟨rfl, hM⟩
/- (*mullion/vt.Screen).lines1 -/
def vt_Screen_lines1 (a1 : Option Addr) (a2 : Int) (a3 : Int) (K : Heap → Prop) (h : Heap) : Prop :=
 nz a1 fun p4 =>
 ldI h .i64 (p4.add 10) fun x5 =>
 ldI h .i64 (p4.add 19) fun x9 =>
 if x5 < x9 then
  K h
 else
 ldI h .i64 (p4.add 10) fun x14 =>
 ldI h .i64 (p4.add 20) fun x18 =>
 if x18 < x14 then
  K h
 else
 if a2 = 76 then
  ldI h .i64 (p4.add 10) fun x24 =>
  ldI h .i64 (p4.add 20) fun x28 =>
  vt_Screen_down (some p4) x24 x28 a3 (fun  h32 =>
   ldI h32 .i64 (p4.add 10) fun x33 =>
   vt_Screen_to (some p4) 0 x33 (fun  h36 =>
      K h36) h32) h
 else
 ldI h .i64 (p4.add 10) fun x37 =>
 ldI h .i64 (p4.add 20) fun x41 =>
 vt_Screen_up (some p4) x37 x41 a3 false (fun  h45 =>
  ldI h45 .i64 (p4.add 10) fun x46 =>
  vt_Screen_to (some p4) 0 x46 (fun  h49 =>
     K h49) h45) h
theorem vt_Screen_lines1_ok (a1 : Option Addr) (a2 : Int) (a3 : Int) (K : Heap → Prop) (h : Heap) (hM : vt_Screen_lines1 a1 a2 a3 K h) : CallsH Tryd.prog 71 #[.pointer a1, .int .u8 a2, .int .i64 a3] (fun v h' => v = .tuple #[] ∧ K h') h := by
 unfold vt_Screen_lines1 at hM
 refine callsH_intro (n := 61) Tryd.func71 rfl rfl (by kernel_rfl) ?_
 refine cwp_seq (cwp_seq ?_)
 refine cwp_draw (by kernel_rfl) ?_
 refine kp 0 [1, 2, 3, 4, 9, 10, 11, 12, 13, 14, 15, 16, 17, 18, 19, 20, 21] (.pointer a1) ?_
 obtain ⟨p4, rfl, hM⟩ := hM
 refine kp 1 [2, 3, 4, 9, 10, 11, 12, 13, 14, 15, 16, 17, 18, 19, 20, 21] (.pointer (some p4)) ?_
 refine kp 2 [3, 4, 9, 10, 11, 12, 13, 14, 15, 16, 17, 18, 19, 20, 21] (.pointer (some (p4.add 9))) ?_
 refine kp 3 [4, 9, 10, 11, 12, 13, 14, 15, 16, 17, 18, 19, 20, 21] (.pointer (some (p4.add 10))) ?_
 obtain ⟨x5, hc6, hM⟩ := hM
 refine kl 4 (.int .i64 x5) (p4.add 10) [9, 10, 11, 12, 13, 14, 15, 16, 17, 18, 19, 20, 21] [] hc6 ?_
 refine kp 5 [6, 7, 8, 9, 10, 11, 12, 13, 14, 15, 16, 17, 18, 19, 20, 21] (.pointer (some p4)) ?_
 refine kp 6 [7, 8, 9, 10, 11, 12, 13, 14, 15, 16, 17, 18, 19, 20, 21] (.pointer (some p4)) ?_
 refine kp 7 [8, 9, 10, 11, 12, 13, 14, 15, 16, 17, 18, 19, 20, 21] (.pointer (some (p4.add 19))) ?_
 obtain ⟨x9, hc10, hM⟩ := hM
 refine kl 8 (.int .i64 x9) (p4.add 19) [9, 10, 11, 12, 13, 14, 15, 16, 17, 18, 19, 20, 21] [] hc10 ?_
 refine kp 9 [10, 11, 12, 13, 14, 15, 16, 17, 18, 19, 20, 21] (.bool (decide (x5 < x9))) ?_
 refine kp 10 [11, 12, 13, 14, 15, 16, 17, 18, 19, 20, 21] (.bool (decide (x5 < x9))) ?_
 by_cases hc13 : x5 < x9
 · refine kA 15 true (decide (x5 < x9)) (by rw [decide_eq_true hc13]) ?_
   refine kA 16 true (decide (x5 < x9)) (by rw [decide_eq_true hc13]) ?_
   replace hM := ifT hc13 hM
   refine kn 11 [12, 13, 14, 15, 20, 21] ?_
   refine kn 12 [13, 14, 15, 20, 21] ?_
   refine kn 13 [14, 15, 20, 21] ?_
   refine kn 14 [15, 20, 21] ?_
   refine kn 15 [20, 21] ?_
   refine kn 16 [17, 18, 19, 20, 21] ?_
   refine kn 17 [18, 19, 20, 21] ?_
   refine kn 18 [19, 20, 21] ?_
   refine kn 19 [20, 21] ?_
   refine kn 20 [21] ?_
   refine kp 21 [] (.bool true) ?_
   refine k_done (by kernel_rfl) ?_
   refine thenE_n ?_
   refine cwp_cond (t := true) (by kernel_rfl) (fun hx_ => ?_) (fun hx_ => ?_)
   all_goals first | (cases hx_; done) | skip
   refine cwp_ret (thenE_r ?_)
   exact ret_ (.tuple #[]) (by kernel_rfl) ⟨rfl, hM⟩
 refine kA 15 false (decide (x5 < x9)) (by rw [decide_eq_false hc13]) ?_
 refine kA 16 false (decide (x5 < x9)) (by rw [decide_eq_false hc13]) ?_
 replace hM := ifF hc13 hM
 refine kp 11 [12, 13, 14, 15, 20, 21] (.pointer (some p4)) ?_
 refine kp 12 [13, 14, 15, 20, 21] (.pointer (some p4)) ?_
 refine kp 13 [14, 15, 20, 21] (.pointer (some (p4.add 9))) ?_
 refine kp 14 [15, 20, 21] (.pointer (some (p4.add 10))) ?_
 obtain ⟨x14, hc15, hM⟩ := hM
 refine kl 15 (.int .i64 x14) (p4.add 10) [20, 21] [] hc15 ?_
 refine kp 16 [17, 18, 19, 20, 21] (.pointer (some p4)) ?_
 refine kp 17 [18, 19, 20, 21] (.pointer (some p4)) ?_
 refine kp 18 [19, 20, 21] (.pointer (some (p4.add 20))) ?_
 obtain ⟨x18, hc19, hM⟩ := hM
 refine kl 19 (.int .i64 x18) (p4.add 20) [20, 21] [] hc19 ?_
 refine kp 20 [21] (.bool (decide (x18 < x14))) ?_
 refine kp 21 [] (.bool (decide (x18 < x14))) ?_
 refine k_done (by kernel_rfl) ?_
 refine thenE_n ?_
 refine cwp_condD (x18 < x14) (by kernel_rfl) (fun hc22 => ?_) (fun hc22 => ?_)
 · replace hM := ifT hc22 hM
   refine cwp_ret (thenE_r ?_)
   exact ret_ (.tuple #[]) (by kernel_rfl) ⟨rfl, hM⟩
 replace hM := ifF hc22 hM
 refine cwp_skip (thenE_n (cwp_seq (cR ?_)))
 refine oS [(28, .int .u8 a2), (29, .bool (decide (a2 = 76)))] rfl ?_
 refine oE ?_
 refine cwp_condD (a2 = 76) (by kernel_rfl) (fun hc23 => ?_) (fun hc23 => ?_)
 · replace hM := ifT hc23 hM
   refine cwp_draw (by kernel_rfl) ?_
   refine kp 0 [11] (.pointer (some p4)) ?_
   refine kp 1 [2, 3, 4, 5, 11] (.pointer (some p4)) ?_
   refine kp 2 [3, 4, 5, 11] (.pointer (some p4)) ?_
   refine kp 3 [4, 5, 11] (.pointer (some (p4.add 9))) ?_
   refine kp 4 [5, 11] (.pointer (some (p4.add 10))) ?_
   obtain ⟨x24, hc25, hM⟩ := hM
   refine kl 5 (.int .i64 x24) (p4.add 10) [11] [11] hc25 ?_
   refine kp 6 [7, 8, 9, 11] (.pointer (some p4)) ?_
   refine kp 7 [8, 9, 11] (.pointer (some p4)) ?_
   refine kp 8 [9, 11] (.pointer (some (p4.add 20))) ?_
   obtain ⟨x28, hc29, hM⟩ := hM
   refine kl 9 (.int .i64 x28) (p4.add 20) [11] [11] hc29 ?_
   refine kp 10 [11] (.int .i64 a3) ?_
   refine k_eff (j := 11) (by kernel_rfl) rfl rfl (by kernel_rfl) (hpCallE 55 #[.pointer (some p4), .int .i64 x24, .int .i64 x28, .int .i64 a3] (by kernel_rfl) (vt_Screen_down_ok (some p4) x24 x28 a3 _ h hM) ?_)
   clear hM
   rintro _ h32 ⟨rfl, hM⟩
   refine ⟨trivial, ?_⟩
   refine k_done (by kernel_rfl) ?_
   refine thenE_n (cwp_region ?_)
   refine oS [(54, .pointer (some p4)), (55, .pointer (some p4)), (56, .pointer (some p4)), (57, .pointer (some (p4.add 9))), (58, .pointer (some (p4.add 10)))] rfl ?_
   obtain ⟨x33, hc34, hM⟩ := hM
   refine oL (.int .i64 x33) (p4.add 10) hc34 ?_
   refine oG (hpCallE 51 #[.pointer (some p4), .int .i64 0, .int .i64 x33] (by kernel_rfl) (vt_Screen_to_ok (some p4) 0 x33 _ h32 hM) ?_)
   clear hM
   rintro _ h36 ⟨rfl, hM⟩
   refine owp_nil ?_
   exact end_ (.tuple #[]) (by kernel_rfl) ⟨rfl, hM⟩
 replace hM := ifF hc23 hM
 refine cwp_draw (by kernel_rfl) ?_
 refine kp 0 [11] (.pointer (some p4)) ?_
 refine kp 1 [2, 3, 4, 5, 11] (.pointer (some p4)) ?_
 refine kp 2 [3, 4, 5, 11] (.pointer (some p4)) ?_
 refine kp 3 [4, 5, 11] (.pointer (some (p4.add 9))) ?_
 refine kp 4 [5, 11] (.pointer (some (p4.add 10))) ?_
 obtain ⟨x37, hc38, hM⟩ := hM
 refine kl 5 (.int .i64 x37) (p4.add 10) [11] [11] hc38 ?_
 refine kp 6 [7, 8, 9, 11] (.pointer (some p4)) ?_
 refine kp 7 [8, 9, 11] (.pointer (some p4)) ?_
 refine kp 8 [9, 11] (.pointer (some (p4.add 20))) ?_
 obtain ⟨x41, hc42, hM⟩ := hM
 refine kl 9 (.int .i64 x41) (p4.add 20) [11] [11] hc42 ?_
 refine kp 10 [11] (.int .i64 a3) ?_
 refine k_eff (j := 11) (by kernel_rfl) rfl rfl (by kernel_rfl) (hpCallE 62 #[.pointer (some p4), .int .i64 x37, .int .i64 x41, .int .i64 a3, .bool false] (by kernel_rfl) (vt_Screen_up_ok (some p4) x37 x41 a3 false _ h hM) ?_)
 clear hM
 rintro _ h45 ⟨rfl, hM⟩
 refine ⟨trivial, ?_⟩
 refine k_done (by kernel_rfl) ?_
 refine thenE_n (cwp_region ?_)
 refine oS [(54, .pointer (some p4)), (55, .pointer (some p4)), (56, .pointer (some p4)), (57, .pointer (some (p4.add 9))), (58, .pointer (some (p4.add 10)))] rfl ?_
 obtain ⟨x46, hc47, hM⟩ := hM
 refine oL (.int .i64 x46) (p4.add 10) hc47 ?_
 refine oG (hpCallE 51 #[.pointer (some p4), .int .i64 0, .int .i64 x46] (by kernel_rfl) (vt_Screen_to_ok (some p4) 0 x46 _ h45 hM) ?_)
 clear hM
 rintro _ h49 ⟨rfl, hM⟩
 refine owp_nil ?_
 exact end_ (.tuple #[]) (by kernel_rfl) ⟨rfl, hM⟩
/- (*mullion/vt.Screen).shut -/
def vt_Screen_shut_l0 (K0 : Heap → Prop) : Nat → Addr → Option Addr → Nat → Nat → Int → Heap → Prop
  | 0, _, _, _, _, _, _ => False
  | k + 1, y38, y39, y39n, y39c, y40, h =>
  ldI h .i64 y38 fun x41 =>
  if y40 < x41 then
   vt_Screen_erased (some y38) (fun x46 x47 x48 x49 x50 h45 =>
    nz y39 fun p53 =>
    0 ≤ y40 ∧
    y40 < (y39n : Int) ∧
    stN (p53.add ((y40).toNat * 5)) [.string x46, .int .i64 x47, .int .i64 x48, .int .i64 x49, .int .i64 x50] 0 h45 fun h54 =>
     vt_Screen_shut_l0 K0 k y38 (some p53) y39n y39c (IntKind.wrap .i64 (y40 + 1)) h54) h
  else
  K0  h
theorem vt_Screen_shut_l0_ok {Q : Exit → Env → Heap → Prop} (K0 : Heap → Prop) (hK0 : ∀  (b : Env) (h : Heap), K0  h → Q (.exit 0) b h) : ∀ (k : Nat) (y38 : Addr) (y39 : Option Addr) (y39n : Nat) (y39c : Nat) (y40 : Int) (b : Env) (h : Heap) (hM : vt_Screen_shut_l0 K0 k y38 y39 y39n y39c y40 h), lwp Tryd.prog (partC Tryd.f76 [1, 1, 1, 1, 1, 1, 0, 0]) 72 Q k (upd (upd (upd b 0 (.pointer (some y38))) 4 (.slice y39 y39n y39c)) 5 (.int .i64 y40)) h := by
  intro k
  induction k with
  | zero => intro y38 y39 y39n y39c y40 b h hM; exact (show False from hM).elim
  | succ k ih =>
    intro y38 y39 y39n y39c y40 b h hM
    unfold vt_Screen_shut_l0 at hM
    refine lwp_succ (cwp_part rfl ?_)
    refine cwp_seq (cR ?_)
    refine oS [(59, .int .i64 y40), (60, .pointer (some y38)), (61, .pointer (some y38)), (62, .pointer (some y38))] rfl ?_
    obtain ⟨x41, hc42, hM⟩ := hM
    refine oL (.int .i64 x41) y38 hc42 ?_
    refine oS [(64, .bool (decide (y40 < x41)))] rfl ?_
    refine oE ?_
    refine cwp_condD (y40 < x41) (by kernel_rfl) (fun hc44 => ?_) (fun hc44 => ?_)
    · replace hM := ifT hc44 hM
      refine cwp_skip (thenE_n (cwp_seq (cwp_block (cwp_region ?_))))
      refine oS [(67, .slice y39 y39n y39c), (68, .int .i64 y40), (69, .pointer (some y38))] rfl ?_
      refine oG (hpCallE 63 #[.pointer (some y38)] (by kernel_rfl) (vt_Screen_erased_ok (some y38) _ h hM) ?_)
      clear hM
      rintro _ h45 ⟨x46, x47, x48, x49, x50, rfl, hM⟩
      obtain ⟨p53, rfl, hM⟩ := hM
      obtain ⟨hc51, hM⟩ := hM
      obtain ⟨hc52, hM⟩ := hM
      refine owp_rdG (.pointer (some (p53.add ((y40).toNat * 5)))) rfl (by kernel_rfl) (rd_ixS (P := Tryd.prog) (h := h45) (t := 72) (el := 43) (sz := 5) (ad := p53) (len := y39n) (c := y39c) (k := .i64) (i := y40) (by kernel_rfl) (by kernel_rfl) hc51 hc52 (by kernel_rfl)) ?_
      refine oT (p53.add ((y40).toNat * 5)) [.string x46, .int .i64 x47, .int .i64 x48, .int .i64 x49, .int .i64 x50] hM ?_
      clear hM
      intro h54 hM
      refine owp_nil (blockE_n (thenE_n (cwp_region ?_)))
      refine oS [(65, .int .i64 y40), (66, .int .i64 (IntKind.wrap .i64 (y40 + 1))), (5, .int .i64 (IntKind.wrap .i64 (y40 + 1)))] rfl ?_
      refine owp_nil ?_
      exact lwp_at 0 (.pointer (some y38)) (by kernel_rfl) (lwp_at 4 (.slice (some p53) y39n y39c) (by kernel_rfl) (lwp_at 5 (.int .i64 (IntKind.wrap .i64 (y40 + 1))) (by kernel_rfl) (ih y38 (some p53) y39n y39c (IntKind.wrap .i64 (y40 + 1)) _ _ hM)))
    replace hM := ifF hc44 hM
    refine cwp_exit (thenE_x ?_)
    exact hK0  _ _ hM
def vt_Screen_shut (a1 : Option Addr) (a2 : Int) (K : Heap → Prop) (h : Heap) : Prop :=
 vt_Screen_row a1 (fun x4 x4n x4c h3 =>
  nz a1 fun p5 =>
  ldI h3 .i64 p5 fun x6 =>
  ldI h3 .i64 (p5.add 9) fun x10 =>
  ldI h3 .i64 (p5.add 9) fun x14 =>
  vt_row_cut x4 x4n x4c x14 (fun  h17 =>
   ldI h17 .i64 (p5.add 9) fun x18 =>
   vt_row_cut x4 x4n x4c (IntKind.wrap .i64 (x18 + (imin a2 (IntKind.wrap .i64 (x6 - x10))))) (fun  h21 =>
    ldI h21 .i64 (p5.add 9) fun x22 =>
    0 ≤ x22 ∧
    x22 ≤ (x4n : Int) ∧
    ldI h21 .i64 (p5.add 9) fun x28 =>
    0 ≤ (IntKind.wrap .i64 (x28 + (imin a2 (IntKind.wrap .i64 (x6 - x10))))) ∧
    (IntKind.wrap .i64 (x28 + (imin a2 (IntKind.wrap .i64 (x6 - x10))))) ≤ (x4n : Int) ∧
    cpM h21 5 (cutA x4 x4c x22.toNat 5) (x4n - x22.toNat) (cutA x4 x4c (IntKind.wrap .i64 (x28 + (imin a2 (IntKind.wrap .i64 (x6 - x10))))).toNat 5) (x4n - (IntKind.wrap .i64 (x28 + (imin a2 (IntKind.wrap .i64 (x6 - x10))))).toNat) fun h34 =>
    ldI h34 .i64 p5 fun x35 =>
    ∃ k57, vt_Screen_shut_l0
     (fun  h55 =>
            K h55) k57 p5 x4 x4n x4c (IntKind.wrap .i64 (x35 - (imin a2 (IntKind.wrap .i64 (x6 - x10))))) h34) h17) h3) h
theorem vt_Screen_shut_ok (a1 : Option Addr) (a2 : Int) (K : Heap → Prop) (h : Heap) (hM : vt_Screen_shut a1 a2 K h) : CallsH Tryd.prog 76 #[.pointer a1, .int .i64 a2] (fun v h' => v = .tuple #[] ∧ K h') h := by
 unfold vt_Screen_shut at hM
 refine callsH_intro (n := 72) Tryd.func76 rfl rfl (by kernel_rfl) ?_
 refine cR ?_
 refine oS [(6, .pointer a1)] rfl ?_
 refine oG (hpCallE 48 #[.pointer a1] (by kernel_rfl) (vt_Screen_row_ok a1 _ h hM) ?_)
 clear hM
 rintro _ h3 ⟨x4, x4n, x4c, rfl, hM⟩
 refine oS [(4, .slice x4 x4n x4c)] rfl ?_
 refine oE (cwp_seq ?_)
 refine cwp_draw (by kernel_rfl) ?_
 refine kp 0 [11, 12] (.int .i64 a2) ?_
 refine kp 1 [2, 3, 4, 10, 11, 12] (.pointer a1) ?_
 obtain ⟨p5, rfl, hM⟩ := hM
 refine kp 2 [3, 4, 10, 11, 12] (.pointer (some p5)) ?_
 refine kp 3 [4, 10, 11, 12] (.pointer (some p5)) ?_
 obtain ⟨x6, hc7, hM⟩ := hM
 refine kl 4 (.int .i64 x6) p5 [10, 11, 12] [] hc7 ?_
 refine kp 5 [6, 7, 8, 9, 10, 11, 12] (.pointer (some p5)) ?_
 refine kp 6 [7, 8, 9, 10, 11, 12] (.pointer (some p5)) ?_
 refine kp 7 [8, 9, 10, 11, 12] (.pointer (some (p5.add 9))) ?_
 refine kp 8 [9, 10, 11, 12] (.pointer (some (p5.add 9))) ?_
 obtain ⟨x10, hc11, hM⟩ := hM
 refine kl 9 (.int .i64 x10) (p5.add 9) [10, 11, 12] [] hc11 ?_
 refine kp 10 [11, 12] (.int .i64 (IntKind.wrap .i64 (x6 - x10))) ?_
 refine kp 11 [12] (.int .i64 (imin a2 (IntKind.wrap .i64 (x6 - x10)))) ?_
 refine kp 12 [] (.int .i64 (imin a2 (IntKind.wrap .i64 (x6 - x10)))) ?_
 refine k_done (by kernel_rfl) ?_
 refine thenE_n (cR ?_)
 refine oS [(20, .slice x4 x4n x4c), (21, .pointer (some p5)), (22, .pointer (some p5)), (23, .pointer (some (p5.add 9))), (24, .pointer (some (p5.add 9)))] rfl ?_
 obtain ⟨x14, hc15, hM⟩ := hM
 refine oL (.int .i64 x14) (p5.add 9) hc15 ?_
 refine oG (hpCallE 49 #[.slice x4 x4n x4c, .int .i64 x14] (by kernel_rfl) (vt_row_cut_ok x4 x4n x4c x14 _ h3 hM) ?_)
 clear hM
 rintro _ h17 ⟨rfl, hM⟩
 refine oE (cR ?_)
 refine oS [(27, .slice x4 x4n x4c), (28, .pointer (some p5)), (29, .pointer (some p5)), (30, .pointer (some (p5.add 9))), (31, .pointer (some (p5.add 9)))] rfl ?_
 obtain ⟨x18, hc19, hM⟩ := hM
 refine oL (.int .i64 x18) (p5.add 9) hc19 ?_
 refine oS [(33, .int .i64 (imin a2 (IntKind.wrap .i64 (x6 - x10)))), (34, .int .i64 (IntKind.wrap .i64 (x18 + (imin a2 (IntKind.wrap .i64 (x6 - x10))))))] rfl ?_
 refine oG (hpCallE 49 #[.slice x4 x4n x4c, .int .i64 (IntKind.wrap .i64 (x18 + (imin a2 (IntKind.wrap .i64 (x6 - x10)))))] (by kernel_rfl) (vt_row_cut_ok x4 x4n x4c (IntKind.wrap .i64 (x18 + (imin a2 (IntKind.wrap .i64 (x6 - x10))))) _ h17 hM) ?_)
 clear hM
 rintro _ h21 ⟨rfl, hM⟩
 refine oE (cwp_seq ?_)
 refine cwp_draw (by kernel_rfl) ?_
 refine kp 0 [6, 16] (.slice x4 x4n x4c) ?_
 refine kp 1 [2, 3, 4, 5, 6, 16] (.pointer (some p5)) ?_
 refine kp 2 [3, 4, 5, 6, 16] (.pointer (some p5)) ?_
 refine kp 3 [4, 5, 6, 16] (.pointer (some (p5.add 9))) ?_
 refine kp 4 [5, 6, 16] (.pointer (some (p5.add 9))) ?_
 obtain ⟨x22, hc23, hM⟩ := hM
 refine kl 5 (.int .i64 x22) (p5.add 9) [6, 16] [16] hc23 ?_
 obtain ⟨hc26, hM⟩ := hM
 obtain ⟨hc27, hM⟩ := hM
 refine k_pure (i := 6) [16] (.slice (cutA x4 x4c x22.toNat 5) (x4n - x22.toNat) (x4c - x22.toNat)) (by kernel_rfl) rfl rfl (by kernel_rfl) (fun h' => rd_sSLo (P := Tryd.prog) (h := h') (t := 72) (el := 43) (sz := 5) (a := x4) (n := x4n) (c := x4c) (k := .i64) (i := x22) (by kernel_rfl) (by kernel_rfl) hc26 hc27 (by kernel_rfl)) (by kernel_rfl) ?_
 refine kp 7 [15, 16] (.slice x4 x4n x4c) ?_
 refine kp 8 [9, 10, 11, 12, 14, 15, 16] (.pointer (some p5)) ?_
 refine kp 9 [10, 11, 12, 14, 15, 16] (.pointer (some p5)) ?_
 refine kp 10 [11, 12, 14, 15, 16] (.pointer (some (p5.add 9))) ?_
 refine kp 11 [12, 14, 15, 16] (.pointer (some (p5.add 9))) ?_
 obtain ⟨x28, hc29, hM⟩ := hM
 refine kl 12 (.int .i64 x28) (p5.add 9) [14, 15, 16] [16] hc29 ?_
 refine kp 13 [14, 15, 16] (.int .i64 (imin a2 (IntKind.wrap .i64 (x6 - x10)))) ?_
 refine kp 14 [15, 16] (.int .i64 (IntKind.wrap .i64 (x28 + (imin a2 (IntKind.wrap .i64 (x6 - x10)))))) ?_
 obtain ⟨hc32, hM⟩ := hM
 obtain ⟨hc33, hM⟩ := hM
 refine k_pure (i := 15) [16] (.slice (cutA x4 x4c (IntKind.wrap .i64 (x28 + (imin a2 (IntKind.wrap .i64 (x6 - x10))))).toNat 5) (x4n - (IntKind.wrap .i64 (x28 + (imin a2 (IntKind.wrap .i64 (x6 - x10))))).toNat) (x4c - (IntKind.wrap .i64 (x28 + (imin a2 (IntKind.wrap .i64 (x6 - x10))))).toNat)) (by kernel_rfl) rfl rfl (by kernel_rfl) (fun h' => rd_sSLo (P := Tryd.prog) (h := h') (t := 72) (el := 43) (sz := 5) (a := x4) (n := x4n) (c := x4c) (k := .i64) (i := (IntKind.wrap .i64 (x28 + (imin a2 (IntKind.wrap .i64 (x6 - x10)))))) (by kernel_rfl) (by kernel_rfl) hc32 hc33 (by kernel_rfl)) (by kernel_rfl) ?_
 refine k_eff (j := 16) (by kernel_rfl) rfl rfl (by kernel_rfl) (hpCp (t := 72) (t2 := 72) (ty := 3) (et := 43) (sz := 5) (d := (cutA x4 x4c x22.toNat 5)) (dn := (x4n - x22.toNat)) (dc := (x4c - x22.toNat)) (s := (cutA x4 x4c (IntKind.wrap .i64 (x28 + (imin a2 (IntKind.wrap .i64 (x6 - x10))))).toNat 5)) (sn := (x4n - (IntKind.wrap .i64 (x28 + (imin a2 (IntKind.wrap .i64 (x6 - x10))))).toNat)) (sc := (x4c - (IntKind.wrap .i64 (x28 + (imin a2 (IntKind.wrap .i64 (x6 - x10))))).toNat)) (fun _ => by kernel_rfl) (by kernel_rfl) (by kernel_rfl) hM ?_)
 clear hM
 intro h34 hM
 refine ⟨trivial, ?_⟩
 refine k_done (by kernel_rfl) ?_
 refine thenE_n (cR ?_)
 refine oS [(53, .pointer (some p5)), (54, .pointer (some p5)), (55, .pointer (some p5))] rfl ?_
 obtain ⟨x35, hc36, hM⟩ := hM
 refine oL (.int .i64 x35) p5 hc36 ?_
 refine oS [(57, .int .i64 (imin a2 (IntKind.wrap .i64 (x6 - x10)))), (58, .int .i64 (IntKind.wrap .i64 (x35 - (imin a2 (IntKind.wrap .i64 (x6 - x10)))))), (5, .int .i64 (IntKind.wrap .i64 (x35 - (imin a2 (IntKind.wrap .i64 (x6 - x10))))))] rfl ?_
 refine oE (cwp_block ?_)
 obtain ⟨k_, hM⟩ := hM
 refine cwp_loop k_ (lwp_of_part (fn := Tryd.f76) (p := [1, 1, 1, 1, 1, 1, 0, 0]) (by kernel_rfl) (lwp_at 0 (.pointer (some p5)) (by kernel_rfl) (lwp_at 4 (.slice x4 x4n x4c) (by kernel_rfl) (lwp_at 5 (.int .i64 (IntKind.wrap .i64 (x35 - (imin a2 (IntKind.wrap .i64 (x6 - x10)))))) (by kernel_rfl) (vt_Screen_shut_l0_ok _ ?_ k_ p5 x4 x4n x4c (IntKind.wrap .i64 (x35 - (imin a2 (IntKind.wrap .i64 (x6 - x10))))) _ _ hM)))))
 · intro  b56 h55 hM
   refine blockE_h ?_
   exact end_ (.tuple #[]) (by kernel_rfl) ⟨rfl, hM⟩
/- (*mullion/vt.Screen).places -/
def vt_Screen_places (a1 : Option Addr) (a2 : Int) (a3 : Int) (K : Heap → Prop) (h : Heap) : Prop :=
 if a2 = 64 then
  vt_Screen_open a1 a3 (fun  h5 =>
   nz a1 fun p6 =>
   stN (p6.add 18) [.bool false] 0 h5 fun h7 =>
    K h7) h
 else
 if a2 = 80 then
  vt_Screen_shut a1 a3 (fun  h9 =>
   nz a1 fun p10 =>
   stN (p10.add 18) [.bool false] 0 h9 fun h11 =>
    K h11) h
 else
 if a2 = 88 then
  nz a1 fun p13 =>
  ldI h .i64 (p13.add 9) fun x14 =>
  ldI h .i64 p13 fun x18 =>
  ldI h .i64 (p13.add 9) fun x22 =>
  vt_Screen_row (some p13) (fun x27 x27n x27c h26 =>
   (cellH h26 (p13.add 9) = some (.int .i64 x22) ∧ cellH h26 p13 = some (.int .i64 x18) ∧ cellH h26 (p13.add 9) = some (.int .i64 x14)) ∧
   vt_Screen_erased (some p13) (fun x32 x33 x34 x35 x36 h31 =>
    (cellH h31 (p13.add 9) = some (.int .i64 x22) ∧ cellH h31 p13 = some (.int .i64 x18) ∧ cellH h31 (p13.add 9) = some (.int .i64 x14)) ∧
    vt_row_erase x27 x27n x27c x14 (imin x18 (IntKind.wrap .i64 (x22 + a3))) x32 x33 x34 x35 x36 (fun  h40 =>
     stN (p13.add 18) [.bool false] 0 h40 fun h41 =>
        K h41) h31) h26) h
 else
 nz a1 fun p42 =>
 stN (p42.add 18) [.bool false] 0 h fun h43 =>
 K h43
theorem vt_Screen_places_ok (a1 : Option Addr) (a2 : Int) (a3 : Int) (K : Heap → Prop) (h : Heap) (hM : vt_Screen_places a1 a2 a3 K h) : CallsH Tryd.prog 72 #[.pointer a1, .int .u8 a2, .int .i64 a3] (fun v h' => v = .tuple #[] ∧ K h') h := by
 unfold vt_Screen_places at hM
 refine callsH_intro (n := 45) Tryd.func72 rfl rfl (by kernel_rfl) ?_
 refine cwp_seq (cR ?_)
 refine oS [(6, .int .u8 a2)] rfl ?_
 refine oE (cwp_block (cR ?_))
 refine oS [(8, .bool (decide (a2 = 64))), (7, .bool (decide (a2 = 64)))] rfl ?_
 refine oE ?_
 refine cwp_condD (a2 = 64) (by kernel_rfl) (fun hc4 => ?_) (fun hc4 => ?_)
 · replace hM := ifT hc4 hM
   refine cwp_region ?_
   refine oS [(9, .pointer a1), (10, .int .i64 a3)] rfl ?_
   refine oG (hpCallE 47 #[.pointer a1, .int .i64 a3] (by kernel_rfl) (vt_Screen_open_ok a1 a3 _ h hM) ?_)
   clear hM
   rintro _ h5 ⟨rfl, hM⟩
   refine owp_nil (blockE_n (thenE_n (cwp_region ?_)))
   refine oS [(41, .pointer a1)] rfl ?_
   obtain ⟨p6, rfl, hM⟩ := hM
   refine owp_rdG (.pointer (some p6)) rfl (by kernel_rfl) (by kernel_rfl) ?_
   refine oS [(43, .pointer (some (p6.add 9))), (44, .pointer (some (p6.add 18)))] rfl ?_
   refine oT (p6.add 18) [.bool false] hM ?_
   clear hM
   intro h7 hM
   refine owp_nil ?_
   exact end_ (.tuple #[]) (by kernel_rfl) ⟨rfl, hM⟩
 replace hM := ifF hc4 hM
 refine cR ?_
 refine oS [(13, .bool (decide (a2 = 80))), (12, .bool (decide (a2 = 80)))] rfl ?_
 refine oE ?_
 refine cwp_condD (a2 = 80) (by kernel_rfl) (fun hc8 => ?_) (fun hc8 => ?_)
 · replace hM := ifT hc8 hM
   refine cwp_region ?_
   refine oS [(14, .pointer a1), (15, .int .i64 a3)] rfl ?_
   refine oG (hpCallE 76 #[.pointer a1, .int .i64 a3] (by kernel_rfl) (vt_Screen_shut_ok a1 a3 _ h hM) ?_)
   clear hM
   rintro _ h9 ⟨rfl, hM⟩
   refine owp_nil (blockE_n (thenE_n (cwp_region ?_)))
   refine oS [(41, .pointer a1)] rfl ?_
   obtain ⟨p10, rfl, hM⟩ := hM
   refine owp_rdG (.pointer (some p10)) rfl (by kernel_rfl) (by kernel_rfl) ?_
   refine oS [(43, .pointer (some (p10.add 9))), (44, .pointer (some (p10.add 18)))] rfl ?_
   refine oT (p10.add 18) [.bool false] hM ?_
   clear hM
   intro h11 hM
   refine owp_nil ?_
   exact end_ (.tuple #[]) (by kernel_rfl) ⟨rfl, hM⟩
 replace hM := ifF hc8 hM
 refine cR ?_
 refine oS [(18, .bool (decide (a2 = 88))), (17, .bool (decide (a2 = 88)))] rfl ?_
 refine oE ?_
 refine cwp_condD (a2 = 88) (by kernel_rfl) (fun hc12 => ?_) (fun hc12 => ?_)
 · replace hM := ifT hc12 hM
   refine cwp_draw (by kernel_rfl) ?_
   refine kp 0 [1, 20, 21] (.pointer a1) ?_
   refine kp 2 [3, 4, 5, 6, 21] (.pointer a1) ?_
   obtain ⟨p13, rfl, hM⟩ := hM
   refine kp 3 [4, 5, 6, 21] (.pointer (some p13)) ?_
   refine kp 4 [5, 6, 21] (.pointer (some (p13.add 9))) ?_
   refine kp 5 [6, 21] (.pointer (some (p13.add 9))) ?_
   obtain ⟨x14, hc15, hM⟩ := hM
   refine kl 6 (.int .i64 x14) (p13.add 9) [21] [21] hc15 ?_
   refine kp 7 [8, 9, 10, 18, 21] (.pointer (some p13)) ?_
   refine kp 8 [9, 10, 18, 21] (.pointer (some p13)) ?_
   refine kp 9 [10, 18, 21] (.pointer (some p13)) ?_
   obtain ⟨x18, hc19, hM⟩ := hM
   refine kl 10 (.int .i64 x18) p13 [18, 21] [21] hc19 ?_
   refine kp 11 [12, 13, 14, 15, 17, 18, 21] (.pointer (some p13)) ?_
   refine kp 12 [13, 14, 15, 17, 18, 21] (.pointer (some p13)) ?_
   refine kp 13 [14, 15, 17, 18, 21] (.pointer (some (p13.add 9))) ?_
   refine kp 14 [15, 17, 18, 21] (.pointer (some (p13.add 9))) ?_
   obtain ⟨x22, hc23, hM⟩ := hM
   refine kl 15 (.int .i64 x22) (p13.add 9) [17, 18, 21] [21] hc23 ?_
   refine kp 16 [17, 18, 21] (.int .i64 a3) ?_
   refine kp 17 [18, 21] (.int .i64 (IntKind.wrap .i64 (x22 + a3))) ?_
   refine kp 18 [21] (.int .i64 (imin x18 (IntKind.wrap .i64 (x22 + a3)))) ?_
   refine kp 19 [20, 21] (.pointer (some p13)) ?_
   refine k_eff (j := 1) (by kernel_rfl) rfl rfl (by kernel_rfl) (hpCallE 48 #[.pointer (some p13)] (by kernel_rfl) (vt_Screen_row_ok (some p13) _ h hM) ?_)
   clear hM
   rintro _ h26 ⟨x27, x27n, x27c, rfl, hM⟩
   obtain ⟨⟨hk28, hk29, hk30⟩, hM⟩ := hM
   refine ⟨⟨⟨hk28, trivial⟩, ⟨hk29, trivial⟩, ⟨hk30, trivial⟩, trivial⟩, ?_⟩
   refine k_eff (j := 20) (by kernel_rfl) rfl rfl (by kernel_rfl) (hpCallE 63 #[.pointer (some p13)] (by kernel_rfl) (vt_Screen_erased_ok (some p13) _ h26 hM) ?_)
   clear hM
   rintro _ h31 ⟨x32, x33, x34, x35, x36, rfl, hM⟩
   obtain ⟨⟨hk37, hk38, hk39⟩, hM⟩ := hM
   refine ⟨⟨⟨hk37, trivial⟩, ⟨hk38, trivial⟩, ⟨hk39, trivial⟩, trivial⟩, ?_⟩
   refine k_eff (j := 21) (by kernel_rfl) rfl rfl (by kernel_rfl) (hpCallE 75 #[.slice x27 x27n x27c, .int .i64 x14, .int .i64 (imin x18 (IntKind.wrap .i64 (x22 + a3))), .agg #[.string x32, .int .i64 x33, .int .i64 x34, .int .i64 x35, .int .i64 x36]] (by kernel_rfl) (vt_row_erase_ok x27 x27n x27c x14 (imin x18 (IntKind.wrap .i64 (x22 + a3))) x32 x33 x34 x35 x36 _ h31 hM) ?_)
   clear hM
   rintro _ h40 ⟨rfl, hM⟩
   refine ⟨trivial, ?_⟩
   refine k_done (by kernel_rfl) ?_
   refine blockE_n (thenE_n (cwp_region ?_))
   refine oS [(41, .pointer (some p13)), (42, .pointer (some p13)), (43, .pointer (some (p13.add 9))), (44, .pointer (some (p13.add 18)))] rfl ?_
   refine oT (p13.add 18) [.bool false] hM ?_
   clear hM
   intro h41 hM
   refine owp_nil ?_
   exact end_ (.tuple #[]) (by kernel_rfl) ⟨rfl, hM⟩
 replace hM := ifF hc12 hM
 refine cwp_skip (blockE_n (thenE_n (cwp_region ?_)))
 refine oS [(41, .pointer a1)] rfl ?_
 obtain ⟨p42, rfl, hM⟩ := hM
 refine owp_rdG (.pointer (some p42)) rfl (by kernel_rfl) (by kernel_rfl) ?_
 refine oS [(43, .pointer (some (p42.add 9))), (44, .pointer (some (p42.add 18)))] rfl ?_
 refine oT (p42.add 18) [.bool false] hM ?_
 clear hM
 intro h43 hM
 refine owp_nil ?_
 exact end_ (.tuple #[]) (by kernel_rfl) ⟨rfl, hM⟩
/- mullion/vt.colour -/
def vt_colour_l0 (K1 : Int → Heap → Prop) (Kr : Int → Int → Heap → Prop) : Nat → Int → Option Addr → Nat → Nat → Int → Int → Heap → Prop
  | 0, _, _, _, _, _, _, _ => False
  | k + 1, y33, y34, y34n, y34c, y35, y36, h =>
  if y36 < y35 then
   nz y34 fun p40 =>
   0 ≤ y36 ∧
   y36 < (y34n : Int) ∧
   ldI h .i64 (p40.add ((y36).toNat * 1)) fun x41 =>
   if 255 < x41 then
    Kr (-1) 4 h
   else
   vt_colour_l0 K1 Kr k (IntKind.wrap .i64 ((IntKind.wrap .i64 (y33 * 256)) + (imax 0 x41))) (some p40) y34n y34c y35 (IntKind.wrap .i64 (y36 + 1)) h
  else
  K1 y33 h
theorem vt_colour_l0_ok {Q : Exit → Env → Heap → Prop} (K1 : Int → Heap → Prop) (hK1 : ∀ (z49 : Int) (b : Env) (h : Heap), K1 z49 h → Q (.exit 1) (upd b 5 (.int .i64 z49)) h) (Kr : Int → Int → Heap → Prop) (hKr : ∀ (z52 : Int) (z53 : Int) (b : Env) (h : Heap), Kr z52 z53 h → Q .ret (upd (upd b 2 (.int .i64 z52)) 3 (.int .i64 z53)) h) : ∀ (k : Nat) (y33 : Int) (y34 : Option Addr) (y34n : Nat) (y34c : Nat) (y35 : Int) (y36 : Int) (b : Env) (h : Heap) (hM : vt_colour_l0 K1 Kr k y33 y34 y34n y34c y35 y36 h), lwp Tryd.prog (partC Tryd.f80 [1, 0, 0, 1, 1, 1, 0, 1, 0, 1, 0, 0]) 53 Q k (upd (upd (upd (upd b 5 (.int .i64 y33)) 37 (.slice y34 y34n y34c)) 38 (.int .i64 y35)) 39 (.int .i64 y36)) h := by
  intro k
  induction k with
  | zero => intro y33 y34 y34n y34c y35 y36 b h hM; exact (show False from hM).elim
  | succ k ih =>
    intro y33 y34 y34n y34c y35 y36 b h hM
    unfold vt_colour_l0 at hM
    refine lwp_succ (cwp_part rfl ?_)
    refine cR ?_
    refine oS [(40, .bool (decide (y36 < y35)))] rfl ?_
    refine oE (cwp_seq ?_)
    refine cwp_condD (y36 < y35) (by kernel_rfl) (fun hc37 => ?_) (fun hc37 => ?_)
    · replace hM := ifT hc37 hM
      refine cwp_skip (thenE_n (cwp_seq (cwp_block (cR ?_))))
      obtain ⟨p40, rfl, hM⟩ := hM
      obtain ⟨hc38, hM⟩ := hM
      obtain ⟨hc39, hM⟩ := hM
      refine owp_rdG (.pointer (some (p40.add ((y36).toNat * 1)))) rfl (by kernel_rfl) (rd_ixS (P := Tryd.prog) (h := h) (t := 95) (el := 3) (sz := 1) (ad := p40) (len := y34n) (c := y34c) (k := .i64) (i := y36) (by kernel_rfl) (by kernel_rfl) hc38 hc39 (by kernel_rfl)) ?_
      obtain ⟨x41, hc42, hM⟩ := hM
      refine oL (.int .i64 x41) (p40.add ((y36).toNat * 1)) hc42 ?_
      refine oS [(7, .int .i64 x41)] rfl ?_
      refine oE (cwp_seq (cR ?_))
      refine oS [(43, .int .i64 x41), (44, .bool (decide (255 < x41)))] rfl ?_
      refine oE ?_
      refine cwp_condD (255 < x41) (by kernel_rfl) (fun hc44 => ?_) (fun hc44 => ?_)
      · replace hM := ifT hc44 hM
        refine cR ?_
        refine oS [(2, .int .i64 (-1)), (3, .int .i64 4)] rfl ?_
        refine oE (cwp_ret (thenE_r (blockE_r (thenE_r ?_))))
        exact q_at (Q := Q .ret) 2 (.int .i64 (-1)) (by kernel_rfl) (q_at (Q := Q .ret) 3 (.int .i64 4) (by kernel_rfl) (hKr (-1) 4 _ _ hM))
      replace hM := ifF hc44 hM
      refine cwp_skip (thenE_n (cwp_region ?_))
      refine oS [(45, .int .i64 y33), (46, .int .i64 (IntKind.wrap .i64 (y33 * 256))), (47, .int .i64 x41), (48, .int .i64 (imax 0 x41)), (49, .int .i64 (IntKind.wrap .i64 ((IntKind.wrap .i64 (y33 * 256)) + (imax 0 x41)))), (5, .int .i64 (IntKind.wrap .i64 ((IntKind.wrap .i64 (y33 * 256)) + (imax 0 x41))))] rfl ?_
      refine owp_nil (blockE_n (thenE_n (cwp_region ?_)))
      refine oS [(50, .int .i64 (IntKind.wrap .i64 (y36 + 1))), (39, .int .i64 (IntKind.wrap .i64 (y36 + 1)))] rfl ?_
      refine owp_nil ?_
      exact lwp_at 5 (.int .i64 (IntKind.wrap .i64 ((IntKind.wrap .i64 (y33 * 256)) + (imax 0 x41)))) (by kernel_rfl) (lwp_at 37 (.slice (some p40) y34n y34c) (by kernel_rfl) (lwp_at 38 (.int .i64 y35) (by kernel_rfl) (lwp_at 39 (.int .i64 (IntKind.wrap .i64 (y36 + 1))) (by kernel_rfl) (ih (IntKind.wrap .i64 ((IntKind.wrap .i64 (y33 * 256)) + (imax 0 x41))) (some p40) y34n y34c y35 (IntKind.wrap .i64 (y36 + 1)) _ _ hM))))
    replace hM := ifF hc37 hM
    refine cwp_exit (thenE_x ?_)
    exact q_at (Q := Q (.exit 1)) 5 (.int .i64 y33) (by kernel_rfl) (hK1 y33 _ _ hM)
def vt_colour (a1 : Option Addr) (a1n : Nat) (a1c : Nat) (K : Int → Int → Heap → Prop) (h : Heap) : Prop :=
 if 2 ≤ (a1n : Int) then
  nz a1 fun p8 =>
  0 ≤ (0 : Int) ∧
  (0 : Int) < (a1n : Int) ∧
  ldI h .i64 (p8.add (((0 : Int)).toNat * 1)) fun x9 =>
  if x9 = 5 then
   0 ≤ (1 : Int) ∧
   (1 : Int) < (a1n : Int) ∧
   ldI h .i64 (p8.add (((1 : Int)).toNat * 1)) fun x15 =>
   if 255 < (imax 0 x15) then
    K (-1) 2 h
   else
   K (IntKind.wrap .i64 ((imax 0 x15) + 1)) 2 h
  else
  if 4 ≤ (a1n : Int) then
   0 ≤ (0 : Int) ∧
   (0 : Int) < (a1n : Int) ∧
   ldI h .i64 (p8.add (((0 : Int)).toNat * 1)) fun x27 =>
   if x27 = 2 then
    (4 : Int) ≤ (a1c : Int) ∧
    (1 : Int) ≤ (4 : Int) ∧
    ∃ k61, vt_colour_l0
     (fun z54 h55 =>
         K (IntKind.wrap .i64 (257 + z54)) 4 h55)
     (fun z57 z58 h59 =>
         K z57 z58 h59) k61 0 (cutA (some p8) a1c (1 : Int).toNat 1) ((4 : Int).toNat - (1 : Int).toNat) (a1c - (1 : Int).toNat) (((4 : Int).toNat - (1 : Int).toNat) : Int) 0 h
   else
   K 0 0 h
  else
  K 0 0 h
 else
 if 4 ≤ (a1n : Int) then
  nz a1 fun p68 =>
  0 ≤ (0 : Int) ∧
  (0 : Int) < (a1n : Int) ∧
  ldI h .i64 (p68.add (((0 : Int)).toNat * 1)) fun x69 =>
  if x69 = 2 then
   (4 : Int) ≤ (a1c : Int) ∧
   (1 : Int) ≤ (4 : Int) ∧
   ∃ k82, vt_colour_l0
    (fun z75 h76 =>
        K (IntKind.wrap .i64 (257 + z75)) 4 h76)
    (fun z78 z79 h80 =>
        K z78 z79 h80) k82 0 (cutA (some p68) a1c (1 : Int).toNat 1) ((4 : Int).toNat - (1 : Int).toNat) (a1c - (1 : Int).toNat) (((4 : Int).toNat - (1 : Int).toNat) : Int) 0 h
  else
  K 0 0 h
 else
 K 0 0 h
theorem vt_colour_ok (a1 : Option Addr) (a1n : Nat) (a1c : Nat) (K : Int → Int → Heap → Prop) (h : Heap) (hM : vt_colour a1 a1n a1c K h) : CallsH Tryd.prog 80 #[.slice a1 a1n a1c] (fun v h' => ∃ (r83 : Int) (r84 : Int), v = .tuple #[.int .i64 r83, .int .i64 r84] ∧ K r83 r84 h') h := by
 unfold vt_colour at hM
 refine callsH_intro (n := 53) Tryd.func80 rfl rfl (by kernel_rfl) ?_
 refine cR ?_
 refine oS [(2, .int .i64 0), (3, .int .i64 0)] rfl ?_
 refine oE (cwp_seq (cwp_block (cR ?_)))
 refine oS [(9, .slice a1 a1n a1c), (10, .int .i64 (a1n : Int)), (11, .bool (decide (2 ≤ (a1n : Int)))), (12, .bool (decide (2 ≤ (a1n : Int))))] rfl ?_
 by_cases hc5 : 2 ≤ (a1n : Int)
 · refine oA 11 true (decide (2 ≤ (a1n : Int))) (by rw [decide_eq_true hc5]) ?_
   refine oA 12 true (decide (2 ≤ (a1n : Int))) (by rw [decide_eq_true hc5]) ?_
   replace hM := ifT hc5 hM
   refine oS [(13, .slice a1 a1n a1c)] rfl ?_
   obtain ⟨p8, rfl, hM⟩ := hM
   obtain ⟨hc6, hM⟩ := hM
   obtain ⟨hc7, hM⟩ := hM
   refine owp_rdG (.pointer (some (p8.add (((0 : Int)).toNat * 1)))) rfl (by kernel_rfl) (rd_ixS (P := Tryd.prog) (h := h) (t := 95) (el := 3) (sz := 1) (ad := p8) (len := a1n) (c := a1c) (k := .i64) (i := 0) (by kernel_rfl) (by kernel_rfl) hc6 hc7 (by kernel_rfl)) ?_
   obtain ⟨x9, hc10, hM⟩ := hM
   refine oL (.int .i64 x9) (p8.add (((0 : Int)).toNat * 1)) hc10 ?_
   refine oS [(16, .bool (decide (x9 = 5))), (17, .bool (decide (x9 = 5))), (8, .bool (decide (x9 = 5)))] rfl ?_
   refine oE ?_
   refine cwp_condD (x9 = 5) (by kernel_rfl) (fun hc12 => ?_) (fun hc12 => ?_)
   · replace hM := ifT hc12 hM
     refine cR ?_
     refine oS [(18, .slice (some p8) a1n a1c)] rfl ?_
     obtain ⟨hc13, hM⟩ := hM
     obtain ⟨hc14, hM⟩ := hM
     refine owp_rdG (.pointer (some (p8.add (((1 : Int)).toNat * 1)))) rfl (by kernel_rfl) (rd_ixS (P := Tryd.prog) (h := h) (t := 95) (el := 3) (sz := 1) (ad := p8) (len := a1n) (c := a1c) (k := .i64) (i := 1) (by kernel_rfl) (by kernel_rfl) hc13 hc14 (by kernel_rfl)) ?_
     obtain ⟨x15, hc16, hM⟩ := hM
     refine oL (.int .i64 x15) (p8.add (((1 : Int)).toNat * 1)) hc16 ?_
     refine oS [(21, .int .i64 (imax 0 x15)), (4, .int .i64 (imax 0 x15))] rfl ?_
     refine oE (cwp_seq (cR ?_))
     refine oS [(22, .int .i64 (imax 0 x15)), (23, .bool (decide (255 < (imax 0 x15))))] rfl ?_
     refine oE ?_
     refine cwp_condD (255 < (imax 0 x15)) (by kernel_rfl) (fun hc18 => ?_) (fun hc18 => ?_)
     · replace hM := ifT hc18 hM
       refine cR ?_
       refine oS [(2, .int .i64 (-1)), (3, .int .i64 2)] rfl ?_
       refine oE (cwp_ret (thenE_r (blockE_r (thenE_r ?_))))
       exact ret_ (.tuple #[.int .i64 (-1), .int .i64 2]) (by kernel_rfl) ⟨_, _, rfl, hM⟩
     replace hM := ifF hc18 hM
     refine cwp_skip (thenE_n (cR ?_))
     refine oS [(24, .int .i64 (imax 0 x15)), (25, .int .i64 (IntKind.wrap .i64 ((imax 0 x15) + 1))), (2, .int .i64 (IntKind.wrap .i64 ((imax 0 x15) + 1))), (3, .int .i64 2)] rfl ?_
     refine oE (cwp_ret (blockE_r (thenE_r ?_)))
     exact ret_ (.tuple #[.int .i64 (IntKind.wrap .i64 ((imax 0 x15) + 1)), .int .i64 2]) (by kernel_rfl) ⟨_, _, rfl, hM⟩
   replace hM := ifF hc12 hM
   refine cR ?_
   refine oS [(27, .slice (some p8) a1n a1c), (28, .int .i64 (a1n : Int)), (29, .bool (decide (4 ≤ (a1n : Int)))), (30, .bool (decide (4 ≤ (a1n : Int))))] rfl ?_
   by_cases hc24 : 4 ≤ (a1n : Int)
   · refine oA 29 true (decide (4 ≤ (a1n : Int))) (by rw [decide_eq_true hc24]) ?_
     refine oA 30 true (decide (4 ≤ (a1n : Int))) (by rw [decide_eq_true hc24]) ?_
     replace hM := ifT hc24 hM
     refine oS [(31, .slice (some p8) a1n a1c)] rfl ?_
     obtain ⟨hc25, hM⟩ := hM
     obtain ⟨hc26, hM⟩ := hM
     refine owp_rdG (.pointer (some (p8.add (((0 : Int)).toNat * 1)))) rfl (by kernel_rfl) (rd_ixS (P := Tryd.prog) (h := h) (t := 95) (el := 3) (sz := 1) (ad := p8) (len := a1n) (c := a1c) (k := .i64) (i := 0) (by kernel_rfl) (by kernel_rfl) hc25 hc26 (by kernel_rfl)) ?_
     obtain ⟨x27, hc28, hM⟩ := hM
     refine oL (.int .i64 x27) (p8.add (((0 : Int)).toNat * 1)) hc28 ?_
     refine oS [(34, .bool (decide (x27 = 2))), (35, .bool (decide (x27 = 2))), (26, .bool (decide (x27 = 2)))] rfl ?_
     refine oE ?_
     refine cwp_condD (x27 = 2) (by kernel_rfl) (fun hc30 => ?_) (fun hc30 => ?_)
     · replace hM := ifT hc30 hM
       refine cR ?_
       refine oS [(5, .int .i64 0)] rfl ?_
       refine oE (cwp_seq (cR ?_))
       refine oS [(36, .slice (some p8) a1n a1c)] rfl ?_
       obtain ⟨hc31, hM⟩ := hM
       obtain ⟨hc32, hM⟩ := hM
       refine owp_rdG (.slice (cutA (some p8) a1c (1 : Int).toNat 1) ((4 : Int).toNat - (1 : Int).toNat) (a1c - (1 : Int).toNat)) rfl (by kernel_rfl) (rd_sSLH (P := Tryd.prog) (h := h) (t := 95) (el := 3) (sz := 1) (a := (some p8)) (n := a1n) (c := a1c) (k := .i64) (k' := .i64) (i := (1 : Int)) (j := (4 : Int)) (by kernel_rfl) (by kernel_rfl) (by decide) hc31 (by decide) hc32 (by kernel_rfl)) ?_
       refine oS [(38, .int .i64 (((4 : Int).toNat - (1 : Int).toNat) : Int)), (39, .int .i64 0)] rfl ?_
       refine oE (cwp_block ?_)
       obtain ⟨k_, hM⟩ := hM
       refine cwp_loop k_ (lwp_of_part (fn := Tryd.f80) (p := [1, 0, 0, 1, 1, 1, 0, 1, 0, 1, 0, 0]) (by kernel_rfl) (lwp_at 5 (.int .i64 0) (by kernel_rfl) (lwp_at 37 (.slice (cutA (some p8) a1c (1 : Int).toNat 1) ((4 : Int).toNat - (1 : Int).toNat) (a1c - (1 : Int).toNat)) (by kernel_rfl) (lwp_at 38 (.int .i64 (((4 : Int).toNat - (1 : Int).toNat) : Int)) (by kernel_rfl) (lwp_at 39 (.int .i64 0) (by kernel_rfl) (vt_colour_l0_ok _ ?_ _ ?_ k_ 0 (cutA (some p8) a1c (1 : Int).toNat 1) ((4 : Int).toNat - (1 : Int).toNat) (a1c - (1 : Int).toNat) (((4 : Int).toNat - (1 : Int).toNat) : Int) 0 _ _ hM))))))
       · intro z54 b56 h55 hM
         refine blockE_h (thenE_n (cR ?_))
         refine oS [(51, .int .i64 z54), (52, .int .i64 (IntKind.wrap .i64 (257 + z54))), (2, .int .i64 (IntKind.wrap .i64 (257 + z54))), (3, .int .i64 4)] rfl ?_
         refine oE (cwp_ret (blockE_r (thenE_r ?_)))
         exact ret_ (.tuple #[.int .i64 (IntKind.wrap .i64 (257 + z54)), .int .i64 4]) (by kernel_rfl) ⟨_, _, rfl, hM⟩
       · intro z57 z58 b60 h59 hM
         refine blockE_r (thenE_r (blockE_r (thenE_r ?_)))
         exact ret_ (.tuple #[.int .i64 z57, .int .i64 z58]) (by kernel_rfl) ⟨_, _, rfl, hM⟩
     replace hM := ifF hc30 hM
     refine cwp_skip (blockE_n (thenE_n (cR ?_)))
     refine oS [(2, .int .i64 0), (3, .int .i64 0)] rfl ?_
     refine oE (cwp_ret ?_)
     exact ret_ (.tuple #[.int .i64 0, .int .i64 0]) (by kernel_rfl) ⟨_, _, rfl, hM⟩
   refine oA 29 false (decide (4 ≤ (a1n : Int))) (by rw [decide_eq_false hc24]) ?_
   refine oA 30 false (decide (4 ≤ (a1n : Int))) (by rw [decide_eq_false hc24]) ?_
   replace hM := ifF hc24 hM
   refine oS [(31, undef), (32, undef), (33, undef), (34, undef), (35, .bool false), (26, .bool false)] rfl ?_
   refine oE ?_
   refine cwp_cond (t := false) (by kernel_rfl) (fun hx_ => ?_) (fun hx_ => ?_)
   all_goals first | (cases hx_; done) | skip
   refine cwp_skip (blockE_n (thenE_n (cR ?_)))
   refine oS [(2, .int .i64 0), (3, .int .i64 0)] rfl ?_
   refine oE (cwp_ret ?_)
   exact ret_ (.tuple #[.int .i64 0, .int .i64 0]) (by kernel_rfl) ⟨_, _, rfl, hM⟩
 refine oA 11 false (decide (2 ≤ (a1n : Int))) (by rw [decide_eq_false hc5]) ?_
 refine oA 12 false (decide (2 ≤ (a1n : Int))) (by rw [decide_eq_false hc5]) ?_
 replace hM := ifF hc5 hM
 refine oS [(13, undef), (14, undef), (15, undef), (16, undef), (17, .bool false), (8, .bool false)] rfl ?_
 refine oE ?_
 refine cwp_cond (t := false) (by kernel_rfl) (fun hx_ => ?_) (fun hx_ => ?_)
 all_goals first | (cases hx_; done) | skip
 refine cR ?_
 refine oS [(27, .slice a1 a1n a1c), (28, .int .i64 (a1n : Int)), (29, .bool (decide (4 ≤ (a1n : Int)))), (30, .bool (decide (4 ≤ (a1n : Int))))] rfl ?_
 by_cases hc65 : 4 ≤ (a1n : Int)
 · refine oA 29 true (decide (4 ≤ (a1n : Int))) (by rw [decide_eq_true hc65]) ?_
   refine oA 30 true (decide (4 ≤ (a1n : Int))) (by rw [decide_eq_true hc65]) ?_
   replace hM := ifT hc65 hM
   refine oS [(31, .slice a1 a1n a1c)] rfl ?_
   obtain ⟨p68, rfl, hM⟩ := hM
   obtain ⟨hc66, hM⟩ := hM
   obtain ⟨hc67, hM⟩ := hM
   refine owp_rdG (.pointer (some (p68.add (((0 : Int)).toNat * 1)))) rfl (by kernel_rfl) (rd_ixS (P := Tryd.prog) (h := h) (t := 95) (el := 3) (sz := 1) (ad := p68) (len := a1n) (c := a1c) (k := .i64) (i := 0) (by kernel_rfl) (by kernel_rfl) hc66 hc67 (by kernel_rfl)) ?_
   obtain ⟨x69, hc70, hM⟩ := hM
   refine oL (.int .i64 x69) (p68.add (((0 : Int)).toNat * 1)) hc70 ?_
   refine oS [(34, .bool (decide (x69 = 2))), (35, .bool (decide (x69 = 2))), (26, .bool (decide (x69 = 2)))] rfl ?_
   refine oE ?_
   refine cwp_condD (x69 = 2) (by kernel_rfl) (fun hc72 => ?_) (fun hc72 => ?_)
   · replace hM := ifT hc72 hM
     refine cR ?_
     refine oS [(5, .int .i64 0)] rfl ?_
     refine oE (cwp_seq (cR ?_))
     refine oS [(36, .slice (some p68) a1n a1c)] rfl ?_
     obtain ⟨hc73, hM⟩ := hM
     obtain ⟨hc74, hM⟩ := hM
     refine owp_rdG (.slice (cutA (some p68) a1c (1 : Int).toNat 1) ((4 : Int).toNat - (1 : Int).toNat) (a1c - (1 : Int).toNat)) rfl (by kernel_rfl) (rd_sSLH (P := Tryd.prog) (h := h) (t := 95) (el := 3) (sz := 1) (a := (some p68)) (n := a1n) (c := a1c) (k := .i64) (k' := .i64) (i := (1 : Int)) (j := (4 : Int)) (by kernel_rfl) (by kernel_rfl) (by decide) hc73 (by decide) hc74 (by kernel_rfl)) ?_
     refine oS [(38, .int .i64 (((4 : Int).toNat - (1 : Int).toNat) : Int)), (39, .int .i64 0)] rfl ?_
     refine oE (cwp_block ?_)
     obtain ⟨k_, hM⟩ := hM
     refine cwp_loop k_ (lwp_of_part (fn := Tryd.f80) (p := [1, 0, 0, 1, 1, 1, 0, 1, 0, 1, 0, 0]) (by kernel_rfl) (lwp_at 5 (.int .i64 0) (by kernel_rfl) (lwp_at 37 (.slice (cutA (some p68) a1c (1 : Int).toNat 1) ((4 : Int).toNat - (1 : Int).toNat) (a1c - (1 : Int).toNat)) (by kernel_rfl) (lwp_at 38 (.int .i64 (((4 : Int).toNat - (1 : Int).toNat) : Int)) (by kernel_rfl) (lwp_at 39 (.int .i64 0) (by kernel_rfl) (vt_colour_l0_ok _ ?_ _ ?_ k_ 0 (cutA (some p68) a1c (1 : Int).toNat 1) ((4 : Int).toNat - (1 : Int).toNat) (a1c - (1 : Int).toNat) (((4 : Int).toNat - (1 : Int).toNat) : Int) 0 _ _ hM))))))
     · intro z75 b77 h76 hM
       refine blockE_h (thenE_n (cR ?_))
       refine oS [(51, .int .i64 z75), (52, .int .i64 (IntKind.wrap .i64 (257 + z75))), (2, .int .i64 (IntKind.wrap .i64 (257 + z75))), (3, .int .i64 4)] rfl ?_
       refine oE (cwp_ret (blockE_r (thenE_r ?_)))
       exact ret_ (.tuple #[.int .i64 (IntKind.wrap .i64 (257 + z75)), .int .i64 4]) (by kernel_rfl) ⟨_, _, rfl, hM⟩
     · intro z78 z79 b81 h80 hM
       refine blockE_r (thenE_r (blockE_r (thenE_r ?_)))
       exact ret_ (.tuple #[.int .i64 z78, .int .i64 z79]) (by kernel_rfl) ⟨_, _, rfl, hM⟩
   replace hM := ifF hc72 hM
   refine cwp_skip (blockE_n (thenE_n (cR ?_)))
   refine oS [(2, .int .i64 0), (3, .int .i64 0)] rfl ?_
   refine oE (cwp_ret ?_)
   exact ret_ (.tuple #[.int .i64 0, .int .i64 0]) (by kernel_rfl) ⟨_, _, rfl, hM⟩
 refine oA 29 false (decide (4 ≤ (a1n : Int))) (by rw [decide_eq_false hc65]) ?_
 refine oA 30 false (decide (4 ≤ (a1n : Int))) (by rw [decide_eq_false hc65]) ?_
 replace hM := ifF hc65 hM
 refine oS [(31, undef), (32, undef), (33, undef), (34, undef), (35, .bool false), (26, .bool false)] rfl ?_
 refine oE ?_
 refine cwp_cond (t := false) (by kernel_rfl) (fun hx_ => ?_) (fun hx_ => ?_)
 all_goals first | (cases hx_; done) | skip
 refine cwp_skip (blockE_n (thenE_n (cR ?_)))
 refine oS [(2, .int .i64 0), (3, .int .i64 0)] rfl ?_
 refine oE (cwp_ret ?_)
 exact ret_ (.tuple #[.int .i64 0, .int .i64 0]) (by kernel_rfl) ⟨_, _, rfl, hM⟩
/- (*mullion/vt.Screen).pens -/
def vt_Screen_pens_l1 (K0 : Heap → Prop) (Kr : Heap → Prop) : Nat → Option Addr → Option Addr → Nat → Nat → Nat → Int → Heap → Prop
  | 0, _, _, _, _, _, _, _ => False
  | k + 1, y13, y14, y14n, y14c, y15, y16, h =>
  if y16 < (y14n : Int) then
   nz y14 fun p20 =>
   0 ≤ y16 ∧
   y16 < (y14n : Int) ∧
   ldI h .i64 (p20.add ((y16).toNat * 1)) fun x21 =>
   if (imax 0 x21) = 0 then
    nz y13 fun p25 =>
    stN (p25.add 11) [.int .i64 0, .int .i64 0, .int .i64 0] 0 h fun h26 =>
    vt_Screen_pens_l1 K0 Kr k (some p25) (some p20) y14n y14c y15 (IntKind.wrap .i64 (y16 + 1)) h26
   else
   if (imax 0 x21) < 10 then
    nz y13 fun p28 =>
    ldI h .i64 (p28.add 13) fun x29 =>
    0 ≤ (imax 0 x21) ∧
    (imax 0 x21) < (10 : Int) ∧
    ldI h .i64 ((⟨y15, 0, none⟩ : Addr).add ((imax 0 x21).toNat * 1)) fun x35 =>
    stN (p28.add 13) [.int .i64 (iOr .i64 x29 x35)] 0 h fun h39 =>
    vt_Screen_pens_l1 K0 Kr k (some p28) (some p20) y14n y14c y15 (IntKind.wrap .i64 (y16 + 1)) h39
   else
   if (imax 0 x21) = 21 then
    nz y13 fun p41 =>
    ldI h .i64 (p41.add 13) fun x42 =>
    stN (p41.add 13) [.int .i64 (iOr .i64 x42 8)] 0 h fun h45 =>
    vt_Screen_pens_l1 K0 Kr k (some p41) (some p20) y14n y14c y15 (IntKind.wrap .i64 (y16 + 1)) h45
   else
   if (imax 0 x21) = 22 then
    nz y13 fun p47 =>
    ldI h .i64 (p47.add 13) fun x48 =>
    stN (p47.add 13) [.int .i64 (iAndNot .i64 x48 3)] 0 h fun h51 =>
    vt_Screen_pens_l1 K0 Kr k (some p47) (some p20) y14n y14c y15 (IntKind.wrap .i64 (y16 + 1)) h51
   else
   if ((decide (23 ≤ (imax 0 x21))) && (decide ((imax 0 x21) ≤ 29))) = true then
    nz y13 fun p57 =>
    ldI h .i64 (p57.add 13) fun x58 =>
    0 ≤ (IntKind.wrap .i64 ((imax 0 x21) - 20)) ∧
    (IntKind.wrap .i64 ((imax 0 x21) - 20)) < (10 : Int) ∧
    ldI h .i64 ((⟨y15, 0, none⟩ : Addr).add ((IntKind.wrap .i64 ((imax 0 x21) - 20)).toNat * 1)) fun x64 =>
    stN (p57.add 13) [.int .i64 (iAndNot .i64 x58 x64)] 0 h fun h68 =>
    vt_Screen_pens_l1 K0 Kr k (some p57) (some p20) y14n y14c y15 (IntKind.wrap .i64 (y16 + 1)) h68
   else
   if ((decide (30 ≤ (imax 0 x21))) && (decide ((imax 0 x21) ≤ 37))) = true then
    nz y13 fun p74 =>
    stN (p74.add 11) [.int .i64 (IntKind.wrap .i64 ((imax 0 x21) - 29))] 0 h fun h75 =>
    vt_Screen_pens_l1 K0 Kr k (some p74) (some p20) y14n y14c y15 (IntKind.wrap .i64 (y16 + 1)) h75
   else
   if ((decide (40 ≤ (imax 0 x21))) && (decide ((imax 0 x21) ≤ 47))) = true then
    nz y13 fun p81 =>
    stN (p81.add 12) [.int .i64 (IntKind.wrap .i64 ((imax 0 x21) - 39))] 0 h fun h82 =>
    vt_Screen_pens_l1 K0 Kr k (some p81) (some p20) y14n y14c y15 (IntKind.wrap .i64 (y16 + 1)) h82
   else
   if ((decide (90 ≤ (imax 0 x21))) && (decide ((imax 0 x21) ≤ 97))) = true then
    nz y13 fun p88 =>
    stN (p88.add 11) [.int .i64 (IntKind.wrap .i64 ((imax 0 x21) - 81))] 0 h fun h89 =>
    vt_Screen_pens_l1 K0 Kr k (some p88) (some p20) y14n y14c y15 (IntKind.wrap .i64 (y16 + 1)) h89
   else
   if ((decide (100 ≤ (imax 0 x21))) && (decide ((imax 0 x21) ≤ 107))) = true then
    nz y13 fun p95 =>
    stN (p95.add 12) [.int .i64 (IntKind.wrap .i64 ((imax 0 x21) - 91))] 0 h fun h96 =>
    vt_Screen_pens_l1 K0 Kr k (some p95) (some p20) y14n y14c y15 (IntKind.wrap .i64 (y16 + 1)) h96
   else
   if (imax 0 x21) = 39 then
    nz y13 fun p98 =>
    stN (p98.add 11) [.int .i64 0] 0 h fun h99 =>
    vt_Screen_pens_l1 K0 Kr k (some p98) (some p20) y14n y14c y15 (IntKind.wrap .i64 (y16 + 1)) h99
   else
   if (imax 0 x21) = 49 then
    nz y13 fun p101 =>
    stN (p101.add 12) [.int .i64 0] 0 h fun h102 =>
    vt_Screen_pens_l1 K0 Kr k (some p101) (some p20) y14n y14c y15 (IntKind.wrap .i64 (y16 + 1)) h102
   else
   if ((decide ((imax 0 x21) = 38)) || (decide ((imax 0 x21) = 48))) = true then
    0 ≤ (IntKind.wrap .i64 (y16 + 1)) ∧
    (IntKind.wrap .i64 (y16 + 1)) ≤ (y14n : Int) ∧
    vt_colour (cutA (some p20) y14c (IntKind.wrap .i64 (y16 + 1)).toNat 1) (y14n - (IntKind.wrap .i64 (y16 + 1)).toNat) (y14c - (IntKind.wrap .i64 (y16 + 1)).toNat) (fun x111 x112 h110 =>
     if x112 = 0 then
      Kr  h110
     else
     if ((decide (0 ≤ x111)) && (decide ((imax 0 x21) = 38))) = true then
      nz y13 fun p119 =>
      stN (p119.add 11) [.int .i64 x111] 0 h110 fun h120 =>
      vt_Screen_pens_l1 K0 Kr k (some p119) (some p20) y14n y14c y15 (IntKind.wrap .i64 ((IntKind.wrap .i64 (y16 + x112)) + 1)) h120
     else
     if 0 ≤ x111 then
      nz y13 fun p122 =>
      stN (p122.add 12) [.int .i64 x111] 0 h110 fun h123 =>
      vt_Screen_pens_l1 K0 Kr k (some p122) (some p20) y14n y14c y15 (IntKind.wrap .i64 ((IntKind.wrap .i64 (y16 + x112)) + 1)) h123
     else
      vt_Screen_pens_l1 K0 Kr k y13 (some p20) y14n y14c y15 (IntKind.wrap .i64 ((IntKind.wrap .i64 (y16 + x112)) + 1)) h110) h
   else
   vt_Screen_pens_l1 K0 Kr k y13 (some p20) y14n y14c y15 (IntKind.wrap .i64 (y16 + 1)) h
  else
  K0  h
theorem vt_Screen_pens_l1_ok {Q : Exit → Env → Heap → Prop} (K0 : Heap → Prop) (hK0 : ∀  (b : Env) (h : Heap), K0  h → Q (.exit 0) b h) (Kr : Heap → Prop) (hKr : ∀  (b : Env) (h : Heap), Kr  h → Q .ret b h) : ∀ (k : Nat) (y13 : Option Addr) (y14 : Option Addr) (y14n : Nat) (y14c : Nat) (y15 : Nat) (y16 : Int) (b : Env) (h : Heap) (hM : vt_Screen_pens_l1 K0 Kr k y13 y14 y14n y14c y15 y16 h), lwp Tryd.prog (partC Tryd.f77 [1, 1, 1, 0, 0]) 212 Q k (upd (upd (upd (upd b 0 (.pointer y13)) 1 (.slice y14 y14n y14c)) 4 (.pointer (some ⟨y15, 0, none⟩))) 5 (.int .i64 y16)) h := by
  intro k
  induction k with
  | zero => intro y13 y14 y14n y14c y15 y16 b h hM; exact (show False from hM).elim
  | succ k ih =>
    intro y13 y14 y14n y14c y15 y16 b h hM
    unfold vt_Screen_pens_l1 at hM
    refine lwp_succ (cwp_part rfl ?_)
    refine cwp_seq (cR ?_)
    refine oS [(14, .int .i64 y16), (15, .slice y14 y14n y14c), (16, .int .i64 (y14n : Int)), (17, .bool (decide (y16 < (y14n : Int))))] rfl ?_
    refine oE ?_
    refine cwp_condD (y16 < (y14n : Int)) (by kernel_rfl) (fun hc17 => ?_) (fun hc17 => ?_)
    · replace hM := ifT hc17 hM
      refine cwp_skip (thenE_n (cwp_seq (cwp_block (cR ?_))))
      refine oS [(20, .slice y14 y14n y14c), (21, .int .i64 y16)] rfl ?_
      obtain ⟨p20, rfl, hM⟩ := hM
      obtain ⟨hc18, hM⟩ := hM
      obtain ⟨hc19, hM⟩ := hM
      refine owp_rdG (.pointer (some (p20.add ((y16).toNat * 1)))) rfl (by kernel_rfl) (rd_ixS (P := Tryd.prog) (h := h) (t := 95) (el := 3) (sz := 1) (ad := p20) (len := y14n) (c := y14c) (k := .i64) (i := y16) (by kernel_rfl) (by kernel_rfl) hc18 hc19 (by kernel_rfl)) ?_
      obtain ⟨x21, hc22, hM⟩ := hM
      refine oL (.int .i64 x21) (p20.add ((y16).toNat * 1)) hc22 ?_
      refine oS [(24, .int .i64 (imax 0 x21)), (6, .int .i64 (imax 0 x21))] rfl ?_
      refine oE (cwp_block (cR ?_))
      refine oS [(26, .int .i64 (imax 0 x21)), (27, .bool (decide ((imax 0 x21) = 0))), (25, .bool (decide ((imax 0 x21) = 0)))] rfl ?_
      refine oE ?_
      refine cwp_condD ((imax 0 x21) = 0) (by kernel_rfl) (fun hc24 => ?_) (fun hc24 => ?_)
      · replace hM := ifT hc24 hM
        refine cwp_region ?_
        refine oS [(28, .pointer y13), (29, .agg #[.int .i64 0, .int .i64 0, .int .i64 0])] rfl ?_
        obtain ⟨p25, rfl, hM⟩ := hM
        refine owp_rdG (.pointer (some p25)) rfl (by kernel_rfl) (by kernel_rfl) ?_
        refine oS [(31, .pointer (some (p25.add 9))), (32, .pointer (some (p25.add 11)))] rfl ?_
        refine oT (p25.add 11) [.int .i64 0, .int .i64 0, .int .i64 0] hM ?_
        clear hM
        intro h26 hM
        refine owp_nil (blockE_n (blockE_n (thenE_n (cwp_region ?_))))
        refine oS [(18, .int .i64 y16), (19, .int .i64 (IntKind.wrap .i64 (y16 + 1))), (5, .int .i64 (IntKind.wrap .i64 (y16 + 1)))] rfl ?_
        refine owp_nil ?_
        exact lwp_at 0 (.pointer (some p25)) (by kernel_rfl) (lwp_at 1 (.slice (some p20) y14n y14c) (by kernel_rfl) (lwp_at 4 (.pointer (some ⟨y15, 0, none⟩)) (by kernel_rfl) (lwp_at 5 (.int .i64 (IntKind.wrap .i64 (y16 + 1))) (by kernel_rfl) (ih (some p25) (some p20) y14n y14c y15 (IntKind.wrap .i64 (y16 + 1)) _ _ hM))))
      replace hM := ifF hc24 hM
      refine cR ?_
      refine oS [(34, .int .i64 (imax 0 x21)), (35, .bool (decide ((imax 0 x21) < 10))), (33, .bool (decide ((imax 0 x21) < 10)))] rfl ?_
      refine oE ?_
      refine cwp_condD ((imax 0 x21) < 10) (by kernel_rfl) (fun hc27 => ?_) (fun hc27 => ?_)
      · replace hM := ifT hc27 hM
        refine cwp_draw (by kernel_rfl) ?_
        refine kp 0 [1, 2, 3, 4, 5, 9, 10, 11, 12, 13, 14] (.pointer y13) ?_
        obtain ⟨p28, rfl, hM⟩ := hM
        refine kp 1 [2, 3, 4, 5, 9, 10, 11, 12, 13, 14] (.pointer (some p28)) ?_
        refine kp 2 [3, 4, 5, 9, 10, 11, 12, 13, 14] (.pointer (some (p28.add 9))) ?_
        refine kp 3 [4, 5, 9, 10, 11, 12, 13, 14] (.pointer (some (p28.add 11))) ?_
        refine kp 4 [5, 9, 10, 11, 12, 13, 14] (.pointer (some (p28.add 13))) ?_
        obtain ⟨x29, hc30, hM⟩ := hM
        refine kl 5 (.int .i64 x29) (p28.add 13) [9, 10, 11, 12, 13, 14] [14] hc30 ?_
        refine kp 6 [7, 8, 9, 10, 11, 12, 13, 14] (.int .i64 (imax 0 x21)) ?_
        obtain ⟨hc33, hM⟩ := hM
        obtain ⟨hc34, hM⟩ := hM
        refine k_pure (i := 7) [8, 9, 10, 11, 12, 13, 14] (.pointer (some ((⟨y15, 0, none⟩ : Addr).add ((imax 0 x21).toNat * 1)))) (by kernel_rfl) rfl rfl (by kernel_rfl) (fun h' => rd_ixA (P := Tryd.prog) (h := h') (t := 116) (el := 3) (sz := 1) (len := 10) (ad := ⟨y15, 0, none⟩) (k := .i64) (i := (imax 0 x21)) (by kernel_rfl) (by kernel_rfl) hc33 hc34 (by kernel_rfl)) (by kernel_rfl) ?_
        obtain ⟨x35, hc36, hM⟩ := hM
        refine kl 8 (.int .i64 x35) ((⟨y15, 0, none⟩ : Addr).add ((imax 0 x21).toNat * 1)) [9, 10, 11, 12, 13, 14] [14] hc36 ?_
        refine kp 9 [10, 11, 12, 13, 14] (.int .i64 (iOr .i64 x29 x35)) ?_
        refine kp 10 [11, 12, 13, 14] (.pointer (some p28)) ?_
        refine kp 11 [12, 13, 14] (.pointer (some (p28.add 9))) ?_
        refine kp 12 [13, 14] (.pointer (some (p28.add 11))) ?_
        refine kp 13 [14] (.pointer (some (p28.add 13))) ?_
        refine k_effD (j := 14) (by kernel_rfl) rfl rfl (by kernel_rfl) (hpSt (p28.add 13) [.int .i64 (iOr .i64 x29 x35)] (fun _ => by kernel_rfl) (by kernel_rfl) hM ?_)
        clear hM
        intro h39 hM
        refine ⟨trivial, ?_⟩
        refine k_done (by kernel_rfl) ?_
        refine blockE_n (blockE_n (thenE_n (cwp_region ?_)))
        refine oS [(18, .int .i64 y16), (19, .int .i64 (IntKind.wrap .i64 (y16 + 1))), (5, .int .i64 (IntKind.wrap .i64 (y16 + 1)))] rfl ?_
        refine owp_nil ?_
        exact lwp_at 0 (.pointer (some p28)) (by kernel_rfl) (lwp_at 1 (.slice (some p20) y14n y14c) (by kernel_rfl) (lwp_at 4 (.pointer (some ⟨y15, 0, none⟩)) (by kernel_rfl) (lwp_at 5 (.int .i64 (IntKind.wrap .i64 (y16 + 1))) (by kernel_rfl) (ih (some p28) (some p20) y14n y14c y15 (IntKind.wrap .i64 (y16 + 1)) _ _ hM))))
      replace hM := ifF hc27 hM
      refine cR ?_
      refine oS [(51, .int .i64 (imax 0 x21)), (52, .bool (decide ((imax 0 x21) = 21))), (50, .bool (decide ((imax 0 x21) = 21)))] rfl ?_
      refine oE ?_
      refine cwp_condD ((imax 0 x21) = 21) (by kernel_rfl) (fun hc40 => ?_) (fun hc40 => ?_)
      · replace hM := ifT hc40 hM
        refine cwp_region ?_
        refine oS [(53, .pointer y13)] rfl ?_
        obtain ⟨p41, rfl, hM⟩ := hM
        refine owp_rdG (.pointer (some p41)) rfl (by kernel_rfl) (by kernel_rfl) ?_
        refine oS [(55, .pointer (some (p41.add 9))), (56, .pointer (some (p41.add 11))), (57, .pointer (some (p41.add 13)))] rfl ?_
        obtain ⟨x42, hc43, hM⟩ := hM
        refine oL (.int .i64 x42) (p41.add 13) hc43 ?_
        refine oS [(59, .int .i64 (iOr .i64 x42 8)), (60, .pointer (some p41)), (61, .pointer (some (p41.add 9))), (62, .pointer (some (p41.add 11))), (63, .pointer (some (p41.add 13)))] rfl ?_
        refine oT (p41.add 13) [.int .i64 (iOr .i64 x42 8)] hM ?_
        clear hM
        intro h45 hM
        refine owp_nil (blockE_n (blockE_n (thenE_n (cwp_region ?_))))
        refine oS [(18, .int .i64 y16), (19, .int .i64 (IntKind.wrap .i64 (y16 + 1))), (5, .int .i64 (IntKind.wrap .i64 (y16 + 1)))] rfl ?_
        refine owp_nil ?_
        exact lwp_at 0 (.pointer (some p41)) (by kernel_rfl) (lwp_at 1 (.slice (some p20) y14n y14c) (by kernel_rfl) (lwp_at 4 (.pointer (some ⟨y15, 0, none⟩)) (by kernel_rfl) (lwp_at 5 (.int .i64 (IntKind.wrap .i64 (y16 + 1))) (by kernel_rfl) (ih (some p41) (some p20) y14n y14c y15 (IntKind.wrap .i64 (y16 + 1)) _ _ hM))))
      replace hM := ifF hc40 hM
      refine cR ?_
      refine oS [(65, .int .i64 (imax 0 x21)), (66, .bool (decide ((imax 0 x21) = 22))), (64, .bool (decide ((imax 0 x21) = 22)))] rfl ?_
      refine oE ?_
      refine cwp_condD ((imax 0 x21) = 22) (by kernel_rfl) (fun hc46 => ?_) (fun hc46 => ?_)
      · replace hM := ifT hc46 hM
        refine cwp_region ?_
        refine oS [(67, .pointer y13)] rfl ?_
        obtain ⟨p47, rfl, hM⟩ := hM
        refine owp_rdG (.pointer (some p47)) rfl (by kernel_rfl) (by kernel_rfl) ?_
        refine oS [(69, .pointer (some (p47.add 9))), (70, .pointer (some (p47.add 11))), (71, .pointer (some (p47.add 13)))] rfl ?_
        obtain ⟨x48, hc49, hM⟩ := hM
        refine oL (.int .i64 x48) (p47.add 13) hc49 ?_
        refine oS [(73, .int .i64 (iAndNot .i64 x48 3)), (74, .pointer (some p47)), (75, .pointer (some (p47.add 9))), (76, .pointer (some (p47.add 11))), (77, .pointer (some (p47.add 13)))] rfl ?_
        refine oT (p47.add 13) [.int .i64 (iAndNot .i64 x48 3)] hM ?_
        clear hM
        intro h51 hM
        refine owp_nil (blockE_n (blockE_n (thenE_n (cwp_region ?_))))
        refine oS [(18, .int .i64 y16), (19, .int .i64 (IntKind.wrap .i64 (y16 + 1))), (5, .int .i64 (IntKind.wrap .i64 (y16 + 1)))] rfl ?_
        refine owp_nil ?_
        exact lwp_at 0 (.pointer (some p47)) (by kernel_rfl) (lwp_at 1 (.slice (some p20) y14n y14c) (by kernel_rfl) (lwp_at 4 (.pointer (some ⟨y15, 0, none⟩)) (by kernel_rfl) (lwp_at 5 (.int .i64 (IntKind.wrap .i64 (y16 + 1))) (by kernel_rfl) (ih (some p47) (some p20) y14n y14c y15 (IntKind.wrap .i64 (y16 + 1)) _ _ hM))))
      replace hM := ifF hc46 hM
      refine cR ?_
      refine oS [(79, .int .i64 (imax 0 x21)), (80, .bool (decide (23 ≤ (imax 0 x21)))), (81, .bool (decide (23 ≤ (imax 0 x21))))] rfl ?_
      refine oB (decide (23 ≤ (imax 0 x21))) 3 [80, 81] (fun b_ => [(82, iteV b_ (.int .i64 (imax 0 x21) : Value) undef), (83, iteV b_ (.bool (decide ((imax 0 x21) ≤ 29)) : Value) undef), (84, .bool (b_ && (decide ((imax 0 x21) ≤ 29))))]) rfl (fun hb52 hq53 => oS [(82, .int .i64 (imax 0 x21)), (83, .bool (decide ((imax 0 x21) ≤ 29))), (84, .bool (decide ((imax 0 x21) ≤ 29)))] rfl (hq53)) (fun hb54 hq55 => oS [(82, undef), (83, undef), (84, .bool false)] rfl (hq55)) ?_
      refine oS [(78, .bool ((decide (23 ≤ (imax 0 x21))) && (decide ((imax 0 x21) ≤ 29))))] rfl ?_
      refine oE ?_
      refine cwp_condB ((decide (23 ≤ (imax 0 x21))) && (decide ((imax 0 x21) ≤ 29))) (by kernel_rfl) (fun hc56 => ?_) (fun hc56 => ?_)
      · replace hM := ifT hc56 hM
        refine cwp_draw (by kernel_rfl) ?_
        refine kp 0 [1, 2, 3, 4, 5, 10, 11, 12, 13, 14, 15] (.pointer y13) ?_
        obtain ⟨p57, rfl, hM⟩ := hM
        refine kp 1 [2, 3, 4, 5, 10, 11, 12, 13, 14, 15] (.pointer (some p57)) ?_
        refine kp 2 [3, 4, 5, 10, 11, 12, 13, 14, 15] (.pointer (some (p57.add 9))) ?_
        refine kp 3 [4, 5, 10, 11, 12, 13, 14, 15] (.pointer (some (p57.add 11))) ?_
        refine kp 4 [5, 10, 11, 12, 13, 14, 15] (.pointer (some (p57.add 13))) ?_
        obtain ⟨x58, hc59, hM⟩ := hM
        refine kl 5 (.int .i64 x58) (p57.add 13) [10, 11, 12, 13, 14, 15] [15] hc59 ?_
        refine kp 6 [7, 8, 9, 10, 11, 12, 13, 14, 15] (.int .i64 (imax 0 x21)) ?_
        refine kp 7 [8, 9, 10, 11, 12, 13, 14, 15] (.int .i64 (IntKind.wrap .i64 ((imax 0 x21) - 20))) ?_
        obtain ⟨hc62, hM⟩ := hM
        obtain ⟨hc63, hM⟩ := hM
        refine k_pure (i := 8) [9, 10, 11, 12, 13, 14, 15] (.pointer (some ((⟨y15, 0, none⟩ : Addr).add ((IntKind.wrap .i64 ((imax 0 x21) - 20)).toNat * 1)))) (by kernel_rfl) rfl rfl (by kernel_rfl) (fun h' => rd_ixA (P := Tryd.prog) (h := h') (t := 116) (el := 3) (sz := 1) (len := 10) (ad := ⟨y15, 0, none⟩) (k := .i64) (i := (IntKind.wrap .i64 ((imax 0 x21) - 20))) (by kernel_rfl) (by kernel_rfl) hc62 hc63 (by kernel_rfl)) (by kernel_rfl) ?_
        obtain ⟨x64, hc65, hM⟩ := hM
        refine kl 9 (.int .i64 x64) ((⟨y15, 0, none⟩ : Addr).add ((IntKind.wrap .i64 ((imax 0 x21) - 20)).toNat * 1)) [10, 11, 12, 13, 14, 15] [15] hc65 ?_
        refine kp 10 [11, 12, 13, 14, 15] (.int .i64 (iAndNot .i64 x58 x64)) ?_
        refine kp 11 [12, 13, 14, 15] (.pointer (some p57)) ?_
        refine kp 12 [13, 14, 15] (.pointer (some (p57.add 9))) ?_
        refine kp 13 [14, 15] (.pointer (some (p57.add 11))) ?_
        refine kp 14 [15] (.pointer (some (p57.add 13))) ?_
        refine k_effD (j := 15) (by kernel_rfl) rfl rfl (by kernel_rfl) (hpSt (p57.add 13) [.int .i64 (iAndNot .i64 x58 x64)] (fun _ => by kernel_rfl) (by kernel_rfl) hM ?_)
        clear hM
        intro h68 hM
        refine ⟨trivial, ?_⟩
        refine k_done (by kernel_rfl) ?_
        refine blockE_n (blockE_n (thenE_n (cwp_region ?_)))
        refine oS [(18, .int .i64 y16), (19, .int .i64 (IntKind.wrap .i64 (y16 + 1))), (5, .int .i64 (IntKind.wrap .i64 (y16 + 1)))] rfl ?_
        refine owp_nil ?_
        exact lwp_at 0 (.pointer (some p57)) (by kernel_rfl) (lwp_at 1 (.slice (some p20) y14n y14c) (by kernel_rfl) (lwp_at 4 (.pointer (some ⟨y15, 0, none⟩)) (by kernel_rfl) (lwp_at 5 (.int .i64 (IntKind.wrap .i64 (y16 + 1))) (by kernel_rfl) (ih (some p57) (some p20) y14n y14c y15 (IntKind.wrap .i64 (y16 + 1)) _ _ hM))))
      replace hM := ifF hc56 hM
      refine cR ?_
      refine oS [(101, .int .i64 (imax 0 x21)), (102, .bool (decide (30 ≤ (imax 0 x21)))), (103, .bool (decide (30 ≤ (imax 0 x21))))] rfl ?_
      refine oB (decide (30 ≤ (imax 0 x21))) 3 [102, 103] (fun b_ => [(104, iteV b_ (.int .i64 (imax 0 x21) : Value) undef), (105, iteV b_ (.bool (decide ((imax 0 x21) ≤ 37)) : Value) undef), (106, .bool (b_ && (decide ((imax 0 x21) ≤ 37))))]) rfl (fun hb69 hq70 => oS [(104, .int .i64 (imax 0 x21)), (105, .bool (decide ((imax 0 x21) ≤ 37))), (106, .bool (decide ((imax 0 x21) ≤ 37)))] rfl (hq70)) (fun hb71 hq72 => oS [(104, undef), (105, undef), (106, .bool false)] rfl (hq72)) ?_
      refine oS [(100, .bool ((decide (30 ≤ (imax 0 x21))) && (decide ((imax 0 x21) ≤ 37))))] rfl ?_
      refine oE ?_
      refine cwp_condB ((decide (30 ≤ (imax 0 x21))) && (decide ((imax 0 x21) ≤ 37))) (by kernel_rfl) (fun hc73 => ?_) (fun hc73 => ?_)
      · replace hM := ifT hc73 hM
        refine cwp_region ?_
        refine oS [(107, .pointer y13), (108, .int .i64 (imax 0 x21)), (109, .int .i64 (IntKind.wrap .i64 ((imax 0 x21) - 29)))] rfl ?_
        obtain ⟨p74, rfl, hM⟩ := hM
        refine owp_rdG (.pointer (some p74)) rfl (by kernel_rfl) (by kernel_rfl) ?_
        refine oS [(111, .pointer (some (p74.add 9))), (112, .pointer (some (p74.add 11))), (113, .pointer (some (p74.add 11)))] rfl ?_
        refine oT (p74.add 11) [.int .i64 (IntKind.wrap .i64 ((imax 0 x21) - 29))] hM ?_
        clear hM
        intro h75 hM
        refine owp_nil (blockE_n (blockE_n (thenE_n (cwp_region ?_))))
        refine oS [(18, .int .i64 y16), (19, .int .i64 (IntKind.wrap .i64 (y16 + 1))), (5, .int .i64 (IntKind.wrap .i64 (y16 + 1)))] rfl ?_
        refine owp_nil ?_
        exact lwp_at 0 (.pointer (some p74)) (by kernel_rfl) (lwp_at 1 (.slice (some p20) y14n y14c) (by kernel_rfl) (lwp_at 4 (.pointer (some ⟨y15, 0, none⟩)) (by kernel_rfl) (lwp_at 5 (.int .i64 (IntKind.wrap .i64 (y16 + 1))) (by kernel_rfl) (ih (some p74) (some p20) y14n y14c y15 (IntKind.wrap .i64 (y16 + 1)) _ _ hM))))
      replace hM := ifF hc73 hM
      refine cR ?_
      refine oS [(115, .int .i64 (imax 0 x21)), (116, .bool (decide (40 ≤ (imax 0 x21)))), (117, .bool (decide (40 ≤ (imax 0 x21))))] rfl ?_
      refine oB (decide (40 ≤ (imax 0 x21))) 3 [116, 117] (fun b_ => [(118, iteV b_ (.int .i64 (imax 0 x21) : Value) undef), (119, iteV b_ (.bool (decide ((imax 0 x21) ≤ 47)) : Value) undef), (120, .bool (b_ && (decide ((imax 0 x21) ≤ 47))))]) rfl (fun hb76 hq77 => oS [(118, .int .i64 (imax 0 x21)), (119, .bool (decide ((imax 0 x21) ≤ 47))), (120, .bool (decide ((imax 0 x21) ≤ 47)))] rfl (hq77)) (fun hb78 hq79 => oS [(118, undef), (119, undef), (120, .bool false)] rfl (hq79)) ?_
      refine oS [(114, .bool ((decide (40 ≤ (imax 0 x21))) && (decide ((imax 0 x21) ≤ 47))))] rfl ?_
      refine oE ?_
      refine cwp_condB ((decide (40 ≤ (imax 0 x21))) && (decide ((imax 0 x21) ≤ 47))) (by kernel_rfl) (fun hc80 => ?_) (fun hc80 => ?_)
      · replace hM := ifT hc80 hM
        refine cwp_region ?_
        refine oS [(121, .pointer y13), (122, .int .i64 (imax 0 x21)), (123, .int .i64 (IntKind.wrap .i64 ((imax 0 x21) - 39)))] rfl ?_
        obtain ⟨p81, rfl, hM⟩ := hM
        refine owp_rdG (.pointer (some p81)) rfl (by kernel_rfl) (by kernel_rfl) ?_
        refine oS [(125, .pointer (some (p81.add 9))), (126, .pointer (some (p81.add 11))), (127, .pointer (some (p81.add 12)))] rfl ?_
        refine oT (p81.add 12) [.int .i64 (IntKind.wrap .i64 ((imax 0 x21) - 39))] hM ?_
        clear hM
        intro h82 hM
        refine owp_nil (blockE_n (blockE_n (thenE_n (cwp_region ?_))))
        refine oS [(18, .int .i64 y16), (19, .int .i64 (IntKind.wrap .i64 (y16 + 1))), (5, .int .i64 (IntKind.wrap .i64 (y16 + 1)))] rfl ?_
        refine owp_nil ?_
        exact lwp_at 0 (.pointer (some p81)) (by kernel_rfl) (lwp_at 1 (.slice (some p20) y14n y14c) (by kernel_rfl) (lwp_at 4 (.pointer (some ⟨y15, 0, none⟩)) (by kernel_rfl) (lwp_at 5 (.int .i64 (IntKind.wrap .i64 (y16 + 1))) (by kernel_rfl) (ih (some p81) (some p20) y14n y14c y15 (IntKind.wrap .i64 (y16 + 1)) _ _ hM))))
      replace hM := ifF hc80 hM
      refine cR ?_
      refine oS [(129, .int .i64 (imax 0 x21)), (130, .bool (decide (90 ≤ (imax 0 x21)))), (131, .bool (decide (90 ≤ (imax 0 x21))))] rfl ?_
      refine oB (decide (90 ≤ (imax 0 x21))) 3 [130, 131] (fun b_ => [(132, iteV b_ (.int .i64 (imax 0 x21) : Value) undef), (133, iteV b_ (.bool (decide ((imax 0 x21) ≤ 97)) : Value) undef), (134, .bool (b_ && (decide ((imax 0 x21) ≤ 97))))]) rfl (fun hb83 hq84 => oS [(132, .int .i64 (imax 0 x21)), (133, .bool (decide ((imax 0 x21) ≤ 97))), (134, .bool (decide ((imax 0 x21) ≤ 97)))] rfl (hq84)) (fun hb85 hq86 => oS [(132, undef), (133, undef), (134, .bool false)] rfl (hq86)) ?_
      refine oS [(128, .bool ((decide (90 ≤ (imax 0 x21))) && (decide ((imax 0 x21) ≤ 97))))] rfl ?_
      refine oE ?_
      refine cwp_condB ((decide (90 ≤ (imax 0 x21))) && (decide ((imax 0 x21) ≤ 97))) (by kernel_rfl) (fun hc87 => ?_) (fun hc87 => ?_)
      · replace hM := ifT hc87 hM
        refine cwp_region ?_
        refine oS [(135, .pointer y13), (136, .int .i64 (imax 0 x21)), (137, .int .i64 (IntKind.wrap .i64 ((imax 0 x21) - 81)))] rfl ?_
        obtain ⟨p88, rfl, hM⟩ := hM
        refine owp_rdG (.pointer (some p88)) rfl (by kernel_rfl) (by kernel_rfl) ?_
        refine oS [(139, .pointer (some (p88.add 9))), (140, .pointer (some (p88.add 11))), (141, .pointer (some (p88.add 11)))] rfl ?_
        refine oT (p88.add 11) [.int .i64 (IntKind.wrap .i64 ((imax 0 x21) - 81))] hM ?_
        clear hM
        intro h89 hM
        refine owp_nil (blockE_n (blockE_n (thenE_n (cwp_region ?_))))
        refine oS [(18, .int .i64 y16), (19, .int .i64 (IntKind.wrap .i64 (y16 + 1))), (5, .int .i64 (IntKind.wrap .i64 (y16 + 1)))] rfl ?_
        refine owp_nil ?_
        exact lwp_at 0 (.pointer (some p88)) (by kernel_rfl) (lwp_at 1 (.slice (some p20) y14n y14c) (by kernel_rfl) (lwp_at 4 (.pointer (some ⟨y15, 0, none⟩)) (by kernel_rfl) (lwp_at 5 (.int .i64 (IntKind.wrap .i64 (y16 + 1))) (by kernel_rfl) (ih (some p88) (some p20) y14n y14c y15 (IntKind.wrap .i64 (y16 + 1)) _ _ hM))))
      replace hM := ifF hc87 hM
      refine cR ?_
      refine oS [(143, .int .i64 (imax 0 x21)), (144, .bool (decide (100 ≤ (imax 0 x21)))), (145, .bool (decide (100 ≤ (imax 0 x21))))] rfl ?_
      refine oB (decide (100 ≤ (imax 0 x21))) 3 [144, 145] (fun b_ => [(146, iteV b_ (.int .i64 (imax 0 x21) : Value) undef), (147, iteV b_ (.bool (decide ((imax 0 x21) ≤ 107)) : Value) undef), (148, .bool (b_ && (decide ((imax 0 x21) ≤ 107))))]) rfl (fun hb90 hq91 => oS [(146, .int .i64 (imax 0 x21)), (147, .bool (decide ((imax 0 x21) ≤ 107))), (148, .bool (decide ((imax 0 x21) ≤ 107)))] rfl (hq91)) (fun hb92 hq93 => oS [(146, undef), (147, undef), (148, .bool false)] rfl (hq93)) ?_
      refine oS [(142, .bool ((decide (100 ≤ (imax 0 x21))) && (decide ((imax 0 x21) ≤ 107))))] rfl ?_
      refine oE ?_
      refine cwp_condB ((decide (100 ≤ (imax 0 x21))) && (decide ((imax 0 x21) ≤ 107))) (by kernel_rfl) (fun hc94 => ?_) (fun hc94 => ?_)
      · replace hM := ifT hc94 hM
        refine cwp_region ?_
        refine oS [(149, .pointer y13), (150, .int .i64 (imax 0 x21)), (151, .int .i64 (IntKind.wrap .i64 ((imax 0 x21) - 91)))] rfl ?_
        obtain ⟨p95, rfl, hM⟩ := hM
        refine owp_rdG (.pointer (some p95)) rfl (by kernel_rfl) (by kernel_rfl) ?_
        refine oS [(153, .pointer (some (p95.add 9))), (154, .pointer (some (p95.add 11))), (155, .pointer (some (p95.add 12)))] rfl ?_
        refine oT (p95.add 12) [.int .i64 (IntKind.wrap .i64 ((imax 0 x21) - 91))] hM ?_
        clear hM
        intro h96 hM
        refine owp_nil (blockE_n (blockE_n (thenE_n (cwp_region ?_))))
        refine oS [(18, .int .i64 y16), (19, .int .i64 (IntKind.wrap .i64 (y16 + 1))), (5, .int .i64 (IntKind.wrap .i64 (y16 + 1)))] rfl ?_
        refine owp_nil ?_
        exact lwp_at 0 (.pointer (some p95)) (by kernel_rfl) (lwp_at 1 (.slice (some p20) y14n y14c) (by kernel_rfl) (lwp_at 4 (.pointer (some ⟨y15, 0, none⟩)) (by kernel_rfl) (lwp_at 5 (.int .i64 (IntKind.wrap .i64 (y16 + 1))) (by kernel_rfl) (ih (some p95) (some p20) y14n y14c y15 (IntKind.wrap .i64 (y16 + 1)) _ _ hM))))
      replace hM := ifF hc94 hM
      refine cR ?_
      refine oS [(157, .int .i64 (imax 0 x21)), (158, .bool (decide ((imax 0 x21) = 39))), (156, .bool (decide ((imax 0 x21) = 39)))] rfl ?_
      refine oE ?_
      refine cwp_condD ((imax 0 x21) = 39) (by kernel_rfl) (fun hc97 => ?_) (fun hc97 => ?_)
      · replace hM := ifT hc97 hM
        refine cwp_region ?_
        refine oS [(159, .pointer y13)] rfl ?_
        obtain ⟨p98, rfl, hM⟩ := hM
        refine owp_rdG (.pointer (some p98)) rfl (by kernel_rfl) (by kernel_rfl) ?_
        refine oS [(161, .pointer (some (p98.add 9))), (162, .pointer (some (p98.add 11))), (163, .pointer (some (p98.add 11)))] rfl ?_
        refine oT (p98.add 11) [.int .i64 0] hM ?_
        clear hM
        intro h99 hM
        refine owp_nil (blockE_n (blockE_n (thenE_n (cwp_region ?_))))
        refine oS [(18, .int .i64 y16), (19, .int .i64 (IntKind.wrap .i64 (y16 + 1))), (5, .int .i64 (IntKind.wrap .i64 (y16 + 1)))] rfl ?_
        refine owp_nil ?_
        exact lwp_at 0 (.pointer (some p98)) (by kernel_rfl) (lwp_at 1 (.slice (some p20) y14n y14c) (by kernel_rfl) (lwp_at 4 (.pointer (some ⟨y15, 0, none⟩)) (by kernel_rfl) (lwp_at 5 (.int .i64 (IntKind.wrap .i64 (y16 + 1))) (by kernel_rfl) (ih (some p98) (some p20) y14n y14c y15 (IntKind.wrap .i64 (y16 + 1)) _ _ hM))))
      replace hM := ifF hc97 hM
      refine cR ?_
      refine oS [(165, .int .i64 (imax 0 x21)), (166, .bool (decide ((imax 0 x21) = 49))), (164, .bool (decide ((imax 0 x21) = 49)))] rfl ?_
      refine oE ?_
      refine cwp_condD ((imax 0 x21) = 49) (by kernel_rfl) (fun hc100 => ?_) (fun hc100 => ?_)
      · replace hM := ifT hc100 hM
        refine cwp_region ?_
        refine oS [(167, .pointer y13)] rfl ?_
        obtain ⟨p101, rfl, hM⟩ := hM
        refine owp_rdG (.pointer (some p101)) rfl (by kernel_rfl) (by kernel_rfl) ?_
        refine oS [(169, .pointer (some (p101.add 9))), (170, .pointer (some (p101.add 11))), (171, .pointer (some (p101.add 12)))] rfl ?_
        refine oT (p101.add 12) [.int .i64 0] hM ?_
        clear hM
        intro h102 hM
        refine owp_nil (blockE_n (blockE_n (thenE_n (cwp_region ?_))))
        refine oS [(18, .int .i64 y16), (19, .int .i64 (IntKind.wrap .i64 (y16 + 1))), (5, .int .i64 (IntKind.wrap .i64 (y16 + 1)))] rfl ?_
        refine owp_nil ?_
        exact lwp_at 0 (.pointer (some p101)) (by kernel_rfl) (lwp_at 1 (.slice (some p20) y14n y14c) (by kernel_rfl) (lwp_at 4 (.pointer (some ⟨y15, 0, none⟩)) (by kernel_rfl) (lwp_at 5 (.int .i64 (IntKind.wrap .i64 (y16 + 1))) (by kernel_rfl) (ih (some p101) (some p20) y14n y14c y15 (IntKind.wrap .i64 (y16 + 1)) _ _ hM))))
      replace hM := ifF hc100 hM
      refine cR ?_
      refine oS [(173, .int .i64 (imax 0 x21)), (174, .bool (decide ((imax 0 x21) = 38))), (175, .bool (decide ((imax 0 x21) = 38)))] rfl ?_
      refine oB (decide ((imax 0 x21) = 38)) 3 [174, 175] (fun b_ => [(176, iteV b_ undef (.int .i64 (imax 0 x21) : Value)), (177, iteV b_ undef (.bool (decide ((imax 0 x21) = 48)) : Value)), (178, .bool (b_ || (decide ((imax 0 x21) = 48))))]) rfl (fun hb103 hq104 => oS [(176, undef), (177, undef), (178, .bool true)] rfl (hq104)) (fun hb105 hq106 => oS [(176, .int .i64 (imax 0 x21)), (177, .bool (decide ((imax 0 x21) = 48))), (178, .bool (decide ((imax 0 x21) = 48)))] rfl (hq106)) ?_
      refine oS [(172, .bool ((decide ((imax 0 x21) = 38)) || (decide ((imax 0 x21) = 48))))] rfl ?_
      refine oE ?_
      refine cwp_condB ((decide ((imax 0 x21) = 38)) || (decide ((imax 0 x21) = 48))) (by kernel_rfl) (fun hc107 => ?_) (fun hc107 => ?_)
      · replace hM := ifT hc107 hM
        refine cR ?_
        refine oS [(180, .slice (some p20) y14n y14c), (181, .int .i64 y16), (182, .int .i64 (IntKind.wrap .i64 (y16 + 1)))] rfl ?_
        obtain ⟨hc108, hM⟩ := hM
        obtain ⟨hc109, hM⟩ := hM
        refine owp_rdG (.slice (cutA (some p20) y14c (IntKind.wrap .i64 (y16 + 1)).toNat 1) (y14n - (IntKind.wrap .i64 (y16 + 1)).toNat) (y14c - (IntKind.wrap .i64 (y16 + 1)).toNat)) rfl (by kernel_rfl) (rd_sSLo (P := Tryd.prog) (h := h) (t := 95) (el := 3) (sz := 1) (a := (some p20)) (n := y14n) (c := y14c) (k := .i64) (i := (IntKind.wrap .i64 (y16 + 1))) (by kernel_rfl) (by kernel_rfl) hc108 hc109 (by kernel_rfl)) ?_
        refine oG (hpCallE 80 #[.slice (cutA (some p20) y14c (IntKind.wrap .i64 (y16 + 1)).toNat 1) (y14n - (IntKind.wrap .i64 (y16 + 1)).toNat) (y14c - (IntKind.wrap .i64 (y16 + 1)).toNat)] (by kernel_rfl) (vt_colour_ok (cutA (some p20) y14c (IntKind.wrap .i64 (y16 + 1)).toNat 1) (y14n - (IntKind.wrap .i64 (y16 + 1)).toNat) (y14c - (IntKind.wrap .i64 (y16 + 1)).toNat) _ h hM) ?_)
        clear hM
        rintro _ h110 ⟨x111, x112, rfl, hM⟩
        refine oS [(179, .tuple #[.int .i64 x111, .int .i64 x112]), (185, .int .i64 x111), (186, .int .i64 x112), (7, .int .i64 x111), (8, .int .i64 x112)] rfl ?_
        refine oE (cwp_seq (cR ?_))
        refine oS [(187, .int .i64 x112), (188, .bool (decide (x112 = 0)))] rfl ?_
        refine oE ?_
        refine cwp_condD (x112 = 0) (by kernel_rfl) (fun hc113 => ?_) (fun hc113 => ?_)
        · replace hM := ifT hc113 hM
          refine cwp_ret (thenE_r (blockE_r (blockE_r (thenE_r ?_))))
          exact hKr  _ _ hM
        replace hM := ifF hc113 hM
        refine cwp_skip (thenE_n (cR ?_))
        refine oS [(189, .int .i64 y16), (190, .int .i64 x112), (191, .int .i64 (IntKind.wrap .i64 (y16 + x112))), (5, .int .i64 (IntKind.wrap .i64 (y16 + x112)))] rfl ?_
        refine oE (cR ?_)
        refine oS [(192, .int .i64 x111), (193, .bool (decide (0 ≤ x111))), (194, .bool (decide (0 ≤ x111)))] rfl ?_
        refine oB (decide (0 ≤ x111)) 3 [193, 194] (fun b_ => [(195, iteV b_ (.int .i64 (imax 0 x21) : Value) undef), (196, iteV b_ (.bool (decide ((imax 0 x21) = 38)) : Value) undef), (197, .bool (b_ && (decide ((imax 0 x21) = 38))))]) rfl (fun hb114 hq115 => oS [(195, .int .i64 (imax 0 x21)), (196, .bool (decide ((imax 0 x21) = 38))), (197, .bool (decide ((imax 0 x21) = 38)))] rfl (hq115)) (fun hb116 hq117 => oS [(195, undef), (196, undef), (197, .bool false)] rfl (hq117)) ?_
        refine oE ?_
        refine cwp_condB ((decide (0 ≤ x111)) && (decide ((imax 0 x21) = 38))) (by kernel_rfl) (fun hc118 => ?_) (fun hc118 => ?_)
        · replace hM := ifT hc118 hM
          refine cwp_region ?_
          refine oS [(198, .pointer y13), (199, .int .i64 x111)] rfl ?_
          obtain ⟨p119, rfl, hM⟩ := hM
          refine owp_rdG (.pointer (some p119)) rfl (by kernel_rfl) (by kernel_rfl) ?_
          refine oS [(201, .pointer (some (p119.add 9))), (202, .pointer (some (p119.add 11))), (203, .pointer (some (p119.add 11)))] rfl ?_
          refine oT (p119.add 11) [.int .i64 x111] hM ?_
          clear hM
          intro h120 hM
          refine owp_nil (blockE_n (blockE_n (thenE_n (cwp_region ?_))))
          refine oS [(18, .int .i64 (IntKind.wrap .i64 (y16 + x112))), (19, .int .i64 (IntKind.wrap .i64 ((IntKind.wrap .i64 (y16 + x112)) + 1))), (5, .int .i64 (IntKind.wrap .i64 ((IntKind.wrap .i64 (y16 + x112)) + 1)))] rfl ?_
          refine owp_nil ?_
          exact lwp_at 0 (.pointer (some p119)) (by kernel_rfl) (lwp_at 1 (.slice (some p20) y14n y14c) (by kernel_rfl) (lwp_at 4 (.pointer (some ⟨y15, 0, none⟩)) (by kernel_rfl) (lwp_at 5 (.int .i64 (IntKind.wrap .i64 ((IntKind.wrap .i64 (y16 + x112)) + 1))) (by kernel_rfl) (ih (some p119) (some p20) y14n y14c y15 (IntKind.wrap .i64 ((IntKind.wrap .i64 (y16 + x112)) + 1)) _ _ hM))))
        replace hM := ifF hc118 hM
        refine cR ?_
        refine oS [(204, .int .i64 x111), (205, .bool (decide (0 ≤ x111)))] rfl ?_
        refine oE ?_
        refine cwp_condD (0 ≤ x111) (by kernel_rfl) (fun hc121 => ?_) (fun hc121 => ?_)
        · replace hM := ifT hc121 hM
          refine cwp_region ?_
          refine oS [(206, .pointer y13), (207, .int .i64 x111)] rfl ?_
          obtain ⟨p122, rfl, hM⟩ := hM
          refine owp_rdG (.pointer (some p122)) rfl (by kernel_rfl) (by kernel_rfl) ?_
          refine oS [(209, .pointer (some (p122.add 9))), (210, .pointer (some (p122.add 11))), (211, .pointer (some (p122.add 12)))] rfl ?_
          refine oT (p122.add 12) [.int .i64 x111] hM ?_
          clear hM
          intro h123 hM
          refine owp_nil (blockE_n (blockE_n (thenE_n (cwp_region ?_))))
          refine oS [(18, .int .i64 (IntKind.wrap .i64 (y16 + x112))), (19, .int .i64 (IntKind.wrap .i64 ((IntKind.wrap .i64 (y16 + x112)) + 1))), (5, .int .i64 (IntKind.wrap .i64 ((IntKind.wrap .i64 (y16 + x112)) + 1)))] rfl ?_
          refine owp_nil ?_
          exact lwp_at 0 (.pointer (some p122)) (by kernel_rfl) (lwp_at 1 (.slice (some p20) y14n y14c) (by kernel_rfl) (lwp_at 4 (.pointer (some ⟨y15, 0, none⟩)) (by kernel_rfl) (lwp_at 5 (.int .i64 (IntKind.wrap .i64 ((IntKind.wrap .i64 (y16 + x112)) + 1))) (by kernel_rfl) (ih (some p122) (some p20) y14n y14c y15 (IntKind.wrap .i64 ((IntKind.wrap .i64 (y16 + x112)) + 1)) _ _ hM))))
        replace hM := ifF hc121 hM
        refine cwp_skip (blockE_n (blockE_n (thenE_n (cwp_region ?_))))
        refine oS [(18, .int .i64 (IntKind.wrap .i64 (y16 + x112))), (19, .int .i64 (IntKind.wrap .i64 ((IntKind.wrap .i64 (y16 + x112)) + 1))), (5, .int .i64 (IntKind.wrap .i64 ((IntKind.wrap .i64 (y16 + x112)) + 1)))] rfl ?_
        refine owp_nil ?_
        exact lwp_at 0 (.pointer y13) (by kernel_rfl) (lwp_at 1 (.slice (some p20) y14n y14c) (by kernel_rfl) (lwp_at 4 (.pointer (some ⟨y15, 0, none⟩)) (by kernel_rfl) (lwp_at 5 (.int .i64 (IntKind.wrap .i64 ((IntKind.wrap .i64 (y16 + x112)) + 1))) (by kernel_rfl) (ih y13 (some p20) y14n y14c y15 (IntKind.wrap .i64 ((IntKind.wrap .i64 (y16 + x112)) + 1)) _ _ hM))))
      replace hM := ifF hc107 hM
      refine cwp_skip (blockE_n (blockE_n (thenE_n (cwp_region ?_))))
      refine oS [(18, .int .i64 y16), (19, .int .i64 (IntKind.wrap .i64 (y16 + 1))), (5, .int .i64 (IntKind.wrap .i64 (y16 + 1)))] rfl ?_
      refine owp_nil ?_
      exact lwp_at 0 (.pointer y13) (by kernel_rfl) (lwp_at 1 (.slice (some p20) y14n y14c) (by kernel_rfl) (lwp_at 4 (.pointer (some ⟨y15, 0, none⟩)) (by kernel_rfl) (lwp_at 5 (.int .i64 (IntKind.wrap .i64 (y16 + 1))) (by kernel_rfl) (ih y13 (some p20) y14n y14c y15 (IntKind.wrap .i64 (y16 + 1)) _ _ hM))))
    replace hM := ifF hc17 hM
    refine cwp_exit (thenE_x ?_)
    exact hK0  _ _ hM
def vt_Screen_pens_j0 (Kn : Heap → Prop) (Kr : Heap → Prop) (y7 : Option Addr) (y8 : Option Addr) (y8n : Nat) (y8c : Nat) (h : Heap) : Prop :=
 newB h #[.int .i64 0, .int .i64 0, .int .i64 0, .int .i64 0, .int .i64 0, .int .i64 0, .int .i64 0, .int .i64 0, .int .i64 0, .int .i64 0] 116 fun b9 h10 =>
 stN ⟨b9, 0, none⟩ [.int .i64 0, .int .i64 1, .int .i64 2, .int .i64 4, .int .i64 8, .int .i64 16, .int .i64 0, .int .i64 32, .int .i64 64, .int .i64 128] 0 h10 fun h12 =>
 ∃ k128, vt_Screen_pens_l1
  (fun  h124 =>
      Kn  h124)
  (fun  h126 =>
      Kr  h126) k128 y7 y8 y8n y8c b9 0 h12
theorem vt_Screen_pens_j0_ok {Q : Exit → Env → Heap → Prop} (Kn : Heap → Prop) (hKn : ∀  (b : Env) (h : Heap), Kn  h → Q .normal b h) (Kr : Heap → Prop) (hKr : ∀  (b : Env) (h : Heap), Kr  h → Q .ret b h) (y7 : Option Addr) (y8 : Option Addr) (y8n : Nat) (y8c : Nat) (b : Env) (h : Heap) (hM : vt_Screen_pens_j0 Kn Kr y7 y8 y8n y8c h) : cwp Tryd.prog (partC Tryd.f77 [1]) 212 Q (upd (upd b 0 (.pointer y7)) 1 (.slice y8 y8n y8c)) h := by
  unfold vt_Screen_pens_j0 at hM
  refine cwp_part rfl ?_
  refine cR ?_
  refine oS [(13, .agg #[.int .i64 0, .int .i64 1, .int .i64 2, .int .i64 4, .int .i64 8, .int .i64 16, .int .i64 0, .int .i64 32, .int .i64 64, .int .i64 128])] rfl ?_
  refine oG (hpNew #[.int .i64 0, .int .i64 0, .int .i64 0, .int .i64 0, .int .i64 0, .int .i64 0, .int .i64 0, .int .i64 0, .int .i64 0, .int .i64 0] 116 (fun _ => by kernel_rfl) ?_)
  intro b9 h10 hN11
  replace hM := newB_of hN11 hM
  refine oT ⟨b9, 0, none⟩ [.int .i64 0, .int .i64 1, .int .i64 2, .int .i64 4, .int .i64 8, .int .i64 16, .int .i64 0, .int .i64 32, .int .i64 64, .int .i64 128] hM ?_
  clear hM
  intro h12 hM
  refine oE (cR ?_)
  refine oS [(5, .int .i64 0)] rfl ?_
  refine oE (cwp_block ?_)
  obtain ⟨k_, hM⟩ := hM
  refine cwp_loop k_ (lwp_of_part (fn := Tryd.f77) (p := [1, 1, 1, 0, 0]) (by kernel_rfl) (lwp_at 0 (.pointer y7) (by kernel_rfl) (lwp_at 1 (.slice y8 y8n y8c) (by kernel_rfl) (lwp_at 4 (.pointer (some ⟨b9, 0, none⟩)) (by kernel_rfl) (lwp_at 5 (.int .i64 0) (by kernel_rfl) (vt_Screen_pens_l1_ok _ ?_ _ ?_ k_ y7 y8 y8n y8c b9 0 _ _ hM))))))
  · intro  b125 h124 hM
    refine blockE_h ?_
    exact hKn  _ _ hM
  · intro  b127 h126 hM
    refine blockE_r ?_
    exact hKr  _ _ hM
def vt_Screen_pens (a1 : Option Addr) (a2 : Option Addr) (a2n : Nat) (a2c : Nat) (K : Heap → Prop) (h : Heap) : Prop :=
 if (a2n : Int) = 0 then
  newB h #[.int .i64 0] 3 fun b4 h5 =>
  vt_Screen_pens_j0
   (fun  h129 =>
       K h129)
   (fun  h131 =>
       K h131) a1 (some ⟨b4, 0, none⟩) 1 1 h5
 else
 vt_Screen_pens_j0
  (fun  h134 =>
      K h134)
  (fun  h136 =>
      K h136) a1 a2 a2n a2c h
theorem vt_Screen_pens_ok (a1 : Option Addr) (a2 : Option Addr) (a2n : Nat) (a2c : Nat) (K : Heap → Prop) (h : Heap) (hM : vt_Screen_pens a1 a2 a2n a2c K h) : CallsH Tryd.prog 77 #[.pointer a1, .slice a2 a2n a2c] (fun v h' => v = .tuple #[] ∧ K h') h := by
 unfold vt_Screen_pens at hM
 refine callsH_intro (n := 212) Tryd.func77 rfl rfl (by kernel_rfl) ?_
 refine cwp_seq (cR ?_)
 refine oS [(9, .slice a2 a2n a2c), (10, .int .i64 (a2n : Int)), (11, .bool (decide ((a2n : Int) = 0)))] rfl ?_
 refine oE ?_
 refine cwp_condD ((a2n : Int) = 0) (by kernel_rfl) (fun hc3 => ?_) (fun hc3 => ?_)
 · replace hM := ifT hc3 hM
   refine cwp_region ?_
   refine oG (hpNewS #[.int .i64 0] 3 1 (fun _ => by kernel_rfl) ?_)
   intro b4 h5 hN6
   replace hM := newB_of hN6 hM
   refine oS [(1, .slice (some ⟨b4, 0, none⟩) 1 1)] rfl ?_
   refine oE ?_
   refine cwp_of_part (fn := Tryd.f77) (p := [1]) (by kernel_rfl) (cwp_at 0 (.pointer a1) (by kernel_rfl) (cwp_at 1 (.slice (some ⟨b4, 0, none⟩) 1 1) (by kernel_rfl) (vt_Screen_pens_j0_ok _ ?_ _ ?_ a1 (some ⟨b4, 0, none⟩) 1 1 _ _ hM)))
   · intro  b130 h129 hM
     exact end_ (.tuple #[]) (by kernel_rfl) ⟨rfl, hM⟩
   · intro  b132 h131 hM
     exact ret_ (.tuple #[]) (by kernel_rfl) ⟨rfl, hM⟩
 replace hM := ifF hc3 hM
 refine cwp_skip (thenE_n ?_)
 refine cwp_of_part (fn := Tryd.f77) (p := [1]) (by kernel_rfl) (cwp_at 0 (.pointer a1) (by kernel_rfl) (cwp_at 1 (.slice a2 a2n a2c) (by kernel_rfl) (vt_Screen_pens_j0_ok _ ?_ _ ?_ a1 a2 a2n a2c _ _ hM)))
 · intro  b135 h134 hM
   exact end_ (.tuple #[]) (by kernel_rfl) ⟨rfl, hM⟩
 · intro  b137 h136 hM
   exact ret_ (.tuple #[]) (by kernel_rfl) ⟨rfl, hM⟩
/- (*mullion/vt.Screen).sends -/
def vt_Screen_sends (a1 : Option Addr) (a2 : ByteArray) (K : Heap → Prop) (h : Heap) : Prop :=
 nz a1 fun p3 =>
 ldS h (p3.add 30) fun x4 =>
 if (IntKind.wrap .i64 ((x4.size : Int) + (a2.size : Int))) ≤ 4096 then
  ldS h (p3.add 30) fun x8 =>
  x8.size + a2.size ≤ 9223372036854775807 ∧
  stN (p3.add 30) [.string (x8 ++ a2)] 0 h fun h12 =>
  K h12
 else
 K h
theorem vt_Screen_sends_ok (a1 : Option Addr) (a2 : ByteArray) (K : Heap → Prop) (h : Heap) (hM : vt_Screen_sends a1 a2 K h) : CallsH Tryd.prog 78 #[.pointer a1, .string a2] (fun v h' => v = .tuple #[] ∧ K h') h := by
 unfold vt_Screen_sends at hM
 refine callsH_intro (n := 21) Tryd.func78 rfl rfl (by kernel_rfl) ?_
 refine cR ?_
 refine oS [(4, .pointer a1)] rfl ?_
 obtain ⟨p3, rfl, hM⟩ := hM
 refine owp_rdG (.pointer (some p3)) rfl (by kernel_rfl) (by kernel_rfl) ?_
 refine oS [(6, .pointer (some (p3.add 30)))] rfl ?_
 obtain ⟨x4, hc5, hM⟩ := hM
 refine oL (.string x4) (p3.add 30) hc5 ?_
 refine oS [(8, .int .i64 (x4.size : Int)), (9, .string a2), (10, .int .i64 (a2.size : Int)), (11, .int .i64 (IntKind.wrap .i64 ((x4.size : Int) + (a2.size : Int)))), (12, .bool (decide ((IntKind.wrap .i64 ((x4.size : Int) + (a2.size : Int))) ≤ 4096)))] rfl ?_
 refine oE ?_
 refine cwp_condD ((IntKind.wrap .i64 ((x4.size : Int) + (a2.size : Int))) ≤ 4096) (by kernel_rfl) (fun hc7 => ?_) (fun hc7 => ?_)
 · replace hM := ifT hc7 hM
   refine cwp_region ?_
   refine oS [(13, .pointer (some p3)), (14, .pointer (some p3)), (15, .pointer (some (p3.add 30)))] rfl ?_
   obtain ⟨x8, hc9, hM⟩ := hM
   refine oL (.string x8) (p3.add 30) hc9 ?_
   refine oS [(17, .string a2)] rfl ?_
   obtain ⟨hc11, hM⟩ := hM
   refine owp_rdG (.string (x8 ++ a2)) rfl (by kernel_rfl) (rd_cat (P := Tryd.prog) (h := h) (x := x8) (y := a2) hc11 (by kernel_rfl)) ?_
   refine oS [(19, .pointer (some p3)), (20, .pointer (some (p3.add 30)))] rfl ?_
   refine oT (p3.add 30) [.string (x8 ++ a2)] hM ?_
   clear hM
   intro h12 hM
   refine owp_nil ?_
   exact end_ (.tuple #[]) (by kernel_rfl) ⟨rfl, hM⟩
 replace hM := ifF hc7 hM
 refine cwp_skip ?_
 exact end_ (.tuple #[]) (by kernel_rfl) ⟨rfl, hM⟩
/- internal/strconv.small -/
def internal_strconv_small (a1 : Int) : Option (ByteArray) :=
 if a1 < 10 then
  if 0 ≤ (IntKind.wrap .i64 (a1 + 1)) then
   if (IntKind.wrap .i64 (a1 + 1)) ≤ (lit0.size : Int) then
    if 0 ≤ a1 then
     if a1 ≤ (IntKind.wrap .i64 (a1 + 1)) then
      some (lit0.extract a1.toNat ((IntKind.wrap .i64 (a1 + 1)).toNat))
     else none
    else none
   else none
  else none
 else
 if 0 ≤ (IntKind.wrap .i64 ((IntKind.wrap .i64 (a1 * 2)) + 2)) then
  if (IntKind.wrap .i64 ((IntKind.wrap .i64 (a1 * 2)) + 2)) ≤ (lit1.size : Int) then
   if 0 ≤ (IntKind.wrap .i64 (a1 * 2)) then
    if (IntKind.wrap .i64 (a1 * 2)) ≤ (IntKind.wrap .i64 ((IntKind.wrap .i64 (a1 * 2)) + 2)) then
     some (lit1.extract ((IntKind.wrap .i64 (a1 * 2)).toNat) ((IntKind.wrap .i64 ((IntKind.wrap .i64 (a1 * 2)) + 2)).toNat))
    else none
   else none
  else none
 else none
theorem internal_strconv_small_ok (a1 : Int) (r : ByteArray) (h : Heap) (hM : internal_strconv_small a1 = some r) : CallsH Tryd.prog 83 #[.int .i64 a1] (fun v h' => v = .string r ∧ Ext h h') h := by
 unfold internal_strconv_small at hM
 refine callsH_intro (n := 15) Tryd.func83 rfl rfl (by kernel_rfl) ?_
 refine cR ?_
 refine oS [(2, .string (⟨#[]⟩ : ByteArray))] rfl ?_
 refine oE (cwp_seq (cR ?_))
 refine oS [(3, .int .i64 a1), (4, .bool (decide (a1 < 10)))] rfl ?_
 refine oE ?_
 refine cwp_condD (a1 < 10) (by kernel_rfl) (fun hc2 => ?_) (fun hc2 => ?_)
 · replace hM := ifTo hc2 hM
   refine cR ?_
   refine oS [(5, .int .i64 a1), (6, .int .i64 a1), (7, .int .i64 (IntKind.wrap .i64 (a1 + 1)))] rfl ?_
   have hc3 : 0 ≤ (IntKind.wrap .i64 (a1 + 1)) := ofIteO hM
   replace hM := ifTo hc3 hM
   have hc4 : (IntKind.wrap .i64 (a1 + 1)) ≤ (lit0.size : Int) := ofIteO hM
   replace hM := ifTo hc4 hM
   have hc5 : 0 ≤ a1 := ofIteO hM
   replace hM := ifTo hc5 hM
   have hc6 : a1 ≤ (IntKind.wrap .i64 (a1 + 1)) := ofIteO hM
   replace hM := ifTo hc6 hM
   refine owp_rdG (.string (lit0.extract a1.toNat ((IntKind.wrap .i64 (a1 + 1)).toNat))) rfl (by kernel_rfl) (rd_slLH (P := Tryd.prog) (h := h) (t := 9) (s := lit0) (k := .i64) (k' := .i64) (i := a1) (j := (IntKind.wrap .i64 (a1 + 1))) (by kernel_rfl) hc3 hc4 hc5 hc6 (by kernel_rfl)) ?_
   refine oS [(2, .string (lit0.extract a1.toNat ((IntKind.wrap .i64 (a1 + 1)).toNat)))] rfl ?_
   refine oE (cwp_ret (thenE_r ?_))
   obtain rfl := Option.some.inj hM
   exact ret_ (.string (lit0.extract a1.toNat ((IntKind.wrap .i64 (a1 + 1)).toNat))) (by kernel_rfl) ⟨rfl, Ext.refl _⟩
 replace hM := ifFo hc2 hM
 refine cwp_skip (thenE_n (cR ?_))
 refine oS [(9, .int .i64 a1), (10, .int .i64 (IntKind.wrap .i64 (a1 * 2))), (11, .int .i64 a1), (12, .int .i64 (IntKind.wrap .i64 (a1 * 2))), (13, .int .i64 (IntKind.wrap .i64 ((IntKind.wrap .i64 (a1 * 2)) + 2)))] rfl ?_
 have hc7 : 0 ≤ (IntKind.wrap .i64 ((IntKind.wrap .i64 (a1 * 2)) + 2)) := ofIteO hM
 replace hM := ifTo hc7 hM
 have hc8 : (IntKind.wrap .i64 ((IntKind.wrap .i64 (a1 * 2)) + 2)) ≤ (lit1.size : Int) := ofIteO hM
 replace hM := ifTo hc8 hM
 have hc9 : 0 ≤ (IntKind.wrap .i64 (a1 * 2)) := ofIteO hM
 replace hM := ifTo hc9 hM
 have hc10 : (IntKind.wrap .i64 (a1 * 2)) ≤ (IntKind.wrap .i64 ((IntKind.wrap .i64 (a1 * 2)) + 2)) := ofIteO hM
 replace hM := ifTo hc10 hM
 refine owp_rdG (.string (lit1.extract ((IntKind.wrap .i64 (a1 * 2)).toNat) ((IntKind.wrap .i64 ((IntKind.wrap .i64 (a1 * 2)) + 2)).toNat))) rfl (by kernel_rfl) (rd_slLH (P := Tryd.prog) (h := h) (t := 9) (s := lit1) (k := .i64) (k' := .i64) (i := (IntKind.wrap .i64 (a1 * 2))) (j := (IntKind.wrap .i64 ((IntKind.wrap .i64 (a1 * 2)) + 2))) (by kernel_rfl) hc7 hc8 hc9 hc10 (by kernel_rfl)) ?_
 refine oS [(2, .string (lit1.extract ((IntKind.wrap .i64 (a1 * 2)).toNat) ((IntKind.wrap .i64 ((IntKind.wrap .i64 (a1 * 2)) + 2)).toNat)))] rfl ?_
 refine oE (cwp_ret ?_)
 obtain rfl := Option.some.inj hM
 exact ret_ (.string (lit1.extract ((IntKind.wrap .i64 (a1 * 2)).toNat) ((IntKind.wrap .i64 ((IntKind.wrap .i64 (a1 * 2)) + 2)).toNat))) (by kernel_rfl) ⟨rfl, Ext.refl _⟩
/- internal/strconv.log10Pow2 -/
def internal_strconv_log10Pow2 (a1 : Int) : Int :=
 (Int.fdiv (IntKind.wrap .i64 (a1 * 78913)) (2 ^ 18))
theorem internal_strconv_log10Pow2_ok (a1 : Int) (r : Int) (h : Heap) (hM : internal_strconv_log10Pow2 a1 = r) : CallsH Tryd.prog 87 #[.int .i64 a1] (fun v h' => v = .int .i64 r ∧ Ext h h') h := by
 unfold internal_strconv_log10Pow2 at hM
 refine callsH_intro (n := 6) Tryd.func87 rfl rfl (by kernel_rfl) ?_
 refine cR ?_
 refine oS [(2, .int .i64 0)] rfl ?_
 refine oE (cR ?_)
 refine oS [(3, .int .i64 a1), (4, .int .i64 (IntKind.wrap .i64 (a1 * 78913))), (5, .int .i64 (Int.fdiv (IntKind.wrap .i64 (a1 * 78913)) (2 ^ 18))), (2, .int .i64 (Int.fdiv (IntKind.wrap .i64 (a1 * 78913)) (2 ^ 18)))] rfl ?_
 refine oE (cwp_ret ?_)
 subst hM
 exact ret_ (.int .i64 (Int.fdiv (IntKind.wrap .i64 (a1 * 78913)) (2 ^ 18))) (by kernel_rfl) ⟨rfl, Ext.refl _⟩
end Go.Proofs.YthjdnhhifjpidaaDoor.M
