/-
  PRINTED BY A PROGRAM OF THIS CLAIM'S (gen.py): for each Go function a Lean function over memory, and the proof that the code comes to what it says.
-/
import Derived.Test.YthjdnhhifjpidaaGreatDoorF2
import Derived.Test.YthjdnhhifjpidaaGreatDoorProg
set_option linter.unusedVariables false
set_option linter.unusedSimpArgs false
set_option maxRecDepth 100000
set_option maxHeartbeats 1000000
namespace Go.Proofs.YthjdnhhifjpidaaGreatDoor.M
open Go Go.Hp
/- (*mullion/vt.Screen).numbers -/
def vt_Screen_numbers_l1 (K0 : Option Addr → Nat → Nat → Int → Int → Heap → Prop) : Nat → Option Addr → Nat → Nat → Int → Int → Heap → Prop
  | 0, _, _, _, _, _, _ => False
  | k + 1, y36, y36n, y36c, y37, y38, h =>
  if y38 < (y36n : Int) then
   nz y36 fun p45 =>
   0 ≤ y38 ∧
   y38 < (y36n : Int) ∧
   ldI h .u8 (p45.add ((y38).toNat * 1)) fun x46 =>
   if 48 ≤ x46 then
    0 ≤ y38 ∧
    y38 < (y36n : Int) ∧
    ldI h .u8 (p45.add ((y38).toNat * 1)) fun x57 =>
    if x57 ≤ 59 then
     vt_Screen_numbers_l1 K0 k (some p45) y36n y36c y37 (IntKind.wrap .i64 (y38 + 1)) h
    else
    K0 (some p45) y36n y36c y37 y38 h
   else
   K0 (some p45) y36n y36c y37 y38 h
  else
  K0 y36 y36n y36c y37 y38 h
theorem vt_Screen_numbers_l1_ok {Q : Exit → Env → Heap → Prop} (K0 : Option Addr → Nat → Nat → Int → Int → Heap → Prop) (hK0 : ∀ (z67 : Option Addr) (z67n : Nat) (z67c : Nat) (z68 : Int) (z69 : Int) (b : Env) (h : Heap), K0 z67 z67n z67c z68 z69 h → Q (.exit 0) (upd (upd (upd b 6 (.slice z67 z67n z67c)) 7 (.int .u8 z68)) 8 (.int .i64 z69)) h) : ∀ (k : Nat) (y36 : Option Addr) (y36n : Nat) (y36c : Nat) (y37 : Int) (y38 : Int) (b : Env) (h : Heap) (hM : vt_Screen_numbers_l1 K0 k y36 y36n y36c y37 y38 h), lwp Tryz.prog (partC Tryz.f116 [1, 1, 1, 1, 1, 0, 0, 0]) 116 Q k (upd (upd (upd b 6 (.slice y36 y36n y36c)) 7 (.int .u8 y37)) 8 (.int .i64 y38)) h := by
  intro k
  induction k with
  | zero => intro y36 y36n y36c y37 y38 b h hM; exact (show False from hM).elim
  | succ k ih =>
    intro y36 y36n y36c y37 y38 b h hM
    unfold vt_Screen_numbers_l1 at hM
    refine lwp_succ (cwp_part rfl ?_)
    refine cwp_seq (cR ?_)
    refine oZ [(38, .int .i64 y38), (39, .slice y36 y36n y36c), (40, .int .i64 (y36n : Int)), (41, .bool (decide (y38 < (y36n : Int)))), (42, .bool (decide (y38 < (y36n : Int))))] ?_
    by_cases hc42 : y38 < (y36n : Int)
    · refine oA 41 true (decide (y38 < (y36n : Int))) (by rw [decide_eq_true hc42]) ?_
      refine oA 42 true (decide (y38 < (y36n : Int))) (by rw [decide_eq_true hc42]) ?_
      replace hM := ifT hc42 hM
      refine oZ [(43, .slice y36 y36n y36c), (44, .int .i64 y38)] ?_
      obtain ⟨p45, rfl, hM⟩ := hM
      obtain ⟨hc43, hM⟩ := hM
      obtain ⟨hc44, hM⟩ := hM
      refine owp_rdG (.pointer (some (p45.add ((y38).toNat * 1)))) rfl (by kernel_rfl) (rd_ixS (P := Tryz.prog) (h := h) (t := 77) (el := 5) (sz := 1) (ad := p45) (len := y36n) (c := y36c) (k := .i64) (i := y38) (by kernel_rfl) (by kernel_rfl) hc43 hc44 (by kernel_rfl)) ?_
      obtain ⟨x46, hc47, hM⟩ := hM
      refine oL (.int .u8 x46) (p45.add ((y38).toNat * 1)) hc47 ?_
      refine oZ [(47, .bool (decide (48 ≤ x46))), (48, .bool (decide (48 ≤ x46))), (49, .bool (decide (48 ≤ x46)))] ?_
      by_cases hc54 : 48 ≤ x46
      · refine oA 47 true (decide (48 ≤ x46)) (by rw [decide_eq_true hc54]) ?_
        refine oA 48 true (decide (48 ≤ x46)) (by rw [decide_eq_true hc54]) ?_
        refine oA 49 true (decide (48 ≤ x46)) (by rw [decide_eq_true hc54]) ?_
        replace hM := ifT hc54 hM
        refine oZ [(50, .slice (some p45) y36n y36c), (51, .int .i64 y38)] ?_
        obtain ⟨hc55, hM⟩ := hM
        obtain ⟨hc56, hM⟩ := hM
        refine owp_rdG (.pointer (some (p45.add ((y38).toNat * 1)))) rfl (by kernel_rfl) (rd_ixS (P := Tryz.prog) (h := h) (t := 77) (el := 5) (sz := 1) (ad := p45) (len := y36n) (c := y36c) (k := .i64) (i := y38) (by kernel_rfl) (by kernel_rfl) hc55 hc56 (by kernel_rfl)) ?_
        obtain ⟨x57, hc58, hM⟩ := hM
        refine oL (.int .u8 x57) (p45.add ((y38).toNat * 1)) hc58 ?_
        refine oZ [(54, .bool (decide (x57 ≤ 59))), (55, .bool (decide (x57 ≤ 59)))] ?_
        refine oE ?_
        refine cwp_condD (x57 ≤ 59) (by kernel_rfl) (fun hc60 => ?_) (fun hc60 => ?_)
        · replace hM := ifT hc60 hM
          refine cwp_skip (thenE_n (cwp_block (cwp_region ?_)))
          refine oZ [(56, .int .i64 y38), (57, .int .i64 (IntKind.wrap .i64 (y38 + 1))), (8, .int .i64 (IntKind.wrap .i64 (y38 + 1)))] ?_
          refine owp_nil (blockE_n ?_)
          exact lA 6 (.slice (some p45) y36n y36c) (lA 7 (.int .u8 y37) (lA 8 (.int .i64 (IntKind.wrap .i64 (y38 + 1))) (ih (some p45) y36n y36c y37 (IntKind.wrap .i64 (y38 + 1)) _ _ hM)))
        replace hM := ifF hc60 hM
        refine cwp_exit (thenE_x ?_)
        exact q_at (Q := Q (.exit 0)) 6 (.slice (some p45) y36n y36c) (by kernel_rfl) (q_at (Q := Q (.exit 0)) 7 (.int .u8 y37) (by kernel_rfl) (q_at (Q := Q (.exit 0)) 8 (.int .i64 y38) (by kernel_rfl) (hK0 (some p45) y36n y36c y37 y38 _ _ hM)))
      refine oA 47 false (decide (48 ≤ x46)) (by rw [decide_eq_false hc54]) ?_
      refine oA 48 false (decide (48 ≤ x46)) (by rw [decide_eq_false hc54]) ?_
      refine oA 49 false (decide (48 ≤ x46)) (by rw [decide_eq_false hc54]) ?_
      replace hM := ifF hc54 hM
      refine oZ [(50, undef), (51, undef), (52, undef), (53, undef), (54, undef), (55, .bool false)] ?_
      refine oE ?_
      refine cwp_cond (t := false) (by kernel_rfl) (fun hx_ => ?_) (fun hx_ => ?_)
      all_goals first | (cases hx_; done) | skip
      refine cwp_exit (thenE_x ?_)
      exact q_at (Q := Q (.exit 0)) 6 (.slice (some p45) y36n y36c) (by kernel_rfl) (q_at (Q := Q (.exit 0)) 7 (.int .u8 y37) (by kernel_rfl) (q_at (Q := Q (.exit 0)) 8 (.int .i64 y38) (by kernel_rfl) (hK0 (some p45) y36n y36c y37 y38 _ _ hM)))
    refine oA 41 false (decide (y38 < (y36n : Int))) (by rw [decide_eq_false hc42]) ?_
    refine oA 42 false (decide (y38 < (y36n : Int))) (by rw [decide_eq_false hc42]) ?_
    replace hM := ifF hc42 hM
    refine oZ [(43, undef), (44, undef), (45, undef), (46, undef), (47, undef), (48, .bool false), (49, .bool false), (50, undef), (51, undef), (52, undef), (53, undef), (54, undef), (55, .bool false)] ?_
    refine oE ?_
    refine cwp_cond (t := false) (by kernel_rfl) (fun hx_ => ?_) (fun hx_ => ?_)
    all_goals first | (cases hx_; done) | skip
    refine cwp_exit (thenE_x ?_)
    exact q_at (Q := Q (.exit 0)) 6 (.slice y36 y36n y36c) (by kernel_rfl) (q_at (Q := Q (.exit 0)) 7 (.int .u8 y37) (by kernel_rfl) (q_at (Q := Q (.exit 0)) 8 (.int .i64 y38) (by kernel_rfl) (hK0 y36 y36n y36c y37 y38 _ _ hM)))
def vt_Screen_numbers_l2 (K2 : Option Addr → Nat → Nat → Int → Int → ByteArray → Heap → Prop) (Kr : Int → Option Addr → Nat → Nat → ByteArray → Bool → Heap → Prop) : Nat → Option Addr → Nat → Nat → Int → Int → ByteArray → Int → Int → Heap → Prop
  | 0, _, _, _, _, _, _, _, _, _ => False
  | k + 1, y78, y78n, y78c, y79, y80, y81, y82, y83, h =>
  if y83 < y82 then
   0 ≤ y83 ∧
   y83 < (y81.size : Int) ∧
   if 48 ≤ (byteAt y81 y83) then
    Kr 0 none 0 0 (⟨#[]⟩ : ByteArray) false h
   else
   vt_Screen_numbers_l2 K2 Kr k y78 y78n y78c y79 y80 y81 y82 (IntKind.wrap .i64 (y83 + 1)) h
  else
  K2 y78 y78n y78c y79 y80 y81 h
theorem vt_Screen_numbers_l2_ok {Q : Exit → Env → Heap → Prop} (K2 : Option Addr → Nat → Nat → Int → Int → ByteArray → Heap → Prop) (hK2 : ∀ (z100 : Option Addr) (z100n : Nat) (z100c : Nat) (z101 : Int) (z102 : Int) (z103 : ByteArray) (b : Env) (h : Heap), K2 z100 z100n z100c z101 z102 z103 h → Q (.exit 2) (upd (upd (upd (upd b 6 (.slice z100 z100n z100c)) 7 (.int .u8 z101)) 8 (.int .i64 z102)) 9 (.string z103)) h) (Kr : Int → Option Addr → Nat → Nat → ByteArray → Bool → Heap → Prop) (hKr : ∀ (z108 : Int) (z109 : Option Addr) (z109n : Nat) (z109c : Nat) (z110 : ByteArray) (z111 : Bool) (b : Env) (h : Heap), Kr z108 z109 z109n z109c z110 z111 h → Q .ret (upd (upd (upd (upd b 2 (.int .u8 z108)) 3 (.slice z109 z109n z109c)) 4 (.string z110)) 5 (.bool z111)) h) : ∀ (k : Nat) (y78 : Option Addr) (y78n : Nat) (y78c : Nat) (y79 : Int) (y80 : Int) (y81 : ByteArray) (y82 : Int) (y83 : Int) (b : Env) (h : Heap) (hM : vt_Screen_numbers_l2 K2 Kr k y78 y78n y78c y79 y80 y81 y82 y83 h), lwp Tryz.prog (partC Tryz.f116 [1, 1, 1, 1, 1, 1, 1, 0, 1, 0, 0]) 116 Q k (upd (upd (upd (upd (upd (upd b 6 (.slice y78 y78n y78c)) 7 (.int .u8 y79)) 8 (.int .i64 y80)) 9 (.string y81)) 63 (.int .i64 y82)) 64 (.int .i64 y83)) h := by
  intro k
  induction k with
  | zero => intro y78 y78n y78c y79 y80 y81 y82 y83 b h hM; exact (show False from hM).elim
  | succ k ih =>
    intro y78 y78n y78c y79 y80 y81 y82 y83 b h hM
    unfold vt_Screen_numbers_l2 at hM
    refine lwp_succ (cwp_part rfl ?_)
    refine cR ?_
    refine oZ [(65, .bool (decide (y83 < y82)))] ?_
    refine oE (cwp_seq ?_)
    refine cwp_condD (y83 < y82) (by kernel_rfl) (fun hc84 => ?_) (fun hc84 => ?_)
    · replace hM := ifT hc84 hM
      refine cwp_skip (thenE_n (cwp_seq (cwp_block (cR ?_))))
      refine oZ [(66, .int .i64 y83), (10, .int .i64 y83)] ?_
      refine oE (cR ?_)
      refine oZ [(67, .string y81), (68, .int .i64 y83)] ?_
      obtain ⟨hc85, hM⟩ := hM
      obtain ⟨hc86, hM⟩ := hM
      refine owp_rdG (.int .u8 (byteAt y81 y83)) rfl (by kernel_rfl) (rd_ixStr (P := Tryz.prog) (h := h) (t := 9) (s := y81) (k := .i64) (i := y83) (by kernel_rfl) hc85 hc86 (by kernel_rfl)) ?_
      refine oZ [(70, .bool (decide (48 ≤ (byteAt y81 y83))))] ?_
      refine oE ?_
      refine cwp_condD (48 ≤ (byteAt y81 y83)) (by kernel_rfl) (fun hc87 => ?_) (fun hc87 => ?_)
      · replace hM := ifT hc87 hM
        refine cR ?_
        refine oZ [(2, .int .u8 0), (3, .slice none 0 0), (4, .string (⟨#[]⟩ : ByteArray)), (5, .bool false)] ?_
        refine oE (cwp_ret (blockE_r (thenE_r ?_)))
        exact q_at (Q := Q .ret) 2 (.int .u8 0) (by kernel_rfl) (q_at (Q := Q .ret) 3 (.slice none 0 0) (by kernel_rfl) (q_at (Q := Q .ret) 4 (.string (⟨#[]⟩ : ByteArray)) (by kernel_rfl) (q_at (Q := Q .ret) 5 (.bool false) (by kernel_rfl) (hKr 0 none 0 0 (⟨#[]⟩ : ByteArray) false _ _ hM))))
      replace hM := ifF hc87 hM
      refine cwp_skip (blockE_n (thenE_n (cwp_region ?_)))
      refine oZ [(71, .int .i64 (IntKind.wrap .i64 (y83 + 1))), (64, .int .i64 (IntKind.wrap .i64 (y83 + 1)))] ?_
      refine owp_nil ?_
      exact lA 6 (.slice y78 y78n y78c) (lA 7 (.int .u8 y79) (lA 8 (.int .i64 y80) (lA 9 (.string y81) (lA 63 (.int .i64 y82) (lA 64 (.int .i64 (IntKind.wrap .i64 (y83 + 1))) (ih y78 y78n y78c y79 y80 y81 y82 (IntKind.wrap .i64 (y83 + 1)) _ _ hM))))))
    replace hM := ifF hc84 hM
    refine cwp_exit (thenE_x ?_)
    exact q_at (Q := Q (.exit 2)) 6 (.slice y78 y78n y78c) (by kernel_rfl) (q_at (Q := Q (.exit 2)) 7 (.int .u8 y79) (by kernel_rfl) (q_at (Q := Q (.exit 2)) 8 (.int .i64 y80) (by kernel_rfl) (q_at (Q := Q (.exit 2)) 9 (.string y81) (by kernel_rfl) (hK2 y78 y78n y78c y79 y80 y81 _ _ hM))))
def vt_Screen_numbers_l3 (K4 : Int → Int → ByteArray → Option Addr → Nat → Nat → Int → Heap → Prop) : Nat → Option Addr → Nat → Nat → Int → Int → ByteArray → Option Addr → Nat → Nat → Int → Int → Heap → Prop
  | 0, _, _, _, _, _, _, _, _, _, _, _, _ => False
  | k + 1, y117, y117n, y117c, y118, y119, y120, y121, y121n, y121c, y122, y123, h =>
  if y123 < y119 then
   nz y117 fun p127 =>
   0 ≤ y123 ∧
   y123 < (y117n : Int) ∧
   ldI h .u8 (p127.add ((y123).toNat * 1)) fun x128 =>
   if x128 = 59 then
    gap h fun h138 =>
    appH h138 3 8 [.int .i64 0] y121 y121n y121c [.int .i64 y122] 1 fun s141 s141c h140 =>
    vt_Screen_numbers_l3 K4 k (some p127) y117n y117c y118 y119 y120 s141 (y121n + 1) s141c (-1) (IntKind.wrap .i64 (y123 + 1)) h140
   else
   0 ≤ y123 ∧
   y123 < (y117n : Int) ∧
   ldI h .u8 (p127.add ((y123).toNat * 1)) fun x144 =>
   if x144 = 58 then
    gap h fun h149 =>
    appH h149 3 8 [.int .i64 0] y121 y121n y121c [.int .i64 y122] 1 fun s152 s152c h151 =>
    vt_Screen_numbers_l3 K4 k (some p127) y117n y117c y118 y119 y120 s152 (y121n + 1) s152c (-1) (IntKind.wrap .i64 (y123 + 1)) h151
   else
   0 ≤ y123 ∧
   y123 < (y117n : Int) ∧
   ldI h .u8 (p127.add ((y123).toNat * 1)) fun x155 =>
   vt_Screen_numbers_l3 K4 k (some p127) y117n y117c y118 y119 y120 y121 y121n y121c (imin 9999 (IntKind.wrap .i64 ((IntKind.wrap .i64 ((imax y122 0) * 10)) + (IntKind.wrap .i64 (IntKind.wrap .u8 (x155 - 48)))))) (IntKind.wrap .i64 (y123 + 1)) h
  else
  K4 y118 y119 y120 y121 y121n y121c y122 h
theorem vt_Screen_numbers_l3_ok {Q : Exit → Env → Heap → Prop} (K4 : Int → Int → ByteArray → Option Addr → Nat → Nat → Int → Heap → Prop) (hK4 : ∀ (z168 : Int) (z169 : Int) (z170 : ByteArray) (z171 : Option Addr) (z171n : Nat) (z171c : Nat) (z172 : Int) (b : Env) (h : Heap), K4 z168 z169 z170 z171 z171n z171c z172 h → Q (.exit 4) (upd (upd (upd (upd (upd b 7 (.int .u8 z168)) 8 (.int .i64 z169)) 9 (.string z170)) 11 (.slice z171 z171n z171c)) 12 (.int .i64 z172)) h) : ∀ (k : Nat) (y117 : Option Addr) (y117n : Nat) (y117c : Nat) (y118 : Int) (y119 : Int) (y120 : ByteArray) (y121 : Option Addr) (y121n : Nat) (y121c : Nat) (y122 : Int) (y123 : Int) (b : Env) (h : Heap) (hM : vt_Screen_numbers_l3 K4 k y117 y117n y117c y118 y119 y120 y121 y121n y121c y122 y123 h), lwp Tryz.prog (partC Tryz.f116 [1, 1, 1, 1, 1, 1, 1, 1, 1, 1, 0, 1, 0, 0]) 116 Q k (upd (upd (upd (upd (upd (upd (upd b 6 (.slice y117 y117n y117c)) 7 (.int .u8 y118)) 8 (.int .i64 y119)) 9 (.string y120)) 11 (.slice y121 y121n y121c)) 12 (.int .i64 y122)) 13 (.int .i64 y123)) h := by
  intro k
  induction k with
  | zero => intro y117 y117n y117c y118 y119 y120 y121 y121n y121c y122 y123 b h hM; exact (show False from hM).elim
  | succ k ih =>
    intro y117 y117n y117c y118 y119 y120 y121 y121n y121c y122 y123 b h hM
    unfold vt_Screen_numbers_l3 at hM
    refine lwp_succ (cwp_part rfl ?_)
    refine cwp_seq (cR ?_)
    refine oZ [(72, .int .i64 y123), (73, .int .i64 y119), (74, .bool (decide (y123 < y119)))] ?_
    refine oE ?_
    refine cwp_condD (y123 < y119) (by kernel_rfl) (fun hc124 => ?_) (fun hc124 => ?_)
    · replace hM := ifT hc124 hM
      refine cwp_skip (thenE_n (cwp_seq (cwp_block (cwp_seq (cR ?_)))))
      refine oZ [(77, .slice y117 y117n y117c), (78, .int .i64 y123)] ?_
      obtain ⟨p127, rfl, hM⟩ := hM
      obtain ⟨hc125, hM⟩ := hM
      obtain ⟨hc126, hM⟩ := hM
      refine owp_rdG (.pointer (some (p127.add ((y123).toNat * 1)))) rfl (by kernel_rfl) (rd_ixS (P := Tryz.prog) (h := h) (t := 77) (el := 5) (sz := 1) (ad := p127) (len := y117n) (c := y117c) (k := .i64) (i := y123) (by kernel_rfl) (by kernel_rfl) hc125 hc126 (by kernel_rfl)) ?_
      obtain ⟨x128, hc129, hM⟩ := hM
      refine oL (.int .u8 x128) (p127.add ((y123).toNat * 1)) hc129 ?_
      refine oZ [(81, .bool (decide (x128 = 59))), (82, .bool (decide (x128 = 59)))] ?_
      by_cases hc136 : x128 = 59
      · refine oA 81 true (decide (x128 = 59)) (by rw [decide_eq_true hc136]) ?_
        refine oA 82 true (decide (x128 = 59)) (by rw [decide_eq_true hc136]) ?_
        replace hM := ifT hc136 hM
        refine oZ [(83, undef), (84, undef), (85, undef), (86, undef), (87, undef), (88, .bool true)] ?_
        refine oE ?_
        refine cwp_cond (t := true) (by kernel_rfl) (fun hx_ => ?_) (fun hx_ => ?_)
        all_goals first | (cases hx_; done) | skip
        refine cR ?_
        refine oZ [(89, .slice y121 y121n y121c), (90, .int .i64 y122)] ?_
        refine oG (hpNewS #[.int .i64 y122] 3 1 (fun _ => by kernel_rfl) ?_)
        intro b137 h138 hN139
        replace hM := hM _ (New.ext hN139)
        refine oG (hpApp (t := 54) (ty := 54) (et := 3) (zv := .int .i64 0) (sz := 1) (by_ := 8) (base := y121) (n' := y121n) (c := y121c) (xb := (some ⟨b137, 0, none⟩)) (m := 1) (xc := 1) (new := [.int .i64 y122]) (fun _ => by kernel_rfl) (by kernel_rfl) (by kernel_rfl) [.int .i64 0] rfl rfl (by decide) rfl rfl ⟨Blk.cell (New.blk hN139) 0 (by kernel_rfl), trivial⟩ hM ?_)
        clear hM
        intro s141 s141c h140 hM
        refine oZ [(11, .slice s141 (y121n + 1) s141c)] ?_
        refine oE (cR ?_)
        refine oZ [(12, .int .i64 (-1))] ?_
        refine oE (cwp_exit (thenE_x (blockE_h (thenE_n (cwp_region ?_)))))
        refine oZ [(75, .int .i64 y123), (76, .int .i64 (IntKind.wrap .i64 (y123 + 1))), (13, .int .i64 (IntKind.wrap .i64 (y123 + 1)))] ?_
        refine owp_nil ?_
        exact lA 6 (.slice (some p127) y117n y117c) (lA 7 (.int .u8 y118) (lA 8 (.int .i64 y119) (lA 9 (.string y120) (lA 11 (.slice s141 (y121n + 1) s141c) (lA 12 (.int .i64 (-1)) (lA 13 (.int .i64 (IntKind.wrap .i64 (y123 + 1))) (ih (some p127) y117n y117c y118 y119 y120 s141 (y121n + 1) s141c (-1) (IntKind.wrap .i64 (y123 + 1)) _ _ hM)))))))
      refine oA 81 false (decide (x128 = 59)) (by rw [decide_eq_false hc136]) ?_
      refine oA 82 false (decide (x128 = 59)) (by rw [decide_eq_false hc136]) ?_
      replace hM := ifF hc136 hM
      refine oZ [(83, .slice (some p127) y117n y117c), (84, .int .i64 y123)] ?_
      obtain ⟨hc142, hM⟩ := hM
      obtain ⟨hc143, hM⟩ := hM
      refine owp_rdG (.pointer (some (p127.add ((y123).toNat * 1)))) rfl (by kernel_rfl) (rd_ixS (P := Tryz.prog) (h := h) (t := 77) (el := 5) (sz := 1) (ad := p127) (len := y117n) (c := y117c) (k := .i64) (i := y123) (by kernel_rfl) (by kernel_rfl) hc142 hc143 (by kernel_rfl)) ?_
      obtain ⟨x144, hc145, hM⟩ := hM
      refine oL (.int .u8 x144) (p127.add ((y123).toNat * 1)) hc145 ?_
      refine oZ [(87, .bool (decide (x144 = 58))), (88, .bool (decide (x144 = 58)))] ?_
      refine oE ?_
      refine cwp_condD (x144 = 58) (by kernel_rfl) (fun hc147 => ?_) (fun hc147 => ?_)
      · replace hM := ifT hc147 hM
        refine cR ?_
        refine oZ [(89, .slice y121 y121n y121c), (90, .int .i64 y122)] ?_
        refine oG (hpNewS #[.int .i64 y122] 3 1 (fun _ => by kernel_rfl) ?_)
        intro b148 h149 hN150
        replace hM := hM _ (New.ext hN150)
        refine oG (hpApp (t := 54) (ty := 54) (et := 3) (zv := .int .i64 0) (sz := 1) (by_ := 8) (base := y121) (n' := y121n) (c := y121c) (xb := (some ⟨b148, 0, none⟩)) (m := 1) (xc := 1) (new := [.int .i64 y122]) (fun _ => by kernel_rfl) (by kernel_rfl) (by kernel_rfl) [.int .i64 0] rfl rfl (by decide) rfl rfl ⟨Blk.cell (New.blk hN150) 0 (by kernel_rfl), trivial⟩ hM ?_)
        clear hM
        intro s152 s152c h151 hM
        refine oZ [(11, .slice s152 (y121n + 1) s152c)] ?_
        refine oE (cR ?_)
        refine oZ [(12, .int .i64 (-1))] ?_
        refine oE (cwp_exit (thenE_x (blockE_h (thenE_n (cwp_region ?_)))))
        refine oZ [(75, .int .i64 y123), (76, .int .i64 (IntKind.wrap .i64 (y123 + 1))), (13, .int .i64 (IntKind.wrap .i64 (y123 + 1)))] ?_
        refine owp_nil ?_
        exact lA 6 (.slice (some p127) y117n y117c) (lA 7 (.int .u8 y118) (lA 8 (.int .i64 y119) (lA 9 (.string y120) (lA 11 (.slice s152 (y121n + 1) s152c) (lA 12 (.int .i64 (-1)) (lA 13 (.int .i64 (IntKind.wrap .i64 (y123 + 1))) (ih (some p127) y117n y117c y118 y119 y120 s152 (y121n + 1) s152c (-1) (IntKind.wrap .i64 (y123 + 1)) _ _ hM)))))))
      replace hM := ifF hc147 hM
      refine cwp_skip (thenE_n (cwp_region ?_))
      refine oZ [(93, .int .i64 y122), (94, .int .i64 (imax y122 0)), (95, .int .i64 (IntKind.wrap .i64 ((imax y122 0) * 10))), (96, .slice (some p127) y117n y117c), (97, .int .i64 y123)] ?_
      obtain ⟨hc153, hM⟩ := hM
      obtain ⟨hc154, hM⟩ := hM
      refine owp_rdG (.pointer (some (p127.add ((y123).toNat * 1)))) rfl (by kernel_rfl) (rd_ixS (P := Tryz.prog) (h := h) (t := 77) (el := 5) (sz := 1) (ad := p127) (len := y117n) (c := y117c) (k := .i64) (i := y123) (by kernel_rfl) (by kernel_rfl) hc153 hc154 (by kernel_rfl)) ?_
      obtain ⟨x155, hc156, hM⟩ := hM
      refine oL (.int .u8 x155) (p127.add ((y123).toNat * 1)) hc156 ?_
      refine oZ [(100, .int .u8 (IntKind.wrap .u8 (x155 - 48))), (101, .int .i64 (IntKind.wrap .i64 (IntKind.wrap .u8 (x155 - 48)))), (102, .int .i64 (IntKind.wrap .i64 ((IntKind.wrap .i64 ((imax y122 0) * 10)) + (IntKind.wrap .i64 (IntKind.wrap .u8 (x155 - 48)))))), (103, .int .i64 (imin 9999 (IntKind.wrap .i64 ((IntKind.wrap .i64 ((imax y122 0) * 10)) + (IntKind.wrap .i64 (IntKind.wrap .u8 (x155 - 48))))))), (12, .int .i64 (imin 9999 (IntKind.wrap .i64 ((IntKind.wrap .i64 ((imax y122 0) * 10)) + (IntKind.wrap .i64 (IntKind.wrap .u8 (x155 - 48)))))))] ?_
      refine owp_nil (blockE_n (thenE_n (cwp_region ?_)))
      refine oZ [(75, .int .i64 y123), (76, .int .i64 (IntKind.wrap .i64 (y123 + 1))), (13, .int .i64 (IntKind.wrap .i64 (y123 + 1)))] ?_
      refine owp_nil ?_
      exact lA 6 (.slice (some p127) y117n y117c) (lA 7 (.int .u8 y118) (lA 8 (.int .i64 y119) (lA 9 (.string y120) (lA 11 (.slice y121 y121n y121c) (lA 12 (.int .i64 (imin 9999 (IntKind.wrap .i64 ((IntKind.wrap .i64 ((imax y122 0) * 10)) + (IntKind.wrap .i64 (IntKind.wrap .u8 (x155 - 48))))))) (lA 13 (.int .i64 (IntKind.wrap .i64 (y123 + 1))) (ih (some p127) y117n y117c y118 y119 y120 y121 y121n y121c (imin 9999 (IntKind.wrap .i64 ((IntKind.wrap .i64 ((imax y122 0) * 10)) + (IntKind.wrap .i64 (IntKind.wrap .u8 (x155 - 48)))))) (IntKind.wrap .i64 (y123 + 1)) _ _ hM)))))))
    replace hM := ifF hc124 hM
    refine cwp_exit (thenE_x ?_)
    exact q_at (Q := Q (.exit 4)) 7 (.int .u8 y118) (by kernel_rfl) (q_at (Q := Q (.exit 4)) 8 (.int .i64 y119) (by kernel_rfl) (q_at (Q := Q (.exit 4)) 9 (.string y120) (by kernel_rfl) (q_at (Q := Q (.exit 4)) 11 (.slice y121 y121n y121c) (by kernel_rfl) (q_at (Q := Q (.exit 4)) 12 (.int .i64 y122) (by kernel_rfl) (hK4 y118 y119 y120 y121 y121n y121c y122 _ _ hM)))))
def vt_Screen_numbers_j4 (Kr : Int → Option Addr → Nat → Nat → ByteArray → Bool → Heap → Prop) (y185 : Int) (y186 : ByteArray) (y187 : Option Addr) (y187n : Nat) (y187c : Nat) (h : Heap) : Prop :=
 Kr y185 y187 y187n y187c y186 (decide ((y187n : Int) ≤ 16)) h
theorem vt_Screen_numbers_j4_ok {Q : Exit → Env → Heap → Prop} (Kr : Int → Option Addr → Nat → Nat → ByteArray → Bool → Heap → Prop) (hKr : ∀ (z196 : Int) (z197 : Option Addr) (z197n : Nat) (z197c : Nat) (z198 : ByteArray) (z199 : Bool) (b : Env) (h : Heap), Kr z196 z197 z197n z197c z198 z199 h → Q .ret (upd (upd (upd (upd b 2 (.int .u8 z196)) 3 (.slice z197 z197n z197c)) 4 (.string z198)) 5 (.bool z199)) h) (y185 : Int) (y186 : ByteArray) (y187 : Option Addr) (y187n : Nat) (y187c : Nat) (b : Env) (h : Heap) (hM : vt_Screen_numbers_j4 Kr y185 y186 y187 y187n y187c h) : cwp Tryz.prog (partC Tryz.f116 [1, 1, 1, 1, 1, 1, 1, 1, 1, 1, 1, 1]) 116 Q (upd (upd (upd b 7 (.int .u8 y185)) 9 (.string y186)) 11 (.slice y187 y187n y187c)) h := by
  unfold vt_Screen_numbers_j4 at hM
  refine cwp_part rfl ?_
  refine cR ?_
  refine oZ [(110, .int .u8 y185), (111, .slice y187 y187n y187c), (112, .string y186), (113, .slice y187 y187n y187c), (114, .int .i64 (y187n : Int)), (115, .bool (decide ((y187n : Int) ≤ 16))), (2, .int .u8 y185), (3, .slice y187 y187n y187c), (4, .string y186), (5, .bool (decide ((y187n : Int) ≤ 16)))] ?_
  refine oE (cwp_ret ?_)
  exact q_at (Q := Q .ret) 2 (.int .u8 y185) (by kernel_rfl) (q_at (Q := Q .ret) 3 (.slice y187 y187n y187c) (by kernel_rfl) (q_at (Q := Q .ret) 4 (.string y186) (by kernel_rfl) (q_at (Q := Q .ret) 5 (.bool (decide ((y187n : Int) ≤ 16))) (by kernel_rfl) (hKr y185 y187 y187n y187c y186 (decide ((y187n : Int) ≤ 16)) _ _ hM))))
def vt_Screen_numbers_j0 (Kr : Int → Option Addr → Nat → Nat → ByteArray → Bool → Heap → Prop) (y34 : Option Addr) (y34n : Nat) (y34c : Nat) (y35 : Int) (h : Heap) : Prop :=
 ∃ k229, vt_Screen_numbers_l1
  (fun z70 z70n z70c z71 z72 h73 =>
    0 ≤ z72 ∧
    z72 ≤ (z70n : Int) ∧
    bytM h73 (cutA z70 z70c z72.toNat 1) (z70n - z72.toNat) fun x76 =>
    ∃ k227, vt_Screen_numbers_l2
     (fun z112 z112n z112c z113 z114 z115 h116 =>
       ∃ k219, vt_Screen_numbers_l3
        (fun z173 z174 z175 z176 z176n z176c z177 h178 =>
          if 0 < z174 then
           gap h178 fun h181 =>
           appH h181 3 8 [.int .i64 0] z176 z176n z176c [.int .i64 z177] 1 fun s184 s184c h183 =>
           vt_Screen_numbers_j4
            (fun z200 z201 z201n z201c z202 z203 h204 =>
                Kr z200 z201 z201n z201c z202 z203 h204) z173 z175 s184 (z176n + 1) s184c h183
          else
          vt_Screen_numbers_j4
           (fun z211 z212 z212n z212c z213 z214 h215 =>
                   Kr z211 z212 z212n z212c z213 z214 h215) z173 z175 z176 z176n z176c h178) k219 z112 z112n z112c z113 z114 z115 none 0 0 (-1) 0 h116)
     (fun z221 z222 z222n z222c z223 z224 h225 =>
           Kr z221 z222 z222n z222c z223 z224 h225) k227 z70 z70n z70c z71 z72 x76 (x76.size : Int) 0 h73) k229 y34 y34n y34c y35 0 h
theorem vt_Screen_numbers_j0_ok {Q : Exit → Env → Heap → Prop} (Kr : Int → Option Addr → Nat → Nat → ByteArray → Bool → Heap → Prop) (hKr : ∀ (z234 : Int) (z235 : Option Addr) (z235n : Nat) (z235c : Nat) (z236 : ByteArray) (z237 : Bool) (b : Env) (h : Heap), Kr z234 z235 z235n z235c z236 z237 h → Q .ret (upd (upd (upd (upd b 2 (.int .u8 z234)) 3 (.slice z235 z235n z235c)) 4 (.string z236)) 5 (.bool z237)) h) (y34 : Option Addr) (y34n : Nat) (y34c : Nat) (y35 : Int) (b : Env) (h : Heap) (hM : vt_Screen_numbers_j0 Kr y34 y34n y34c y35 h) : cwp Tryz.prog (partC Tryz.f116 [1, 1, 1, 1]) 116 Q (upd (upd b 6 (.slice y34 y34n y34c)) 7 (.int .u8 y35)) h := by
  unfold vt_Screen_numbers_j0 at hM
  refine cwp_part rfl ?_
  refine cR ?_
  refine oZ [(8, .int .i64 0)] ?_
  refine oE (cwp_seq (cwp_block ?_))
  obtain ⟨k_, hM⟩ := hM
  refine cwp_loop k_ (lwp_of_part (fn := Tryz.f116) (p := [1, 1, 1, 1, 1, 0, 0, 0]) (by kernel_rfl) (lA 6 (.slice y34 y34n y34c) (lA 7 (.int .u8 y35) (lA 8 (.int .i64 0) (vt_Screen_numbers_l1_ok _ ?_ k_ y34 y34n y34c y35 0 _ _ hM)))))
  · intro z70 z70n z70c z71 z72 b228 h73 hM
    refine blockE_h (thenE_n (cR ?_))
    refine oZ [(58, .slice z70 z70n z70c), (59, .int .i64 z72)] ?_
    obtain ⟨hc74, hM⟩ := hM
    obtain ⟨hc75, hM⟩ := hM
    refine owp_rdG (.slice (cutA z70 z70c z72.toNat 1) (z70n - z72.toNat) (z70c - z72.toNat)) rfl (by kernel_rfl) (rd_sSLo (P := Tryz.prog) (h := h73) (t := 77) (el := 5) (sz := 1) (a := z70) (n := z70n) (c := z70c) (k := .i64) (i := z72) (by kernel_rfl) (by kernel_rfl) hc74 hc75 (by kernel_rfl)) ?_
    obtain ⟨x76, hx77, hM⟩ := hM
    refine owp_rdG (.string x76) rfl (by kernel_rfl) (rd_bytS (P := Tryz.prog) (h := h73) (a := (cutA z70 z70c z72.toNat 1)) (n := (z70n - z72.toNat)) (c := (z70c - z72.toNat)) hx77 (by kernel_rfl)) ?_
    refine oZ [(9, .string x76)] ?_
    refine oE (cwp_seq (cR ?_))
    refine oZ [(62, .string x76), (63, .int .i64 (x76.size : Int)), (64, .int .i64 0)] ?_
    refine oE (cwp_block ?_)
    obtain ⟨k_, hM⟩ := hM
    refine cwp_loop k_ (lwp_of_part (fn := Tryz.f116) (p := [1, 1, 1, 1, 1, 1, 1, 0, 1, 0, 0]) (by kernel_rfl) (lA 6 (.slice z70 z70n z70c) (lA 7 (.int .u8 z71) (lA 8 (.int .i64 z72) (lA 9 (.string x76) (lA 63 (.int .i64 (x76.size : Int)) (lA 64 (.int .i64 0) (vt_Screen_numbers_l2_ok _ ?_ _ ?_ k_ z70 z70n z70c z71 z72 x76 (x76.size : Int) 0 _ _ hM))))))))
    · intro z112 z112n z112c z113 z114 z115 b220 h116 hM
      refine blockE_h (thenE_n (cR ?_))
      refine oZ [(11, .slice none 0 0)] ?_
      refine oE (cR ?_)
      refine oZ [(12, .int .i64 (-1))] ?_
      refine oE (cwp_seq (cR ?_))
      refine oZ [(13, .int .i64 0)] ?_
      refine oE (cwp_block ?_)
      obtain ⟨k_, hM⟩ := hM
      refine cwp_loop k_ (lwp_of_part (fn := Tryz.f116) (p := [1, 1, 1, 1, 1, 1, 1, 1, 1, 1, 0, 1, 0, 0]) (by kernel_rfl) (lA 6 (.slice z112 z112n z112c) (lA 7 (.int .u8 z113) (lA 8 (.int .i64 z114) (lA 9 (.string z115) (lA 11 (.slice none 0 0) (lA 12 (.int .i64 (-1)) (lA 13 (.int .i64 0) (vt_Screen_numbers_l3_ok _ ?_ k_ z112 z112n z112c z113 z114 z115 none 0 0 (-1) 0 _ _ hM)))))))))
      · intro z173 z174 z175 z176 z176n z176c z177 b218 h178 hM
        refine blockE_h (thenE_n (cwp_seq (cR ?_)))
        refine oZ [(104, .int .i64 z174), (105, .bool (decide (0 < z174)))] ?_
        refine oE ?_
        refine cwp_condD (0 < z174) (by kernel_rfl) (fun hc179 => ?_) (fun hc179 => ?_)
        · replace hM := ifT hc179 hM
          refine cwp_region ?_
          refine oZ [(106, .slice z176 z176n z176c), (107, .int .i64 z177)] ?_
          refine oG (hpNewS #[.int .i64 z177] 3 1 (fun _ => by kernel_rfl) ?_)
          intro b180 h181 hN182
          replace hM := hM _ (New.ext hN182)
          refine oG (hpApp (t := 54) (ty := 54) (et := 3) (zv := .int .i64 0) (sz := 1) (by_ := 8) (base := z176) (n' := z176n) (c := z176c) (xb := (some ⟨b180, 0, none⟩)) (m := 1) (xc := 1) (new := [.int .i64 z177]) (fun _ => by kernel_rfl) (by kernel_rfl) (by kernel_rfl) [.int .i64 0] rfl rfl (by decide) rfl rfl ⟨Blk.cell (New.blk hN182) 0 (by kernel_rfl), trivial⟩ hM ?_)
          clear hM
          intro s184 s184c h183 hM
          refine oZ [(11, .slice s184 (z176n + 1) s184c)] ?_
          refine oE ?_
          refine cwp_of_part (fn := Tryz.f116) (p := [1, 1, 1, 1, 1, 1, 1, 1, 1, 1, 1, 1]) (by kernel_rfl) (cA 7 (.int .u8 z173) (cA 9 (.string z175) (cA 11 (.slice s184 (z176n + 1) s184c) (vt_Screen_numbers_j4_ok _ ?_ z173 z175 s184 (z176n + 1) s184c _ _ hM))))
          · intro z200 z201 z201n z201c z202 z203 b209 h204 hM
            exact q_at (Q := Q .ret) 2 (.int .u8 z200) (by kernel_rfl) (q_at (Q := Q .ret) 3 (.slice z201 z201n z201c) (by kernel_rfl) (q_at (Q := Q .ret) 4 (.string z202) (by kernel_rfl) (q_at (Q := Q .ret) 5 (.bool z203) (by kernel_rfl) (hKr z200 z201 z201n z201c z202 z203 _ _ hM))))
        replace hM := ifF hc179 hM
        refine cwp_skip (thenE_n ?_)
        refine cwp_of_part (fn := Tryz.f116) (p := [1, 1, 1, 1, 1, 1, 1, 1, 1, 1, 1, 1]) (by kernel_rfl) (cA 7 (.int .u8 z173) (cA 9 (.string z175) (cA 11 (.slice z176 z176n z176c) (vt_Screen_numbers_j4_ok _ ?_ z173 z175 z176 z176n z176c _ _ hM))))
        · intro z211 z212 z212n z212c z213 z214 b216 h215 hM
          exact q_at (Q := Q .ret) 2 (.int .u8 z211) (by kernel_rfl) (q_at (Q := Q .ret) 3 (.slice z212 z212n z212c) (by kernel_rfl) (q_at (Q := Q .ret) 4 (.string z213) (by kernel_rfl) (q_at (Q := Q .ret) 5 (.bool z214) (by kernel_rfl) (hKr z211 z212 z212n z212c z213 z214 _ _ hM))))
    · intro z221 z222 z222n z222c z223 z224 b226 h225 hM
      refine blockE_r (thenE_r ?_)
      exact q_at (Q := Q .ret) 2 (.int .u8 z221) (by kernel_rfl) (q_at (Q := Q .ret) 3 (.slice z222 z222n z222c) (by kernel_rfl) (q_at (Q := Q .ret) 4 (.string z223) (by kernel_rfl) (q_at (Q := Q .ret) 5 (.bool z224) (by kernel_rfl) (hKr z221 z222 z222n z222c z223 z224 _ _ hM))))
def vt_Screen_numbers (a1 : Option Addr) (K : Int → Option Addr → Nat → Nat → ByteArray → Bool → Heap → Prop) (h : Heap) : Prop :=
 nz a1 fun p2 =>
 ldL h (p2.add 32) fun x3 x3n x3c =>
 if 0 < (x3n : Int) then
  nz x3 fun p12 =>
  0 ≤ (0 : Int) ∧
  (0 : Int) < (x3n : Int) ∧
  ldI h .u8 (p12.add (((0 : Int)).toNat * 1)) fun x13 =>
  if 60 ≤ x13 then
   0 ≤ (0 : Int) ∧
   (0 : Int) < (x3n : Int) ∧
   ldI h .u8 (p12.add (((0 : Int)).toNat * 1)) fun x24 =>
   if x24 ≤ 63 then
    0 ≤ (0 : Int) ∧
    (0 : Int) < (x3n : Int) ∧
    ldI h .u8 (p12.add (((0 : Int)).toNat * 1)) fun x30 =>
    (1 : Int) ≤ (x3n : Int) ∧
    vt_Screen_numbers_j0
     (fun z238 z239 z239n z239c z240 z241 h242 =>
         K z238 z239 z239n z239c z240 z241 h242) (cutA (some p12) x3c (1 : Int).toNat 1) (x3n - (1 : Int).toNat) (x3c - (1 : Int).toNat) x30 h
   else
   vt_Screen_numbers_j0
    (fun z245 z246 z246n z246c z247 z248 h249 =>
        K z245 z246 z246n z246c z247 z248 h249) (some p12) x3n x3c 0 h
  else
  vt_Screen_numbers_j0
   (fun z252 z253 z253n z253c z254 z255 h256 =>
       K z252 z253 z253n z253c z254 z255 h256) (some p12) x3n x3c 0 h
 else
 vt_Screen_numbers_j0
  (fun z259 z260 z260n z260c z261 z262 h263 =>
      K z259 z260 z260n z260c z261 z262 h263) x3 x3n x3c 0 h
theorem vt_Screen_numbers_ok (a1 : Option Addr) (K : Int → Option Addr → Nat → Nat → ByteArray → Bool → Heap → Prop) (h : Heap) (hM : vt_Screen_numbers a1 K h) : CallsH Tryz.prog 116 #[.pointer a1] (fun v h' => ∃ (r266 : Int) (r267 : Option Addr) (r267n : Nat) (r267c : Nat) (r268 : ByteArray) (r269 : Bool), v = .tuple #[.int .u8 r266, .slice r267 r267n r267c, .string r268, .bool r269] ∧ K r266 r267 r267n r267c r268 r269 h') h := by
 unfold vt_Screen_numbers at hM
 refine callsH_intro (n := 116) Tryz.func116 rfl rfl (by kernel_rfl) ?_
 refine cR ?_
 refine oZ [(2, .int .u8 0), (3, .slice none 0 0), (4, .string (⟨#[]⟩ : ByteArray)), (5, .bool false)] ?_
 refine oE (cR ?_)
 refine oZ [(14, .pointer a1)] ?_
 obtain ⟨p2, rfl, hM⟩ := hM
 refine owp_rdG (.pointer (some p2)) rfl (by kernel_rfl) (by kernel_rfl) ?_
 refine oZ [(16, .pointer (some (p2.add 32)))] ?_
 obtain ⟨x3, x3n, x3c, hc4, hM⟩ := hM
 refine oL (.slice x3 x3n x3c) (p2.add 32) hc4 ?_
 refine oZ [(6, .slice x3 x3n x3c)] ?_
 refine oE (cR ?_)
 refine oZ [(7, .int .u8 0)] ?_
 refine oE (cwp_seq (cR ?_))
 refine oZ [(18, .slice x3 x3n x3c), (19, .int .i64 (x3n : Int)), (20, .bool (decide (0 < (x3n : Int)))), (21, .bool (decide (0 < (x3n : Int))))] ?_
 by_cases hc9 : 0 < (x3n : Int)
 · refine oA 20 true (decide (0 < (x3n : Int))) (by rw [decide_eq_true hc9]) ?_
   refine oA 21 true (decide (0 < (x3n : Int))) (by rw [decide_eq_true hc9]) ?_
   replace hM := ifT hc9 hM
   refine oZ [(22, .slice x3 x3n x3c)] ?_
   obtain ⟨p12, rfl, hM⟩ := hM
   obtain ⟨hc10, hM⟩ := hM
   obtain ⟨hc11, hM⟩ := hM
   refine owp_rdG (.pointer (some (p12.add (((0 : Int)).toNat * 1)))) rfl (by kernel_rfl) (rd_ixS (P := Tryz.prog) (h := h) (t := 77) (el := 5) (sz := 1) (ad := p12) (len := x3n) (c := x3c) (k := .i64) (i := 0) (by kernel_rfl) (by kernel_rfl) hc10 hc11 (by kernel_rfl)) ?_
   obtain ⟨x13, hc14, hM⟩ := hM
   refine oL (.int .u8 x13) (p12.add (((0 : Int)).toNat * 1)) hc14 ?_
   refine oZ [(25, .bool (decide (60 ≤ x13))), (26, .bool (decide (60 ≤ x13))), (27, .bool (decide (60 ≤ x13)))] ?_
   by_cases hc21 : 60 ≤ x13
   · refine oA 25 true (decide (60 ≤ x13)) (by rw [decide_eq_true hc21]) ?_
     refine oA 26 true (decide (60 ≤ x13)) (by rw [decide_eq_true hc21]) ?_
     refine oA 27 true (decide (60 ≤ x13)) (by rw [decide_eq_true hc21]) ?_
     replace hM := ifT hc21 hM
     refine oZ [(28, .slice (some p12) x3n x3c)] ?_
     obtain ⟨hc22, hM⟩ := hM
     obtain ⟨hc23, hM⟩ := hM
     refine owp_rdG (.pointer (some (p12.add (((0 : Int)).toNat * 1)))) rfl (by kernel_rfl) (rd_ixS (P := Tryz.prog) (h := h) (t := 77) (el := 5) (sz := 1) (ad := p12) (len := x3n) (c := x3c) (k := .i64) (i := 0) (by kernel_rfl) (by kernel_rfl) hc22 hc23 (by kernel_rfl)) ?_
     obtain ⟨x24, hc25, hM⟩ := hM
     refine oL (.int .u8 x24) (p12.add (((0 : Int)).toNat * 1)) hc25 ?_
     refine oZ [(31, .bool (decide (x24 ≤ 63))), (32, .bool (decide (x24 ≤ 63)))] ?_
     refine oE ?_
     refine cwp_condD (x24 ≤ 63) (by kernel_rfl) (fun hc27 => ?_) (fun hc27 => ?_)
     · replace hM := ifT hc27 hM
       refine cR ?_
       refine oZ [(33, .slice (some p12) x3n x3c)] ?_
       obtain ⟨hc28, hM⟩ := hM
       obtain ⟨hc29, hM⟩ := hM
       refine owp_rdG (.pointer (some (p12.add (((0 : Int)).toNat * 1)))) rfl (by kernel_rfl) (rd_ixS (P := Tryz.prog) (h := h) (t := 77) (el := 5) (sz := 1) (ad := p12) (len := x3n) (c := x3c) (k := .i64) (i := 0) (by kernel_rfl) (by kernel_rfl) hc28 hc29 (by kernel_rfl)) ?_
       obtain ⟨x30, hc31, hM⟩ := hM
       refine oL (.int .u8 x30) (p12.add (((0 : Int)).toNat * 1)) hc31 ?_
       refine oZ [(7, .int .u8 x30)] ?_
       refine oE (cwp_region ?_)
       refine oZ [(36, .slice (some p12) x3n x3c)] ?_
       obtain ⟨hc33, hM⟩ := hM
       refine owp_rdG (.slice (cutA (some p12) x3c (1 : Int).toNat 1) (x3n - (1 : Int).toNat) (x3c - (1 : Int).toNat)) rfl (by kernel_rfl) (rd_sSLo (P := Tryz.prog) (h := h) (t := 77) (el := 5) (sz := 1) (a := (some p12)) (n := x3n) (c := x3c) (k := .i64) (i := (1 : Int)) (by kernel_rfl) (by kernel_rfl) (by decide) hc33 (by kernel_rfl)) ?_
       refine oZ [(6, .slice (cutA (some p12) x3c (1 : Int).toNat 1) (x3n - (1 : Int).toNat) (x3c - (1 : Int).toNat))] ?_
       refine oE ?_
       refine cwp_of_part (fn := Tryz.f116) (p := [1, 1, 1, 1]) (by kernel_rfl) (cA 6 (.slice (cutA (some p12) x3c (1 : Int).toNat 1) (x3n - (1 : Int).toNat) (x3c - (1 : Int).toNat)) (cA 7 (.int .u8 x30) (vt_Screen_numbers_j0_ok _ ?_ (cutA (some p12) x3c (1 : Int).toNat 1) (x3n - (1 : Int).toNat) (x3c - (1 : Int).toNat) x30 _ _ hM)))
       · intro z238 z239 z239n z239c z240 z241 b243 h242 hM
         exact ret_ (.tuple #[.int .u8 z238, .slice z239 z239n z239c, .string z240, .bool z241]) (by kernel_rfl) ⟨_, _, _, _, _, _, rfl, hM⟩
     replace hM := ifF hc27 hM
     refine cwp_skip (thenE_n ?_)
     refine cwp_of_part (fn := Tryz.f116) (p := [1, 1, 1, 1]) (by kernel_rfl) (cA 6 (.slice (some p12) x3n x3c) (cA 7 (.int .u8 0) (vt_Screen_numbers_j0_ok _ ?_ (some p12) x3n x3c 0 _ _ hM)))
     · intro z245 z246 z246n z246c z247 z248 b250 h249 hM
       exact ret_ (.tuple #[.int .u8 z245, .slice z246 z246n z246c, .string z247, .bool z248]) (by kernel_rfl) ⟨_, _, _, _, _, _, rfl, hM⟩
   refine oA 25 false (decide (60 ≤ x13)) (by rw [decide_eq_false hc21]) ?_
   refine oA 26 false (decide (60 ≤ x13)) (by rw [decide_eq_false hc21]) ?_
   refine oA 27 false (decide (60 ≤ x13)) (by rw [decide_eq_false hc21]) ?_
   replace hM := ifF hc21 hM
   refine oZ [(28, undef), (29, undef), (30, undef), (31, undef), (32, .bool false)] ?_
   refine oE ?_
   refine cwp_cond (t := false) (by kernel_rfl) (fun hx_ => ?_) (fun hx_ => ?_)
   all_goals first | (cases hx_; done) | skip
   refine cwp_skip (thenE_n ?_)
   refine cwp_of_part (fn := Tryz.f116) (p := [1, 1, 1, 1]) (by kernel_rfl) (cA 6 (.slice (some p12) x3n x3c) (cA 7 (.int .u8 0) (vt_Screen_numbers_j0_ok _ ?_ (some p12) x3n x3c 0 _ _ hM)))
   · intro z252 z253 z253n z253c z254 z255 b257 h256 hM
     exact ret_ (.tuple #[.int .u8 z252, .slice z253 z253n z253c, .string z254, .bool z255]) (by kernel_rfl) ⟨_, _, _, _, _, _, rfl, hM⟩
 refine oA 20 false (decide (0 < (x3n : Int))) (by rw [decide_eq_false hc9]) ?_
 refine oA 21 false (decide (0 < (x3n : Int))) (by rw [decide_eq_false hc9]) ?_
 replace hM := ifF hc9 hM
 refine oZ [(22, undef), (23, undef), (24, undef), (25, undef), (26, .bool false), (27, .bool false), (28, undef), (29, undef), (30, undef), (31, undef), (32, .bool false)] ?_
 refine oE ?_
 refine cwp_cond (t := false) (by kernel_rfl) (fun hx_ => ?_) (fun hx_ => ?_)
 all_goals first | (cases hx_; done) | skip
 refine cwp_skip (thenE_n ?_)
 refine cwp_of_part (fn := Tryz.f116) (p := [1, 1, 1, 1]) (by kernel_rfl) (cA 6 (.slice x3 x3n x3c) (cA 7 (.int .u8 0) (vt_Screen_numbers_j0_ok _ ?_ x3 x3n x3c 0 _ _ hM)))
 · intro z259 z260 z260n z260c z261 z262 b264 h263 hM
   exact ret_ (.tuple #[.int .u8 z259, .slice z260 z260n z260c, .string z261, .bool z262]) (by kernel_rfl) ⟨_, _, _, _, _, _, rfl, hM⟩
/- (*mullion/vt.Screen).home -/
def vt_Screen_home (a1 : Option Addr) (a2 : Int) (a3 : Int) (K : Heap → Prop) (h : Heap) : Prop :=
 nz a1 fun p4 =>
 ldB h (p4.add 14) fun x5 =>
 if x5 = true then
  ldI h .i64 (p4.add 19) fun x9 =>
  ldI h .i64 (p4.add 20) fun x13 =>
  vt_Screen_to (some p4) (IntKind.wrap .i64 (a3 - 1)) (imin (IntKind.wrap .i64 ((IntKind.wrap .i64 (a2 - 1)) + x9)) x13) (fun  h17 =>
    K h17) h
 else
 vt_Screen_to (some p4) (IntKind.wrap .i64 (a3 - 1)) (IntKind.wrap .i64 (a2 - 1)) (fun  h18 =>
   K h18) h
theorem vt_Screen_home_ok (a1 : Option Addr) (a2 : Int) (a3 : Int) (K : Heap → Prop) (h : Heap) (hM : vt_Screen_home a1 a2 a3 K h) : CallsH Tryz.prog 140 #[.pointer a1, .int .i64 a2, .int .i64 a3] (fun v h' => v = .tuple #[] ∧ K h') h := by
 unfold vt_Screen_home at hM
 refine callsH_intro (n := 29) Tryz.func140 rfl rfl (by kernel_rfl) ?_
 refine cR ?_
 refine oZ [(6, .int .i64 a2), (7, .int .i64 (IntKind.wrap .i64 (a2 - 1))), (1, .int .i64 (IntKind.wrap .i64 (a2 - 1)))] ?_
 refine oE (cwp_seq (cR ?_))
 refine oZ [(8, .pointer a1)] ?_
 obtain ⟨p4, rfl, hM⟩ := hM
 refine owp_rdG (.pointer (some p4)) rfl (by kernel_rfl) (by kernel_rfl) ?_
 refine oZ [(10, .pointer (some (p4.add 9))), (11, .pointer (some (p4.add 14)))] ?_
 obtain ⟨x5, hc6, hM⟩ := hM
 refine oL (.bool x5) (p4.add 14) hc6 ?_
 refine oE ?_
 refine cwp_condB x5 (by kernel_rfl) (fun hc8 => ?_) (fun hc8 => ?_)
 · replace hM := ifT hc8 hM
   refine cwp_draw (by kernel_rfl) ?_
   refine kq 0 (.int .i64 (IntKind.wrap .i64 (a2 - 1))) ?_
   refine kq 1 (.pointer (some p4)) ?_
   refine kq 2 (.pointer (some p4)) ?_
   refine kq 3 (.pointer (some (p4.add 19))) ?_
   obtain ⟨x9, hc10, hM⟩ := hM
   refine kl 4 (.int .i64 x9) (p4.add 19) [5, 10, 11] [] hc10 ?_
   refine kq 5 (.int .i64 (IntKind.wrap .i64 ((IntKind.wrap .i64 (a2 - 1)) + x9))) ?_
   refine kq 6 (.pointer (some p4)) ?_
   refine kq 7 (.pointer (some p4)) ?_
   refine kq 8 (.pointer (some (p4.add 20))) ?_
   obtain ⟨x13, hc14, hM⟩ := hM
   refine kl 9 (.int .i64 x13) (p4.add 20) [10, 11] [] hc14 ?_
   refine kq 10 (.int .i64 (imin (IntKind.wrap .i64 ((IntKind.wrap .i64 (a2 - 1)) + x9)) x13)) ?_
   refine kq 11 (.int .i64 (imin (IntKind.wrap .i64 ((IntKind.wrap .i64 (a2 - 1)) + x9)) x13)) ?_
   refine k_done (by kernel_rfl) ?_
   refine thenE_n (cwp_region ?_)
   refine oZ [(24, .pointer (some p4)), (25, .int .i64 a3), (26, .int .i64 (IntKind.wrap .i64 (a3 - 1))), (27, .int .i64 (imin (IntKind.wrap .i64 ((IntKind.wrap .i64 (a2 - 1)) + x9)) x13))] ?_
   refine oG (hpCallE 111 #[.pointer (some p4), .int .i64 (IntKind.wrap .i64 (a3 - 1)), .int .i64 (imin (IntKind.wrap .i64 ((IntKind.wrap .i64 (a2 - 1)) + x9)) x13)] (by kernel_rfl) (vt_Screen_to_ok (some p4) (IntKind.wrap .i64 (a3 - 1)) (imin (IntKind.wrap .i64 ((IntKind.wrap .i64 (a2 - 1)) + x9)) x13) _ h hM) ?_)
   clear hM
   rintro _ h17 ⟨rfl, hM⟩
   refine owp_nil ?_
   exact end_ (.tuple #[]) (by kernel_rfl) ⟨rfl, hM⟩
 replace hM := ifF hc8 hM
 refine cwp_skip (thenE_n (cwp_region ?_))
 refine oZ [(24, .pointer (some p4)), (25, .int .i64 a3), (26, .int .i64 (IntKind.wrap .i64 (a3 - 1))), (27, .int .i64 (IntKind.wrap .i64 (a2 - 1)))] ?_
 refine oG (hpCallE 111 #[.pointer (some p4), .int .i64 (IntKind.wrap .i64 (a3 - 1)), .int .i64 (IntKind.wrap .i64 (a2 - 1))] (by kernel_rfl) (vt_Screen_to_ok (some p4) (IntKind.wrap .i64 (a3 - 1)) (IntKind.wrap .i64 (a2 - 1)) _ h hM) ?_)
 clear hM
 rintro _ h18 ⟨rfl, hM⟩
 refine owp_nil ?_
 exact end_ (.tuple #[]) (by kernel_rfl) ⟨rfl, hM⟩
/- (*mullion/vt.Screen).swap -/
def vt_Screen_swap (a1 : Option Addr) (a2 : Bool) (K : Heap → Prop) (h : Heap) : Prop :=
 nz a1 fun p3 =>
 ldB h (p3.add 7) fun x4 =>
 if (a2 == x4) = true then
  K h
 else
 stN (p3.add 7) [.bool a2] 0 h fun h8 =>
 stN (p3.add 5) [.slice none 0 0, .pointer none] 0 h8 fun h9 =>
 if a2 = true then
  ldI h9 .i64 p3 fun x11 =>
  ldI h9 .i64 (p3.add 1) fun x15 =>
  vt_Screen_erased (some p3) (fun x20 x21 x22 x23 x24 h19 =>
   (cellH h19 (p3.add 1) = some (.int .i64 x15) ∧ cellH h19 p3 = some (.int .i64 x11)) ∧
   vt_sheetOf x11 x15 x22 x23 x24 (fun x28 x28n x28c x29 h27 =>
    stN (p3.add 5) [.slice x28 x28n x28c, .pointer x29] 0 h27 fun h30 =>
    stN (p3.add 18) [.bool false] 0 h30 fun h31 =>
      K h31) h19) h9
 else
 stN (p3.add 18) [.bool false] 0 h9 fun h32 =>
 K h32
theorem vt_Screen_swap_ok (a1 : Option Addr) (a2 : Bool) (K : Heap → Prop) (h : Heap) (hM : vt_Screen_swap a1 a2 K h) : CallsH Tryz.prog 141 #[.pointer a1, .bool a2] (fun v h' => v = .tuple #[] ∧ K h') h := by
 unfold vt_Screen_swap at hM
 refine callsH_intro (n := 38) Tryz.func141 rfl rfl (by kernel_rfl) ?_
 refine cwp_seq (cR ?_)
 refine oZ [(4, .bool a2), (5, .pointer a1)] ?_
 obtain ⟨p3, rfl, hM⟩ := hM
 refine owp_rdG (.pointer (some p3)) rfl (by kernel_rfl) (by kernel_rfl) ?_
 refine oZ [(7, .pointer (some (p3.add 7)))] ?_
 obtain ⟨x4, hc5, hM⟩ := hM
 refine oL (.bool x4) (p3.add 7) hc5 ?_
 refine oZ [(9, .bool (a2 == x4))] ?_
 refine oE ?_
 refine cwp_condB (a2 == x4) (by kernel_rfl) (fun hc7 => ?_) (fun hc7 => ?_)
 · replace hM := ifT hc7 hM
   refine cwp_ret (thenE_r ?_)
   exact ret_ (.tuple #[]) (by kernel_rfl) ⟨rfl, hM⟩
 replace hM := ifF hc7 hM
 refine cwp_skip (thenE_n (cR ?_))
 refine oZ [(10, .pointer (some p3)), (11, .bool a2), (12, .pointer (some p3)), (13, .pointer (some (p3.add 7)))] ?_
 refine oT (p3.add 7) [.bool a2] hM ?_
 clear hM
 intro h8 hM
 refine oE (cR ?_)
 refine oZ [(14, .pointer (some p3)), (15, .agg #[.slice none 0 0, .pointer none]), (16, .pointer (some p3)), (17, .pointer (some (p3.add 5)))] ?_
 refine oT (p3.add 5) [.slice none 0 0, .pointer none] hM ?_
 clear hM
 intro h9 hM
 refine oE (cwp_seq (cR ?_))
 refine oZ [(18, .bool a2)] ?_
 refine oE ?_
 refine cwp_condB a2 (by kernel_rfl) (fun hc10 => ?_) (fun hc10 => ?_)
 · replace hM := ifT hc10 hM
   refine cwp_draw (by kernel_rfl) ?_
   refine kq 0 (.pointer (some p3)) ?_
   refine kq 1 (.pointer (some p3)) ?_
   refine kq 2 (.pointer (some p3)) ?_
   refine kq 3 (.pointer (some p3)) ?_
   obtain ⟨x11, hc12, hM⟩ := hM
   refine kl 4 (.int .i64 x11) p3 [12, 13, 14, 15] [12, 15] hc12 ?_
   refine kq 5 (.pointer (some p3)) ?_
   refine kq 6 (.pointer (some p3)) ?_
   refine kq 7 (.pointer (some (p3.add 1))) ?_
   obtain ⟨x15, hc16, hM⟩ := hM
   refine kl 8 (.int .i64 x15) (p3.add 1) [12, 13, 14, 15] [12, 15] hc16 ?_
   refine kq 9 (.pointer (some p3)) ?_
   refine kE 10 (hpCallE 139 #[.pointer (some p3)] (by kernel_rfl) (vt_Screen_erased_ok (some p3) _ h9 hM) ?_)
   clear hM
   rintro _ h19 ⟨x20, x21, x22, x23, x24, rfl, hM⟩
   obtain ⟨⟨hk25, hk26⟩, hM⟩ := hM
   refine ⟨⟨⟨hk25, trivial⟩, ⟨hk26, trivial⟩, trivial⟩, ?_⟩
   refine kq 11 (.agg #[.int .i64 x22, .int .i64 x23, .int .i64 x24]) ?_
   refine kE 12 (hpCallE 80 #[.int .i64 x11, .int .i64 x15, .agg #[.int .i64 x22, .int .i64 x23, .int .i64 x24]] (by kernel_rfl) (vt_sheetOf_ok x11 x15 x22 x23 x24 _ h19 hM) ?_)
   clear hM
   rintro _ h27 ⟨x28, x28n, x28c, x29, rfl, hM⟩
   refine ⟨trivial, ?_⟩
   refine kq 13 (.pointer (some p3)) ?_
   refine kq 14 (.pointer (some (p3.add 5))) ?_
   refine kD 15 (hpSt (p3.add 5) [.slice x28 x28n x28c, .pointer x29] (fun _ => by kernel_rfl) (by kernel_rfl) hM ?_)
   clear hM
   intro h30 hM
   refine ⟨trivial, ?_⟩
   refine k_done (by kernel_rfl) ?_
   refine thenE_n (cwp_region ?_)
   refine oZ [(34, .pointer (some p3)), (35, .pointer (some p3)), (36, .pointer (some (p3.add 9))), (37, .pointer (some (p3.add 18)))] ?_
   refine oT (p3.add 18) [.bool false] hM ?_
   clear hM
   intro h31 hM
   refine owp_nil ?_
   exact end_ (.tuple #[]) (by kernel_rfl) ⟨rfl, hM⟩
 replace hM := ifF hc10 hM
 refine cwp_skip (thenE_n (cwp_region ?_))
 refine oZ [(34, .pointer (some p3)), (35, .pointer (some p3)), (36, .pointer (some (p3.add 9))), (37, .pointer (some (p3.add 18)))] ?_
 refine oT (p3.add 18) [.bool false] hM ?_
 clear hM
 intro h32 hM
 refine owp_nil ?_
 exact end_ (.tuple #[]) (by kernel_rfl) ⟨rfl, hM⟩
/- (*mullion/vt.Screen).private -/
def vt_Screen_private_j0 (Kn : Heap → Prop) (y29 : Option Addr) (y30 : Bool) (y31 : Int) (y32 : Bool) (h : Heap) : Prop :=
 if y32 = true then
  vt_Screen_swap y29 y30 (fun  h34 =>
    Kn  h34) h
 else
 if y31 = 1048 then
  if y30 = true then
   vt_Screen_keepCursor y29 (fun  h37 =>
     Kn  h37) h
  else
  vt_Screen_backCursor y29 (fun  h38 =>
    Kn  h38) h
 else
 if y31 = 1049 then
  if y30 = true then
   nz y29 fun p42 =>
   ldB h (p42.add 7) fun x43 =>
   if (!x43) = true then
    vt_Screen_keepCursor (some p42) (fun  h47 =>
     vt_Screen_swap (some p42) true (fun  h48 =>
        Kn  h48) h47) h
   else
   Kn  h
  else
  nz y29 fun p49 =>
  ldB h (p49.add 7) fun x50 =>
  if x50 = true then
   vt_Screen_swap (some p49) false (fun  h54 =>
    vt_Screen_backCursor (some p49) (fun  h55 =>
       Kn  h55) h54) h
  else
  Kn  h
 else
 Kn  h
theorem vt_Screen_private_j0_ok {Q : Exit → Env → Heap → Prop} (Kn : Heap → Prop) (hKn : ∀  (b : Env) (h : Heap), Kn  h → Q .normal b h) (y29 : Option Addr) (y30 : Bool) (y31 : Int) (y32 : Bool) (b : Env) (h : Heap) (hM : vt_Screen_private_j0 Kn y29 y30 y31 y32 h) : cwp Tryz.prog (partC Tryz.f117 [1, 0, 1, 1, 1, 1, 1, 1, 1, 1, 1, 1, 1]) 94 Q (upd (upd (upd (upd b 0 (.pointer y29)) 2 (.bool y30)) 6 (.int .i64 y31)) 53 (.bool y32)) h := by
  unfold vt_Screen_private_j0 at hM
  refine cwp_part rfl ?_
  refine cwp_condB y32 (by kernel_rfl) (fun hc33 => ?_) (fun hc33 => ?_)
  · replace hM := ifT hc33 hM
    refine cwp_region ?_
    refine oZ [(56, .pointer y29), (57, .bool y30)] ?_
    refine oG (hpCallE 141 #[.pointer y29, .bool y30] (by kernel_rfl) (vt_Screen_swap_ok y29 y30 _ h hM) ?_)
    clear hM
    rintro _ h34 ⟨rfl, hM⟩
    refine owp_nil ?_
    exact hKn  _ _ hM
  replace hM := ifF hc33 hM
  refine cR ?_
  refine oZ [(60, .bool (decide (y31 = 1048))), (59, .bool (decide (y31 = 1048)))] ?_
  refine oE ?_
  refine cwp_condD (y31 = 1048) (by kernel_rfl) (fun hc35 => ?_) (fun hc35 => ?_)
  · replace hM := ifT hc35 hM
    refine cR ?_
    refine oZ [(61, .bool y30)] ?_
    refine oE ?_
    refine cwp_condB y30 (by kernel_rfl) (fun hc36 => ?_) (fun hc36 => ?_)
    · replace hM := ifT hc36 hM
      refine cwp_region ?_
      refine oZ [(62, .pointer y29)] ?_
      refine oG (hpCallE 113 #[.pointer y29] (by kernel_rfl) (vt_Screen_keepCursor_ok y29 _ h hM) ?_)
      clear hM
      rintro _ h37 ⟨rfl, hM⟩
      refine owp_nil ?_
      exact hKn  _ _ hM
    replace hM := ifF hc36 hM
    refine cwp_region ?_
    refine oZ [(64, .pointer y29)] ?_
    refine oG (hpCallE 114 #[.pointer y29] (by kernel_rfl) (vt_Screen_backCursor_ok y29 _ h hM) ?_)
    clear hM
    rintro _ h38 ⟨rfl, hM⟩
    refine owp_nil ?_
    exact hKn  _ _ hM
  replace hM := ifF hc35 hM
  refine cR ?_
  refine oZ [(67, .bool (decide (y31 = 1049))), (66, .bool (decide (y31 = 1049)))] ?_
  refine oE ?_
  refine cwp_condD (y31 = 1049) (by kernel_rfl) (fun hc39 => ?_) (fun hc39 => ?_)
  · replace hM := ifT hc39 hM
    refine cwp_block (cR ?_)
    refine oZ [(69, .bool y30), (70, .bool y30)] ?_
    by_cases hc41 : y30 = true
    · refine oA 2 true y30 (by rw [hc41]) ?_
      refine oA 69 true y30 (by rw [hc41]) ?_
      refine oA 70 true y30 (by rw [hc41]) ?_
      replace hM := ifT hc41 hM
      refine oZ [(71, .pointer y29)] ?_
      obtain ⟨p42, rfl, hM⟩ := hM
      refine owp_rdG (.pointer (some p42)) rfl (by kernel_rfl) (by kernel_rfl) ?_
      refine oZ [(73, .pointer (some (p42.add 7)))] ?_
      obtain ⟨x43, hc44, hM⟩ := hM
      refine oL (.bool x43) (p42.add 7) hc44 ?_
      refine oZ [(75, .bool (!x43)), (76, .bool (!x43)), (68, .bool (!x43))] ?_
      refine oE ?_
      refine cwp_condB (!x43) (by kernel_rfl) (fun hc46 => ?_) (fun hc46 => ?_)
      · replace hM := ifT hc46 hM
        refine cR ?_
        refine oZ [(77, .pointer (some p42))] ?_
        refine oG (hpCallE 113 #[.pointer (some p42)] (by kernel_rfl) (vt_Screen_keepCursor_ok (some p42) _ h hM) ?_)
        clear hM
        rintro _ h47 ⟨rfl, hM⟩
        refine oE (cwp_region ?_)
        refine oZ [(79, .pointer (some p42))] ?_
        refine oG (hpCallE 141 #[.pointer (some p42), .bool true] (by kernel_rfl) (vt_Screen_swap_ok (some p42) true _ h47 hM) ?_)
        clear hM
        rintro _ h48 ⟨rfl, hM⟩
        refine owp_nil (blockE_n ?_)
        exact hKn  _ _ hM
      replace hM := ifF hc46 hM
      refine cR ?_
      refine oZ [(82, .bool true), (83, .bool false), (84, .bool false), (85, undef), (86, undef), (87, undef), (88, undef), (89, .bool false), (81, .bool false)] ?_
      refine oE ?_
      refine cwp_cond (t := false) (by kernel_rfl) (fun hx_ => ?_) (fun hx_ => ?_)
      all_goals first | (cases hx_; done) | skip
      refine cwp_skip (blockE_n ?_)
      exact hKn  _ _ hM
    refine oA 2 false y30 (by rw [Bool.eq_false_iff.2 hc41]) ?_
    refine oA 69 false y30 (by rw [Bool.eq_false_iff.2 hc41]) ?_
    refine oA 70 false y30 (by rw [Bool.eq_false_iff.2 hc41]) ?_
    replace hM := ifF hc41 hM
    refine oZ [(71, undef), (72, undef), (73, undef), (74, undef), (75, undef), (76, .bool false), (68, .bool false)] ?_
    refine oE ?_
    refine cwp_cond (t := false) (by kernel_rfl) (fun hx_ => ?_) (fun hx_ => ?_)
    all_goals first | (cases hx_; done) | skip
    refine cR ?_
    refine oZ [(82, .bool false), (83, .bool true), (84, .bool true), (85, .pointer y29)] ?_
    obtain ⟨p49, rfl, hM⟩ := hM
    refine owp_rdG (.pointer (some p49)) rfl (by kernel_rfl) (by kernel_rfl) ?_
    refine oZ [(87, .pointer (some (p49.add 7)))] ?_
    obtain ⟨x50, hc51, hM⟩ := hM
    refine oL (.bool x50) (p49.add 7) hc51 ?_
    refine oZ [(89, .bool x50), (81, .bool x50)] ?_
    refine oE ?_
    refine cwp_condB x50 (by kernel_rfl) (fun hc53 => ?_) (fun hc53 => ?_)
    · replace hM := ifT hc53 hM
      refine cR ?_
      refine oZ [(90, .pointer (some p49))] ?_
      refine oG (hpCallE 141 #[.pointer (some p49), .bool false] (by kernel_rfl) (vt_Screen_swap_ok (some p49) false _ h hM) ?_)
      clear hM
      rintro _ h54 ⟨rfl, hM⟩
      refine oE (cwp_region ?_)
      refine oZ [(92, .pointer (some p49))] ?_
      refine oG (hpCallE 114 #[.pointer (some p49)] (by kernel_rfl) (vt_Screen_backCursor_ok (some p49) _ h54 hM) ?_)
      clear hM
      rintro _ h55 ⟨rfl, hM⟩
      refine owp_nil (blockE_n ?_)
      exact hKn  _ _ hM
    replace hM := ifF hc53 hM
    refine cwp_skip (blockE_n ?_)
    exact hKn  _ _ hM
  replace hM := ifF hc39 hM
  refine cwp_skip ?_
  exact hKn  _ _ hM
def vt_Screen_private (a1 : Option Addr) (a2 : Int) (a3 : Bool) (K : Heap → Prop) (h : Heap) : Prop :=
 if a2 = 1 then
  nz a1 fun p5 =>
  stN (p5.add 25) [.bool a3] 0 h fun h6 =>
  K h6
 else
 if a2 = 2004 then
  nz a1 fun p8 =>
  stN (p8.add 26) [.bool a3] 0 h fun h9 =>
  K h9
 else
 if a2 = 6 then
  nz a1 fun p11 =>
  stN (p11.add 14) [.bool a3] 0 h fun h12 =>
  vt_Screen_home (some p11) 1 1 (fun  h13 =>
    K h13) h12
 else
 if a2 = 7 then
  nz a1 fun p15 =>
  stN (p15.add 24) [.bool a3] 0 h fun h16 =>
  ldB h16 (p15.add 18) fun x17 =>
  stN (p15.add 18) [.bool (x17 && a3)] 0 h16 fun h24 =>
  K h24
 else
 if a2 = 25 then
  nz a1 fun p26 =>
  stN (p26.add 27) [.bool (!a3)] 0 h fun h27 =>
  K h27
 else
 if a2 = 47 then
  vt_Screen_private_j0
   (fun  h56 =>
       K h56) a1 a3 a2 (decide (a2 = 47)) h
 else
 vt_Screen_private_j0
  (fun  h59 =>
      K h59) a1 a3 a2 (decide (a2 = 1047)) h
theorem vt_Screen_private_ok (a1 : Option Addr) (a2 : Int) (a3 : Bool) (K : Heap → Prop) (h : Heap) (hM : vt_Screen_private a1 a2 a3 K h) : CallsH Tryz.prog 117 #[.pointer a1, .int .i64 a2, .bool a3] (fun v h' => v = .tuple #[] ∧ K h') h := by
 unfold vt_Screen_private at hM
 refine callsH_intro (n := 94) Tryz.func117 rfl rfl (by kernel_rfl) ?_
 refine cR ?_
 refine oZ [(6, .int .i64 a2)] ?_
 refine oE (cwp_block (cR ?_))
 refine oZ [(8, .bool (decide (a2 = 1))), (7, .bool (decide (a2 = 1)))] ?_
 refine oE ?_
 refine cwp_condD (a2 = 1) (by kernel_rfl) (fun hc4 => ?_) (fun hc4 => ?_)
 · replace hM := ifT hc4 hM
   refine cwp_region ?_
   refine oZ [(9, .pointer a1), (10, .bool a3)] ?_
   obtain ⟨p5, rfl, hM⟩ := hM
   refine owp_rdG (.pointer (some p5)) rfl (by kernel_rfl) (by kernel_rfl) ?_
   refine oZ [(12, .pointer (some (p5.add 25)))] ?_
   refine oT (p5.add 25) [.bool a3] hM ?_
   clear hM
   intro h6 hM
   refine owp_nil (blockE_n ?_)
   exact end_ (.tuple #[]) (by kernel_rfl) ⟨rfl, hM⟩
 replace hM := ifF hc4 hM
 refine cR ?_
 refine oZ [(14, .bool (decide (a2 = 2004))), (13, .bool (decide (a2 = 2004)))] ?_
 refine oE ?_
 refine cwp_condD (a2 = 2004) (by kernel_rfl) (fun hc7 => ?_) (fun hc7 => ?_)
 · replace hM := ifT hc7 hM
   refine cwp_region ?_
   refine oZ [(15, .pointer a1), (16, .bool a3)] ?_
   obtain ⟨p8, rfl, hM⟩ := hM
   refine owp_rdG (.pointer (some p8)) rfl (by kernel_rfl) (by kernel_rfl) ?_
   refine oZ [(18, .pointer (some (p8.add 26)))] ?_
   refine oT (p8.add 26) [.bool a3] hM ?_
   clear hM
   intro h9 hM
   refine owp_nil (blockE_n ?_)
   exact end_ (.tuple #[]) (by kernel_rfl) ⟨rfl, hM⟩
 replace hM := ifF hc7 hM
 refine cR ?_
 refine oZ [(20, .bool (decide (a2 = 6))), (19, .bool (decide (a2 = 6)))] ?_
 refine oE ?_
 refine cwp_condD (a2 = 6) (by kernel_rfl) (fun hc10 => ?_) (fun hc10 => ?_)
 · replace hM := ifT hc10 hM
   refine cR ?_
   refine oZ [(21, .pointer a1), (22, .bool a3)] ?_
   obtain ⟨p11, rfl, hM⟩ := hM
   refine owp_rdG (.pointer (some p11)) rfl (by kernel_rfl) (by kernel_rfl) ?_
   refine oZ [(24, .pointer (some (p11.add 9))), (25, .pointer (some (p11.add 14)))] ?_
   refine oT (p11.add 14) [.bool a3] hM ?_
   clear hM
   intro h12 hM
   refine oE (cwp_region ?_)
   refine oZ [(26, .pointer (some p11))] ?_
   refine oG (hpCallE 140 #[.pointer (some p11), .int .i64 1, .int .i64 1] (by kernel_rfl) (vt_Screen_home_ok (some p11) 1 1 _ h12 hM) ?_)
   clear hM
   rintro _ h13 ⟨rfl, hM⟩
   refine owp_nil (blockE_n ?_)
   exact end_ (.tuple #[]) (by kernel_rfl) ⟨rfl, hM⟩
 replace hM := ifF hc10 hM
 refine cR ?_
 refine oZ [(29, .bool (decide (a2 = 7))), (28, .bool (decide (a2 = 7)))] ?_
 refine oE ?_
 refine cwp_condD (a2 = 7) (by kernel_rfl) (fun hc14 => ?_) (fun hc14 => ?_)
 · replace hM := ifT hc14 hM
   refine cR ?_
   refine oZ [(30, .pointer a1), (31, .bool a3)] ?_
   obtain ⟨p15, rfl, hM⟩ := hM
   refine owp_rdG (.pointer (some p15)) rfl (by kernel_rfl) (by kernel_rfl) ?_
   refine oZ [(33, .pointer (some (p15.add 24)))] ?_
   refine oT (p15.add 24) [.bool a3] hM ?_
   clear hM
   intro h16 hM
   refine oE (cwp_region ?_)
   refine oZ [(34, .pointer (some p15)), (35, .pointer (some p15)), (36, .pointer (some p15)), (37, .pointer (some (p15.add 9))), (38, .pointer (some (p15.add 18)))] ?_
   obtain ⟨x17, hc18, hM⟩ := hM
   refine oL (.bool x17) (p15.add 18) hc18 ?_
   refine oZ [(40, .bool x17)] ?_
   refine oB (x17) 2 [39, 40] (fun b_ => [(41, iteV b_ (.bool a3 : Value) undef), (42, .bool (b_ && a3))]) rfl (fun hb20 hq21 => oS [(41, .bool a3), (42, .bool a3)] rfl (hq21)) (fun hb22 hq23 => oS [(41, undef), (42, .bool false)] rfl (hq23)) ?_
   refine oZ [(43, .pointer (some p15)), (44, .pointer (some (p15.add 9))), (45, .pointer (some (p15.add 18)))] ?_
   refine oT (p15.add 18) [.bool (x17 && a3)] hM ?_
   clear hM
   intro h24 hM
   refine owp_nil (blockE_n ?_)
   exact end_ (.tuple #[]) (by kernel_rfl) ⟨rfl, hM⟩
 replace hM := ifF hc14 hM
 refine cR ?_
 refine oZ [(47, .bool (decide (a2 = 25))), (46, .bool (decide (a2 = 25)))] ?_
 refine oE ?_
 refine cwp_condD (a2 = 25) (by kernel_rfl) (fun hc25 => ?_) (fun hc25 => ?_)
 · replace hM := ifT hc25 hM
   refine cwp_region ?_
   refine oZ [(48, .pointer a1), (49, .bool a3), (50, .bool (!a3))] ?_
   obtain ⟨p26, rfl, hM⟩ := hM
   refine owp_rdG (.pointer (some p26)) rfl (by kernel_rfl) (by kernel_rfl) ?_
   refine oZ [(52, .pointer (some (p26.add 27)))] ?_
   refine oT (p26.add 27) [.bool (!a3)] hM ?_
   clear hM
   intro h27 hM
   refine owp_nil (blockE_n ?_)
   exact end_ (.tuple #[]) (by kernel_rfl) ⟨rfl, hM⟩
 replace hM := ifF hc25 hM
 refine cwp_seq (cR ?_)
 refine oZ [(54, .bool (decide (a2 = 47))), (53, .bool (decide (a2 = 47)))] ?_
 refine oE ?_
 refine cwp_condD (a2 = 47) (by kernel_rfl) (fun hc28 => ?_) (fun hc28 => ?_)
 · replace hM := ifT hc28 hM
   refine cwp_skip (thenE_n ?_)
   refine cwp_of_part (fn := Tryz.f117) (p := [1, 0, 1, 1, 1, 1, 1, 1, 1, 1, 1, 1, 1]) (by kernel_rfl) (cA 0 (.pointer a1) (cA 2 (.bool a3) (cA 6 (.int .i64 a2) (cA 53 (.bool (decide (a2 = 47))) (vt_Screen_private_j0_ok _ ?_ a1 a3 a2 (decide (a2 = 47)) _ _ hM)))))
   · intro  b57 h56 hM
     refine blockE_n ?_
     exact end_ (.tuple #[]) (by kernel_rfl) ⟨rfl, hM⟩
 replace hM := ifF hc28 hM
 refine cwp_region ?_
 refine oZ [(55, .bool (decide (a2 = 1047))), (53, .bool (decide (a2 = 1047)))] ?_
 refine oE ?_
 refine cwp_of_part (fn := Tryz.f117) (p := [1, 0, 1, 1, 1, 1, 1, 1, 1, 1, 1, 1, 1]) (by kernel_rfl) (cA 0 (.pointer a1) (cA 2 (.bool a3) (cA 6 (.int .i64 a2) (cA 53 (.bool (decide (a2 = 1047))) (vt_Screen_private_j0_ok _ ?_ a1 a3 a2 (decide (a2 = 1047)) _ _ hM)))))
 · intro  b60 h59 hM
   refine blockE_n ?_
   exact end_ (.tuple #[]) (by kernel_rfl) ⟨rfl, hM⟩
/- (*mullion/vt.Screen).soft -/
def vt_Screen_soft (a1 : Option Addr) (K : Heap → Prop) (h : Heap) : Prop :=
 nz a1 fun p2 =>
 stN (p2.add 22) [.bool false] 0 h fun h3 =>
 stN (p2.add 14) [.bool false] 0 h3 fun h4 =>
 stN (p2.add 23) [.bool false] 0 h4 fun h5 =>
 stN (p2.add 25) [.bool false] 0 h5 fun h6 =>
 stN (p2.add 24) [.bool true] 0 h6 fun h7 =>
 stN (p2.add 27) [.bool false] 0 h7 fun h8 =>
 ldI h8 .i64 (p2.add 1) fun x9 =>
 stN (p2.add 19) [.int .i64 0] 0 h8 fun h12 =>
 stN (p2.add 20) [.int .i64 (IntKind.wrap .i64 (x9 - 1))] 0 h12 fun h13 =>
 stN (p2.add 11) [.int .i64 0, .int .i64 0, .int .i64 0] 0 h13 fun h14 =>
 stN (p2.add 15) [.bool false, .bool false] 0 h14 fun h15 =>
 stN (p2.add 17) [.bool false] 0 h15 fun h16 =>
 vt_Screen_shown (some p2) (fun x18 h17 =>
  nz x18 fun p19 =>
  stN (p19.add 1) [.pointer none] 0 h17 fun h20 =>
  stN (p2.add 18) [.bool false] 0 h20 fun h21 =>
   K h21) h16
theorem vt_Screen_soft_ok (a1 : Option Addr) (K : Heap → Prop) (h : Heap) (hM : vt_Screen_soft a1 K h) : CallsH Tryz.prog 118 #[.pointer a1] (fun v h' => v = .tuple #[] ∧ K h') h := by
 unfold vt_Screen_soft at hM
 refine callsH_intro (n := 54) Tryz.func118 rfl rfl (by kernel_rfl) ?_
 refine cR ?_
 refine oZ [(2, .pointer a1), (3, .pointer a1), (4, .pointer a1), (5, .pointer a1), (6, .pointer a1), (7, .pointer a1)] ?_
 obtain ⟨p2, rfl, hM⟩ := hM
 refine owp_rdG (.pointer (some p2)) rfl (by kernel_rfl) (by kernel_rfl) ?_
 refine oZ [(9, .pointer (some (p2.add 22)))] ?_
 refine oT (p2.add 22) [.bool false] hM ?_
 clear hM
 intro h3 hM
 refine oZ [(10, .pointer (some p2)), (11, .pointer (some (p2.add 9))), (12, .pointer (some (p2.add 14)))] ?_
 refine oT (p2.add 14) [.bool false] hM ?_
 clear hM
 intro h4 hM
 refine oZ [(13, .pointer (some p2)), (14, .pointer (some (p2.add 23)))] ?_
 refine oT (p2.add 23) [.bool false] hM ?_
 clear hM
 intro h5 hM
 refine oZ [(15, .pointer (some p2)), (16, .pointer (some (p2.add 25)))] ?_
 refine oT (p2.add 25) [.bool false] hM ?_
 clear hM
 intro h6 hM
 refine oZ [(17, .pointer (some p2)), (18, .pointer (some (p2.add 24)))] ?_
 refine oT (p2.add 24) [.bool true] hM ?_
 clear hM
 intro h7 hM
 refine oZ [(19, .pointer (some p2)), (20, .pointer (some (p2.add 27)))] ?_
 refine oT (p2.add 27) [.bool false] hM ?_
 clear hM
 intro h8 hM
 refine oE (cR ?_)
 refine oZ [(21, .pointer (some p2)), (22, .pointer (some p2)), (23, .pointer (some p2)), (24, .pointer (some p2)), (25, .pointer (some (p2.add 1)))] ?_
 obtain ⟨x9, hc10, hM⟩ := hM
 refine oL (.int .i64 x9) (p2.add 1) hc10 ?_
 refine oZ [(27, .int .i64 (IntKind.wrap .i64 (x9 - 1))), (28, .pointer (some p2)), (29, .pointer (some (p2.add 19)))] ?_
 refine oT (p2.add 19) [.int .i64 0] hM ?_
 clear hM
 intro h12 hM
 refine oZ [(30, .pointer (some p2)), (31, .pointer (some (p2.add 20)))] ?_
 refine oT (p2.add 20) [.int .i64 (IntKind.wrap .i64 (x9 - 1))] hM ?_
 clear hM
 intro h13 hM
 refine oE (cR ?_)
 refine oZ [(32, .pointer (some p2)), (33, .agg #[.int .i64 0, .int .i64 0, .int .i64 0]), (34, .pointer (some p2)), (35, .pointer (some (p2.add 9))), (36, .pointer (some (p2.add 11)))] ?_
 refine oT (p2.add 11) [.int .i64 0, .int .i64 0, .int .i64 0] hM ?_
 clear hM
 intro h14 hM
 refine oE (cR ?_)
 refine oZ [(37, .pointer (some p2)), (38, .pointer (some p2)), (39, .agg #[.bool false, .bool false]), (40, .pointer (some p2)), (41, .pointer (some (p2.add 9))), (42, .pointer (some (p2.add 15)))] ?_
 refine oT (p2.add 15) [.bool false, .bool false] hM ?_
 clear hM
 intro h15 hM
 refine oZ [(43, .pointer (some p2)), (44, .pointer (some (p2.add 9))), (45, .pointer (some (p2.add 17)))] ?_
 refine oT (p2.add 17) [.bool false] hM ?_
 clear hM
 intro h16 hM
 refine oE (cR ?_)
 refine oZ [(46, .pointer (some p2))] ?_
 refine oG (hpCallE 39 #[.pointer (some p2)] (by kernel_rfl) (vt_Screen_shown_ok (some p2) _ h16 hM) ?_)
 clear hM
 rintro _ h17 ⟨x18, rfl, hM⟩
 obtain ⟨p19, rfl, hM⟩ := hM
 refine owp_rdG (.pointer (some p19)) rfl (by kernel_rfl) (by kernel_rfl) ?_
 refine oZ [(49, .pointer (some (p19.add 1)))] ?_
 refine oT (p19.add 1) [.pointer none] hM ?_
 clear hM
 intro h20 hM
 refine oE (cwp_region ?_)
 refine oZ [(50, .pointer (some p2)), (51, .pointer (some p2)), (52, .pointer (some (p2.add 9))), (53, .pointer (some (p2.add 18)))] ?_
 refine oT (p2.add 18) [.bool false] hM ?_
 clear hM
 intro h21 hM
 refine owp_nil ?_
 exact end_ (.tuple #[]) (by kernel_rfl) ⟨rfl, hM⟩
/- mullion/vt.at -/
def vt_at (a1 : Option Addr) (a1n : Nat) (a1c : Nat) (a2 : Int) (a3 : Int) (K : Int → Heap → Prop) (h : Heap) : Prop :=
 if a2 < (a1n : Int) then
  nz a1 fun p10 =>
  0 ≤ a2 ∧
  a2 < (a1n : Int) ∧
  ldI h .i64 (p10.add ((a2).toNat * 1)) fun x11 =>
  if 0 ≤ x11 then
   0 ≤ a2 ∧
   a2 < (a1n : Int) ∧
   ldI h .i64 (p10.add ((a2).toNat * 1)) fun x17 =>
   K x17 h
  else
  K a3 h
 else
 K a3 h
theorem vt_at_ok (a1 : Option Addr) (a1n : Nat) (a1c : Nat) (a2 : Int) (a3 : Int) (K : Int → Heap → Prop) (h : Heap) (hM : vt_at a1 a1n a1c a2 a3 K h) : CallsH Tryz.prog 142 #[.slice a1 a1n a1c, .int .i64 a2, .int .i64 a3] (fun v h' => ∃ (r20 : Int), v = .int .i64 r20 ∧ K r20 h') h := by
 unfold vt_at at hM
 refine callsH_intro (n := 23) Tryz.func142 rfl rfl (by kernel_rfl) ?_
 refine cR ?_
 refine oZ [(6, .int .i64 0)] ?_
 refine oE (cwp_seq (cR ?_))
 refine oZ [(7, .int .i64 a2), (8, .slice a1 a1n a1c), (9, .int .i64 (a1n : Int)), (10, .bool (decide (a2 < (a1n : Int)))), (11, .bool (decide (a2 < (a1n : Int))))] ?_
 by_cases hc7 : a2 < (a1n : Int)
 · refine oA 10 true (decide (a2 < (a1n : Int))) (by rw [decide_eq_true hc7]) ?_
   refine oA 11 true (decide (a2 < (a1n : Int))) (by rw [decide_eq_true hc7]) ?_
   replace hM := ifT hc7 hM
   refine oZ [(12, .slice a1 a1n a1c), (13, .int .i64 a2)] ?_
   obtain ⟨p10, rfl, hM⟩ := hM
   obtain ⟨hc8, hM⟩ := hM
   obtain ⟨hc9, hM⟩ := hM
   refine owp_rdG (.pointer (some (p10.add ((a2).toNat * 1)))) rfl (by kernel_rfl) (rd_ixS (P := Tryz.prog) (h := h) (t := 54) (el := 3) (sz := 1) (ad := p10) (len := a1n) (c := a1c) (k := .i64) (i := a2) (by kernel_rfl) (by kernel_rfl) hc8 hc9 (by kernel_rfl)) ?_
   obtain ⟨x11, hc12, hM⟩ := hM
   refine oL (.int .i64 x11) (p10.add ((a2).toNat * 1)) hc12 ?_
   refine oZ [(16, .bool (decide (0 ≤ x11))), (17, .bool (decide (0 ≤ x11)))] ?_
   refine oE ?_
   refine cwp_condD (0 ≤ x11) (by kernel_rfl) (fun hc14 => ?_) (fun hc14 => ?_)
   · replace hM := ifT hc14 hM
     refine cR ?_
     refine oZ [(18, .slice (some p10) a1n a1c), (19, .int .i64 a2)] ?_
     obtain ⟨hc15, hM⟩ := hM
     obtain ⟨hc16, hM⟩ := hM
     refine owp_rdG (.pointer (some (p10.add ((a2).toNat * 1)))) rfl (by kernel_rfl) (rd_ixS (P := Tryz.prog) (h := h) (t := 54) (el := 3) (sz := 1) (ad := p10) (len := a1n) (c := a1c) (k := .i64) (i := a2) (by kernel_rfl) (by kernel_rfl) hc15 hc16 (by kernel_rfl)) ?_
     obtain ⟨x17, hc18, hM⟩ := hM
     refine oL (.int .i64 x17) (p10.add ((a2).toNat * 1)) hc18 ?_
     refine oZ [(6, .int .i64 x17)] ?_
     refine oE (cwp_ret (thenE_r ?_))
     exact ret_ (.int .i64 x17) (by kernel_rfl) ⟨_, rfl, hM⟩
   replace hM := ifF hc14 hM
   refine cwp_skip (thenE_n (cR ?_))
   refine oZ [(22, .int .i64 a3), (6, .int .i64 a3)] ?_
   refine oE (cwp_ret ?_)
   exact ret_ (.int .i64 a3) (by kernel_rfl) ⟨_, rfl, hM⟩
 refine oA 10 false (decide (a2 < (a1n : Int))) (by rw [decide_eq_false hc7]) ?_
 refine oA 11 false (decide (a2 < (a1n : Int))) (by rw [decide_eq_false hc7]) ?_
 replace hM := ifF hc7 hM
 refine oZ [(12, undef), (13, undef), (14, undef), (15, undef), (16, undef), (17, .bool false)] ?_
 refine oE ?_
 refine cwp_cond (t := false) (by kernel_rfl) (fun hx_ => ?_) (fun hx_ => ?_)
 all_goals first | (cases hx_; done) | skip
 refine cwp_skip (thenE_n (cR ?_))
 refine oZ [(22, .int .i64 a3), (6, .int .i64 a3)] ?_
 refine oE (cwp_ret ?_)
 exact ret_ (.int .i64 a3) (by kernel_rfl) ⟨_, rfl, hM⟩
/- (*mullion/vt.Screen).rowsUp -/
def vt_Screen_rowsUp_j0 (Kn : Heap → Prop) (y16 : Addr) (y17 : Int) (y18 : Int) (h : Heap) : Prop :=
 ldI h .i64 (y16.add 9) fun x19 =>
 ldI h .i64 (y16.add 10) fun x23 =>
 vt_Screen_to (some y16) x19 (imax y18 (IntKind.wrap .i64 (x23 - y17))) (fun  h27 =>
   Kn  h27) h
theorem vt_Screen_rowsUp_j0_ok {Q : Exit → Env → Heap → Prop} (Kn : Heap → Prop) (hKn : ∀  (b : Env) (h : Heap), Kn  h → Q .normal b h) (y16 : Addr) (y17 : Int) (y18 : Int) (b : Env) (h : Heap) (hM : vt_Screen_rowsUp_j0 Kn y16 y17 y18 h) : cwp Tryz.prog (partC Tryz.f143 [1, 1]) 35 Q (upd (upd (upd b 0 (.pointer (some y16))) 1 (.int .i64 y17)) 4 (.int .i64 y18)) h := by
  unfold vt_Screen_rowsUp_j0 at hM
  refine cwp_part rfl ?_
  refine cwp_draw (by kernel_rfl) ?_
  refine kq 0 (.pointer (some y16)) ?_
  refine kq 1 (.pointer (some y16)) ?_
  refine kq 2 (.pointer (some y16)) ?_
  refine kq 3 (.pointer (some (y16.add 9))) ?_
  refine kq 4 (.pointer (some (y16.add 9))) ?_
  obtain ⟨x19, hc20, hM⟩ := hM
  refine kl 5 (.int .i64 x19) (y16.add 9) [15] [15] hc20 ?_
  refine kq 6 (.int .i64 y18) ?_
  refine kq 7 (.pointer (some y16)) ?_
  refine kq 8 (.pointer (some y16)) ?_
  refine kq 9 (.pointer (some (y16.add 9))) ?_
  refine kq 10 (.pointer (some (y16.add 10))) ?_
  obtain ⟨x23, hc24, hM⟩ := hM
  refine kl 11 (.int .i64 x23) (y16.add 10) [13, 14, 15] [15] hc24 ?_
  refine kq 12 (.int .i64 y17) ?_
  refine kq 13 (.int .i64 (IntKind.wrap .i64 (x23 - y17))) ?_
  refine kq 14 (.int .i64 (imax y18 (IntKind.wrap .i64 (x23 - y17)))) ?_
  refine kE 15 (hpCallE 111 #[.pointer (some y16), .int .i64 x19, .int .i64 (imax y18 (IntKind.wrap .i64 (x23 - y17)))] (by kernel_rfl) (vt_Screen_to_ok (some y16) x19 (imax y18 (IntKind.wrap .i64 (x23 - y17))) _ h hM) ?_)
  clear hM
  rintro _ h27 ⟨rfl, hM⟩
  refine ⟨trivial, ?_⟩
  refine k_done (by kernel_rfl) ?_
  exact hKn  _ _ hM
def vt_Screen_rowsUp (a1 : Option Addr) (a2 : Int) (K : Heap → Prop) (h : Heap) : Prop :=
 nz a1 fun p3 =>
 ldI h .i64 (p3.add 10) fun x4 =>
 ldI h .i64 (p3.add 19) fun x8 =>
 if x8 ≤ x4 then
  ldI h .i64 (p3.add 19) fun x13 =>
  vt_Screen_rowsUp_j0
   (fun  h28 =>
       K h28) p3 a2 x13 h
 else
 vt_Screen_rowsUp_j0
  (fun  h31 =>
      K h31) p3 a2 0 h
theorem vt_Screen_rowsUp_ok (a1 : Option Addr) (a2 : Int) (K : Heap → Prop) (h : Heap) (hM : vt_Screen_rowsUp a1 a2 K h) : CallsH Tryz.prog 143 #[.pointer a1, .int .i64 a2] (fun v h' => v = .tuple #[] ∧ K h') h := by
 unfold vt_Screen_rowsUp at hM
 refine callsH_intro (n := 35) Tryz.func143 rfl rfl (by kernel_rfl) ?_
 refine cR ?_
 refine oZ [(4, .int .i64 0)] ?_
 refine oE (cwp_seq (cwp_seq ?_))
 refine cwp_draw (by kernel_rfl) ?_
 refine kq 0 (.pointer a1) ?_
 obtain ⟨p3, rfl, hM⟩ := hM
 refine kq 1 (.pointer (some p3)) ?_
 refine kq 2 (.pointer (some (p3.add 9))) ?_
 refine kq 3 (.pointer (some (p3.add 10))) ?_
 obtain ⟨x4, hc5, hM⟩ := hM
 refine kl 4 (.int .i64 x4) (p3.add 10) [9] [] hc5 ?_
 refine kq 5 (.pointer (some p3)) ?_
 refine kq 6 (.pointer (some p3)) ?_
 refine kq 7 (.pointer (some (p3.add 19))) ?_
 obtain ⟨x8, hc9, hM⟩ := hM
 refine kl 8 (.int .i64 x8) (p3.add 19) [9] [] hc9 ?_
 refine kq 9 (.bool (decide (x8 ≤ x4))) ?_
 refine k_done (by kernel_rfl) ?_
 refine thenE_n ?_
 refine cwp_condD (x8 ≤ x4) (by kernel_rfl) (fun hc12 => ?_) (fun hc12 => ?_)
 · replace hM := ifT hc12 hM
   refine cwp_region ?_
   refine oZ [(15, .pointer (some p3)), (16, .pointer (some p3)), (17, .pointer (some (p3.add 19)))] ?_
   obtain ⟨x13, hc14, hM⟩ := hM
   refine oL (.int .i64 x13) (p3.add 19) hc14 ?_
   refine oZ [(4, .int .i64 x13)] ?_
   refine oE ?_
   refine cwp_of_part (fn := Tryz.f143) (p := [1, 1]) (by kernel_rfl) (cA 0 (.pointer (some p3)) (cA 1 (.int .i64 a2) (cA 4 (.int .i64 x13) (vt_Screen_rowsUp_j0_ok _ ?_ p3 a2 x13 _ _ hM))))
   · intro  b29 h28 hM
     exact end_ (.tuple #[]) (by kernel_rfl) ⟨rfl, hM⟩
 replace hM := ifF hc12 hM
 refine cwp_skip (thenE_n ?_)
 refine cwp_of_part (fn := Tryz.f143) (p := [1, 1]) (by kernel_rfl) (cA 0 (.pointer (some p3)) (cA 1 (.int .i64 a2) (cA 4 (.int .i64 0) (vt_Screen_rowsUp_j0_ok _ ?_ p3 a2 0 _ _ hM))))
 · intro  b32 h31 hM
   exact end_ (.tuple #[]) (by kernel_rfl) ⟨rfl, hM⟩
/- (*mullion/vt.Screen).rowsDown -/
def vt_Screen_rowsDown_j0 (Kn : Heap → Prop) (y19 : Addr) (y20 : Int) (y21 : Int) (h : Heap) : Prop :=
 ldI h .i64 (y19.add 9) fun x22 =>
 ldI h .i64 (y19.add 10) fun x26 =>
 vt_Screen_to (some y19) x22 (imin y21 (IntKind.wrap .i64 (x26 + y20))) (fun  h30 =>
   Kn  h30) h
theorem vt_Screen_rowsDown_j0_ok {Q : Exit → Env → Heap → Prop} (Kn : Heap → Prop) (hKn : ∀  (b : Env) (h : Heap), Kn  h → Q .normal b h) (y19 : Addr) (y20 : Int) (y21 : Int) (b : Env) (h : Heap) (hM : vt_Screen_rowsDown_j0 Kn y19 y20 y21 h) : cwp Tryz.prog (partC Tryz.f144 [1, 1]) 40 Q (upd (upd (upd b 0 (.pointer (some y19))) 1 (.int .i64 y20)) 4 (.int .i64 y21)) h := by
  unfold vt_Screen_rowsDown_j0 at hM
  refine cwp_part rfl ?_
  refine cwp_draw (by kernel_rfl) ?_
  refine kq 0 (.pointer (some y19)) ?_
  refine kq 1 (.pointer (some y19)) ?_
  refine kq 2 (.pointer (some y19)) ?_
  refine kq 3 (.pointer (some (y19.add 9))) ?_
  refine kq 4 (.pointer (some (y19.add 9))) ?_
  obtain ⟨x22, hc23, hM⟩ := hM
  refine kl 5 (.int .i64 x22) (y19.add 9) [15] [15] hc23 ?_
  refine kq 6 (.int .i64 y21) ?_
  refine kq 7 (.pointer (some y19)) ?_
  refine kq 8 (.pointer (some y19)) ?_
  refine kq 9 (.pointer (some (y19.add 9))) ?_
  refine kq 10 (.pointer (some (y19.add 10))) ?_
  obtain ⟨x26, hc27, hM⟩ := hM
  refine kl 11 (.int .i64 x26) (y19.add 10) [13, 14, 15] [15] hc27 ?_
  refine kq 12 (.int .i64 y20) ?_
  refine kq 13 (.int .i64 (IntKind.wrap .i64 (x26 + y20))) ?_
  refine kq 14 (.int .i64 (imin y21 (IntKind.wrap .i64 (x26 + y20)))) ?_
  refine kE 15 (hpCallE 111 #[.pointer (some y19), .int .i64 x22, .int .i64 (imin y21 (IntKind.wrap .i64 (x26 + y20)))] (by kernel_rfl) (vt_Screen_to_ok (some y19) x22 (imin y21 (IntKind.wrap .i64 (x26 + y20))) _ h hM) ?_)
  clear hM
  rintro _ h30 ⟨rfl, hM⟩
  refine ⟨trivial, ?_⟩
  refine k_done (by kernel_rfl) ?_
  exact hKn  _ _ hM
def vt_Screen_rowsDown (a1 : Option Addr) (a2 : Int) (K : Heap → Prop) (h : Heap) : Prop :=
 nz a1 fun p3 =>
 ldI h .i64 (p3.add 1) fun x4 =>
 ldI h .i64 (p3.add 10) fun x7 =>
 ldI h .i64 (p3.add 20) fun x11 =>
 if x7 ≤ x11 then
  ldI h .i64 (p3.add 20) fun x16 =>
  vt_Screen_rowsDown_j0
   (fun  h31 =>
       K h31) p3 a2 x16 h
 else
 vt_Screen_rowsDown_j0
  (fun  h34 =>
      K h34) p3 a2 (IntKind.wrap .i64 (x4 - 1)) h
theorem vt_Screen_rowsDown_ok (a1 : Option Addr) (a2 : Int) (K : Heap → Prop) (h : Heap) (hM : vt_Screen_rowsDown a1 a2 K h) : CallsH Tryz.prog 144 #[.pointer a1, .int .i64 a2] (fun v h' => v = .tuple #[] ∧ K h') h := by
 unfold vt_Screen_rowsDown at hM
 refine callsH_intro (n := 40) Tryz.func144 rfl rfl (by kernel_rfl) ?_
 refine cR ?_
 refine oZ [(5, .pointer a1)] ?_
 obtain ⟨p3, rfl, hM⟩ := hM
 refine owp_rdG (.pointer (some p3)) rfl (by kernel_rfl) (by kernel_rfl) ?_
 refine oZ [(7, .pointer (some (p3.add 1)))] ?_
 obtain ⟨x4, hc5, hM⟩ := hM
 refine oL (.int .i64 x4) (p3.add 1) hc5 ?_
 refine oZ [(9, .int .i64 (IntKind.wrap .i64 (x4 - 1))), (4, .int .i64 (IntKind.wrap .i64 (x4 - 1)))] ?_
 refine oE (cwp_seq (cwp_seq ?_))
 refine cwp_draw (by kernel_rfl) ?_
 refine kq 0 (.pointer (some p3)) ?_
 refine kq 1 (.pointer (some p3)) ?_
 refine kq 2 (.pointer (some (p3.add 9))) ?_
 refine kq 3 (.pointer (some (p3.add 10))) ?_
 obtain ⟨x7, hc8, hM⟩ := hM
 refine kl 4 (.int .i64 x7) (p3.add 10) [9] [] hc8 ?_
 refine kq 5 (.pointer (some p3)) ?_
 refine kq 6 (.pointer (some p3)) ?_
 refine kq 7 (.pointer (some (p3.add 20))) ?_
 obtain ⟨x11, hc12, hM⟩ := hM
 refine kl 8 (.int .i64 x11) (p3.add 20) [9] [] hc12 ?_
 refine kq 9 (.bool (decide (x7 ≤ x11))) ?_
 refine k_done (by kernel_rfl) ?_
 refine thenE_n ?_
 refine cwp_condD (x7 ≤ x11) (by kernel_rfl) (fun hc15 => ?_) (fun hc15 => ?_)
 · replace hM := ifT hc15 hM
   refine cwp_region ?_
   refine oZ [(20, .pointer (some p3)), (21, .pointer (some p3)), (22, .pointer (some (p3.add 20)))] ?_
   obtain ⟨x16, hc17, hM⟩ := hM
   refine oL (.int .i64 x16) (p3.add 20) hc17 ?_
   refine oZ [(4, .int .i64 x16)] ?_
   refine oE ?_
   refine cwp_of_part (fn := Tryz.f144) (p := [1, 1]) (by kernel_rfl) (cA 0 (.pointer (some p3)) (cA 1 (.int .i64 a2) (cA 4 (.int .i64 x16) (vt_Screen_rowsDown_j0_ok _ ?_ p3 a2 x16 _ _ hM))))
   · intro  b32 h31 hM
     exact end_ (.tuple #[]) (by kernel_rfl) ⟨rfl, hM⟩
 replace hM := ifF hc15 hM
 refine cwp_skip (thenE_n ?_)
 refine cwp_of_part (fn := Tryz.f144) (p := [1, 1]) (by kernel_rfl) (cA 0 (.pointer (some p3)) (cA 1 (.int .i64 a2) (cA 4 (.int .i64 (IntKind.wrap .i64 (x4 - 1))) (vt_Screen_rowsDown_j0_ok _ ?_ p3 a2 (IntKind.wrap .i64 (x4 - 1)) _ _ hM))))
 · intro  b35 h34 hM
   exact end_ (.tuple #[]) (by kernel_rfl) ⟨rfl, hM⟩
/- (*mullion/vt.Screen).back -/
def vt_Screen_back_l1 (K2 : Addr → Int → Int → Heap → Prop) : Nat → Addr → Int → Int → Heap → Prop
  | 0, _, _, _, _ => False
  | k + 1, y15, y16, y17, h =>
  if 0 < y17 then
   ldL h (y15.add 21) fun x22 x22n x22c =>
   nz x22 fun p27 =>
   0 ≤ y17 ∧
   y17 < (x22n : Int) ∧
   ldB h (p27.add ((y17).toNat * 1)) fun x28 =>
   if (!x28) = true then
    vt_Screen_back_l1 K2 k y15 y16 (IntKind.wrap .i64 (y17 - 1)) h
   else
   K2 y15 y16 y17 h
  else
  K2 y15 y16 y17 h
theorem vt_Screen_back_l1_ok {Q : Exit → Env → Heap → Prop} (K2 : Addr → Int → Int → Heap → Prop) (hK2 : ∀ (z38 : Addr) (z39 : Int) (z40 : Int) (b : Env) (h : Heap), K2 z38 z39 z40 h → Q (.exit 2) (upd (upd (upd b 0 (.pointer (some z38))) 1 (.int .i64 z39)) 4 (.int .i64 z40)) h) : ∀ (k : Nat) (y15 : Addr) (y16 : Int) (y17 : Int) (b : Env) (h : Heap) (hM : vt_Screen_back_l1 K2 k y15 y16 y17 h), lwp Tryz.prog (partC Tryz.f145 [1, 0, 0, 0, 1, 0, 0, 1, 0, 0]) 42 Q k (upd (upd (upd b 0 (.pointer (some y15))) 1 (.int .i64 y16)) 4 (.int .i64 y17)) h := by
  intro k
  induction k with
  | zero => intro y15 y16 y17 b h hM; exact (show False from hM).elim
  | succ k ih =>
    intro y15 y16 y17 b h hM
    unfold vt_Screen_back_l1 at hM
    refine lwp_succ (cwp_part rfl ?_)
    refine cwp_seq (cR ?_)
    refine oZ [(20, .int .i64 y17), (21, .bool (decide (0 < y17))), (22, .bool (decide (0 < y17)))] ?_
    by_cases hc21 : 0 < y17
    · refine oA 21 true (decide (0 < y17)) (by rw [decide_eq_true hc21]) ?_
      refine oA 22 true (decide (0 < y17)) (by rw [decide_eq_true hc21]) ?_
      replace hM := ifT hc21 hM
      refine oZ [(23, .pointer (some y15)), (24, .pointer (some y15)), (25, .pointer (some (y15.add 21)))] ?_
      obtain ⟨x22, x22n, x22c, hc23, hM⟩ := hM
      refine oL (.slice x22 x22n x22c) (y15.add 21) hc23 ?_
      refine oZ [(27, .int .i64 y17)] ?_
      obtain ⟨p27, rfl, hM⟩ := hM
      obtain ⟨hc25, hM⟩ := hM
      obtain ⟨hc26, hM⟩ := hM
      refine owp_rdG (.pointer (some (p27.add ((y17).toNat * 1)))) rfl (by kernel_rfl) (rd_ixS (P := Tryz.prog) (h := h) (t := 75) (el := 4) (sz := 1) (ad := p27) (len := x22n) (c := x22c) (k := .i64) (i := y17) (by kernel_rfl) (by kernel_rfl) hc25 hc26 (by kernel_rfl)) ?_
      obtain ⟨x28, hc29, hM⟩ := hM
      refine oL (.bool x28) (p27.add ((y17).toNat * 1)) hc29 ?_
      refine oZ [(30, .bool (!x28)), (31, .bool (!x28))] ?_
      refine oE ?_
      refine cwp_condB (!x28) (by kernel_rfl) (fun hc31 => ?_) (fun hc31 => ?_)
      · replace hM := ifT hc31 hM
        refine cwp_skip (thenE_n (cwp_seq (cwp_block (cwp_skip (blockE_n (thenE_n (cwp_region ?_)))))))
        refine oZ [(32, .int .i64 y17), (33, .int .i64 (IntKind.wrap .i64 (y17 - 1))), (4, .int .i64 (IntKind.wrap .i64 (y17 - 1)))] ?_
        refine owp_nil ?_
        exact lA 0 (.pointer (some y15)) (lA 1 (.int .i64 y16) (lA 4 (.int .i64 (IntKind.wrap .i64 (y17 - 1))) (ih y15 y16 (IntKind.wrap .i64 (y17 - 1)) _ _ hM)))
      replace hM := ifF hc31 hM
      refine cwp_exit (thenE_x ?_)
      exact q_at (Q := Q (.exit 2)) 0 (.pointer (some y15)) (by kernel_rfl) (q_at (Q := Q (.exit 2)) 1 (.int .i64 y16) (by kernel_rfl) (q_at (Q := Q (.exit 2)) 4 (.int .i64 y17) (by kernel_rfl) (hK2 y15 y16 y17 _ _ hM)))
    refine oA 21 false (decide (0 < y17)) (by rw [decide_eq_false hc21]) ?_
    refine oA 22 false (decide (0 < y17)) (by rw [decide_eq_false hc21]) ?_
    replace hM := ifF hc21 hM
    refine oZ [(23, undef), (24, undef), (25, undef), (26, undef), (27, undef), (28, undef), (29, undef), (30, undef), (31, .bool false)] ?_
    refine oE ?_
    refine cwp_cond (t := false) (by kernel_rfl) (fun hx_ => ?_) (fun hx_ => ?_)
    all_goals first | (cases hx_; done) | skip
    refine cwp_exit (thenE_x ?_)
    exact q_at (Q := Q (.exit 2)) 0 (.pointer (some y15)) (by kernel_rfl) (q_at (Q := Q (.exit 2)) 1 (.int .i64 y16) (by kernel_rfl) (q_at (Q := Q (.exit 2)) 4 (.int .i64 y17) (by kernel_rfl) (hK2 y15 y16 y17 _ _ hM)))
def vt_Screen_back_l0 (K0 : Addr → Int → Heap → Prop) : Nat → Addr → Int → Int → Heap → Prop
  | 0, _, _, _, _ => False
  | k + 1, y7, y8, y9, h =>
  if ((decide (0 < y8)) && (decide (0 < y9))) = true then
   ∃ k46, vt_Screen_back_l1
    (fun z41 z42 z43 h44 =>
        vt_Screen_back_l0 K0 k z41 (IntKind.wrap .i64 (z42 - 1)) z43 h44) k46 y7 y8 (IntKind.wrap .i64 (y9 - 1)) h
  else
  K0 y7 y9 h
theorem vt_Screen_back_l0_ok {Q : Exit → Env → Heap → Prop} (K0 : Addr → Int → Heap → Prop) (hK0 : ∀ (z51 : Addr) (z52 : Int) (b : Env) (h : Heap), K0 z51 z52 h → Q (.exit 0) (upd (upd b 0 (.pointer (some z51))) 4 (.int .i64 z52)) h) : ∀ (k : Nat) (y7 : Addr) (y8 : Int) (y9 : Int) (b : Env) (h : Heap) (hM : vt_Screen_back_l0 K0 k y7 y8 y9 h), lwp Tryz.prog (partC Tryz.f145 [1, 0, 0, 0]) 42 Q k (upd (upd (upd b 0 (.pointer (some y7))) 1 (.int .i64 y8)) 4 (.int .i64 y9)) h := by
  intro k
  induction k with
  | zero => intro y7 y8 y9 b h hM; exact (show False from hM).elim
  | succ k ih =>
    intro y7 y8 y9 b h hM
    unfold vt_Screen_back_l0 at hM
    refine lwp_succ (cwp_part rfl ?_)
    refine cwp_seq (cR ?_)
    refine oZ [(10, .int .i64 y8), (11, .bool (decide (0 < y8))), (12, .bool (decide (0 < y8)))] ?_
    refine oB (decide (0 < y8)) 3 [11, 12] (fun b_ => [(13, iteV b_ (.int .i64 y9 : Value) undef), (14, iteV b_ (.bool (decide (0 < y9)) : Value) undef), (15, .bool (b_ && (decide (0 < y9))))]) rfl (fun hb10 hq11 => oS [(13, .int .i64 y9), (14, .bool (decide (0 < y9))), (15, .bool (decide (0 < y9)))] rfl (hq11)) (fun hb12 hq13 => oS [(13, undef), (14, undef), (15, .bool false)] rfl (hq13)) ?_
    refine oE ?_
    refine cwp_condB ((decide (0 < y8)) && (decide (0 < y9))) (by kernel_rfl) (fun hc14 => ?_) (fun hc14 => ?_)
    · replace hM := ifT hc14 hM
      refine cwp_skip (thenE_n (cwp_seq (cwp_block (cR ?_))))
      refine oZ [(18, .int .i64 y9), (19, .int .i64 (IntKind.wrap .i64 (y9 - 1))), (4, .int .i64 (IntKind.wrap .i64 (y9 - 1)))] ?_
      refine oE (cwp_block ?_)
      obtain ⟨k_, hM⟩ := hM
      refine cwp_loop k_ (lwp_of_part (fn := Tryz.f145) (p := [1, 0, 0, 0, 1, 0, 0, 1, 0, 0]) (by kernel_rfl) (lA 0 (.pointer (some y7)) (lA 1 (.int .i64 y8) (lA 4 (.int .i64 (IntKind.wrap .i64 (y9 - 1))) (vt_Screen_back_l1_ok _ ?_ k_ y7 y8 (IntKind.wrap .i64 (y9 - 1)) _ _ hM)))))
      · intro z41 z42 z43 b45 h44 hM
        refine blockE_h (blockE_n (thenE_n (cwp_region ?_)))
        refine oZ [(16, .int .i64 z42), (17, .int .i64 (IntKind.wrap .i64 (z42 - 1))), (1, .int .i64 (IntKind.wrap .i64 (z42 - 1)))] ?_
        refine owp_nil ?_
        exact lA 0 (.pointer (some z41)) (lA 1 (.int .i64 (IntKind.wrap .i64 (z42 - 1))) (lA 4 (.int .i64 z43) (ih z41 (IntKind.wrap .i64 (z42 - 1)) z43 _ _ hM)))
    replace hM := ifF hc14 hM
    refine cwp_exit (thenE_x ?_)
    exact q_at (Q := Q (.exit 0)) 0 (.pointer (some y7)) (by kernel_rfl) (q_at (Q := Q (.exit 0)) 4 (.int .i64 y9) (by kernel_rfl) (hK0 y7 y9 _ _ hM))
def vt_Screen_back (a1 : Option Addr) (a2 : Int) (K : Heap → Prop) (h : Heap) : Prop :=
 nz a1 fun p3 =>
 ldI h .i64 (p3.add 9) fun x4 =>
 ∃ k61, vt_Screen_back_l0
  (fun z53 z54 h55 =>
    ldI h55 .i64 (z53.add 10) fun x56 =>
    vt_Screen_to (some z53) z54 x56 (fun  h59 =>
        K h59) h55) k61 p3 a2 x4 h
theorem vt_Screen_back_ok (a1 : Option Addr) (a2 : Int) (K : Heap → Prop) (h : Heap) (hM : vt_Screen_back a1 a2 K h) : CallsH Tryz.prog 145 #[.pointer a1, .int .i64 a2] (fun v h' => v = .tuple #[] ∧ K h') h := by
 unfold vt_Screen_back at hM
 refine callsH_intro (n := 42) Tryz.func145 rfl rfl (by kernel_rfl) ?_
 refine cR ?_
 refine oZ [(5, .pointer a1)] ?_
 obtain ⟨p3, rfl, hM⟩ := hM
 refine owp_rdG (.pointer (some p3)) rfl (by kernel_rfl) (by kernel_rfl) ?_
 refine oZ [(7, .pointer (some (p3.add 9))), (8, .pointer (some (p3.add 9)))] ?_
 obtain ⟨x4, hc5, hM⟩ := hM
 refine oL (.int .i64 x4) (p3.add 9) hc5 ?_
 refine oZ [(4, .int .i64 x4)] ?_
 refine oE (cwp_seq (cwp_block ?_))
 obtain ⟨k_, hM⟩ := hM
 refine cwp_loop k_ (lwp_of_part (fn := Tryz.f145) (p := [1, 0, 0, 0]) (by kernel_rfl) (lA 0 (.pointer (some p3)) (lA 1 (.int .i64 a2) (lA 4 (.int .i64 x4) (vt_Screen_back_l0_ok _ ?_ k_ p3 a2 x4 _ _ hM)))))
 · intro z53 z54 b60 h55 hM
   refine blockE_h (thenE_n (cwp_region ?_))
   refine oZ [(34, .pointer (some z53)), (35, .int .i64 z54), (36, .pointer (some z53)), (37, .pointer (some z53)), (38, .pointer (some (z53.add 9))), (39, .pointer (some (z53.add 10)))] ?_
   obtain ⟨x56, hc57, hM⟩ := hM
   refine oL (.int .i64 x56) (z53.add 10) hc57 ?_
   refine oG (hpCallE 111 #[.pointer (some z53), .int .i64 z54, .int .i64 x56] (by kernel_rfl) (vt_Screen_to_ok (some z53) z54 x56 _ h55 hM) ?_)
   clear hM
   rintro _ h59 ⟨rfl, hM⟩
   refine owp_nil ?_
   exact end_ (.tuple #[]) (by kernel_rfl) ⟨rfl, hM⟩
/- (mullion/vt.row).erase -/
def vt_row_erase_l0 (K0 : Heap → Prop) : Nat → Option Addr → Nat → Nat → Int → Nat → Int → Heap → Prop
  | 0, _, _, _, _, _, _, _ => False
  | k + 1, y14, y14n, y14c, y15, y16, y17, h =>
  if y17 < y15 then
   ldS h ⟨y16, 0, none⟩ fun x19 =>
   ldI h .i64 ⟨y16, 1, none⟩ fun x21 =>
   ldI h .i64 ⟨y16, 2, none⟩ fun x23 =>
   ldI h .i64 ⟨y16, 3, none⟩ fun x25 =>
   ldI h .i64 ⟨y16, 4, none⟩ fun x27 =>
   nz y14 fun p36 =>
   0 ≤ y17 ∧
   y17 < (y14n : Int) ∧
   stN (p36.add ((y17).toNat * 5)) [.string x19, .int .i64 x21, .int .i64 x23, .int .i64 x25, .int .i64 x27] 0 h fun h37 =>
   vt_row_erase_l0 K0 k (some p36) y14n y14c y15 y16 (IntKind.wrap .i64 (y17 + 1)) h37
  else
  K0  h
theorem vt_row_erase_l0_ok {Q : Exit → Env → Heap → Prop} (K0 : Heap → Prop) (hK0 : ∀  (b : Env) (h : Heap), K0  h → Q (.exit 0) b h) : ∀ (k : Nat) (y14 : Option Addr) (y14n : Nat) (y14c : Nat) (y15 : Int) (y16 : Nat) (y17 : Int) (b : Env) (h : Heap) (hM : vt_row_erase_l0 K0 k y14 y14n y14c y15 y16 y17 h), lwp Tryz.prog (partC Tryz.f158 [1, 1, 1, 1, 0, 0]) 25 Q k (upd (upd (upd (upd b 0 (.slice y14 y14n y14c)) 2 (.int .i64 y15)) 7 (.pointer (some ⟨y16, 0, none⟩))) 8 (.int .i64 y17)) h := by
  intro k
  induction k with
  | zero => intro y14 y14n y14c y15 y16 y17 b h hM; exact (show False from hM).elim
  | succ k ih =>
    intro y14 y14n y14c y15 y16 y17 b h hM
    unfold vt_row_erase_l0 at hM
    refine lwp_succ (cwp_part rfl ?_)
    refine cwp_seq (cR ?_)
    refine oZ [(16, .int .i64 y17), (17, .int .i64 y15), (18, .bool (decide (y17 < y15)))] ?_
    refine oE ?_
    refine cwp_condD (y17 < y15) (by kernel_rfl) (fun hc18 => ?_) (fun hc18 => ?_)
    · replace hM := ifT hc18 hM
      refine cwp_skip (thenE_n (cwp_seq (cwp_block (cwp_region ?_))))
      refine oZ [(21, .slice y14 y14n y14c), (22, .int .i64 y17)] ?_
      obtain ⟨x19, hc20, hM⟩ := hM
      obtain ⟨x21, hc22, hM⟩ := hM
      obtain ⟨x23, hc24, hM⟩ := hM
      obtain ⟨x25, hc26, hM⟩ := hM
      obtain ⟨x27, hc28, hM⟩ := hM
      refine owp_rdG (.agg #[.string x19, .int .i64 x21, .int .i64 x23, .int .i64 x25, .int .i64 x27]) rfl (by kernel_rfl) (Eq.trans (b := (cellH h ⟨y16, 0, none⟩).bind fun v29 => (cellH h ⟨y16, 1, none⟩).bind fun v30 => (cellH h ⟨y16, 2, none⟩).bind fun v31 => (cellH h ⟨y16, 3, none⟩).bind fun v32 => (cellH h ⟨y16, 4, none⟩).bind fun v33 => some (.value (.agg #[v29, v30, v31, v32, v33]))) (by kernel_rfl) ((bindE hc20 _).trans ((bindE hc22 _).trans ((bindE hc24 _).trans ((bindE hc26 _).trans (bindE hc28 _)))))) ?_
      obtain ⟨p36, rfl, hM⟩ := hM
      obtain ⟨hc34, hM⟩ := hM
      obtain ⟨hc35, hM⟩ := hM
      refine owp_rdG (.pointer (some (p36.add ((y17).toNat * 5)))) rfl (by kernel_rfl) (rd_ixS (P := Tryz.prog) (h := h) (t := 81) (el := 52) (sz := 5) (ad := p36) (len := y14n) (c := y14c) (k := .i64) (i := y17) (by kernel_rfl) (by kernel_rfl) hc34 hc35 (by kernel_rfl)) ?_
      refine oT (p36.add ((y17).toNat * 5)) [.string x19, .int .i64 x21, .int .i64 x23, .int .i64 x25, .int .i64 x27] hM ?_
      clear hM
      intro h37 hM
      refine owp_nil (blockE_n (thenE_n (cwp_region ?_)))
      refine oZ [(19, .int .i64 y17), (20, .int .i64 (IntKind.wrap .i64 (y17 + 1))), (8, .int .i64 (IntKind.wrap .i64 (y17 + 1)))] ?_
      refine owp_nil ?_
      exact lA 0 (.slice (some p36) y14n y14c) (lA 2 (.int .i64 y15) (lA 7 (.pointer (some ⟨y16, 0, none⟩)) (lA 8 (.int .i64 (IntKind.wrap .i64 (y17 + 1))) (ih (some p36) y14n y14c y15 y16 (IntKind.wrap .i64 (y17 + 1)) _ _ hM))))
    replace hM := ifF hc18 hM
    refine cwp_exit (thenE_x ?_)
    exact hK0  _ _ hM
def vt_row_erase (a1 : Option Addr) (a1n : Nat) (a1c : Nat) (a2 : Int) (a3 : Int) (a4 : ByteArray) (a5 : Int) (a6 : Int) (a7 : Int) (a8 : Int) (K : Heap → Prop) (h : Heap) : Prop :=
 newB h #[.string a4, .int .i64 a5, .int .i64 a6, .int .i64 a7, .int .i64 a8] 52 fun b9 h10 =>
 vt_row_cut a1 a1n a1c a2 (fun  h12 =>
  vt_row_cut a1 a1n a1c a3 (fun  h13 =>
   ∃ k40, vt_row_erase_l0
    (fun  h38 =>
          K h38) k40 a1 a1n a1c a3 b9 a2 h13) h12) h10
theorem vt_row_erase_ok (a1 : Option Addr) (a1n : Nat) (a1c : Nat) (a2 : Int) (a3 : Int) (a4 : ByteArray) (a5 : Int) (a6 : Int) (a7 : Int) (a8 : Int) (K : Heap → Prop) (h : Heap) (hM : vt_row_erase a1 a1n a1c a2 a3 a4 a5 a6 a7 a8 K h) : CallsH Tryz.prog 158 #[.slice a1 a1n a1c, .int .i64 a2, .int .i64 a3, .agg #[.string a4, .int .i64 a5, .int .i64 a6, .int .i64 a7, .int .i64 a8]] (fun v h' => v = .tuple #[] ∧ K h') h := by
 unfold vt_row_erase at hM
 refine callsH_intro (n := 25) Tryz.func158 rfl rfl (by kernel_rfl) ?_
 refine cR ?_
 refine oG (hpNew #[.string a4, .int .i64 a5, .int .i64 a6, .int .i64 a7, .int .i64 a8] 52 (fun _ => by kernel_rfl) ?_)
 intro b9 h10 hN11
 replace hM := newB_of hN11 hM
 refine oE (cR ?_)
 refine oZ [(9, .slice a1 a1n a1c), (10, .int .i64 a2)] ?_
 refine oG (hpCallE 56 #[.slice a1 a1n a1c, .int .i64 a2] (by kernel_rfl) (vt_row_cut_ok a1 a1n a1c a2 _ h10 hM) ?_)
 clear hM
 rintro _ h12 ⟨rfl, hM⟩
 refine oE (cR ?_)
 refine oZ [(12, .slice a1 a1n a1c), (13, .int .i64 a3)] ?_
 refine oG (hpCallE 56 #[.slice a1 a1n a1c, .int .i64 a3] (by kernel_rfl) (vt_row_cut_ok a1 a1n a1c a3 _ h12 hM) ?_)
 clear hM
 rintro _ h13 ⟨rfl, hM⟩
 refine oE (cR ?_)
 refine oZ [(15, .int .i64 a2), (8, .int .i64 a2)] ?_
 refine oE (cwp_block ?_)
 obtain ⟨k_, hM⟩ := hM
 refine cwp_loop k_ (lwp_of_part (fn := Tryz.f158) (p := [1, 1, 1, 1, 0, 0]) (by kernel_rfl) (lA 0 (.slice a1 a1n a1c) (lA 2 (.int .i64 a3) (lA 7 (.pointer (some ⟨b9, 0, none⟩)) (lA 8 (.int .i64 a2) (vt_row_erase_l0_ok _ ?_ k_ a1 a1n a1c a3 b9 a2 _ _ hM))))))
 · intro  b39 h38 hM
   refine blockE_h ?_
   exact end_ (.tuple #[]) (by kernel_rfl) ⟨rfl, hM⟩
/- (*mullion/vt.Screen).clears -/
def vt_Screen_clears_j0 (Kn : Addr → Int → Int → Option Addr → Nat → Nat → Nat → Heap → Prop) (y40 : Addr) (y41 : Int) (y42 : Int) (y43 : Option Addr) (y43n : Nat) (y43c : Nat) (y44 : Nat) (y45 : Int) (h : Heap) : Prop :=
 ldI h .i64 (y40.add 10) fun x46 =>
 nz y43 fun p52 =>
 0 ≤ x46 ∧
 x46 < (y43n : Int) ∧
 ldL h (p52.add ((x46).toNat * 1)) fun x53 x53n x53c =>
 ldI h .i64 y40 fun x57 =>
 ldS h ⟨y44, 0, none⟩ fun x61 =>
 ldI h .i64 ⟨y44, 1, none⟩ fun x63 =>
 ldI h .i64 ⟨y44, 2, none⟩ fun x65 =>
 ldI h .i64 ⟨y44, 3, none⟩ fun x67 =>
 ldI h .i64 ⟨y44, 4, none⟩ fun x69 =>
 vt_row_erase x53 x53n x53c y45 x57 x61 x63 x65 x67 x69 (fun  h81 =>
   Kn y40 y41 y42 (some p52) y43n y43c y44 h81) h
theorem vt_Screen_clears_j0_ok {Q : Exit → Env → Heap → Prop} (Kn : Addr → Int → Int → Option Addr → Nat → Nat → Nat → Heap → Prop) (hKn : ∀ (z92 : Addr) (z93 : Int) (z94 : Int) (z95 : Option Addr) (z95n : Nat) (z95c : Nat) (z96 : Nat) (b : Env) (h : Heap), Kn z92 z93 z94 z95 z95n z95c z96 h → Q .normal (upd (upd (upd (upd (upd b 0 (.pointer (some z92))) 1 (.int .u8 z93)) 2 (.int .i64 z94)) 6 (.slice z95 z95n z95c)) 7 (.pointer (some ⟨z96, 0, none⟩))) h) (y40 : Addr) (y41 : Int) (y42 : Int) (y43 : Option Addr) (y43n : Nat) (y43c : Nat) (y44 : Nat) (y45 : Int) (b : Env) (h : Heap) (hM : vt_Screen_clears_j0 Kn y40 y41 y42 y43 y43n y43c y44 y45 h) : cwp Tryz.prog (partC Tryz.f146 [1, 1, 1, 1, 1, 0, 1, 0, 1, 1]) 124 Q (upd (upd (upd (upd (upd (upd b 0 (.pointer (some y40))) 1 (.int .u8 y41)) 2 (.int .i64 y42)) 6 (.slice y43 y43n y43c)) 7 (.pointer (some ⟨y44, 0, none⟩))) 8 (.int .i64 y45)) h := by
  unfold vt_Screen_clears_j0 at hM
  refine cwp_part rfl ?_
  refine cwp_draw (by kernel_rfl) ?_
  refine kq 0 (.slice y43 y43n y43c) ?_
  refine kq 1 (.pointer (some y40)) ?_
  refine kq 2 (.pointer (some y40)) ?_
  refine kq 3 (.pointer (some (y40.add 9))) ?_
  refine kq 4 (.pointer (some (y40.add 10))) ?_
  obtain ⟨x46, hc47, hM⟩ := hM
  refine kl 5 (.int .i64 x46) (y40.add 10) [6, 7, 14] [14] hc47 ?_
  obtain ⟨p52, rfl, hM⟩ := hM
  obtain ⟨hc50, hM⟩ := hM
  obtain ⟨hc51, hM⟩ := hM
  refine k_pure (i := 6) [7, 14] (.pointer (some (p52.add ((x46).toNat * 1)))) (by kernel_rfl) rfl rfl (by kernel_rfl) (fun h' => rd_ixS (P := Tryz.prog) (h := h') (t := 68) (el := 81) (sz := 1) (ad := p52) (len := y43n) (c := y43c) (k := .i64) (i := x46) (by kernel_rfl) (by kernel_rfl) hc50 hc51 (by kernel_rfl)) (by kernel_rfl) ?_
  obtain ⟨x53, x53n, x53c, hc54, hM⟩ := hM
  refine kl 7 (.slice x53 x53n x53c) (p52.add ((x46).toNat * 1)) [14] [14] hc54 ?_
  refine kq 8 (.int .i64 y45) ?_
  refine kq 9 (.pointer (some y40)) ?_
  refine kq 10 (.pointer (some y40)) ?_
  refine kq 11 (.pointer (some y40)) ?_
  obtain ⟨x57, hc58, hM⟩ := hM
  refine kl 12 (.int .i64 x57) y40 [14] [14] hc58 ?_
  obtain ⟨x61, hc62, hM⟩ := hM
  obtain ⟨x63, hc64, hM⟩ := hM
  obtain ⟨x65, hc66, hM⟩ := hM
  obtain ⟨x67, hc68, hM⟩ := hM
  obtain ⟨x69, hc70, hM⟩ := hM
  refine k_load (i := 13) (.agg #[.string x61, .int .i64 x63, .int .i64 x65, .int .i64 x67, .int .i64 x69]) (fun h' => cellH h' ⟨y44, 0, none⟩ = some (.string x61) ∧ cellH h' ⟨y44, 1, none⟩ = some (.int .i64 x63) ∧ cellH h' ⟨y44, 2, none⟩ = some (.int .i64 x65) ∧ cellH h' ⟨y44, 3, none⟩ = some (.int .i64 x67) ∧ cellH h' ⟨y44, 4, none⟩ = some (.int .i64 x69) ∧ True) [14] [14] (by kernel_rfl) (by kernel_rfl) rfl rfl (by kernel_rfl) (fun h' hS => Eq.trans (b := (cellH h' ⟨y44, 0, none⟩).bind fun v76 => (cellH h' ⟨y44, 1, none⟩).bind fun v77 => (cellH h' ⟨y44, 2, none⟩).bind fun v78 => (cellH h' ⟨y44, 3, none⟩).bind fun v79 => (cellH h' ⟨y44, 4, none⟩).bind fun v80 => some (.value (.agg #[v76, v77, v78, v79, v80]))) (by kernel_rfl) ((bindE hS.1 _).trans ((bindE hS.2.1 _).trans ((bindE hS.2.2.1 _).trans ((bindE hS.2.2.2.1 _).trans (bindE hS.2.2.2.2.1 _)))))) ⟨hc62, hc64, hc66, hc68, hc70, trivial⟩ (by kernel_rfl) ?_
  refine kE 14 (hpCallE 158 #[.slice x53 x53n x53c, .int .i64 y45, .int .i64 x57, .agg #[.string x61, .int .i64 x63, .int .i64 x65, .int .i64 x67, .int .i64 x69]] (by kernel_rfl) (vt_row_erase_ok x53 x53n x53c y45 x57 x61 x63 x65 x67 x69 _ h hM) ?_)
  clear hM
  rintro _ h81 ⟨rfl, hM⟩
  refine ⟨trivial, ?_⟩
  refine k_done (by kernel_rfl) ?_
  exact q_at (Q := Q .normal) 0 (.pointer (some y40)) (by kernel_rfl) (q_at (Q := Q .normal) 1 (.int .u8 y41) (by kernel_rfl) (q_at (Q := Q .normal) 2 (.int .i64 y42) (by kernel_rfl) (q_at (Q := Q .normal) 6 (.slice (some p52) y43n y43c) (by kernel_rfl) (q_at (Q := Q .normal) 7 (.pointer (some ⟨y44, 0, none⟩)) (by kernel_rfl) (hKn y40 y41 y42 (some p52) y43n y43c y44 _ _ hM)))))
def vt_Screen_clears_l3 (K0 : Heap → Prop) : Nat → Addr → Int → Nat → Option Addr → Nat → Nat → Int → Int → Heap → Prop
  | 0, _, _, _, _, _, _, _, _, _ => False
  | k + 1, y151, y152, y153, y154, y154n, y154c, y155, y156, h =>
  if y156 < y155 then
   nz y154 fun p160 =>
   0 ≤ y156 ∧
   y156 < (y154n : Int) ∧
   ldL h (p160.add ((y156).toNat * 1)) fun x161 x161n x161c =>
   ldI h .i64 (y151.add 10) fun x164 =>
   if ((decide (y156 < x164)) && (decide (0 < y152))) = true then
    ldI h .i64 y151 fun x175 =>
    ldS h ⟨y153, 0, none⟩ fun x179 =>
    ldI h .i64 ⟨y153, 1, none⟩ fun x181 =>
    ldI h .i64 ⟨y153, 2, none⟩ fun x183 =>
    ldI h .i64 ⟨y153, 3, none⟩ fun x185 =>
    ldI h .i64 ⟨y153, 4, none⟩ fun x187 =>
    vt_row_erase x161 x161n x161c 0 x175 x179 x181 x183 x185 x187 (fun  h199 =>
      vt_Screen_clears_l3 K0 k y151 y152 y153 (some p160) y154n y154c y155 (IntKind.wrap .i64 (y156 + 1)) h199) h
   else
   ldI h .i64 (y151.add 10) fun x200 =>
   if ((decide (x200 < y156)) && (!decide (y152 = 1))) = true then
    ldI h .i64 y151 fun x208 =>
    ldS h ⟨y153, 0, none⟩ fun x212 =>
    ldI h .i64 ⟨y153, 1, none⟩ fun x214 =>
    ldI h .i64 ⟨y153, 2, none⟩ fun x216 =>
    ldI h .i64 ⟨y153, 3, none⟩ fun x218 =>
    ldI h .i64 ⟨y153, 4, none⟩ fun x220 =>
    vt_row_erase x161 x161n x161c 0 x208 x212 x214 x216 x218 x220 (fun  h232 =>
      vt_Screen_clears_l3 K0 k y151 y152 y153 (some p160) y154n y154c y155 (IntKind.wrap .i64 (y156 + 1)) h232) h
   else
   vt_Screen_clears_l3 K0 k y151 y152 y153 (some p160) y154n y154c y155 (IntKind.wrap .i64 (y156 + 1)) h
  else
  K0  h
theorem vt_Screen_clears_l3_ok {Q : Exit → Env → Heap → Prop} (K0 : Heap → Prop) (hK0 : ∀  (b : Env) (h : Heap), K0  h → Q (.exit 0) b h) : ∀ (k : Nat) (y151 : Addr) (y152 : Int) (y153 : Nat) (y154 : Option Addr) (y154n : Nat) (y154c : Nat) (y155 : Int) (y156 : Int) (b : Env) (h : Heap) (hM : vt_Screen_clears_l3 K0 k y151 y152 y153 y154 y154n y154c y155 y156 h), lwp Tryz.prog (partC Tryz.f146 [1, 1, 1, 1, 1, 1, 1, 1, 1, 0, 0]) 124 Q k (upd (upd (upd (upd (upd (upd b 0 (.pointer (some y151))) 2 (.int .i64 y152)) 7 (.pointer (some ⟨y153, 0, none⟩))) 85 (.slice y154 y154n y154c)) 86 (.int .i64 y155)) 87 (.int .i64 y156)) h := by
  intro k
  induction k with
  | zero => intro y151 y152 y153 y154 y154n y154c y155 y156 b h hM; exact (show False from hM).elim
  | succ k ih =>
    intro y151 y152 y153 y154 y154n y154c y155 y156 b h hM
    unfold vt_Screen_clears_l3 at hM
    refine lwp_succ (cwp_part rfl ?_)
    refine cR ?_
    refine oZ [(88, .bool (decide (y156 < y155)))] ?_
    refine oE (cwp_seq ?_)
    refine cwp_condD (y156 < y155) (by kernel_rfl) (fun hc157 => ?_) (fun hc157 => ?_)
    · replace hM := ifT hc157 hM
      refine cwp_skip (thenE_n (cwp_seq (cwp_block (cR ?_))))
      refine oZ [(89, .int .i64 y156)] ?_
      obtain ⟨p160, rfl, hM⟩ := hM
      obtain ⟨hc158, hM⟩ := hM
      obtain ⟨hc159, hM⟩ := hM
      refine owp_rdG (.pointer (some (p160.add ((y156).toNat * 1)))) rfl (by kernel_rfl) (rd_ixS (P := Tryz.prog) (h := h) (t := 68) (el := 81) (sz := 1) (ad := p160) (len := y154n) (c := y154c) (k := .i64) (i := y156) (by kernel_rfl) (by kernel_rfl) hc158 hc159 (by kernel_rfl)) ?_
      obtain ⟨x161, x161n, x161c, hc162, hM⟩ := hM
      refine oL (.slice x161 x161n x161c) (p160.add ((y156).toNat * 1)) hc162 ?_
      refine oZ [(9, .int .i64 y156), (10, .slice x161 x161n x161c)] ?_
      refine oE (cR ?_)
      refine oZ [(92, .int .i64 y156), (93, .pointer (some y151)), (94, .pointer (some y151)), (95, .pointer (some (y151.add 9))), (96, .pointer (some (y151.add 10)))] ?_
      obtain ⟨x164, hc165, hM⟩ := hM
      refine oL (.int .i64 x164) (y151.add 10) hc165 ?_
      refine oZ [(98, .bool (decide (y156 < x164))), (99, .bool (decide (y156 < x164)))] ?_
      refine oB (decide (y156 < x164)) 3 [98, 99] (fun b_ => [(100, iteV b_ (.int .i64 y152 : Value) undef), (101, iteV b_ (.bool (decide (0 < y152)) : Value) undef), (102, .bool (b_ && (decide (0 < y152))))]) rfl (fun hb167 hq168 => oS [(100, .int .i64 y152), (101, .bool (decide (0 < y152))), (102, .bool (decide (0 < y152)))] rfl (hq168)) (fun hb169 hq170 => oS [(100, undef), (101, undef), (102, .bool false)] rfl (hq170)) ?_
      refine oZ [(103, .bool ((decide (y156 < x164)) && (decide (0 < y152))))] ?_
      by_cases hc174 : ((decide (y156 < x164)) && (decide (0 < y152))) = true
      · refine oA 102 true ((decide (y156 < x164)) && (decide (0 < y152))) (by rw [hc174]) ?_
        refine oA 103 true ((decide (y156 < x164)) && (decide (0 < y152))) (by rw [hc174]) ?_
        replace hM := ifT hc174 hM
        refine oZ [(104, undef), (105, undef), (106, undef), (107, undef), (108, undef), (109, undef), (110, undef), (111, undef), (112, undef), (113, undef), (114, undef), (115, .bool true)] ?_
        refine oE ?_
        refine cwp_cond (t := true) (by kernel_rfl) (fun hx_ => ?_) (fun hx_ => ?_)
        all_goals first | (cases hx_; done) | skip
        refine cwp_draw (by kernel_rfl) ?_
        refine kq 0 (.slice x161 x161n x161c) ?_
        refine kq 1 (.pointer (some y151)) ?_
        refine kq 2 (.pointer (some y151)) ?_
        refine kq 3 (.pointer (some y151)) ?_
        obtain ⟨x175, hc176, hM⟩ := hM
        refine kl 4 (.int .i64 x175) y151 [6] [6] hc176 ?_
        obtain ⟨x179, hc180, hM⟩ := hM
        obtain ⟨x181, hc182, hM⟩ := hM
        obtain ⟨x183, hc184, hM⟩ := hM
        obtain ⟨x185, hc186, hM⟩ := hM
        obtain ⟨x187, hc188, hM⟩ := hM
        refine k_load (i := 5) (.agg #[.string x179, .int .i64 x181, .int .i64 x183, .int .i64 x185, .int .i64 x187]) (fun h' => cellH h' ⟨y153, 0, none⟩ = some (.string x179) ∧ cellH h' ⟨y153, 1, none⟩ = some (.int .i64 x181) ∧ cellH h' ⟨y153, 2, none⟩ = some (.int .i64 x183) ∧ cellH h' ⟨y153, 3, none⟩ = some (.int .i64 x185) ∧ cellH h' ⟨y153, 4, none⟩ = some (.int .i64 x187) ∧ True) [6] [6] (by kernel_rfl) (by kernel_rfl) rfl rfl (by kernel_rfl) (fun h' hS => Eq.trans (b := (cellH h' ⟨y153, 0, none⟩).bind fun v194 => (cellH h' ⟨y153, 1, none⟩).bind fun v195 => (cellH h' ⟨y153, 2, none⟩).bind fun v196 => (cellH h' ⟨y153, 3, none⟩).bind fun v197 => (cellH h' ⟨y153, 4, none⟩).bind fun v198 => some (.value (.agg #[v194, v195, v196, v197, v198]))) (by kernel_rfl) ((bindE hS.1 _).trans ((bindE hS.2.1 _).trans ((bindE hS.2.2.1 _).trans ((bindE hS.2.2.2.1 _).trans (bindE hS.2.2.2.2.1 _)))))) ⟨hc180, hc182, hc184, hc186, hc188, trivial⟩ (by kernel_rfl) ?_
        refine kE 6 (hpCallE 158 #[.slice x161 x161n x161c, .int .i64 0, .int .i64 x175, .agg #[.string x179, .int .i64 x181, .int .i64 x183, .int .i64 x185, .int .i64 x187]] (by kernel_rfl) (vt_row_erase_ok x161 x161n x161c 0 x175 x179 x181 x183 x185 x187 _ h hM) ?_)
        clear hM
        rintro _ h199 ⟨rfl, hM⟩
        refine ⟨trivial, ?_⟩
        refine k_done (by kernel_rfl) ?_
        refine blockE_n (thenE_n (cwp_region ?_))
        refine oZ [(123, .int .i64 (IntKind.wrap .i64 (y156 + 1))), (87, .int .i64 (IntKind.wrap .i64 (y156 + 1)))] ?_
        refine owp_nil ?_
        exact lA 0 (.pointer (some y151)) (lA 2 (.int .i64 y152) (lA 7 (.pointer (some ⟨y153, 0, none⟩)) (lA 85 (.slice (some p160) y154n y154c) (lA 86 (.int .i64 y155) (lA 87 (.int .i64 (IntKind.wrap .i64 (y156 + 1))) (ih y151 y152 y153 (some p160) y154n y154c y155 (IntKind.wrap .i64 (y156 + 1)) _ _ hM))))))
      refine oA 102 false ((decide (y156 < x164)) && (decide (0 < y152))) (by rw [Bool.eq_false_iff.2 hc174]) ?_
      refine oA 103 false ((decide (y156 < x164)) && (decide (0 < y152))) (by rw [Bool.eq_false_iff.2 hc174]) ?_
      replace hM := ifF hc174 hM
      refine oZ [(104, .int .i64 y156), (105, .pointer (some y151)), (106, .pointer (some y151)), (107, .pointer (some (y151.add 9))), (108, .pointer (some (y151.add 10)))] ?_
      obtain ⟨x200, hc201, hM⟩ := hM
      refine oL (.int .i64 x200) (y151.add 10) hc201 ?_
      refine oZ [(110, .bool (decide (x200 < y156))), (111, .bool (decide (x200 < y156)))] ?_
      refine oB (decide (x200 < y156)) 3 [110, 111] (fun b_ => [(112, iteV b_ (.int .i64 y152 : Value) undef), (113, iteV b_ (.bool (!decide (y152 = 1)) : Value) undef), (114, .bool (b_ && (!decide (y152 = 1))))]) rfl (fun hb203 hq204 => oS [(112, .int .i64 y152), (113, .bool (!decide (y152 = 1))), (114, .bool (!decide (y152 = 1)))] rfl (hq204)) (fun hb205 hq206 => oS [(112, undef), (113, undef), (114, .bool false)] rfl (hq206)) ?_
      refine oZ [(115, .bool ((decide (x200 < y156)) && (!decide (y152 = 1))))] ?_
      refine oE ?_
      refine cwp_condB ((decide (x200 < y156)) && (!decide (y152 = 1))) (by kernel_rfl) (fun hc207 => ?_) (fun hc207 => ?_)
      · replace hM := ifT hc207 hM
        refine cwp_draw (by kernel_rfl) ?_
        refine kq 0 (.slice x161 x161n x161c) ?_
        refine kq 1 (.pointer (some y151)) ?_
        refine kq 2 (.pointer (some y151)) ?_
        refine kq 3 (.pointer (some y151)) ?_
        obtain ⟨x208, hc209, hM⟩ := hM
        refine kl 4 (.int .i64 x208) y151 [6] [6] hc209 ?_
        obtain ⟨x212, hc213, hM⟩ := hM
        obtain ⟨x214, hc215, hM⟩ := hM
        obtain ⟨x216, hc217, hM⟩ := hM
        obtain ⟨x218, hc219, hM⟩ := hM
        obtain ⟨x220, hc221, hM⟩ := hM
        refine k_load (i := 5) (.agg #[.string x212, .int .i64 x214, .int .i64 x216, .int .i64 x218, .int .i64 x220]) (fun h' => cellH h' ⟨y153, 0, none⟩ = some (.string x212) ∧ cellH h' ⟨y153, 1, none⟩ = some (.int .i64 x214) ∧ cellH h' ⟨y153, 2, none⟩ = some (.int .i64 x216) ∧ cellH h' ⟨y153, 3, none⟩ = some (.int .i64 x218) ∧ cellH h' ⟨y153, 4, none⟩ = some (.int .i64 x220) ∧ True) [6] [6] (by kernel_rfl) (by kernel_rfl) rfl rfl (by kernel_rfl) (fun h' hS => Eq.trans (b := (cellH h' ⟨y153, 0, none⟩).bind fun v227 => (cellH h' ⟨y153, 1, none⟩).bind fun v228 => (cellH h' ⟨y153, 2, none⟩).bind fun v229 => (cellH h' ⟨y153, 3, none⟩).bind fun v230 => (cellH h' ⟨y153, 4, none⟩).bind fun v231 => some (.value (.agg #[v227, v228, v229, v230, v231]))) (by kernel_rfl) ((bindE hS.1 _).trans ((bindE hS.2.1 _).trans ((bindE hS.2.2.1 _).trans ((bindE hS.2.2.2.1 _).trans (bindE hS.2.2.2.2.1 _)))))) ⟨hc213, hc215, hc217, hc219, hc221, trivial⟩ (by kernel_rfl) ?_
        refine kE 6 (hpCallE 158 #[.slice x161 x161n x161c, .int .i64 0, .int .i64 x208, .agg #[.string x212, .int .i64 x214, .int .i64 x216, .int .i64 x218, .int .i64 x220]] (by kernel_rfl) (vt_row_erase_ok x161 x161n x161c 0 x208 x212 x214 x216 x218 x220 _ h hM) ?_)
        clear hM
        rintro _ h232 ⟨rfl, hM⟩
        refine ⟨trivial, ?_⟩
        refine k_done (by kernel_rfl) ?_
        refine blockE_n (thenE_n (cwp_region ?_))
        refine oZ [(123, .int .i64 (IntKind.wrap .i64 (y156 + 1))), (87, .int .i64 (IntKind.wrap .i64 (y156 + 1)))] ?_
        refine owp_nil ?_
        exact lA 0 (.pointer (some y151)) (lA 2 (.int .i64 y152) (lA 7 (.pointer (some ⟨y153, 0, none⟩)) (lA 85 (.slice (some p160) y154n y154c) (lA 86 (.int .i64 y155) (lA 87 (.int .i64 (IntKind.wrap .i64 (y156 + 1))) (ih y151 y152 y153 (some p160) y154n y154c y155 (IntKind.wrap .i64 (y156 + 1)) _ _ hM))))))
      replace hM := ifF hc207 hM
      refine cwp_skip (blockE_n (thenE_n (cwp_region ?_)))
      refine oZ [(123, .int .i64 (IntKind.wrap .i64 (y156 + 1))), (87, .int .i64 (IntKind.wrap .i64 (y156 + 1)))] ?_
      refine owp_nil ?_
      exact lA 0 (.pointer (some y151)) (lA 2 (.int .i64 y152) (lA 7 (.pointer (some ⟨y153, 0, none⟩)) (lA 85 (.slice (some p160) y154n y154c) (lA 86 (.int .i64 y155) (lA 87 (.int .i64 (IntKind.wrap .i64 (y156 + 1))) (ih y151 y152 y153 (some p160) y154n y154c y155 (IntKind.wrap .i64 (y156 + 1)) _ _ hM))))))
    replace hM := ifF hc157 hM
    refine cwp_exit (thenE_x ?_)
    exact hK0  _ _ hM
def vt_Screen_clears_j2 (Kn : Heap → Prop) (Kr : Heap → Prop) (y145 : Addr) (y146 : Int) (y147 : Int) (y148 : Option Addr) (y148n : Nat) (y148c : Nat) (y149 : Nat) (h : Heap) : Prop :=
 if y146 = 75 then
  Kr  h
 else
 ∃ k235, vt_Screen_clears_l3
  (fun  h233 =>
      Kn  h233) k235 y145 y147 y149 y148 y148n y148c (y148n : Int) 0 h
theorem vt_Screen_clears_j2_ok {Q : Exit → Env → Heap → Prop} (Kn : Heap → Prop) (hKn : ∀  (b : Env) (h : Heap), Kn  h → Q .normal b h) (Kr : Heap → Prop) (hKr : ∀  (b : Env) (h : Heap), Kr  h → Q .ret b h) (y145 : Addr) (y146 : Int) (y147 : Int) (y148 : Option Addr) (y148n : Nat) (y148c : Nat) (y149 : Nat) (b : Env) (h : Heap) (hM : vt_Screen_clears_j2 Kn Kr y145 y146 y147 y148 y148n y148c y149 h) : cwp Tryz.prog (partC Tryz.f146 [1, 1, 1, 1, 1, 1, 1]) 124 Q (upd (upd (upd (upd (upd b 0 (.pointer (some y145))) 1 (.int .u8 y146)) 2 (.int .i64 y147)) 6 (.slice y148 y148n y148c)) 7 (.pointer (some ⟨y149, 0, none⟩))) h := by
  unfold vt_Screen_clears_j2 at hM
  refine cwp_part rfl ?_
  refine cwp_seq (cR ?_)
  refine oZ [(83, .int .u8 y146), (84, .bool (decide (y146 = 75)))] ?_
  refine oE ?_
  refine cwp_condD (y146 = 75) (by kernel_rfl) (fun hc150 => ?_) (fun hc150 => ?_)
  · replace hM := ifT hc150 hM
    refine cwp_ret (thenE_r ?_)
    exact hKr  _ _ hM
  replace hM := ifF hc150 hM
  refine cwp_skip (thenE_n (cR ?_))
  refine oZ [(85, .slice y148 y148n y148c), (86, .int .i64 (y148n : Int)), (87, .int .i64 0)] ?_
  refine oE (cwp_block ?_)
  obtain ⟨k_, hM⟩ := hM
  refine cwp_loop k_ (lwp_of_part (fn := Tryz.f146) (p := [1, 1, 1, 1, 1, 1, 1, 1, 1, 0, 0]) (by kernel_rfl) (lA 0 (.pointer (some y145)) (lA 2 (.int .i64 y147) (lA 7 (.pointer (some ⟨y149, 0, none⟩)) (lA 85 (.slice y148 y148n y148c) (lA 86 (.int .i64 (y148n : Int)) (lA 87 (.int .i64 0) (vt_Screen_clears_l3_ok _ ?_ k_ y145 y147 y149 y148 y148n y148c (y148n : Int) 0 _ _ hM))))))))
  · intro  b234 h233 hM
    refine blockE_h ?_
    exact hKn  _ _ hM
def vt_Screen_clears_j1 (Kn : Heap → Prop) (Kr : Heap → Prop) (y103 : Addr) (y104 : Int) (y105 : Int) (y106 : Option Addr) (y106n : Nat) (y106c : Nat) (y107 : Nat) (h : Heap) : Prop :=
 if y105 = 1 then
  ldI h .i64 (y103.add 10) fun x109 =>
  nz y106 fun p115 =>
  0 ≤ x109 ∧
  x109 < (y106n : Int) ∧
  ldL h (p115.add ((x109).toNat * 1)) fun x116 x116n x116c =>
  ldI h .i64 (y103.add 9) fun x120 =>
  ldS h ⟨y107, 0, none⟩ fun x124 =>
  ldI h .i64 ⟨y107, 1, none⟩ fun x126 =>
  ldI h .i64 ⟨y107, 2, none⟩ fun x128 =>
  ldI h .i64 ⟨y107, 3, none⟩ fun x130 =>
  ldI h .i64 ⟨y107, 4, none⟩ fun x132 =>
  vt_row_erase x116 x116n x116c 0 (IntKind.wrap .i64 (x120 + 1)) x124 x126 x128 x130 x132 (fun  h144 =>
   vt_Screen_clears_j2
    (fun  h236 =>
        Kn  h236)
    (fun  h238 =>
         Kr  h238) y103 y104 y105 (some p115) y106n y106c y107 h144) h
 else
 vt_Screen_clears_j2
  (fun  h241 =>
      Kn  h241)
  (fun  h243 =>
      Kr  h243) y103 y104 y105 y106 y106n y106c y107 h
theorem vt_Screen_clears_j1_ok {Q : Exit → Env → Heap → Prop} (Kn : Heap → Prop) (hKn : ∀  (b : Env) (h : Heap), Kn  h → Q .normal b h) (Kr : Heap → Prop) (hKr : ∀  (b : Env) (h : Heap), Kr  h → Q .ret b h) (y103 : Addr) (y104 : Int) (y105 : Int) (y106 : Option Addr) (y106n : Nat) (y106c : Nat) (y107 : Nat) (b : Env) (h : Heap) (hM : vt_Screen_clears_j1 Kn Kr y103 y104 y105 y106 y106n y106c y107 h) : cwp Tryz.prog (partC Tryz.f146 [1, 1, 1, 1, 1, 1]) 124 Q (upd (upd (upd (upd (upd b 0 (.pointer (some y103))) 1 (.int .u8 y104)) 2 (.int .i64 y105)) 6 (.slice y106 y106n y106c)) 7 (.pointer (some ⟨y107, 0, none⟩))) h := by
  unfold vt_Screen_clears_j1 at hM
  refine cwp_part rfl ?_
  refine cwp_seq (cR ?_)
  refine oZ [(65, .int .i64 y105), (66, .bool (decide (y105 = 1)))] ?_
  refine oE ?_
  refine cwp_condD (y105 = 1) (by kernel_rfl) (fun hc108 => ?_) (fun hc108 => ?_)
  · replace hM := ifT hc108 hM
    refine cwp_draw (by kernel_rfl) ?_
    refine kq 0 (.slice y106 y106n y106c) ?_
    refine kq 1 (.pointer (some y103)) ?_
    refine kq 2 (.pointer (some y103)) ?_
    refine kq 3 (.pointer (some (y103.add 9))) ?_
    refine kq 4 (.pointer (some (y103.add 10))) ?_
    obtain ⟨x109, hc110, hM⟩ := hM
    refine kl 5 (.int .i64 x109) (y103.add 10) [6, 7, 15] [15] hc110 ?_
    obtain ⟨p115, rfl, hM⟩ := hM
    obtain ⟨hc113, hM⟩ := hM
    obtain ⟨hc114, hM⟩ := hM
    refine k_pure (i := 6) [7, 15] (.pointer (some (p115.add ((x109).toNat * 1)))) (by kernel_rfl) rfl rfl (by kernel_rfl) (fun h' => rd_ixS (P := Tryz.prog) (h := h') (t := 68) (el := 81) (sz := 1) (ad := p115) (len := y106n) (c := y106c) (k := .i64) (i := x109) (by kernel_rfl) (by kernel_rfl) hc113 hc114 (by kernel_rfl)) (by kernel_rfl) ?_
    obtain ⟨x116, x116n, x116c, hc117, hM⟩ := hM
    refine kl 7 (.slice x116 x116n x116c) (p115.add ((x109).toNat * 1)) [15] [15] hc117 ?_
    refine kq 8 (.pointer (some y103)) ?_
    refine kq 9 (.pointer (some y103)) ?_
    refine kq 10 (.pointer (some (y103.add 9))) ?_
    refine kq 11 (.pointer (some (y103.add 9))) ?_
    obtain ⟨x120, hc121, hM⟩ := hM
    refine kl 12 (.int .i64 x120) (y103.add 9) [13, 15] [15] hc121 ?_
    refine kq 13 (.int .i64 (IntKind.wrap .i64 (x120 + 1))) ?_
    obtain ⟨x124, hc125, hM⟩ := hM
    obtain ⟨x126, hc127, hM⟩ := hM
    obtain ⟨x128, hc129, hM⟩ := hM
    obtain ⟨x130, hc131, hM⟩ := hM
    obtain ⟨x132, hc133, hM⟩ := hM
    refine k_load (i := 14) (.agg #[.string x124, .int .i64 x126, .int .i64 x128, .int .i64 x130, .int .i64 x132]) (fun h' => cellH h' ⟨y107, 0, none⟩ = some (.string x124) ∧ cellH h' ⟨y107, 1, none⟩ = some (.int .i64 x126) ∧ cellH h' ⟨y107, 2, none⟩ = some (.int .i64 x128) ∧ cellH h' ⟨y107, 3, none⟩ = some (.int .i64 x130) ∧ cellH h' ⟨y107, 4, none⟩ = some (.int .i64 x132) ∧ True) [15] [15] (by kernel_rfl) (by kernel_rfl) rfl rfl (by kernel_rfl) (fun h' hS => Eq.trans (b := (cellH h' ⟨y107, 0, none⟩).bind fun v139 => (cellH h' ⟨y107, 1, none⟩).bind fun v140 => (cellH h' ⟨y107, 2, none⟩).bind fun v141 => (cellH h' ⟨y107, 3, none⟩).bind fun v142 => (cellH h' ⟨y107, 4, none⟩).bind fun v143 => some (.value (.agg #[v139, v140, v141, v142, v143]))) (by kernel_rfl) ((bindE hS.1 _).trans ((bindE hS.2.1 _).trans ((bindE hS.2.2.1 _).trans ((bindE hS.2.2.2.1 _).trans (bindE hS.2.2.2.2.1 _)))))) ⟨hc125, hc127, hc129, hc131, hc133, trivial⟩ (by kernel_rfl) ?_
    refine kE 15 (hpCallE 158 #[.slice x116 x116n x116c, .int .i64 0, .int .i64 (IntKind.wrap .i64 (x120 + 1)), .agg #[.string x124, .int .i64 x126, .int .i64 x128, .int .i64 x130, .int .i64 x132]] (by kernel_rfl) (vt_row_erase_ok x116 x116n x116c 0 (IntKind.wrap .i64 (x120 + 1)) x124 x126 x128 x130 x132 _ h hM) ?_)
    clear hM
    rintro _ h144 ⟨rfl, hM⟩
    refine ⟨trivial, ?_⟩
    refine k_done (by kernel_rfl) ?_
    refine thenE_n ?_
    refine cwp_of_part (fn := Tryz.f146) (p := [1, 1, 1, 1, 1, 1, 1]) (by kernel_rfl) (cA 0 (.pointer (some y103)) (cA 1 (.int .u8 y104) (cA 2 (.int .i64 y105) (cA 6 (.slice (some p115) y106n y106c) (cA 7 (.pointer (some ⟨y107, 0, none⟩)) (vt_Screen_clears_j2_ok _ ?_ _ ?_ y103 y104 y105 (some p115) y106n y106c y107 _ _ hM))))))
    · intro  b237 h236 hM
      exact hKn  _ _ hM
    · intro  b239 h238 hM
      exact hKr  _ _ hM
  replace hM := ifF hc108 hM
  refine cwp_skip (thenE_n ?_)
  refine cwp_of_part (fn := Tryz.f146) (p := [1, 1, 1, 1, 1, 1, 1]) (by kernel_rfl) (cA 0 (.pointer (some y103)) (cA 1 (.int .u8 y104) (cA 2 (.int .i64 y105) (cA 6 (.slice y106 y106n y106c) (cA 7 (.pointer (some ⟨y107, 0, none⟩)) (vt_Screen_clears_j2_ok _ ?_ _ ?_ y103 y104 y105 y106 y106n y106c y107 _ _ hM))))))
  · intro  b242 h241 hM
    exact hKn  _ _ hM
  · intro  b244 h243 hM
    exact hKr  _ _ hM
def vt_Screen_clears (a1 : Option Addr) (a2 : Int) (a3 : Int) (K : Heap → Prop) (h : Heap) : Prop :=
 vt_Screen_shown a1 (fun x5 h4 =>
  nz x5 fun p6 =>
  ldL h4 p6 fun x7 x7n x7c =>
  vt_Screen_erased a1 (fun x11 x12 x13 x14 x15 h10 =>
   newB h10 #[.string (⟨#[]⟩ : ByteArray), .int .i64 0, .int .i64 0, .int .i64 0, .int .i64 0] 52 fun b16 h17 =>
   stN ⟨b16, 0, none⟩ [.string x11, .int .i64 x12, .int .i64 x13, .int .i64 x14, .int .i64 x15] 0 h17 fun h19 =>
   if ((decide (a3 = 3)) && (decide (a2 = 74))) = true then
    nz a1 fun p25 =>
    stN (p25.add 8) [.slice none 0 0] 0 h19 fun h26 =>
    stN (p25.add 18) [.bool false] 0 h26 fun h27 =>
    K h27
   else
   if 2 < a3 then
    K h19
   else
   nz a1 fun p29 =>
   stN (p29.add 18) [.bool false] 0 h19 fun h30 =>
   if ((decide (a3 = 0)) || (decide (a3 = 2))) = true then
    ldI h30 .i64 (p29.add 9) fun x36 =>
    if a3 = 2 then
     vt_Screen_clears_j0
      (fun z97 z98 z99 z100 z100n z100c z101 h102 =>
        vt_Screen_clears_j1
         (fun  h246 =>
             K h246)
         (fun  h248 =>
               K h248) z97 z98 z99 z100 z100n z100c z101 h102) p29 a2 a3 x7 x7n x7c b16 0 h30
    else
    vt_Screen_clears_j0
     (fun z253 z254 z255 z256 z256n z256c z257 h258 =>
       vt_Screen_clears_j1
        (fun  h259 =>
            K h259)
        (fun  h261 =>
              K h261) z253 z254 z255 z256 z256n z256c z257 h258) p29 a2 a3 x7 x7n x7c b16 x36 h30
   else
   vt_Screen_clears_j1
    (fun  h266 =>
        K h266)
    (fun  h268 =>
          K h268) p29 a2 a3 x7 x7n x7c b16 h30) h4) h
theorem vt_Screen_clears_ok (a1 : Option Addr) (a2 : Int) (a3 : Int) (K : Heap → Prop) (h : Heap) (hM : vt_Screen_clears a1 a2 a3 K h) : CallsH Tryz.prog 146 #[.pointer a1, .int .u8 a2, .int .i64 a3] (fun v h' => v = .tuple #[] ∧ K h') h := by
 unfold vt_Screen_clears at hM
 refine callsH_intro (n := 124) Tryz.func146 rfl rfl (by kernel_rfl) ?_
 refine cR ?_
 refine oZ [(11, .pointer a1)] ?_
 refine oG (hpCallE 39 #[.pointer a1] (by kernel_rfl) (vt_Screen_shown_ok a1 _ h hM) ?_)
 clear hM
 rintro _ h4 ⟨x5, rfl, hM⟩
 obtain ⟨p6, rfl, hM⟩ := hM
 refine owp_rdG (.pointer (some p6)) rfl (by kernel_rfl) (by kernel_rfl) ?_
 refine oZ [(14, .pointer (some p6))] ?_
 obtain ⟨x7, x7n, x7c, hc8, hM⟩ := hM
 refine oL (.slice x7 x7n x7c) p6 hc8 ?_
 refine oZ [(6, .slice x7 x7n x7c)] ?_
 refine oE (cR ?_)
 refine oZ [(16, .pointer a1)] ?_
 refine oG (hpCallE 139 #[.pointer a1] (by kernel_rfl) (vt_Screen_erased_ok a1 _ h4 hM) ?_)
 clear hM
 rintro _ h10 ⟨x11, x12, x13, x14, x15, rfl, hM⟩
 refine oG (hpNew #[.string (⟨#[]⟩ : ByteArray), .int .i64 0, .int .i64 0, .int .i64 0, .int .i64 0] 52 (fun _ => by kernel_rfl) ?_)
 intro b16 h17 hN18
 replace hM := newB_of hN18 hM
 refine oT ⟨b16, 0, none⟩ [.string x11, .int .i64 x12, .int .i64 x13, .int .i64 x14, .int .i64 x15] hM ?_
 clear hM
 intro h19 hM
 refine oE (cwp_seq (cR ?_))
 refine oZ [(18, .int .i64 a3), (19, .bool (decide (a3 = 3))), (20, .bool (decide (a3 = 3)))] ?_
 refine oB (decide (a3 = 3)) 3 [19, 20] (fun b_ => [(21, iteV b_ (.int .u8 a2 : Value) undef), (22, iteV b_ (.bool (decide (a2 = 74)) : Value) undef), (23, .bool (b_ && (decide (a2 = 74))))]) rfl (fun hb20 hq21 => oS [(21, .int .u8 a2), (22, .bool (decide (a2 = 74))), (23, .bool (decide (a2 = 74)))] rfl (hq21)) (fun hb22 hq23 => oS [(21, undef), (22, undef), (23, .bool false)] rfl (hq23)) ?_
 refine oE ?_
 refine cwp_condB ((decide (a3 = 3)) && (decide (a2 = 74))) (by kernel_rfl) (fun hc24 => ?_) (fun hc24 => ?_)
 · replace hM := ifT hc24 hM
   refine cR ?_
   refine oZ [(24, .pointer a1)] ?_
   obtain ⟨p25, rfl, hM⟩ := hM
   refine owp_rdG (.pointer (some p25)) rfl (by kernel_rfl) (by kernel_rfl) ?_
   refine oZ [(26, .pointer (some (p25.add 8)))] ?_
   refine oT (p25.add 8) [.slice none 0 0] hM ?_
   clear hM
   intro h26 hM
   refine oE (cR ?_)
   refine oZ [(27, .pointer (some p25)), (28, .pointer (some p25)), (29, .pointer (some (p25.add 9))), (30, .pointer (some (p25.add 18)))] ?_
   refine oT (p25.add 18) [.bool false] hM ?_
   clear hM
   intro h27 hM
   refine oE (cwp_ret (thenE_r ?_))
   exact ret_ (.tuple #[]) (by kernel_rfl) ⟨rfl, hM⟩
 replace hM := ifF hc24 hM
 refine cwp_skip (thenE_n (cwp_seq (cR ?_)))
 refine oZ [(31, .int .i64 a3), (32, .bool (decide (2 < a3)))] ?_
 refine oE ?_
 refine cwp_condD (2 < a3) (by kernel_rfl) (fun hc28 => ?_) (fun hc28 => ?_)
 · replace hM := ifT hc28 hM
   refine cwp_ret (thenE_r ?_)
   exact ret_ (.tuple #[]) (by kernel_rfl) ⟨rfl, hM⟩
 replace hM := ifF hc28 hM
 refine cwp_skip (thenE_n (cR ?_))
 refine oZ [(33, .pointer a1)] ?_
 obtain ⟨p29, rfl, hM⟩ := hM
 refine owp_rdG (.pointer (some p29)) rfl (by kernel_rfl) (by kernel_rfl) ?_
 refine oZ [(35, .pointer (some (p29.add 9))), (36, .pointer (some (p29.add 18)))] ?_
 refine oT (p29.add 18) [.bool false] hM ?_
 clear hM
 intro h30 hM
 refine oE (cwp_seq (cR ?_))
 refine oZ [(37, .int .i64 a3), (38, .bool (decide (a3 = 0))), (39, .bool (decide (a3 = 0)))] ?_
 refine oB (decide (a3 = 0)) 3 [38, 39] (fun b_ => [(40, iteV b_ undef (.int .i64 a3 : Value)), (41, iteV b_ undef (.bool (decide (a3 = 2)) : Value)), (42, .bool (b_ || (decide (a3 = 2))))]) rfl (fun hb31 hq32 => oS [(40, undef), (41, undef), (42, .bool true)] rfl (hq32)) (fun hb33 hq34 => oS [(40, .int .i64 a3), (41, .bool (decide (a3 = 2))), (42, .bool (decide (a3 = 2)))] rfl (hq34)) ?_
 refine oE ?_
 refine cwp_condB ((decide (a3 = 0)) || (decide (a3 = 2))) (by kernel_rfl) (fun hc35 => ?_) (fun hc35 => ?_)
 · replace hM := ifT hc35 hM
   refine cR ?_
   refine oZ [(43, .pointer (some p29)), (44, .pointer (some p29)), (45, .pointer (some (p29.add 9))), (46, .pointer (some (p29.add 9)))] ?_
   obtain ⟨x36, hc37, hM⟩ := hM
   refine oL (.int .i64 x36) (p29.add 9) hc37 ?_
   refine oZ [(8, .int .i64 x36)] ?_
   refine oE (cwp_seq (cR ?_))
   refine oZ [(48, .int .i64 a3), (49, .bool (decide (a3 = 2)))] ?_
   refine oE ?_
   refine cwp_condD (a3 = 2) (by kernel_rfl) (fun hc39 => ?_) (fun hc39 => ?_)
   · replace hM := ifT hc39 hM
     refine cwp_region ?_
     refine oZ [(8, .int .i64 0)] ?_
     refine oE ?_
     refine cwp_of_part (fn := Tryz.f146) (p := [1, 1, 1, 1, 1, 0, 1, 0, 1, 1]) (by kernel_rfl) (cA 0 (.pointer (some p29)) (cA 1 (.int .u8 a2) (cA 2 (.int .i64 a3) (cA 6 (.slice x7 x7n x7c) (cA 7 (.pointer (some ⟨b16, 0, none⟩)) (cA 8 (.int .i64 0) (vt_Screen_clears_j0_ok _ ?_ p29 a2 a3 x7 x7n x7c b16 0 _ _ hM)))))))
     · intro z97 z98 z99 z100 z100n z100c z101 b251 h102 hM
       refine thenE_n ?_
       refine cwp_of_part (fn := Tryz.f146) (p := [1, 1, 1, 1, 1, 1]) (by kernel_rfl) (cA 0 (.pointer (some z97)) (cA 1 (.int .u8 z98) (cA 2 (.int .i64 z99) (cA 6 (.slice z100 z100n z100c) (cA 7 (.pointer (some ⟨z101, 0, none⟩)) (vt_Screen_clears_j1_ok _ ?_ _ ?_ z97 z98 z99 z100 z100n z100c z101 _ _ hM))))))
       · intro  b247 h246 hM
         exact end_ (.tuple #[]) (by kernel_rfl) ⟨rfl, hM⟩
       · intro  b249 h248 hM
         exact ret_ (.tuple #[]) (by kernel_rfl) ⟨rfl, hM⟩
   replace hM := ifF hc39 hM
   refine cwp_skip (thenE_n ?_)
   refine cwp_of_part (fn := Tryz.f146) (p := [1, 1, 1, 1, 1, 0, 1, 0, 1, 1]) (by kernel_rfl) (cA 0 (.pointer (some p29)) (cA 1 (.int .u8 a2) (cA 2 (.int .i64 a3) (cA 6 (.slice x7 x7n x7c) (cA 7 (.pointer (some ⟨b16, 0, none⟩)) (cA 8 (.int .i64 x36) (vt_Screen_clears_j0_ok _ ?_ p29 a2 a3 x7 x7n x7c b16 x36 _ _ hM)))))))
   · intro z253 z254 z255 z256 z256n z256c z257 b264 h258 hM
     refine thenE_n ?_
     refine cwp_of_part (fn := Tryz.f146) (p := [1, 1, 1, 1, 1, 1]) (by kernel_rfl) (cA 0 (.pointer (some z253)) (cA 1 (.int .u8 z254) (cA 2 (.int .i64 z255) (cA 6 (.slice z256 z256n z256c) (cA 7 (.pointer (some ⟨z257, 0, none⟩)) (vt_Screen_clears_j1_ok _ ?_ _ ?_ z253 z254 z255 z256 z256n z256c z257 _ _ hM))))))
     · intro  b260 h259 hM
       exact end_ (.tuple #[]) (by kernel_rfl) ⟨rfl, hM⟩
     · intro  b262 h261 hM
       exact ret_ (.tuple #[]) (by kernel_rfl) ⟨rfl, hM⟩
 replace hM := ifF hc35 hM
 refine cwp_skip (thenE_n ?_)
 refine cwp_of_part (fn := Tryz.f146) (p := [1, 1, 1, 1, 1, 1]) (by kernel_rfl) (cA 0 (.pointer (some p29)) (cA 1 (.int .u8 a2) (cA 2 (.int .i64 a3) (cA 6 (.slice x7 x7n x7c) (cA 7 (.pointer (some ⟨b16, 0, none⟩)) (vt_Screen_clears_j1_ok _ ?_ _ ?_ p29 a2 a3 x7 x7n x7c b16 _ _ hM))))))
 · intro  b267 h266 hM
   exact end_ (.tuple #[]) (by kernel_rfl) ⟨rfl, hM⟩
 · intro  b269 h268 hM
   exact ret_ (.tuple #[]) (by kernel_rfl) ⟨rfl, hM⟩
/- (*mullion/vt.Screen).lines1 -/
def vt_Screen_lines1 (a1 : Option Addr) (a2 : Int) (a3 : Int) (K : Heap → Prop) (h : Heap) : Prop :=
 nz a1 fun p4 =>
 ldI h .i64 (p4.add 10) fun x5 =>
 ldI h .i64 (p4.add 19) fun x9 =>
 if x5 < x9 then
  K h
 else
 ldI h .i64 (p4.add 10) fun x14 =>
 ldI h .i64 (p4.add 20) fun x18 =>
 if x18 < x14 then
  K h
 else
 if a2 = 76 then
  ldI h .i64 (p4.add 10) fun x24 =>
  ldI h .i64 (p4.add 20) fun x28 =>
  vt_Screen_down (some p4) x24 x28 a3 (fun  h32 =>
   ldI h32 .i64 (p4.add 10) fun x33 =>
   vt_Screen_to (some p4) 0 x33 (fun  h36 =>
      K h36) h32) h
 else
 ldI h .i64 (p4.add 10) fun x37 =>
 ldI h .i64 (p4.add 20) fun x41 =>
 vt_Screen_up (some p4) x37 x41 a3 false (fun  h45 =>
  ldI h45 .i64 (p4.add 10) fun x46 =>
  vt_Screen_to (some p4) 0 x46 (fun  h49 =>
     K h49) h45) h
theorem vt_Screen_lines1_ok (a1 : Option Addr) (a2 : Int) (a3 : Int) (K : Heap → Prop) (h : Heap) (hM : vt_Screen_lines1 a1 a2 a3 K h) : CallsH Tryz.prog 147 #[.pointer a1, .int .u8 a2, .int .i64 a3] (fun v h' => v = .tuple #[] ∧ K h') h := by
 unfold vt_Screen_lines1 at hM
 refine callsH_intro (n := 61) Tryz.func147 rfl rfl (by kernel_rfl) ?_
 refine cwp_seq (cwp_seq ?_)
 refine cwp_draw (by kernel_rfl) ?_
 refine kq 0 (.pointer a1) ?_
 obtain ⟨p4, rfl, hM⟩ := hM
 refine kq 1 (.pointer (some p4)) ?_
 refine kq 2 (.pointer (some (p4.add 9))) ?_
 refine kq 3 (.pointer (some (p4.add 10))) ?_
 obtain ⟨x5, hc6, hM⟩ := hM
 refine kl 4 (.int .i64 x5) (p4.add 10) [9, 10, 11, 12, 13, 14, 15, 16, 17, 18, 19, 20, 21] [] hc6 ?_
 refine kq 5 (.pointer (some p4)) ?_
 refine kq 6 (.pointer (some p4)) ?_
 refine kq 7 (.pointer (some (p4.add 19))) ?_
 obtain ⟨x9, hc10, hM⟩ := hM
 refine kl 8 (.int .i64 x9) (p4.add 19) [9, 10, 11, 12, 13, 14, 15, 16, 17, 18, 19, 20, 21] [] hc10 ?_
 refine kq 9 (.bool (decide (x5 < x9))) ?_
 refine kq 10 (.bool (decide (x5 < x9))) ?_
 by_cases hc13 : x5 < x9
 · refine kA 15 true (decide (x5 < x9)) (by rw [decide_eq_true hc13]) ?_
   refine kA 16 true (decide (x5 < x9)) (by rw [decide_eq_true hc13]) ?_
   replace hM := ifT hc13 hM
   refine km 11 ?_
   refine km 12 ?_
   refine km 13 ?_
   refine km 14 ?_
   refine km 15 ?_
   refine km 16 ?_
   refine km 17 ?_
   refine km 18 ?_
   refine km 19 ?_
   refine km 20 ?_
   refine kq 21 (.bool true) ?_
   refine k_done (by kernel_rfl) ?_
   refine thenE_n ?_
   refine cwp_cond (t := true) (by kernel_rfl) (fun hx_ => ?_) (fun hx_ => ?_)
   all_goals first | (cases hx_; done) | skip
   refine cwp_ret (thenE_r ?_)
   exact ret_ (.tuple #[]) (by kernel_rfl) ⟨rfl, hM⟩
 refine kA 15 false (decide (x5 < x9)) (by rw [decide_eq_false hc13]) ?_
 refine kA 16 false (decide (x5 < x9)) (by rw [decide_eq_false hc13]) ?_
 replace hM := ifF hc13 hM
 refine kq 11 (.pointer (some p4)) ?_
 refine kq 12 (.pointer (some p4)) ?_
 refine kq 13 (.pointer (some (p4.add 9))) ?_
 refine kq 14 (.pointer (some (p4.add 10))) ?_
 obtain ⟨x14, hc15, hM⟩ := hM
 refine kl 15 (.int .i64 x14) (p4.add 10) [20, 21] [] hc15 ?_
 refine kq 16 (.pointer (some p4)) ?_
 refine kq 17 (.pointer (some p4)) ?_
 refine kq 18 (.pointer (some (p4.add 20))) ?_
 obtain ⟨x18, hc19, hM⟩ := hM
 refine kl 19 (.int .i64 x18) (p4.add 20) [20, 21] [] hc19 ?_
 refine kq 20 (.bool (decide (x18 < x14))) ?_
 refine kq 21 (.bool (decide (x18 < x14))) ?_
 refine k_done (by kernel_rfl) ?_
 refine thenE_n ?_
 refine cwp_condD (x18 < x14) (by kernel_rfl) (fun hc22 => ?_) (fun hc22 => ?_)
 · replace hM := ifT hc22 hM
   refine cwp_ret (thenE_r ?_)
   exact ret_ (.tuple #[]) (by kernel_rfl) ⟨rfl, hM⟩
 replace hM := ifF hc22 hM
 refine cwp_skip (thenE_n (cwp_seq (cR ?_)))
 refine oZ [(28, .int .u8 a2), (29, .bool (decide (a2 = 76)))] ?_
 refine oE ?_
 refine cwp_condD (a2 = 76) (by kernel_rfl) (fun hc23 => ?_) (fun hc23 => ?_)
 · replace hM := ifT hc23 hM
   refine cwp_draw (by kernel_rfl) ?_
   refine kq 0 (.pointer (some p4)) ?_
   refine kq 1 (.pointer (some p4)) ?_
   refine kq 2 (.pointer (some p4)) ?_
   refine kq 3 (.pointer (some (p4.add 9))) ?_
   refine kq 4 (.pointer (some (p4.add 10))) ?_
   obtain ⟨x24, hc25, hM⟩ := hM
   refine kl 5 (.int .i64 x24) (p4.add 10) [11] [11] hc25 ?_
   refine kq 6 (.pointer (some p4)) ?_
   refine kq 7 (.pointer (some p4)) ?_
   refine kq 8 (.pointer (some (p4.add 20))) ?_
   obtain ⟨x28, hc29, hM⟩ := hM
   refine kl 9 (.int .i64 x28) (p4.add 20) [11] [11] hc29 ?_
   refine kq 10 (.int .i64 a3) ?_
   refine kE 11 (hpCallE 115 #[.pointer (some p4), .int .i64 x24, .int .i64 x28, .int .i64 a3] (by kernel_rfl) (vt_Screen_down_ok (some p4) x24 x28 a3 _ h hM) ?_)
   clear hM
   rintro _ h32 ⟨rfl, hM⟩
   refine ⟨trivial, ?_⟩
   refine k_done (by kernel_rfl) ?_
   refine thenE_n (cwp_region ?_)
   refine oZ [(54, .pointer (some p4)), (55, .pointer (some p4)), (56, .pointer (some p4)), (57, .pointer (some (p4.add 9))), (58, .pointer (some (p4.add 10)))] ?_
   obtain ⟨x33, hc34, hM⟩ := hM
   refine oL (.int .i64 x33) (p4.add 10) hc34 ?_
   refine oG (hpCallE 111 #[.pointer (some p4), .int .i64 0, .int .i64 x33] (by kernel_rfl) (vt_Screen_to_ok (some p4) 0 x33 _ h32 hM) ?_)
   clear hM
   rintro _ h36 ⟨rfl, hM⟩
   refine owp_nil ?_
   exact end_ (.tuple #[]) (by kernel_rfl) ⟨rfl, hM⟩
 replace hM := ifF hc23 hM
 refine cwp_draw (by kernel_rfl) ?_
 refine kq 0 (.pointer (some p4)) ?_
 refine kq 1 (.pointer (some p4)) ?_
 refine kq 2 (.pointer (some p4)) ?_
 refine kq 3 (.pointer (some (p4.add 9))) ?_
 refine kq 4 (.pointer (some (p4.add 10))) ?_
 obtain ⟨x37, hc38, hM⟩ := hM
 refine kl 5 (.int .i64 x37) (p4.add 10) [11] [11] hc38 ?_
 refine kq 6 (.pointer (some p4)) ?_
 refine kq 7 (.pointer (some p4)) ?_
 refine kq 8 (.pointer (some (p4.add 20))) ?_
 obtain ⟨x41, hc42, hM⟩ := hM
 refine kl 9 (.int .i64 x41) (p4.add 20) [11] [11] hc42 ?_
 refine kq 10 (.int .i64 a3) ?_
 refine kE 11 (hpCallE 138 #[.pointer (some p4), .int .i64 x37, .int .i64 x41, .int .i64 a3, .bool false] (by kernel_rfl) (vt_Screen_up_ok (some p4) x37 x41 a3 false _ h hM) ?_)
 clear hM
 rintro _ h45 ⟨rfl, hM⟩
 refine ⟨trivial, ?_⟩
 refine k_done (by kernel_rfl) ?_
 refine thenE_n (cwp_region ?_)
 refine oZ [(54, .pointer (some p4)), (55, .pointer (some p4)), (56, .pointer (some p4)), (57, .pointer (some (p4.add 9))), (58, .pointer (some (p4.add 10)))] ?_
 obtain ⟨x46, hc47, hM⟩ := hM
 refine oL (.int .i64 x46) (p4.add 10) hc47 ?_
 refine oG (hpCallE 111 #[.pointer (some p4), .int .i64 0, .int .i64 x46] (by kernel_rfl) (vt_Screen_to_ok (some p4) 0 x46 _ h45 hM) ?_)
 clear hM
 rintro _ h49 ⟨rfl, hM⟩
 refine owp_nil ?_
 exact end_ (.tuple #[]) (by kernel_rfl) ⟨rfl, hM⟩
/- (*mullion/vt.Screen).shut -/
def vt_Screen_shut_l0 (K0 : Heap → Prop) : Nat → Addr → Option Addr → Nat → Nat → Int → Heap → Prop
  | 0, _, _, _, _, _, _ => False
  | k + 1, y38, y39, y39n, y39c, y40, h =>
  ldI h .i64 y38 fun x41 =>
  if y40 < x41 then
   vt_Screen_erased (some y38) (fun x46 x47 x48 x49 x50 h45 =>
    nz y39 fun p53 =>
    0 ≤ y40 ∧
    y40 < (y39n : Int) ∧
    stN (p53.add ((y40).toNat * 5)) [.string x46, .int .i64 x47, .int .i64 x48, .int .i64 x49, .int .i64 x50] 0 h45 fun h54 =>
     vt_Screen_shut_l0 K0 k y38 (some p53) y39n y39c (IntKind.wrap .i64 (y40 + 1)) h54) h
  else
  K0  h
theorem vt_Screen_shut_l0_ok {Q : Exit → Env → Heap → Prop} (K0 : Heap → Prop) (hK0 : ∀  (b : Env) (h : Heap), K0  h → Q (.exit 0) b h) : ∀ (k : Nat) (y38 : Addr) (y39 : Option Addr) (y39n : Nat) (y39c : Nat) (y40 : Int) (b : Env) (h : Heap) (hM : vt_Screen_shut_l0 K0 k y38 y39 y39n y39c y40 h), lwp Tryz.prog (partC Tryz.f159 [1, 1, 1, 1, 1, 1, 0, 0]) 72 Q k (upd (upd (upd b 0 (.pointer (some y38))) 4 (.slice y39 y39n y39c)) 5 (.int .i64 y40)) h := by
  intro k
  induction k with
  | zero => intro y38 y39 y39n y39c y40 b h hM; exact (show False from hM).elim
  | succ k ih =>
    intro y38 y39 y39n y39c y40 b h hM
    unfold vt_Screen_shut_l0 at hM
    refine lwp_succ (cwp_part rfl ?_)
    refine cwp_seq (cR ?_)
    refine oZ [(59, .int .i64 y40), (60, .pointer (some y38)), (61, .pointer (some y38)), (62, .pointer (some y38))] ?_
    obtain ⟨x41, hc42, hM⟩ := hM
    refine oL (.int .i64 x41) y38 hc42 ?_
    refine oZ [(64, .bool (decide (y40 < x41)))] ?_
    refine oE ?_
    refine cwp_condD (y40 < x41) (by kernel_rfl) (fun hc44 => ?_) (fun hc44 => ?_)
    · replace hM := ifT hc44 hM
      refine cwp_skip (thenE_n (cwp_seq (cwp_block (cwp_region ?_))))
      refine oZ [(67, .slice y39 y39n y39c), (68, .int .i64 y40), (69, .pointer (some y38))] ?_
      refine oG (hpCallE 139 #[.pointer (some y38)] (by kernel_rfl) (vt_Screen_erased_ok (some y38) _ h hM) ?_)
      clear hM
      rintro _ h45 ⟨x46, x47, x48, x49, x50, rfl, hM⟩
      obtain ⟨p53, rfl, hM⟩ := hM
      obtain ⟨hc51, hM⟩ := hM
      obtain ⟨hc52, hM⟩ := hM
      refine owp_rdG (.pointer (some (p53.add ((y40).toNat * 5)))) rfl (by kernel_rfl) (rd_ixS (P := Tryz.prog) (h := h45) (t := 81) (el := 52) (sz := 5) (ad := p53) (len := y39n) (c := y39c) (k := .i64) (i := y40) (by kernel_rfl) (by kernel_rfl) hc51 hc52 (by kernel_rfl)) ?_
      refine oT (p53.add ((y40).toNat * 5)) [.string x46, .int .i64 x47, .int .i64 x48, .int .i64 x49, .int .i64 x50] hM ?_
      clear hM
      intro h54 hM
      refine owp_nil (blockE_n (thenE_n (cwp_region ?_)))
      refine oZ [(65, .int .i64 y40), (66, .int .i64 (IntKind.wrap .i64 (y40 + 1))), (5, .int .i64 (IntKind.wrap .i64 (y40 + 1)))] ?_
      refine owp_nil ?_
      exact lA 0 (.pointer (some y38)) (lA 4 (.slice (some p53) y39n y39c) (lA 5 (.int .i64 (IntKind.wrap .i64 (y40 + 1))) (ih y38 (some p53) y39n y39c (IntKind.wrap .i64 (y40 + 1)) _ _ hM)))
    replace hM := ifF hc44 hM
    refine cwp_exit (thenE_x ?_)
    exact hK0  _ _ hM
def vt_Screen_shut (a1 : Option Addr) (a2 : Int) (K : Heap → Prop) (h : Heap) : Prop :=
 vt_Screen_row a1 (fun x4 x4n x4c h3 =>
  nz a1 fun p5 =>
  ldI h3 .i64 p5 fun x6 =>
  ldI h3 .i64 (p5.add 9) fun x10 =>
  ldI h3 .i64 (p5.add 9) fun x14 =>
  vt_row_cut x4 x4n x4c x14 (fun  h17 =>
   ldI h17 .i64 (p5.add 9) fun x18 =>
   vt_row_cut x4 x4n x4c (IntKind.wrap .i64 (x18 + (imin a2 (IntKind.wrap .i64 (x6 - x10))))) (fun  h21 =>
    ldI h21 .i64 (p5.add 9) fun x22 =>
    0 ≤ x22 ∧
    x22 ≤ (x4n : Int) ∧
    ldI h21 .i64 (p5.add 9) fun x28 =>
    0 ≤ (IntKind.wrap .i64 (x28 + (imin a2 (IntKind.wrap .i64 (x6 - x10))))) ∧
    (IntKind.wrap .i64 (x28 + (imin a2 (IntKind.wrap .i64 (x6 - x10))))) ≤ (x4n : Int) ∧
    cpM h21 5 (cutA x4 x4c x22.toNat 5) (x4n - x22.toNat) (cutA x4 x4c (IntKind.wrap .i64 (x28 + (imin a2 (IntKind.wrap .i64 (x6 - x10))))).toNat 5) (x4n - (IntKind.wrap .i64 (x28 + (imin a2 (IntKind.wrap .i64 (x6 - x10))))).toNat) fun h34 =>
    ldI h34 .i64 p5 fun x35 =>
    ∃ k57, vt_Screen_shut_l0
     (fun  h55 =>
            K h55) k57 p5 x4 x4n x4c (IntKind.wrap .i64 (x35 - (imin a2 (IntKind.wrap .i64 (x6 - x10))))) h34) h17) h3) h
theorem vt_Screen_shut_ok (a1 : Option Addr) (a2 : Int) (K : Heap → Prop) (h : Heap) (hM : vt_Screen_shut a1 a2 K h) : CallsH Tryz.prog 159 #[.pointer a1, .int .i64 a2] (fun v h' => v = .tuple #[] ∧ K h') h := by
 unfold vt_Screen_shut at hM
 refine callsH_intro (n := 72) Tryz.func159 rfl rfl (by kernel_rfl) ?_
 refine cR ?_
 refine oZ [(6, .pointer a1)] ?_
 refine oG (hpCallE 108 #[.pointer a1] (by kernel_rfl) (vt_Screen_row_ok a1 _ h hM) ?_)
 clear hM
 rintro _ h3 ⟨x4, x4n, x4c, rfl, hM⟩
 refine oZ [(4, .slice x4 x4n x4c)] ?_
 refine oE (cwp_seq ?_)
 refine cwp_draw (by kernel_rfl) ?_
 refine kq 0 (.int .i64 a2) ?_
 refine kq 1 (.pointer a1) ?_
 obtain ⟨p5, rfl, hM⟩ := hM
 refine kq 2 (.pointer (some p5)) ?_
 refine kq 3 (.pointer (some p5)) ?_
 obtain ⟨x6, hc7, hM⟩ := hM
 refine kl 4 (.int .i64 x6) p5 [10, 11, 12] [] hc7 ?_
 refine kq 5 (.pointer (some p5)) ?_
 refine kq 6 (.pointer (some p5)) ?_
 refine kq 7 (.pointer (some (p5.add 9))) ?_
 refine kq 8 (.pointer (some (p5.add 9))) ?_
 obtain ⟨x10, hc11, hM⟩ := hM
 refine kl 9 (.int .i64 x10) (p5.add 9) [10, 11, 12] [] hc11 ?_
 refine kq 10 (.int .i64 (IntKind.wrap .i64 (x6 - x10))) ?_
 refine kq 11 (.int .i64 (imin a2 (IntKind.wrap .i64 (x6 - x10)))) ?_
 refine kq 12 (.int .i64 (imin a2 (IntKind.wrap .i64 (x6 - x10)))) ?_
 refine k_done (by kernel_rfl) ?_
 refine thenE_n (cR ?_)
 refine oZ [(20, .slice x4 x4n x4c), (21, .pointer (some p5)), (22, .pointer (some p5)), (23, .pointer (some (p5.add 9))), (24, .pointer (some (p5.add 9)))] ?_
 obtain ⟨x14, hc15, hM⟩ := hM
 refine oL (.int .i64 x14) (p5.add 9) hc15 ?_
 refine oG (hpCallE 56 #[.slice x4 x4n x4c, .int .i64 x14] (by kernel_rfl) (vt_row_cut_ok x4 x4n x4c x14 _ h3 hM) ?_)
 clear hM
 rintro _ h17 ⟨rfl, hM⟩
 refine oE (cR ?_)
 refine oZ [(27, .slice x4 x4n x4c), (28, .pointer (some p5)), (29, .pointer (some p5)), (30, .pointer (some (p5.add 9))), (31, .pointer (some (p5.add 9)))] ?_
 obtain ⟨x18, hc19, hM⟩ := hM
 refine oL (.int .i64 x18) (p5.add 9) hc19 ?_
 refine oZ [(33, .int .i64 (imin a2 (IntKind.wrap .i64 (x6 - x10)))), (34, .int .i64 (IntKind.wrap .i64 (x18 + (imin a2 (IntKind.wrap .i64 (x6 - x10))))))] ?_
 refine oG (hpCallE 56 #[.slice x4 x4n x4c, .int .i64 (IntKind.wrap .i64 (x18 + (imin a2 (IntKind.wrap .i64 (x6 - x10)))))] (by kernel_rfl) (vt_row_cut_ok x4 x4n x4c (IntKind.wrap .i64 (x18 + (imin a2 (IntKind.wrap .i64 (x6 - x10))))) _ h17 hM) ?_)
 clear hM
 rintro _ h21 ⟨rfl, hM⟩
 refine oE (cwp_seq ?_)
 refine cwp_draw (by kernel_rfl) ?_
 refine kq 0 (.slice x4 x4n x4c) ?_
 refine kq 1 (.pointer (some p5)) ?_
 refine kq 2 (.pointer (some p5)) ?_
 refine kq 3 (.pointer (some (p5.add 9))) ?_
 refine kq 4 (.pointer (some (p5.add 9))) ?_
 obtain ⟨x22, hc23, hM⟩ := hM
 refine kl 5 (.int .i64 x22) (p5.add 9) [6, 16] [16] hc23 ?_
 obtain ⟨hc26, hM⟩ := hM
 obtain ⟨hc27, hM⟩ := hM
 refine k_pure (i := 6) [16] (.slice (cutA x4 x4c x22.toNat 5) (x4n - x22.toNat) (x4c - x22.toNat)) (by kernel_rfl) rfl rfl (by kernel_rfl) (fun h' => rd_sSLo (P := Tryz.prog) (h := h') (t := 81) (el := 52) (sz := 5) (a := x4) (n := x4n) (c := x4c) (k := .i64) (i := x22) (by kernel_rfl) (by kernel_rfl) hc26 hc27 (by kernel_rfl)) (by kernel_rfl) ?_
 refine kq 7 (.slice x4 x4n x4c) ?_
 refine kq 8 (.pointer (some p5)) ?_
 refine kq 9 (.pointer (some p5)) ?_
 refine kq 10 (.pointer (some (p5.add 9))) ?_
 refine kq 11 (.pointer (some (p5.add 9))) ?_
 obtain ⟨x28, hc29, hM⟩ := hM
 refine kl 12 (.int .i64 x28) (p5.add 9) [14, 15, 16] [16] hc29 ?_
 refine kq 13 (.int .i64 (imin a2 (IntKind.wrap .i64 (x6 - x10)))) ?_
 refine kq 14 (.int .i64 (IntKind.wrap .i64 (x28 + (imin a2 (IntKind.wrap .i64 (x6 - x10)))))) ?_
 obtain ⟨hc32, hM⟩ := hM
 obtain ⟨hc33, hM⟩ := hM
 refine k_pure (i := 15) [16] (.slice (cutA x4 x4c (IntKind.wrap .i64 (x28 + (imin a2 (IntKind.wrap .i64 (x6 - x10))))).toNat 5) (x4n - (IntKind.wrap .i64 (x28 + (imin a2 (IntKind.wrap .i64 (x6 - x10))))).toNat) (x4c - (IntKind.wrap .i64 (x28 + (imin a2 (IntKind.wrap .i64 (x6 - x10))))).toNat)) (by kernel_rfl) rfl rfl (by kernel_rfl) (fun h' => rd_sSLo (P := Tryz.prog) (h := h') (t := 81) (el := 52) (sz := 5) (a := x4) (n := x4n) (c := x4c) (k := .i64) (i := (IntKind.wrap .i64 (x28 + (imin a2 (IntKind.wrap .i64 (x6 - x10)))))) (by kernel_rfl) (by kernel_rfl) hc32 hc33 (by kernel_rfl)) (by kernel_rfl) ?_
 refine kE 16 (hpCp (t := 81) (t2 := 81) (ty := 3) (et := 52) (sz := 5) (d := (cutA x4 x4c x22.toNat 5)) (dn := (x4n - x22.toNat)) (dc := (x4c - x22.toNat)) (s := (cutA x4 x4c (IntKind.wrap .i64 (x28 + (imin a2 (IntKind.wrap .i64 (x6 - x10))))).toNat 5)) (sn := (x4n - (IntKind.wrap .i64 (x28 + (imin a2 (IntKind.wrap .i64 (x6 - x10))))).toNat)) (sc := (x4c - (IntKind.wrap .i64 (x28 + (imin a2 (IntKind.wrap .i64 (x6 - x10))))).toNat)) (fun _ => by kernel_rfl) (by kernel_rfl) (by kernel_rfl) hM ?_)
 clear hM
 intro h34 hM
 refine ⟨trivial, ?_⟩
 refine k_done (by kernel_rfl) ?_
 refine thenE_n (cR ?_)
 refine oZ [(53, .pointer (some p5)), (54, .pointer (some p5)), (55, .pointer (some p5))] ?_
 obtain ⟨x35, hc36, hM⟩ := hM
 refine oL (.int .i64 x35) p5 hc36 ?_
 refine oZ [(57, .int .i64 (imin a2 (IntKind.wrap .i64 (x6 - x10)))), (58, .int .i64 (IntKind.wrap .i64 (x35 - (imin a2 (IntKind.wrap .i64 (x6 - x10)))))), (5, .int .i64 (IntKind.wrap .i64 (x35 - (imin a2 (IntKind.wrap .i64 (x6 - x10))))))] ?_
 refine oE (cwp_block ?_)
 obtain ⟨k_, hM⟩ := hM
 refine cwp_loop k_ (lwp_of_part (fn := Tryz.f159) (p := [1, 1, 1, 1, 1, 1, 0, 0]) (by kernel_rfl) (lA 0 (.pointer (some p5)) (lA 4 (.slice x4 x4n x4c) (lA 5 (.int .i64 (IntKind.wrap .i64 (x35 - (imin a2 (IntKind.wrap .i64 (x6 - x10)))))) (vt_Screen_shut_l0_ok _ ?_ k_ p5 x4 x4n x4c (IntKind.wrap .i64 (x35 - (imin a2 (IntKind.wrap .i64 (x6 - x10))))) _ _ hM)))))
 · intro  b56 h55 hM
   refine blockE_h ?_
   exact end_ (.tuple #[]) (by kernel_rfl) ⟨rfl, hM⟩
/- (*mullion/vt.Screen).places -/
def vt_Screen_places (a1 : Option Addr) (a2 : Int) (a3 : Int) (K : Heap → Prop) (h : Heap) : Prop :=
 if a2 = 64 then
  vt_Screen_open a1 a3 (fun  h5 =>
   nz a1 fun p6 =>
   stN (p6.add 18) [.bool false] 0 h5 fun h7 =>
    K h7) h
 else
 if a2 = 80 then
  vt_Screen_shut a1 a3 (fun  h9 =>
   nz a1 fun p10 =>
   stN (p10.add 18) [.bool false] 0 h9 fun h11 =>
    K h11) h
 else
 if a2 = 88 then
  nz a1 fun p13 =>
  ldI h .i64 (p13.add 9) fun x14 =>
  ldI h .i64 p13 fun x18 =>
  ldI h .i64 (p13.add 9) fun x22 =>
  vt_Screen_row (some p13) (fun x27 x27n x27c h26 =>
   (cellH h26 (p13.add 9) = some (.int .i64 x22) ∧ cellH h26 p13 = some (.int .i64 x18) ∧ cellH h26 (p13.add 9) = some (.int .i64 x14)) ∧
   vt_Screen_erased (some p13) (fun x32 x33 x34 x35 x36 h31 =>
    (cellH h31 (p13.add 9) = some (.int .i64 x22) ∧ cellH h31 p13 = some (.int .i64 x18) ∧ cellH h31 (p13.add 9) = some (.int .i64 x14)) ∧
    vt_row_erase x27 x27n x27c x14 (imin x18 (IntKind.wrap .i64 (x22 + a3))) x32 x33 x34 x35 x36 (fun  h40 =>
     stN (p13.add 18) [.bool false] 0 h40 fun h41 =>
        K h41) h31) h26) h
 else
 nz a1 fun p42 =>
 stN (p42.add 18) [.bool false] 0 h fun h43 =>
 K h43
theorem vt_Screen_places_ok (a1 : Option Addr) (a2 : Int) (a3 : Int) (K : Heap → Prop) (h : Heap) (hM : vt_Screen_places a1 a2 a3 K h) : CallsH Tryz.prog 148 #[.pointer a1, .int .u8 a2, .int .i64 a3] (fun v h' => v = .tuple #[] ∧ K h') h := by
 unfold vt_Screen_places at hM
 refine callsH_intro (n := 45) Tryz.func148 rfl rfl (by kernel_rfl) ?_
 refine cwp_seq (cR ?_)
 refine oZ [(6, .int .u8 a2)] ?_
 refine oE (cwp_block (cR ?_))
 refine oZ [(8, .bool (decide (a2 = 64))), (7, .bool (decide (a2 = 64)))] ?_
 refine oE ?_
 refine cwp_condD (a2 = 64) (by kernel_rfl) (fun hc4 => ?_) (fun hc4 => ?_)
 · replace hM := ifT hc4 hM
   refine cwp_region ?_
   refine oZ [(9, .pointer a1), (10, .int .i64 a3)] ?_
   refine oG (hpCallE 107 #[.pointer a1, .int .i64 a3] (by kernel_rfl) (vt_Screen_open_ok a1 a3 _ h hM) ?_)
   clear hM
   rintro _ h5 ⟨rfl, hM⟩
   refine owp_nil (blockE_n (thenE_n (cwp_region ?_)))
   refine oZ [(41, .pointer a1)] ?_
   obtain ⟨p6, rfl, hM⟩ := hM
   refine owp_rdG (.pointer (some p6)) rfl (by kernel_rfl) (by kernel_rfl) ?_
   refine oZ [(43, .pointer (some (p6.add 9))), (44, .pointer (some (p6.add 18)))] ?_
   refine oT (p6.add 18) [.bool false] hM ?_
   clear hM
   intro h7 hM
   refine owp_nil ?_
   exact end_ (.tuple #[]) (by kernel_rfl) ⟨rfl, hM⟩
 replace hM := ifF hc4 hM
 refine cR ?_
 refine oZ [(13, .bool (decide (a2 = 80))), (12, .bool (decide (a2 = 80)))] ?_
 refine oE ?_
 refine cwp_condD (a2 = 80) (by kernel_rfl) (fun hc8 => ?_) (fun hc8 => ?_)
 · replace hM := ifT hc8 hM
   refine cwp_region ?_
   refine oZ [(14, .pointer a1), (15, .int .i64 a3)] ?_
   refine oG (hpCallE 159 #[.pointer a1, .int .i64 a3] (by kernel_rfl) (vt_Screen_shut_ok a1 a3 _ h hM) ?_)
   clear hM
   rintro _ h9 ⟨rfl, hM⟩
   refine owp_nil (blockE_n (thenE_n (cwp_region ?_)))
   refine oZ [(41, .pointer a1)] ?_
   obtain ⟨p10, rfl, hM⟩ := hM
   refine owp_rdG (.pointer (some p10)) rfl (by kernel_rfl) (by kernel_rfl) ?_
   refine oZ [(43, .pointer (some (p10.add 9))), (44, .pointer (some (p10.add 18)))] ?_
   refine oT (p10.add 18) [.bool false] hM ?_
   clear hM
   intro h11 hM
   refine owp_nil ?_
   exact end_ (.tuple #[]) (by kernel_rfl) ⟨rfl, hM⟩
 replace hM := ifF hc8 hM
 refine cR ?_
 refine oZ [(18, .bool (decide (a2 = 88))), (17, .bool (decide (a2 = 88)))] ?_
 refine oE ?_
 refine cwp_condD (a2 = 88) (by kernel_rfl) (fun hc12 => ?_) (fun hc12 => ?_)
 · replace hM := ifT hc12 hM
   refine cwp_draw (by kernel_rfl) ?_
   refine kq 0 (.pointer a1) ?_
   refine kq 2 (.pointer a1) ?_
   obtain ⟨p13, rfl, hM⟩ := hM
   refine kq 3 (.pointer (some p13)) ?_
   refine kq 4 (.pointer (some (p13.add 9))) ?_
   refine kq 5 (.pointer (some (p13.add 9))) ?_
   obtain ⟨x14, hc15, hM⟩ := hM
   refine kl 6 (.int .i64 x14) (p13.add 9) [21] [21] hc15 ?_
   refine kq 7 (.pointer (some p13)) ?_
   refine kq 8 (.pointer (some p13)) ?_
   refine kq 9 (.pointer (some p13)) ?_
   obtain ⟨x18, hc19, hM⟩ := hM
   refine kl 10 (.int .i64 x18) p13 [18, 21] [21] hc19 ?_
   refine kq 11 (.pointer (some p13)) ?_
   refine kq 12 (.pointer (some p13)) ?_
   refine kq 13 (.pointer (some (p13.add 9))) ?_
   refine kq 14 (.pointer (some (p13.add 9))) ?_
   obtain ⟨x22, hc23, hM⟩ := hM
   refine kl 15 (.int .i64 x22) (p13.add 9) [17, 18, 21] [21] hc23 ?_
   refine kq 16 (.int .i64 a3) ?_
   refine kq 17 (.int .i64 (IntKind.wrap .i64 (x22 + a3))) ?_
   refine kq 18 (.int .i64 (imin x18 (IntKind.wrap .i64 (x22 + a3)))) ?_
   refine kq 19 (.pointer (some p13)) ?_
   refine kE 1 (hpCallE 108 #[.pointer (some p13)] (by kernel_rfl) (vt_Screen_row_ok (some p13) _ h hM) ?_)
   clear hM
   rintro _ h26 ⟨x27, x27n, x27c, rfl, hM⟩
   obtain ⟨⟨hk28, hk29, hk30⟩, hM⟩ := hM
   refine ⟨⟨⟨hk28, trivial⟩, ⟨hk29, trivial⟩, ⟨hk30, trivial⟩, trivial⟩, ?_⟩
   refine kE 20 (hpCallE 139 #[.pointer (some p13)] (by kernel_rfl) (vt_Screen_erased_ok (some p13) _ h26 hM) ?_)
   clear hM
   rintro _ h31 ⟨x32, x33, x34, x35, x36, rfl, hM⟩
   obtain ⟨⟨hk37, hk38, hk39⟩, hM⟩ := hM
   refine ⟨⟨⟨hk37, trivial⟩, ⟨hk38, trivial⟩, ⟨hk39, trivial⟩, trivial⟩, ?_⟩
   refine kE 21 (hpCallE 158 #[.slice x27 x27n x27c, .int .i64 x14, .int .i64 (imin x18 (IntKind.wrap .i64 (x22 + a3))), .agg #[.string x32, .int .i64 x33, .int .i64 x34, .int .i64 x35, .int .i64 x36]] (by kernel_rfl) (vt_row_erase_ok x27 x27n x27c x14 (imin x18 (IntKind.wrap .i64 (x22 + a3))) x32 x33 x34 x35 x36 _ h31 hM) ?_)
   clear hM
   rintro _ h40 ⟨rfl, hM⟩
   refine ⟨trivial, ?_⟩
   refine k_done (by kernel_rfl) ?_
   refine blockE_n (thenE_n (cwp_region ?_))
   refine oZ [(41, .pointer (some p13)), (42, .pointer (some p13)), (43, .pointer (some (p13.add 9))), (44, .pointer (some (p13.add 18)))] ?_
   refine oT (p13.add 18) [.bool false] hM ?_
   clear hM
   intro h41 hM
   refine owp_nil ?_
   exact end_ (.tuple #[]) (by kernel_rfl) ⟨rfl, hM⟩
 replace hM := ifF hc12 hM
 refine cwp_skip (blockE_n (thenE_n (cwp_region ?_)))
 refine oZ [(41, .pointer a1)] ?_
 obtain ⟨p42, rfl, hM⟩ := hM
 refine owp_rdG (.pointer (some p42)) rfl (by kernel_rfl) (by kernel_rfl) ?_
 refine oZ [(43, .pointer (some (p42.add 9))), (44, .pointer (some (p42.add 18)))] ?_
 refine oT (p42.add 18) [.bool false] hM ?_
 clear hM
 intro h43 hM
 refine owp_nil ?_
 exact end_ (.tuple #[]) (by kernel_rfl) ⟨rfl, hM⟩
/- mullion/vt.colour -/
def vt_colour_l0 (K1 : Int → Heap → Prop) (Kr : Int → Int → Heap → Prop) : Nat → Int → Option Addr → Nat → Nat → Int → Int → Heap → Prop
  | 0, _, _, _, _, _, _, _ => False
  | k + 1, y33, y34, y34n, y34c, y35, y36, h =>
  if y36 < y35 then
   nz y34 fun p40 =>
   0 ≤ y36 ∧
   y36 < (y34n : Int) ∧
   ldI h .i64 (p40.add ((y36).toNat * 1)) fun x41 =>
   if 255 < x41 then
    Kr (-1) 4 h
   else
   vt_colour_l0 K1 Kr k (IntKind.wrap .i64 ((IntKind.wrap .i64 (y33 * 256)) + (imax 0 x41))) (some p40) y34n y34c y35 (IntKind.wrap .i64 (y36 + 1)) h
  else
  K1 y33 h
theorem vt_colour_l0_ok {Q : Exit → Env → Heap → Prop} (K1 : Int → Heap → Prop) (hK1 : ∀ (z49 : Int) (b : Env) (h : Heap), K1 z49 h → Q (.exit 1) (upd b 5 (.int .i64 z49)) h) (Kr : Int → Int → Heap → Prop) (hKr : ∀ (z52 : Int) (z53 : Int) (b : Env) (h : Heap), Kr z52 z53 h → Q .ret (upd (upd b 2 (.int .i64 z52)) 3 (.int .i64 z53)) h) : ∀ (k : Nat) (y33 : Int) (y34 : Option Addr) (y34n : Nat) (y34c : Nat) (y35 : Int) (y36 : Int) (b : Env) (h : Heap) (hM : vt_colour_l0 K1 Kr k y33 y34 y34n y34c y35 y36 h), lwp Tryz.prog (partC Tryz.f171 [1, 0, 0, 1, 1, 1, 0, 1, 0, 1, 0, 0]) 53 Q k (upd (upd (upd (upd b 5 (.int .i64 y33)) 37 (.slice y34 y34n y34c)) 38 (.int .i64 y35)) 39 (.int .i64 y36)) h := by
  intro k
  induction k with
  | zero => intro y33 y34 y34n y34c y35 y36 b h hM; exact (show False from hM).elim
  | succ k ih =>
    intro y33 y34 y34n y34c y35 y36 b h hM
    unfold vt_colour_l0 at hM
    refine lwp_succ (cwp_part rfl ?_)
    refine cR ?_
    refine oZ [(40, .bool (decide (y36 < y35)))] ?_
    refine oE (cwp_seq ?_)
    refine cwp_condD (y36 < y35) (by kernel_rfl) (fun hc37 => ?_) (fun hc37 => ?_)
    · replace hM := ifT hc37 hM
      refine cwp_skip (thenE_n (cwp_seq (cwp_block (cR ?_))))
      obtain ⟨p40, rfl, hM⟩ := hM
      obtain ⟨hc38, hM⟩ := hM
      obtain ⟨hc39, hM⟩ := hM
      refine owp_rdG (.pointer (some (p40.add ((y36).toNat * 1)))) rfl (by kernel_rfl) (rd_ixS (P := Tryz.prog) (h := h) (t := 54) (el := 3) (sz := 1) (ad := p40) (len := y34n) (c := y34c) (k := .i64) (i := y36) (by kernel_rfl) (by kernel_rfl) hc38 hc39 (by kernel_rfl)) ?_
      obtain ⟨x41, hc42, hM⟩ := hM
      refine oL (.int .i64 x41) (p40.add ((y36).toNat * 1)) hc42 ?_
      refine oZ [(7, .int .i64 x41)] ?_
      refine oE (cwp_seq (cR ?_))
      refine oZ [(43, .int .i64 x41), (44, .bool (decide (255 < x41)))] ?_
      refine oE ?_
      refine cwp_condD (255 < x41) (by kernel_rfl) (fun hc44 => ?_) (fun hc44 => ?_)
      · replace hM := ifT hc44 hM
        refine cR ?_
        refine oZ [(2, .int .i64 (-1)), (3, .int .i64 4)] ?_
        refine oE (cwp_ret (thenE_r (blockE_r (thenE_r ?_))))
        exact q_at (Q := Q .ret) 2 (.int .i64 (-1)) (by kernel_rfl) (q_at (Q := Q .ret) 3 (.int .i64 4) (by kernel_rfl) (hKr (-1) 4 _ _ hM))
      replace hM := ifF hc44 hM
      refine cwp_skip (thenE_n (cwp_region ?_))
      refine oZ [(45, .int .i64 y33), (46, .int .i64 (IntKind.wrap .i64 (y33 * 256))), (47, .int .i64 x41), (48, .int .i64 (imax 0 x41)), (49, .int .i64 (IntKind.wrap .i64 ((IntKind.wrap .i64 (y33 * 256)) + (imax 0 x41)))), (5, .int .i64 (IntKind.wrap .i64 ((IntKind.wrap .i64 (y33 * 256)) + (imax 0 x41))))] ?_
      refine owp_nil (blockE_n (thenE_n (cwp_region ?_)))
      refine oZ [(50, .int .i64 (IntKind.wrap .i64 (y36 + 1))), (39, .int .i64 (IntKind.wrap .i64 (y36 + 1)))] ?_
      refine owp_nil ?_
      exact lA 5 (.int .i64 (IntKind.wrap .i64 ((IntKind.wrap .i64 (y33 * 256)) + (imax 0 x41)))) (lA 37 (.slice (some p40) y34n y34c) (lA 38 (.int .i64 y35) (lA 39 (.int .i64 (IntKind.wrap .i64 (y36 + 1))) (ih (IntKind.wrap .i64 ((IntKind.wrap .i64 (y33 * 256)) + (imax 0 x41))) (some p40) y34n y34c y35 (IntKind.wrap .i64 (y36 + 1)) _ _ hM))))
    replace hM := ifF hc37 hM
    refine cwp_exit (thenE_x ?_)
    exact q_at (Q := Q (.exit 1)) 5 (.int .i64 y33) (by kernel_rfl) (hK1 y33 _ _ hM)
def vt_colour (a1 : Option Addr) (a1n : Nat) (a1c : Nat) (K : Int → Int → Heap → Prop) (h : Heap) : Prop :=
 if 2 ≤ (a1n : Int) then
  nz a1 fun p8 =>
  0 ≤ (0 : Int) ∧
  (0 : Int) < (a1n : Int) ∧
  ldI h .i64 (p8.add (((0 : Int)).toNat * 1)) fun x9 =>
  if x9 = 5 then
   0 ≤ (1 : Int) ∧
   (1 : Int) < (a1n : Int) ∧
   ldI h .i64 (p8.add (((1 : Int)).toNat * 1)) fun x15 =>
   if 255 < (imax 0 x15) then
    K (-1) 2 h
   else
   K (IntKind.wrap .i64 ((imax 0 x15) + 1)) 2 h
  else
  if 4 ≤ (a1n : Int) then
   0 ≤ (0 : Int) ∧
   (0 : Int) < (a1n : Int) ∧
   ldI h .i64 (p8.add (((0 : Int)).toNat * 1)) fun x27 =>
   if x27 = 2 then
    (4 : Int) ≤ (a1c : Int) ∧
    (1 : Int) ≤ (4 : Int) ∧
    ∃ k61, vt_colour_l0
     (fun z54 h55 =>
         K (IntKind.wrap .i64 (257 + z54)) 4 h55)
     (fun z57 z58 h59 =>
         K z57 z58 h59) k61 0 (cutA (some p8) a1c (1 : Int).toNat 1) ((4 : Int).toNat - (1 : Int).toNat) (a1c - (1 : Int).toNat) (((4 : Int).toNat - (1 : Int).toNat) : Int) 0 h
   else
   K 0 0 h
  else
  K 0 0 h
 else
 if 4 ≤ (a1n : Int) then
  nz a1 fun p68 =>
  0 ≤ (0 : Int) ∧
  (0 : Int) < (a1n : Int) ∧
  ldI h .i64 (p68.add (((0 : Int)).toNat * 1)) fun x69 =>
  if x69 = 2 then
   (4 : Int) ≤ (a1c : Int) ∧
   (1 : Int) ≤ (4 : Int) ∧
   ∃ k82, vt_colour_l0
    (fun z75 h76 =>
        K (IntKind.wrap .i64 (257 + z75)) 4 h76)
    (fun z78 z79 h80 =>
        K z78 z79 h80) k82 0 (cutA (some p68) a1c (1 : Int).toNat 1) ((4 : Int).toNat - (1 : Int).toNat) (a1c - (1 : Int).toNat) (((4 : Int).toNat - (1 : Int).toNat) : Int) 0 h
  else
  K 0 0 h
 else
 K 0 0 h
theorem vt_colour_ok (a1 : Option Addr) (a1n : Nat) (a1c : Nat) (K : Int → Int → Heap → Prop) (h : Heap) (hM : vt_colour a1 a1n a1c K h) : CallsH Tryz.prog 171 #[.slice a1 a1n a1c] (fun v h' => ∃ (r83 : Int) (r84 : Int), v = .tuple #[.int .i64 r83, .int .i64 r84] ∧ K r83 r84 h') h := by
 unfold vt_colour at hM
 refine callsH_intro (n := 53) Tryz.func171 rfl rfl (by kernel_rfl) ?_
 refine cR ?_
 refine oZ [(2, .int .i64 0), (3, .int .i64 0)] ?_
 refine oE (cwp_seq (cwp_block (cR ?_)))
 refine oZ [(9, .slice a1 a1n a1c), (10, .int .i64 (a1n : Int)), (11, .bool (decide (2 ≤ (a1n : Int)))), (12, .bool (decide (2 ≤ (a1n : Int))))] ?_
 by_cases hc5 : 2 ≤ (a1n : Int)
 · refine oA 11 true (decide (2 ≤ (a1n : Int))) (by rw [decide_eq_true hc5]) ?_
   refine oA 12 true (decide (2 ≤ (a1n : Int))) (by rw [decide_eq_true hc5]) ?_
   replace hM := ifT hc5 hM
   refine oZ [(13, .slice a1 a1n a1c)] ?_
   obtain ⟨p8, rfl, hM⟩ := hM
   obtain ⟨hc6, hM⟩ := hM
   obtain ⟨hc7, hM⟩ := hM
   refine owp_rdG (.pointer (some (p8.add (((0 : Int)).toNat * 1)))) rfl (by kernel_rfl) (rd_ixS (P := Tryz.prog) (h := h) (t := 54) (el := 3) (sz := 1) (ad := p8) (len := a1n) (c := a1c) (k := .i64) (i := 0) (by kernel_rfl) (by kernel_rfl) hc6 hc7 (by kernel_rfl)) ?_
   obtain ⟨x9, hc10, hM⟩ := hM
   refine oL (.int .i64 x9) (p8.add (((0 : Int)).toNat * 1)) hc10 ?_
   refine oZ [(16, .bool (decide (x9 = 5))), (17, .bool (decide (x9 = 5))), (8, .bool (decide (x9 = 5)))] ?_
   refine oE ?_
   refine cwp_condD (x9 = 5) (by kernel_rfl) (fun hc12 => ?_) (fun hc12 => ?_)
   · replace hM := ifT hc12 hM
     refine cR ?_
     refine oZ [(18, .slice (some p8) a1n a1c)] ?_
     obtain ⟨hc13, hM⟩ := hM
     obtain ⟨hc14, hM⟩ := hM
     refine owp_rdG (.pointer (some (p8.add (((1 : Int)).toNat * 1)))) rfl (by kernel_rfl) (rd_ixS (P := Tryz.prog) (h := h) (t := 54) (el := 3) (sz := 1) (ad := p8) (len := a1n) (c := a1c) (k := .i64) (i := 1) (by kernel_rfl) (by kernel_rfl) hc13 hc14 (by kernel_rfl)) ?_
     obtain ⟨x15, hc16, hM⟩ := hM
     refine oL (.int .i64 x15) (p8.add (((1 : Int)).toNat * 1)) hc16 ?_
     refine oZ [(21, .int .i64 (imax 0 x15)), (4, .int .i64 (imax 0 x15))] ?_
     refine oE (cwp_seq (cR ?_))
     refine oZ [(22, .int .i64 (imax 0 x15)), (23, .bool (decide (255 < (imax 0 x15))))] ?_
     refine oE ?_
     refine cwp_condD (255 < (imax 0 x15)) (by kernel_rfl) (fun hc18 => ?_) (fun hc18 => ?_)
     · replace hM := ifT hc18 hM
       refine cR ?_
       refine oZ [(2, .int .i64 (-1)), (3, .int .i64 2)] ?_
       refine oE (cwp_ret (thenE_r (blockE_r (thenE_r ?_))))
       exact ret_ (.tuple #[.int .i64 (-1), .int .i64 2]) (by kernel_rfl) ⟨_, _, rfl, hM⟩
     replace hM := ifF hc18 hM
     refine cwp_skip (thenE_n (cR ?_))
     refine oZ [(24, .int .i64 (imax 0 x15)), (25, .int .i64 (IntKind.wrap .i64 ((imax 0 x15) + 1))), (2, .int .i64 (IntKind.wrap .i64 ((imax 0 x15) + 1))), (3, .int .i64 2)] ?_
     refine oE (cwp_ret (blockE_r (thenE_r ?_)))
     exact ret_ (.tuple #[.int .i64 (IntKind.wrap .i64 ((imax 0 x15) + 1)), .int .i64 2]) (by kernel_rfl) ⟨_, _, rfl, hM⟩
   replace hM := ifF hc12 hM
   refine cR ?_
   refine oZ [(27, .slice (some p8) a1n a1c), (28, .int .i64 (a1n : Int)), (29, .bool (decide (4 ≤ (a1n : Int)))), (30, .bool (decide (4 ≤ (a1n : Int))))] ?_
   by_cases hc24 : 4 ≤ (a1n : Int)
   · refine oA 29 true (decide (4 ≤ (a1n : Int))) (by rw [decide_eq_true hc24]) ?_
     refine oA 30 true (decide (4 ≤ (a1n : Int))) (by rw [decide_eq_true hc24]) ?_
     replace hM := ifT hc24 hM
     refine oZ [(31, .slice (some p8) a1n a1c)] ?_
     obtain ⟨hc25, hM⟩ := hM
     obtain ⟨hc26, hM⟩ := hM
     refine owp_rdG (.pointer (some (p8.add (((0 : Int)).toNat * 1)))) rfl (by kernel_rfl) (rd_ixS (P := Tryz.prog) (h := h) (t := 54) (el := 3) (sz := 1) (ad := p8) (len := a1n) (c := a1c) (k := .i64) (i := 0) (by kernel_rfl) (by kernel_rfl) hc25 hc26 (by kernel_rfl)) ?_
     obtain ⟨x27, hc28, hM⟩ := hM
     refine oL (.int .i64 x27) (p8.add (((0 : Int)).toNat * 1)) hc28 ?_
     refine oZ [(34, .bool (decide (x27 = 2))), (35, .bool (decide (x27 = 2))), (26, .bool (decide (x27 = 2)))] ?_
     refine oE ?_
     refine cwp_condD (x27 = 2) (by kernel_rfl) (fun hc30 => ?_) (fun hc30 => ?_)
     · replace hM := ifT hc30 hM
       refine cR ?_
       refine oZ [(5, .int .i64 0)] ?_
       refine oE (cwp_seq (cR ?_))
       refine oZ [(36, .slice (some p8) a1n a1c)] ?_
       obtain ⟨hc31, hM⟩ := hM
       obtain ⟨hc32, hM⟩ := hM
       refine owp_rdG (.slice (cutA (some p8) a1c (1 : Int).toNat 1) ((4 : Int).toNat - (1 : Int).toNat) (a1c - (1 : Int).toNat)) rfl (by kernel_rfl) (rd_sSLH (P := Tryz.prog) (h := h) (t := 54) (el := 3) (sz := 1) (a := (some p8)) (n := a1n) (c := a1c) (k := .i64) (k' := .i64) (i := (1 : Int)) (j := (4 : Int)) (by kernel_rfl) (by kernel_rfl) (by decide) hc31 (by decide) hc32 (by kernel_rfl)) ?_
       refine oZ [(38, .int .i64 (((4 : Int).toNat - (1 : Int).toNat) : Int)), (39, .int .i64 0)] ?_
       refine oE (cwp_block ?_)
       obtain ⟨k_, hM⟩ := hM
       refine cwp_loop k_ (lwp_of_part (fn := Tryz.f171) (p := [1, 0, 0, 1, 1, 1, 0, 1, 0, 1, 0, 0]) (by kernel_rfl) (lA 5 (.int .i64 0) (lA 37 (.slice (cutA (some p8) a1c (1 : Int).toNat 1) ((4 : Int).toNat - (1 : Int).toNat) (a1c - (1 : Int).toNat)) (lA 38 (.int .i64 (((4 : Int).toNat - (1 : Int).toNat) : Int)) (lA 39 (.int .i64 0) (vt_colour_l0_ok _ ?_ _ ?_ k_ 0 (cutA (some p8) a1c (1 : Int).toNat 1) ((4 : Int).toNat - (1 : Int).toNat) (a1c - (1 : Int).toNat) (((4 : Int).toNat - (1 : Int).toNat) : Int) 0 _ _ hM))))))
       · intro z54 b56 h55 hM
         refine blockE_h (thenE_n (cR ?_))
         refine oZ [(51, .int .i64 z54), (52, .int .i64 (IntKind.wrap .i64 (257 + z54))), (2, .int .i64 (IntKind.wrap .i64 (257 + z54))), (3, .int .i64 4)] ?_
         refine oE (cwp_ret (blockE_r (thenE_r ?_)))
         exact ret_ (.tuple #[.int .i64 (IntKind.wrap .i64 (257 + z54)), .int .i64 4]) (by kernel_rfl) ⟨_, _, rfl, hM⟩
       · intro z57 z58 b60 h59 hM
         refine blockE_r (thenE_r (blockE_r (thenE_r ?_)))
         exact ret_ (.tuple #[.int .i64 z57, .int .i64 z58]) (by kernel_rfl) ⟨_, _, rfl, hM⟩
     replace hM := ifF hc30 hM
     refine cwp_skip (blockE_n (thenE_n (cR ?_)))
     refine oZ [(2, .int .i64 0), (3, .int .i64 0)] ?_
     refine oE (cwp_ret ?_)
     exact ret_ (.tuple #[.int .i64 0, .int .i64 0]) (by kernel_rfl) ⟨_, _, rfl, hM⟩
   refine oA 29 false (decide (4 ≤ (a1n : Int))) (by rw [decide_eq_false hc24]) ?_
   refine oA 30 false (decide (4 ≤ (a1n : Int))) (by rw [decide_eq_false hc24]) ?_
   replace hM := ifF hc24 hM
   refine oZ [(31, undef), (32, undef), (33, undef), (34, undef), (35, .bool false), (26, .bool false)] ?_
   refine oE ?_
   refine cwp_cond (t := false) (by kernel_rfl) (fun hx_ => ?_) (fun hx_ => ?_)
   all_goals first | (cases hx_; done) | skip
   refine cwp_skip (blockE_n (thenE_n (cR ?_)))
   refine oZ [(2, .int .i64 0), (3, .int .i64 0)] ?_
   refine oE (cwp_ret ?_)
   exact ret_ (.tuple #[.int .i64 0, .int .i64 0]) (by kernel_rfl) ⟨_, _, rfl, hM⟩
 refine oA 11 false (decide (2 ≤ (a1n : Int))) (by rw [decide_eq_false hc5]) ?_
 refine oA 12 false (decide (2 ≤ (a1n : Int))) (by rw [decide_eq_false hc5]) ?_
 replace hM := ifF hc5 hM
 refine oZ [(13, undef), (14, undef), (15, undef), (16, undef), (17, .bool false), (8, .bool false)] ?_
 refine oE ?_
 refine cwp_cond (t := false) (by kernel_rfl) (fun hx_ => ?_) (fun hx_ => ?_)
 all_goals first | (cases hx_; done) | skip
 refine cR ?_
 refine oZ [(27, .slice a1 a1n a1c), (28, .int .i64 (a1n : Int)), (29, .bool (decide (4 ≤ (a1n : Int)))), (30, .bool (decide (4 ≤ (a1n : Int))))] ?_
 by_cases hc65 : 4 ≤ (a1n : Int)
 · refine oA 29 true (decide (4 ≤ (a1n : Int))) (by rw [decide_eq_true hc65]) ?_
   refine oA 30 true (decide (4 ≤ (a1n : Int))) (by rw [decide_eq_true hc65]) ?_
   replace hM := ifT hc65 hM
   refine oZ [(31, .slice a1 a1n a1c)] ?_
   obtain ⟨p68, rfl, hM⟩ := hM
   obtain ⟨hc66, hM⟩ := hM
   obtain ⟨hc67, hM⟩ := hM
   refine owp_rdG (.pointer (some (p68.add (((0 : Int)).toNat * 1)))) rfl (by kernel_rfl) (rd_ixS (P := Tryz.prog) (h := h) (t := 54) (el := 3) (sz := 1) (ad := p68) (len := a1n) (c := a1c) (k := .i64) (i := 0) (by kernel_rfl) (by kernel_rfl) hc66 hc67 (by kernel_rfl)) ?_
   obtain ⟨x69, hc70, hM⟩ := hM
   refine oL (.int .i64 x69) (p68.add (((0 : Int)).toNat * 1)) hc70 ?_
   refine oZ [(34, .bool (decide (x69 = 2))), (35, .bool (decide (x69 = 2))), (26, .bool (decide (x69 = 2)))] ?_
   refine oE ?_
   refine cwp_condD (x69 = 2) (by kernel_rfl) (fun hc72 => ?_) (fun hc72 => ?_)
   · replace hM := ifT hc72 hM
     refine cR ?_
     refine oZ [(5, .int .i64 0)] ?_
     refine oE (cwp_seq (cR ?_))
     refine oZ [(36, .slice (some p68) a1n a1c)] ?_
     obtain ⟨hc73, hM⟩ := hM
     obtain ⟨hc74, hM⟩ := hM
     refine owp_rdG (.slice (cutA (some p68) a1c (1 : Int).toNat 1) ((4 : Int).toNat - (1 : Int).toNat) (a1c - (1 : Int).toNat)) rfl (by kernel_rfl) (rd_sSLH (P := Tryz.prog) (h := h) (t := 54) (el := 3) (sz := 1) (a := (some p68)) (n := a1n) (c := a1c) (k := .i64) (k' := .i64) (i := (1 : Int)) (j := (4 : Int)) (by kernel_rfl) (by kernel_rfl) (by decide) hc73 (by decide) hc74 (by kernel_rfl)) ?_
     refine oZ [(38, .int .i64 (((4 : Int).toNat - (1 : Int).toNat) : Int)), (39, .int .i64 0)] ?_
     refine oE (cwp_block ?_)
     obtain ⟨k_, hM⟩ := hM
     refine cwp_loop k_ (lwp_of_part (fn := Tryz.f171) (p := [1, 0, 0, 1, 1, 1, 0, 1, 0, 1, 0, 0]) (by kernel_rfl) (lA 5 (.int .i64 0) (lA 37 (.slice (cutA (some p68) a1c (1 : Int).toNat 1) ((4 : Int).toNat - (1 : Int).toNat) (a1c - (1 : Int).toNat)) (lA 38 (.int .i64 (((4 : Int).toNat - (1 : Int).toNat) : Int)) (lA 39 (.int .i64 0) (vt_colour_l0_ok _ ?_ _ ?_ k_ 0 (cutA (some p68) a1c (1 : Int).toNat 1) ((4 : Int).toNat - (1 : Int).toNat) (a1c - (1 : Int).toNat) (((4 : Int).toNat - (1 : Int).toNat) : Int) 0 _ _ hM))))))
     · intro z75 b77 h76 hM
       refine blockE_h (thenE_n (cR ?_))
       refine oZ [(51, .int .i64 z75), (52, .int .i64 (IntKind.wrap .i64 (257 + z75))), (2, .int .i64 (IntKind.wrap .i64 (257 + z75))), (3, .int .i64 4)] ?_
       refine oE (cwp_ret (blockE_r (thenE_r ?_)))
       exact ret_ (.tuple #[.int .i64 (IntKind.wrap .i64 (257 + z75)), .int .i64 4]) (by kernel_rfl) ⟨_, _, rfl, hM⟩
     · intro z78 z79 b81 h80 hM
       refine blockE_r (thenE_r (blockE_r (thenE_r ?_)))
       exact ret_ (.tuple #[.int .i64 z78, .int .i64 z79]) (by kernel_rfl) ⟨_, _, rfl, hM⟩
   replace hM := ifF hc72 hM
   refine cwp_skip (blockE_n (thenE_n (cR ?_)))
   refine oZ [(2, .int .i64 0), (3, .int .i64 0)] ?_
   refine oE (cwp_ret ?_)
   exact ret_ (.tuple #[.int .i64 0, .int .i64 0]) (by kernel_rfl) ⟨_, _, rfl, hM⟩
 refine oA 29 false (decide (4 ≤ (a1n : Int))) (by rw [decide_eq_false hc65]) ?_
 refine oA 30 false (decide (4 ≤ (a1n : Int))) (by rw [decide_eq_false hc65]) ?_
 replace hM := ifF hc65 hM
 refine oZ [(31, undef), (32, undef), (33, undef), (34, undef), (35, .bool false), (26, .bool false)] ?_
 refine oE ?_
 refine cwp_cond (t := false) (by kernel_rfl) (fun hx_ => ?_) (fun hx_ => ?_)
 all_goals first | (cases hx_; done) | skip
 refine cwp_skip (blockE_n (thenE_n (cR ?_)))
 refine oZ [(2, .int .i64 0), (3, .int .i64 0)] ?_
 refine oE (cwp_ret ?_)
 exact ret_ (.tuple #[.int .i64 0, .int .i64 0]) (by kernel_rfl) ⟨_, _, rfl, hM⟩
end Go.Proofs.YthjdnhhifjpidaaGreatDoor.M
