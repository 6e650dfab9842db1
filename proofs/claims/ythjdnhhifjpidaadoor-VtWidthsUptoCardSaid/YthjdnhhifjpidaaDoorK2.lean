/-
  PRINTED BY A PROGRAM OF THIS CLAIM'S (gen.py): for each Go function a Lean function over memory, and the proof that the code comes to what it says.
-/
import Derived.Test.YthjdnhhifjpidaaDoorK1
import Derived.Test.YthjdnhhifjpidaaDoorProg
set_option linter.unusedVariables false
set_option linter.unusedSimpArgs false
set_option maxRecDepth 100000
set_option maxHeartbeats 1000000
namespace Go.Proofs.YthjdnhhifjpidaaDoor.M
open Go Go.Hp
/- (*mullion/vt.Screen).others -/
def vt_Screen_others_l0 (K1 : Heap → Prop) : Nat → Option Addr → Int → Int → Heap → Prop
  | 0, _, _, _, _ => False
  | k + 1, y8, y9, y10, h =>
  if y10 < y9 then
   nz y8 fun p13 =>
   ldI h .i32 (p13.add 40) fun x14 =>
   if x14 = 0 then
    K1  h
   else
   ldI h .i32 (p13.add 40) fun x18 =>
   vt_Screen_write (some p13) x18 (fun  h21 =>
     vt_Screen_others_l0 K1 k (some p13) y9 (IntKind.wrap .i64 (y10 + 1)) h21) h
  else
  K1  h
theorem vt_Screen_others_l0_ok {Q : Exit → Env → Heap → Prop} (K1 : Heap → Prop) (hK1 : ∀  (b : Env) (h : Heap), K1  h → Q (.exit 1) b h) : ∀ (k : Nat) (y8 : Option Addr) (y9 : Int) (y10 : Int) (b : Env) (h : Heap) (hM : vt_Screen_others_l0 K1 k y8 y9 y10 h), lwp Tryd.prog (partC Tryd.f73 [1, 1, 0, 1, 0, 1, 0, 0]) 182 Q k (upd (upd (upd b 0 (.pointer y8)) 3 (.int .i64 y9)) 9 (.int .i64 y10)) h := by
  intro k
  induction k with
  | zero => intro y8 y9 y10 b h hM; exact (show False from hM).elim
  | succ k ih =>
    intro y8 y9 y10 b h hM
    unfold vt_Screen_others_l0 at hM
    refine lwp_succ (cwp_part rfl ?_)
    refine cwp_seq (cR ?_)
    refine oS [(19, .int .i64 y10), (20, .int .i64 y9), (21, .bool (decide (y10 < y9))), (22, .bool (decide (y10 < y9)))] rfl ?_
    by_cases hc12 : y10 < y9
    · refine owp_at 21 (.bool true) (Eq.trans (b := .bool (decide (y10 < y9))) (by kernel_rfl) (by rw [decide_eq_true hc12])) ?_
      refine owp_at 22 (.bool true) (Eq.trans (b := .bool (decide (y10 < y9))) (by kernel_rfl) (by rw [decide_eq_true hc12])) ?_
      replace hM := ifT hc12 hM
      refine oS [(23, .pointer y8)] rfl ?_
      obtain ⟨p13, rfl, hM⟩ := hM
      refine owp_rdG (.pointer (some p13)) rfl (by kernel_rfl) (by kernel_rfl) ?_
      refine oS [(25, .pointer (some (p13.add 40)))] rfl ?_
      obtain ⟨x14, hc15, hM⟩ := hM
      refine owp_rdG (.int .i32 x14) rfl (by kernel_rfl) (Eq.trans (b := (cellH h (p13.add 40)).bind fun v16 => some (.value v16)) (by kernel_rfl) (bindE hc15 _)) ?_
      refine oS [(27, .bool (!decide (x14 = 0))), (28, .bool (!decide (x14 = 0)))] rfl ?_
      refine oE ?_
      refine cwp_condN (x14 = 0) (by kernel_rfl) (fun hc17 => ?_) (fun hc17 => ?_)
      · replace hM := ifT hc17 hM
        refine cwp_exit (thenE_x ?_)
        exact hK1  _ _ hM
      replace hM := ifF hc17 hM
      refine cwp_skip (thenE_n (cwp_seq (cwp_block (cwp_region ?_))))
      refine oS [(31, .pointer (some p13)), (32, .pointer (some p13)), (33, .pointer (some p13)), (34, .pointer (some (p13.add 40)))] rfl ?_
      obtain ⟨x18, hc19, hM⟩ := hM
      refine owp_rdG (.int .i32 x18) rfl (by kernel_rfl) (Eq.trans (b := (cellH h (p13.add 40)).bind fun v20 => some (.value v20)) (by kernel_rfl) (bindE hc19 _)) ?_
      refine owp_hpG rfl (by kernel_rfl) (hpCallE 36 #[.pointer (some p13), .int .i32 x18] (by kernel_rfl) (vt_Screen_write_ok (some p13) x18 _ h hM) ?_)
      clear hM
      rintro _ h21 ⟨rfl, hM⟩
      refine owp_nil (blockE_n (thenE_n (cwp_region ?_)))
      refine oS [(29, .int .i64 y10), (30, .int .i64 (IntKind.wrap .i64 (y10 + 1))), (9, .int .i64 (IntKind.wrap .i64 (y10 + 1)))] rfl ?_
      refine owp_nil ?_
      exact lwp_at 0 (.pointer (some p13)) (by kernel_rfl) (lwp_at 3 (.int .i64 y9) (by kernel_rfl) (lwp_at 9 (.int .i64 (IntKind.wrap .i64 (y10 + 1))) (by kernel_rfl) (ih (some p13) y9 (IntKind.wrap .i64 (y10 + 1)) _ _ hM)))
    refine owp_at 21 (.bool false) (Eq.trans (b := .bool (decide (y10 < y9))) (by kernel_rfl) (by rw [decide_eq_false hc12])) ?_
    refine owp_at 22 (.bool false) (Eq.trans (b := .bool (decide (y10 < y9))) (by kernel_rfl) (by rw [decide_eq_false hc12])) ?_
    replace hM := ifF hc12 hM
    refine oS [(23, undef), (24, undef), (25, undef), (26, undef), (27, undef), (28, .bool false)] rfl ?_
    refine oE ?_
    refine cwp_cond (t := false) (by kernel_rfl) (fun hx_ => ?_) (fun hx_ => ?_)
    all_goals first | (cases hx_; done) | skip
    refine cwp_exit (thenE_x ?_)
    exact hK1  _ _ hM
def vt_Screen_others_l2 (K3 : Heap → Prop) : Nat → Option Addr → Int → Option Addr → Nat → Nat → Int → Int → Heap → Prop
  | 0, _, _, _, _, _, _, _, _ => False
  | k + 1, y54, y55, y56, y56n, y56c, y57, y58, h =>
  if y58 < y57 then
   nz y56 fun p62 =>
   0 ≤ y58 ∧
   y58 < (y56n : Int) ∧
   ldI h .i64 (p62.add ((y58).toNat * 1)) fun x63 =>
   if x63 = 4 then
    nz y54 fun p67 =>
    stN (p67.add 22) [.bool (decide (y55 = 104))] 0 h fun h68 =>
    vt_Screen_others_l2 K3 k (some p67) y55 (some p62) y56n y56c y57 (IntKind.wrap .i64 (y58 + 1)) h68
   else
   if x63 = 20 then
    nz y54 fun p70 =>
    stN (p70.add 23) [.bool (decide (y55 = 104))] 0 h fun h71 =>
    vt_Screen_others_l2 K3 k (some p70) y55 (some p62) y56n y56c y57 (IntKind.wrap .i64 (y58 + 1)) h71
   else
   vt_Screen_others_l2 K3 k y54 y55 (some p62) y56n y56c y57 (IntKind.wrap .i64 (y58 + 1)) h
  else
  K3  h
theorem vt_Screen_others_l2_ok {Q : Exit → Env → Heap → Prop} (K3 : Heap → Prop) (hK3 : ∀  (b : Env) (h : Heap), K3  h → Q (.exit 3) b h) : ∀ (k : Nat) (y54 : Option Addr) (y55 : Int) (y56 : Option Addr) (y56n : Nat) (y56c : Nat) (y57 : Int) (y58 : Int) (b : Env) (h : Heap) (hM : vt_Screen_others_l2 K3 k y54 y55 y56 y56n y56c y57 y58 h), lwp Tryd.prog (partC Tryd.f73 [1, 1, 0, 1, 1, 1, 1, 1, 0, 1, 0, 0]) 182 Q k (upd (upd (upd (upd (upd b 0 (.pointer y54)) 1 (.int .u8 y55)) 60 (.slice y56 y56n y56c)) 61 (.int .i64 y57)) 62 (.int .i64 y58)) h := by
  intro k
  induction k with
  | zero => intro y54 y55 y56 y56n y56c y57 y58 b h hM; exact (show False from hM).elim
  | succ k ih =>
    intro y54 y55 y56 y56n y56c y57 y58 b h hM
    unfold vt_Screen_others_l2 at hM
    refine lwp_succ (cwp_part rfl ?_)
    refine cR ?_
    refine oS [(63, .bool (decide (y58 < y57)))] rfl ?_
    refine oE (cwp_seq ?_)
    refine cwp_condD (y58 < y57) (by kernel_rfl) (fun hc59 => ?_) (fun hc59 => ?_)
    · replace hM := ifT hc59 hM
      refine cwp_skip (thenE_n (cwp_seq (cwp_block (cR ?_))))
      obtain ⟨p62, rfl, hM⟩ := hM
      obtain ⟨hc60, hM⟩ := hM
      obtain ⟨hc61, hM⟩ := hM
      refine owp_rdG (.pointer (some (p62.add ((y58).toNat * 1)))) rfl (by kernel_rfl) (rd_ixS (P := Tryd.prog) (h := h) (t := 95) (el := 3) (sz := 1) (ad := p62) (len := y56n) (c := y56c) (k := .i64) (i := y58) (by kernel_rfl) (by kernel_rfl) hc60 hc61 (by kernel_rfl)) ?_
      obtain ⟨x63, hc64, hM⟩ := hM
      refine owp_rdG (.int .i64 x63) rfl (by kernel_rfl) (Eq.trans (b := (cellH h (p62.add ((y58).toNat * 1))).bind fun v65 => some (.value v65)) (by kernel_rfl) (bindE hc64 _)) ?_
      refine oS [(11, .int .i64 x63)] rfl ?_
      refine oE (cR ?_)
      refine oS [(66, .int .i64 x63)] rfl ?_
      refine oE (cwp_block (cR ?_))
      refine oS [(68, .bool (decide (x63 = 4))), (67, .bool (decide (x63 = 4)))] rfl ?_
      refine oE ?_
      refine cwp_condD (x63 = 4) (by kernel_rfl) (fun hc66 => ?_) (fun hc66 => ?_)
      · replace hM := ifT hc66 hM
        refine cwp_region ?_
        refine oS [(69, .pointer y54), (70, .int .u8 y55), (71, .bool (decide (y55 = 104)))] rfl ?_
        obtain ⟨p67, rfl, hM⟩ := hM
        refine owp_rdG (.pointer (some p67)) rfl (by kernel_rfl) (by kernel_rfl) ?_
        refine oS [(73, .pointer (some (p67.add 22)))] rfl ?_
        refine owp_hpD rfl (by kernel_rfl) (hpSt (p67.add 22) [.bool (decide (y55 = 104))] (fun _ => by kernel_rfl) (by kernel_rfl) hM ?_)
        clear hM
        intro h68 hM
        refine owp_nil (blockE_n (blockE_n (thenE_n (cwp_region ?_))))
        refine oS [(81, .int .i64 (IntKind.wrap .i64 (y58 + 1))), (62, .int .i64 (IntKind.wrap .i64 (y58 + 1)))] rfl ?_
        refine owp_nil ?_
        exact lwp_at 0 (.pointer (some p67)) (by kernel_rfl) (lwp_at 1 (.int .u8 y55) (by kernel_rfl) (lwp_at 60 (.slice (some p62) y56n y56c) (by kernel_rfl) (lwp_at 61 (.int .i64 y57) (by kernel_rfl) (lwp_at 62 (.int .i64 (IntKind.wrap .i64 (y58 + 1))) (by kernel_rfl) (ih (some p67) y55 (some p62) y56n y56c y57 (IntKind.wrap .i64 (y58 + 1)) _ _ hM)))))
      replace hM := ifF hc66 hM
      refine cR ?_
      refine oS [(75, .bool (decide (x63 = 20))), (74, .bool (decide (x63 = 20)))] rfl ?_
      refine oE ?_
      refine cwp_condD (x63 = 20) (by kernel_rfl) (fun hc69 => ?_) (fun hc69 => ?_)
      · replace hM := ifT hc69 hM
        refine cwp_region ?_
        refine oS [(76, .pointer y54), (77, .int .u8 y55), (78, .bool (decide (y55 = 104)))] rfl ?_
        obtain ⟨p70, rfl, hM⟩ := hM
        refine owp_rdG (.pointer (some p70)) rfl (by kernel_rfl) (by kernel_rfl) ?_
        refine oS [(80, .pointer (some (p70.add 23)))] rfl ?_
        refine owp_hpD rfl (by kernel_rfl) (hpSt (p70.add 23) [.bool (decide (y55 = 104))] (fun _ => by kernel_rfl) (by kernel_rfl) hM ?_)
        clear hM
        intro h71 hM
        refine owp_nil (blockE_n (blockE_n (thenE_n (cwp_region ?_))))
        refine oS [(81, .int .i64 (IntKind.wrap .i64 (y58 + 1))), (62, .int .i64 (IntKind.wrap .i64 (y58 + 1)))] rfl ?_
        refine owp_nil ?_
        exact lwp_at 0 (.pointer (some p70)) (by kernel_rfl) (lwp_at 1 (.int .u8 y55) (by kernel_rfl) (lwp_at 60 (.slice (some p62) y56n y56c) (by kernel_rfl) (lwp_at 61 (.int .i64 y57) (by kernel_rfl) (lwp_at 62 (.int .i64 (IntKind.wrap .i64 (y58 + 1))) (by kernel_rfl) (ih (some p70) y55 (some p62) y56n y56c y57 (IntKind.wrap .i64 (y58 + 1)) _ _ hM)))))
      replace hM := ifF hc69 hM
      refine cwp_skip (blockE_n (blockE_n (thenE_n (cwp_region ?_))))
      refine oS [(81, .int .i64 (IntKind.wrap .i64 (y58 + 1))), (62, .int .i64 (IntKind.wrap .i64 (y58 + 1)))] rfl ?_
      refine owp_nil ?_
      exact lwp_at 0 (.pointer y54) (by kernel_rfl) (lwp_at 1 (.int .u8 y55) (by kernel_rfl) (lwp_at 60 (.slice (some p62) y56n y56c) (by kernel_rfl) (lwp_at 61 (.int .i64 y57) (by kernel_rfl) (lwp_at 62 (.int .i64 (IntKind.wrap .i64 (y58 + 1))) (by kernel_rfl) (ih y54 y55 (some p62) y56n y56c y57 (IntKind.wrap .i64 (y58 + 1)) _ _ hM)))))
    replace hM := ifF hc59 hM
    refine cwp_exit (thenE_x ?_)
    exact hK3  _ _ hM
def vt_Screen_others_j3 (Kn : Heap → Prop) (y89 : Addr) (y90 : Int) (y91 : Int) (h : Heap) : Prop :=
 if y90 = 5 then
  False
 else
 if y90 = 6 then
  ldI h .i64 (y89.add 9) fun x94 =>
  ex (strconv_Itoa y91) fun r100 =>
  gap h fun h98 =>
  (cellH h98 (y89.add 9) = some (.int .i64 x94)) ∧
  (⟨#[27, 91]⟩ : ByteArray).size + r100.size ≤ 9223372036854775807 ∧
  ((⟨#[27, 91]⟩ : ByteArray) ++ r100).size + (⟨#[59]⟩ : ByteArray).size ≤ 9223372036854775807 ∧
  ex (strconv_Itoa (IntKind.wrap .i64 (x94 + 1))) fun r107 =>
  (((⟨#[27, 91]⟩ : ByteArray) ++ r100) ++ (⟨#[59]⟩ : ByteArray)).size + r107.size ≤ 9223372036854775807 ∧
  ((((⟨#[27, 91]⟩ : ByteArray) ++ r100) ++ (⟨#[59]⟩ : ByteArray)) ++ r107).size + (⟨#[82]⟩ : ByteArray).size ≤ 9223372036854775807 ∧
  False
 else
 Kn  h
theorem vt_Screen_others_j3_ok {Q : Exit → Env → Heap → Prop} (Kn : Heap → Prop) (hKn : ∀  (b : Env) (h : Heap), Kn  h → Q .normal b h) (y89 : Addr) (y90 : Int) (y91 : Int) (b : Env) (h : Heap) (hM : vt_Screen_others_j3 Kn y89 y90 y91 h) : cwp Tryd.prog (partC Tryd.f73 [1, 1, 0, 1, 1, 1, 1, 1, 1, 1, 1, 1, 0, 1, 1]) 182 Q (upd (upd (upd b 0 (.pointer (some y89))) 8 (.int .i64 y90)) 12 (.int .i64 y91)) h := by
  unfold vt_Screen_others_j3 at hM
  refine cwp_part rfl ?_
  refine cR ?_
  refine oS [(106, .int .i64 y90), (107, .bool (decide (y90 = 5)))] rfl ?_
  refine oE ?_
  refine cwp_condD (y90 = 5) (by kernel_rfl) (fun hc92 => ?_) (fun hc92 => ?_)
  · replace hM := ifT hc92 hM
    refine cwp_region ?_
    exact hM.elim
  replace hM := ifF hc92 hM
  refine cR ?_
  refine oS [(110, .int .i64 y90), (111, .bool (decide (y90 = 6)))] rfl ?_
  refine oE ?_
  refine cwp_condD (y90 = 6) (by kernel_rfl) (fun hc93 => ?_) (fun hc93 => ?_)
  · replace hM := ifT hc93 hM
    refine cwp_draw (by kernel_rfl) ?_
    refine k_pure (i := 0) [14] (.pointer (some y89)) (by kernel_rfl) rfl rfl (by kernel_rfl) (fun h' => by kernel_rfl) (by kernel_rfl) ?_
    refine k_pure (i := 1) [2, 3, 4, 11, 12, 13, 14] (.int .i64 y91) (by kernel_rfl) rfl rfl (by kernel_rfl) (fun h' => by kernel_rfl) (by kernel_rfl) ?_
    refine k_pure (i := 5) [6, 7, 8, 9, 10, 11, 12, 13, 14] (.pointer (some y89)) (by kernel_rfl) rfl rfl (by kernel_rfl) (fun h' => by kernel_rfl) (by kernel_rfl) ?_
    refine k_pure (i := 6) [7, 8, 9, 10, 11, 12, 13, 14] (.pointer (some y89)) (by kernel_rfl) rfl rfl (by kernel_rfl) (fun h' => by kernel_rfl) (by kernel_rfl) ?_
    refine k_pure (i := 7) [8, 9, 10, 11, 12, 13, 14] (.pointer (some (y89.add 9))) (by kernel_rfl) rfl rfl (by kernel_rfl) (fun h' => by kernel_rfl) (by kernel_rfl) ?_
    refine k_pure (i := 8) [9, 10, 11, 12, 13, 14] (.pointer (some (y89.add 9))) (by kernel_rfl) rfl rfl (by kernel_rfl) (fun h' => by kernel_rfl) (by kernel_rfl) ?_
    obtain ⟨x94, hc95, hM⟩ := hM
    refine k_load (i := 9) (.int .i64 x94) (fun h' => cellH h' (y89.add 9) = some (.int .i64 x94) ∧ True) [10, 11, 12, 13, 14] [11, 14] (by kernel_rfl) (by kernel_rfl) rfl rfl (by kernel_rfl) (fun h' hS => Eq.trans (b := (cellH h' (y89.add 9)).bind fun v97 => some (.value v97)) (by kernel_rfl) (bindE hS.1 _)) ⟨hc95, trivial⟩ (by kernel_rfl) ?_
    refine k_pure (i := 10) [11, 12, 13, 14] (.int .i64 (IntKind.wrap .i64 (x94 + 1))) (by kernel_rfl) rfl rfl (by kernel_rfl) (fun h' => by kernel_rfl) (by kernel_rfl) ?_
    obtain ⟨r100, hr101, hM⟩ := hM
    refine k_eff (j := 2) (by kernel_rfl) rfl rfl (by kernel_rfl) (hpCallP 79 #[.int .i64 y91] (.string r100) (by kernel_rfl) (strconv_Itoa_ok y91 r100 h hr101) ?_)
    intro h98 hx99
    replace hM := hM _ hx99
    obtain ⟨hk102, hM⟩ := hM
    refine ⟨⟨⟨hk102, trivial⟩, trivial⟩, ?_⟩
    obtain ⟨hc103, hM⟩ := hM
    refine k_pure (i := 3) [4, 12, 13, 14] (.string ((⟨#[27, 91]⟩ : ByteArray) ++ r100)) (by kernel_rfl) rfl rfl (by kernel_rfl) (fun h' => rd_cat (P := Tryd.prog) (h := h') (x := (⟨#[27, 91]⟩ : ByteArray)) (y := r100) hc103 (by kernel_rfl)) (by kernel_rfl) ?_
    obtain ⟨hc104, hM⟩ := hM
    refine k_pure (i := 4) [12, 13, 14] (.string (((⟨#[27, 91]⟩ : ByteArray) ++ r100) ++ (⟨#[59]⟩ : ByteArray))) (by kernel_rfl) rfl rfl (by kernel_rfl) (fun h' => rd_cat (P := Tryd.prog) (h := h') (x := ((⟨#[27, 91]⟩ : ByteArray) ++ r100)) (y := (⟨#[59]⟩ : ByteArray)) hc104 (by kernel_rfl)) (by kernel_rfl) ?_
    obtain ⟨r107, hr108, hM⟩ := hM
    refine k_eff (j := 11) (by kernel_rfl) rfl rfl (by kernel_rfl) (hpCallP 79 #[.int .i64 (IntKind.wrap .i64 (x94 + 1))] (.string r107) (by kernel_rfl) (strconv_Itoa_ok (IntKind.wrap .i64 (x94 + 1)) r107 h98 hr108) ?_)
    intro h105 hx106
    refine ⟨trivial, ?_⟩
    obtain ⟨hc109, hM⟩ := hM
    refine k_pure (i := 12) [13, 14] (.string ((((⟨#[27, 91]⟩ : ByteArray) ++ r100) ++ (⟨#[59]⟩ : ByteArray)) ++ r107)) (by kernel_rfl) rfl rfl (by kernel_rfl) (fun h' => rd_cat (P := Tryd.prog) (h := h') (x := (((⟨#[27, 91]⟩ : ByteArray) ++ r100) ++ (⟨#[59]⟩ : ByteArray))) (y := r107) hc109 (by kernel_rfl)) (by kernel_rfl) ?_
    obtain ⟨hc110, hM⟩ := hM
    refine k_pure (i := 13) [14] (.string (((((⟨#[27, 91]⟩ : ByteArray) ++ r100) ++ (⟨#[59]⟩ : ByteArray)) ++ r107) ++ (⟨#[82]⟩ : ByteArray))) (by kernel_rfl) rfl rfl (by kernel_rfl) (fun h' => rd_cat (P := Tryd.prog) (h := h') (x := ((((⟨#[27, 91]⟩ : ByteArray) ++ r100) ++ (⟨#[59]⟩ : ByteArray)) ++ r107)) (y := (⟨#[82]⟩ : ByteArray)) hc110 (by kernel_rfl)) (by kernel_rfl) ?_
    exact hM.elim
  replace hM := ifF hc93 hM
  refine cwp_skip ?_
  exact hKn  _ _ hM
def vt_Screen_others_j4 (Kn : Heap → Prop) (y133 : Addr) (y134 : Int) (y135 : Int) (h : Heap) : Prop :=
 if y134 < y135 then
  stN (y133.add 19) [.int .i64 (IntKind.wrap .i64 (y134 - 1))] 0 h fun h137 =>
  stN (y133.add 20) [.int .i64 (IntKind.wrap .i64 (y135 - 1))] 0 h137 fun h138 =>
  False
 else
 Kn  h
theorem vt_Screen_others_j4_ok {Q : Exit → Env → Heap → Prop} (Kn : Heap → Prop) (hKn : ∀  (b : Env) (h : Heap), Kn  h → Q .normal b h) (y133 : Addr) (y134 : Int) (y135 : Int) (b : Env) (h : Heap) (hM : vt_Screen_others_j4 Kn y133 y134 y135 h) : cwp Tryd.prog (partC Tryd.f73 [1, 1, 0, 1, 1, 1, 1, 1, 1, 1, 1, 1, 1, 1, 1, 1, 0, 1, 1]) 182 Q (upd (upd (upd b 0 (.pointer (some y133))) 3 (.int .i64 y134)) 13 (.int .i64 y135)) h := by
  unfold vt_Screen_others_j4 at hM
  refine cwp_part rfl ?_
  refine cR ?_
  refine oS [(155, .int .i64 y134), (156, .int .i64 y135), (157, .bool (decide (y134 < y135)))] rfl ?_
  refine oE ?_
  refine cwp_condD (y134 < y135) (by kernel_rfl) (fun hc136 => ?_) (fun hc136 => ?_)
  · replace hM := ifT hc136 hM
    refine cR ?_
    refine oS [(158, .pointer (some y133)), (159, .pointer (some y133)), (160, .int .i64 y134), (161, .int .i64 (IntKind.wrap .i64 (y134 - 1))), (162, .int .i64 y135), (163, .int .i64 (IntKind.wrap .i64 (y135 - 1))), (164, .pointer (some y133)), (165, .pointer (some (y133.add 19)))] rfl ?_
    refine owp_hpD rfl (by kernel_rfl) (hpSt (y133.add 19) [.int .i64 (IntKind.wrap .i64 (y134 - 1))] (fun _ => by kernel_rfl) (by kernel_rfl) hM ?_)
    clear hM
    intro h137 hM
    refine oS [(166, .pointer (some y133)), (167, .pointer (some (y133.add 20)))] rfl ?_
    refine owp_hpD rfl (by kernel_rfl) (hpSt (y133.add 20) [.int .i64 (IntKind.wrap .i64 (y135 - 1))] (fun _ => by kernel_rfl) (by kernel_rfl) hM ?_)
    clear hM
    intro h138 hM
    refine oE (cwp_region ?_)
    exact hM.elim
  replace hM := ifF hc136 hM
  refine cwp_skip ?_
  exact hKn  _ _ hM
def vt_Screen_others_j1 (Kn : Heap → Prop) (y46 : Option Addr) (y47 : Int) (y48 : Option Addr) (y48n : Nat) (y48c : Nat) (y49 : Int) (y50 : Int) (y51 : Int) (y52 : Bool) (h : Heap) : Prop :=
 if y52 = true then
  ∃ k74, vt_Screen_others_l2
   (fun  h72 =>
       Kn  h72) k74 y46 y47 y48 y48n y48c (y48n : Int) 0 h
 else
 if y51 = 109 then
  vt_Screen_pens y46 y48 y48n y48c (fun  h76 =>
    Kn  h76) h
 else
 if y51 = 110 then
  nz y46 fun p78 =>
  ldI h .i64 (p78.add 10) fun x79 =>
  ldB h (p78.add 14) fun x82 =>
  if x82 = true then
   ldI h .i64 (p78.add 19) fun x86 =>
   vt_Screen_others_j3
    (fun  h111 =>
        Kn  h111) p78 y50 (IntKind.wrap .i64 ((IntKind.wrap .i64 (x79 + 1)) - x86)) h
  else
  vt_Screen_others_j3
   (fun  h114 =>
       Kn  h114) p78 y50 (IntKind.wrap .i64 (x79 + 1)) h
 else
 if y51 = 99 then
  if y50 = 0 then
   False
  else
  Kn  h
 else
 if y51 = 114 then
  nz y46 fun p120 =>
  ldI h .i64 (p120.add 1) fun x121 =>
  vt_at y48 y48n y48c 1 x121 (fun x125 h124 =>
   if x125 = 0 then
    ldI h124 .i64 (p120.add 1) fun x130 =>
    vt_Screen_others_j4
     (fun  h139 =>
         Kn  h139) p120 y49 x130 h124
   else
   ldI h124 .i64 (p120.add 1) fun x142 =>
   if x142 < x125 then
    ldI h124 .i64 (p120.add 1) fun x146 =>
    vt_Screen_others_j4
     (fun  h149 =>
         Kn  h149) p120 y49 x146 h124
   else
   vt_Screen_others_j4
    (fun  h152 =>
         Kn  h152) p120 y49 x125 h124) h
 else
 if y51 = 115 then
  False
 else
 if y51 = 117 then
  False
 else
 Kn  h
theorem vt_Screen_others_j1_ok {Q : Exit → Env → Heap → Prop} (Kn : Heap → Prop) (hKn : ∀  (b : Env) (h : Heap), Kn  h → Q .normal b h) (y46 : Option Addr) (y47 : Int) (y48 : Option Addr) (y48n : Nat) (y48c : Nat) (y49 : Int) (y50 : Int) (y51 : Int) (y52 : Bool) (b : Env) (h : Heap) (hM : vt_Screen_others_j1 Kn y46 y47 y48 y48n y48c y49 y50 y51 y52 h) : cwp Tryd.prog (partC Tryd.f73 [1, 1, 0, 1, 1, 1, 1, 1]) 182 Q (upd (upd (upd (upd (upd (upd (upd b 0 (.pointer y46)) 1 (.int .u8 y47)) 2 (.slice y48 y48n y48c)) 3 (.int .i64 y49)) 8 (.int .i64 y50)) 16 (.int .u8 y51)) 57 (.bool y52)) h := by
  unfold vt_Screen_others_j1 at hM
  refine cwp_part rfl ?_
  refine cwp_condB y52 (by kernel_rfl) (fun hc53 => ?_) (fun hc53 => ?_)
  · replace hM := ifT hc53 hM
    refine cR ?_
    refine oS [(60, .slice y48 y48n y48c), (61, .int .i64 (y48n : Int)), (62, .int .i64 0)] rfl ?_
    refine oE (cwp_block ?_)
    obtain ⟨k_, hM⟩ := hM
    refine cwp_loop k_ (lwp_of_part (fn := Tryd.f73) (p := [1, 1, 0, 1, 1, 1, 1, 1, 0, 1, 0, 0]) (by kernel_rfl) (lwp_at 0 (.pointer y46) (by kernel_rfl) (lwp_at 1 (.int .u8 y47) (by kernel_rfl) (lwp_at 60 (.slice y48 y48n y48c) (by kernel_rfl) (lwp_at 61 (.int .i64 (y48n : Int)) (by kernel_rfl) (lwp_at 62 (.int .i64 0) (by kernel_rfl) (vt_Screen_others_l2_ok _ ?_ k_ y46 y47 y48 y48n y48c (y48n : Int) 0 _ _ hM)))))))
    · intro  b73 h72 hM
      refine blockE_h ?_
      exact hKn  _ _ hM
  replace hM := ifF hc53 hM
  refine cR ?_
  refine oS [(83, .bool (decide (y51 = 109))), (82, .bool (decide (y51 = 109)))] rfl ?_
  refine oE ?_
  refine cwp_condD (y51 = 109) (by kernel_rfl) (fun hc75 => ?_) (fun hc75 => ?_)
  · replace hM := ifT hc75 hM
    refine cwp_region ?_
    refine oS [(84, .pointer y46), (85, .slice y48 y48n y48c)] rfl ?_
    refine owp_hpG rfl (by kernel_rfl) (hpCallE 77 #[.pointer y46, .slice y48 y48n y48c] (by kernel_rfl) (vt_Screen_pens_ok y46 y48 y48n y48c _ h hM) ?_)
    clear hM
    rintro _ h76 ⟨rfl, hM⟩
    refine owp_nil ?_
    exact hKn  _ _ hM
  replace hM := ifF hc75 hM
  refine cR ?_
  refine oS [(88, .bool (decide (y51 = 110))), (87, .bool (decide (y51 = 110)))] rfl ?_
  refine oE ?_
  refine cwp_condD (y51 = 110) (by kernel_rfl) (fun hc77 => ?_) (fun hc77 => ?_)
  · replace hM := ifT hc77 hM
    refine cR ?_
    refine oS [(89, .pointer y46)] rfl ?_
    obtain ⟨p78, rfl, hM⟩ := hM
    refine owp_rdG (.pointer (some p78)) rfl (by kernel_rfl) (by kernel_rfl) ?_
    refine oS [(91, .pointer (some (p78.add 9))), (92, .pointer (some (p78.add 10)))] rfl ?_
    obtain ⟨x79, hc80, hM⟩ := hM
    refine owp_rdG (.int .i64 x79) rfl (by kernel_rfl) (Eq.trans (b := (cellH h (p78.add 10)).bind fun v81 => some (.value v81)) (by kernel_rfl) (bindE hc80 _)) ?_
    refine oS [(94, .int .i64 (IntKind.wrap .i64 (x79 + 1))), (12, .int .i64 (IntKind.wrap .i64 (x79 + 1)))] rfl ?_
    refine oE (cwp_seq (cR ?_))
    refine oS [(95, .pointer (some p78)), (96, .pointer (some p78)), (97, .pointer (some (p78.add 9))), (98, .pointer (some (p78.add 14)))] rfl ?_
    obtain ⟨x82, hc83, hM⟩ := hM
    refine owp_rdG (.bool x82) rfl (by kernel_rfl) (Eq.trans (b := (cellH h (p78.add 14)).bind fun v84 => some (.value v84)) (by kernel_rfl) (bindE hc83 _)) ?_
    refine oE ?_
    refine cwp_condB x82 (by kernel_rfl) (fun hc85 => ?_) (fun hc85 => ?_)
    · replace hM := ifT hc85 hM
      refine cwp_region ?_
      refine oS [(100, .int .i64 (IntKind.wrap .i64 (x79 + 1))), (101, .pointer (some p78)), (102, .pointer (some p78)), (103, .pointer (some (p78.add 19)))] rfl ?_
      obtain ⟨x86, hc87, hM⟩ := hM
      refine owp_rdG (.int .i64 x86) rfl (by kernel_rfl) (Eq.trans (b := (cellH h (p78.add 19)).bind fun v88 => some (.value v88)) (by kernel_rfl) (bindE hc87 _)) ?_
      refine oS [(105, .int .i64 (IntKind.wrap .i64 ((IntKind.wrap .i64 (x79 + 1)) - x86))), (12, .int .i64 (IntKind.wrap .i64 ((IntKind.wrap .i64 (x79 + 1)) - x86)))] rfl ?_
      refine oE ?_
      refine cwp_of_part (fn := Tryd.f73) (p := [1, 1, 0, 1, 1, 1, 1, 1, 1, 1, 1, 1, 0, 1, 1]) (by kernel_rfl) (cwp_at 0 (.pointer (some p78)) (by kernel_rfl) (cwp_at 8 (.int .i64 y50) (by kernel_rfl) (cwp_at 12 (.int .i64 (IntKind.wrap .i64 ((IntKind.wrap .i64 (x79 + 1)) - x86))) (by kernel_rfl) (vt_Screen_others_j3_ok _ ?_ p78 y50 (IntKind.wrap .i64 ((IntKind.wrap .i64 (x79 + 1)) - x86)) _ _ hM))))
      · intro  b112 h111 hM
        exact hKn  _ _ hM
    replace hM := ifF hc85 hM
    refine cwp_skip (thenE_n ?_)
    refine cwp_of_part (fn := Tryd.f73) (p := [1, 1, 0, 1, 1, 1, 1, 1, 1, 1, 1, 1, 0, 1, 1]) (by kernel_rfl) (cwp_at 0 (.pointer (some p78)) (by kernel_rfl) (cwp_at 8 (.int .i64 y50) (by kernel_rfl) (cwp_at 12 (.int .i64 (IntKind.wrap .i64 (x79 + 1))) (by kernel_rfl) (vt_Screen_others_j3_ok _ ?_ p78 y50 (IntKind.wrap .i64 (x79 + 1)) _ _ hM))))
    · intro  b115 h114 hM
      exact hKn  _ _ hM
  replace hM := ifF hc77 hM
  refine cR ?_
  refine oS [(128, .bool (decide (y51 = 99))), (127, .bool (decide (y51 = 99)))] rfl ?_
  refine oE ?_
  refine cwp_condD (y51 = 99) (by kernel_rfl) (fun hc117 => ?_) (fun hc117 => ?_)
  · replace hM := ifT hc117 hM
    refine cR ?_
    refine oS [(129, .int .i64 y50), (130, .bool (decide (y50 = 0)))] rfl ?_
    refine oE ?_
    refine cwp_condD (y50 = 0) (by kernel_rfl) (fun hc118 => ?_) (fun hc118 => ?_)
    · replace hM := ifT hc118 hM
      refine cwp_region ?_
      exact hM.elim
    replace hM := ifF hc118 hM
    refine cwp_skip ?_
    exact hKn  _ _ hM
  replace hM := ifF hc117 hM
  refine cR ?_
  refine oS [(134, .bool (decide (y51 = 114))), (133, .bool (decide (y51 = 114)))] rfl ?_
  refine oE ?_
  refine cwp_condD (y51 = 114) (by kernel_rfl) (fun hc119 => ?_) (fun hc119 => ?_)
  · replace hM := ifT hc119 hM
    refine cR ?_
    refine oS [(135, .slice y48 y48n y48c), (136, .pointer y46)] rfl ?_
    obtain ⟨p120, rfl, hM⟩ := hM
    refine owp_rdG (.pointer (some p120)) rfl (by kernel_rfl) (by kernel_rfl) ?_
    refine oS [(138, .pointer (some (p120.add 1)))] rfl ?_
    obtain ⟨x121, hc122, hM⟩ := hM
    refine owp_rdG (.int .i64 x121) rfl (by kernel_rfl) (Eq.trans (b := (cellH h (p120.add 1)).bind fun v123 => some (.value v123)) (by kernel_rfl) (bindE hc122 _)) ?_
    refine owp_hpG rfl (by kernel_rfl) (hpCallE 66 #[.slice y48 y48n y48c, .int .i64 1, .int .i64 x121] (by kernel_rfl) (vt_at_ok y48 y48n y48c 1 x121 _ h hM) ?_)
    clear hM
    rintro _ h124 ⟨x125, rfl, hM⟩
    refine oS [(13, .int .i64 x125)] rfl ?_
    refine oE (cwp_seq (cR ?_))
    refine oS [(141, .int .i64 x125), (142, .bool (decide (x125 = 0))), (143, .bool (decide (x125 = 0)))] rfl ?_
    by_cases hc129 : x125 = 0
    · refine owp_at 142 (.bool true) (Eq.trans (b := .bool (decide (x125 = 0))) (by kernel_rfl) (by rw [decide_eq_true hc129])) ?_
      refine owp_at 143 (.bool true) (Eq.trans (b := .bool (decide (x125 = 0))) (by kernel_rfl) (by rw [decide_eq_true hc129])) ?_
      replace hM := ifT hc129 hM
      refine oS [(144, undef), (145, undef), (146, undef), (147, undef), (148, undef), (149, undef), (150, .bool true)] rfl ?_
      refine oE ?_
      refine cwp_cond (t := true) (by kernel_rfl) (fun hx_ => ?_) (fun hx_ => ?_)
      all_goals first | (cases hx_; done) | skip
      refine cwp_region ?_
      refine oS [(151, .pointer (some p120)), (152, .pointer (some p120)), (153, .pointer (some (p120.add 1)))] rfl ?_
      obtain ⟨x130, hc131, hM⟩ := hM
      refine owp_rdG (.int .i64 x130) rfl (by kernel_rfl) (Eq.trans (b := (cellH h124 (p120.add 1)).bind fun v132 => some (.value v132)) (by kernel_rfl) (bindE hc131 _)) ?_
      refine oS [(13, .int .i64 x130)] rfl ?_
      refine oE ?_
      refine cwp_of_part (fn := Tryd.f73) (p := [1, 1, 0, 1, 1, 1, 1, 1, 1, 1, 1, 1, 1, 1, 1, 1, 0, 1, 1]) (by kernel_rfl) (cwp_at 0 (.pointer (some p120)) (by kernel_rfl) (cwp_at 3 (.int .i64 y49) (by kernel_rfl) (cwp_at 13 (.int .i64 x130) (by kernel_rfl) (vt_Screen_others_j4_ok _ ?_ p120 y49 x130 _ _ hM))))
      · intro  b140 h139 hM
        exact hKn  _ _ hM
    refine owp_at 142 (.bool false) (Eq.trans (b := .bool (decide (x125 = 0))) (by kernel_rfl) (by rw [decide_eq_false hc129])) ?_
    refine owp_at 143 (.bool false) (Eq.trans (b := .bool (decide (x125 = 0))) (by kernel_rfl) (by rw [decide_eq_false hc129])) ?_
    replace hM := ifF hc129 hM
    refine oS [(144, .int .i64 x125), (145, .pointer (some p120)), (146, .pointer (some p120)), (147, .pointer (some (p120.add 1)))] rfl ?_
    obtain ⟨x142, hc143, hM⟩ := hM
    refine owp_rdG (.int .i64 x142) rfl (by kernel_rfl) (Eq.trans (b := (cellH h124 (p120.add 1)).bind fun v144 => some (.value v144)) (by kernel_rfl) (bindE hc143 _)) ?_
    refine oS [(149, .bool (decide (x142 < x125))), (150, .bool (decide (x142 < x125)))] rfl ?_
    refine oE ?_
    refine cwp_condD (x142 < x125) (by kernel_rfl) (fun hc145 => ?_) (fun hc145 => ?_)
    · replace hM := ifT hc145 hM
      refine cwp_region ?_
      refine oS [(151, .pointer (some p120)), (152, .pointer (some p120)), (153, .pointer (some (p120.add 1)))] rfl ?_
      obtain ⟨x146, hc147, hM⟩ := hM
      refine owp_rdG (.int .i64 x146) rfl (by kernel_rfl) (Eq.trans (b := (cellH h124 (p120.add 1)).bind fun v148 => some (.value v148)) (by kernel_rfl) (bindE hc147 _)) ?_
      refine oS [(13, .int .i64 x146)] rfl ?_
      refine oE ?_
      refine cwp_of_part (fn := Tryd.f73) (p := [1, 1, 0, 1, 1, 1, 1, 1, 1, 1, 1, 1, 1, 1, 1, 1, 0, 1, 1]) (by kernel_rfl) (cwp_at 0 (.pointer (some p120)) (by kernel_rfl) (cwp_at 3 (.int .i64 y49) (by kernel_rfl) (cwp_at 13 (.int .i64 x146) (by kernel_rfl) (vt_Screen_others_j4_ok _ ?_ p120 y49 x146 _ _ hM))))
      · intro  b150 h149 hM
        exact hKn  _ _ hM
    replace hM := ifF hc145 hM
    refine cwp_skip (thenE_n ?_)
    refine cwp_of_part (fn := Tryd.f73) (p := [1, 1, 0, 1, 1, 1, 1, 1, 1, 1, 1, 1, 1, 1, 1, 1, 0, 1, 1]) (by kernel_rfl) (cwp_at 0 (.pointer (some p120)) (by kernel_rfl) (cwp_at 3 (.int .i64 y49) (by kernel_rfl) (cwp_at 13 (.int .i64 x125) (by kernel_rfl) (vt_Screen_others_j4_ok _ ?_ p120 y49 x125 _ _ hM))))
    · intro  b153 h152 hM
      exact hKn  _ _ hM
  replace hM := ifF hc119 hM
  refine cR ?_
  refine oS [(171, .bool (decide (y51 = 115))), (170, .bool (decide (y51 = 115)))] rfl ?_
  refine oE ?_
  refine cwp_condD (y51 = 115) (by kernel_rfl) (fun hc155 => ?_) (fun hc155 => ?_)
  · replace hM := ifT hc155 hM
    refine cR ?_
    exact hM.elim
  replace hM := ifF hc155 hM
  refine cR ?_
  refine oS [(179, .bool (decide (y51 = 117))), (178, .bool (decide (y51 = 117)))] rfl ?_
  refine oE ?_
  refine cwp_condD (y51 = 117) (by kernel_rfl) (fun hc156 => ?_) (fun hc156 => ?_)
  · replace hM := ifT hc156 hM
    refine cwp_region ?_
    exact hM.elim
  replace hM := ifF hc156 hM
  refine cwp_skip ?_
  exact hKn  _ _ hM
def vt_Screen_others (a1 : Option Addr) (a2 : Int) (a3 : Option Addr) (a3n : Nat) (a3c : Nat) (a4 : Int) (K : Heap → Prop) (h : Heap) : Prop :=
 vt_at a3 a3n a3c 0 0 (fun x6 h5 =>
  if a2 = 98 then
   ∃ k24, vt_Screen_others_l0
    (fun  h22 =>
        K h22) k24 a1 a4 0 h5
  else
  if a2 = 103 then
   if x6 = 0 then
    nz a1 fun p27 =>
    ldL h5 (p27.add 21) fun x28 x28n x28c =>
    ldI h5 .i64 (p27.add 9) fun x32 =>
    nz x28 fun p38 =>
    0 ≤ x32 ∧
    x32 < (x28n : Int) ∧
    stN (p38.add ((x32).toNat * 1)) [.bool false] 0 h5 fun h39 =>
    K h39
   else
   if x6 = 3 then
    nz a1 fun p41 =>
    ldL h5 (p41.add 21) fun x42 x42n x42c =>
    False
   else
   K h5
  else
  if a2 = 104 then
   vt_Screen_others_j1
    (fun  h157 =>
        K h157) a1 a2 a3 a3n a3c a4 x6 a2 (decide (a2 = 104)) h5
  else
  vt_Screen_others_j1
   (fun  h160 =>
        K h160) a1 a2 a3 a3n a3c a4 x6 a2 (decide (a2 = 108)) h5) h
theorem vt_Screen_others_ok (a1 : Option Addr) (a2 : Int) (a3 : Option Addr) (a3n : Nat) (a3c : Nat) (a4 : Int) (K : Heap → Prop) (h : Heap) (hM : vt_Screen_others a1 a2 a3 a3n a3c a4 K h) : CallsH Tryd.prog 73 #[.pointer a1, .int .u8 a2, .slice a3 a3n a3c, .int .i64 a4] (fun v h' => v = .tuple #[] ∧ K h') h := by
 unfold vt_Screen_others at hM
 refine callsH_intro (n := 182) Tryd.func73 rfl rfl (by kernel_rfl) ?_
 refine cR ?_
 refine oS [(14, .slice a3 a3n a3c)] rfl ?_
 refine owp_hpG rfl (by kernel_rfl) (hpCallE 66 #[.slice a3 a3n a3c, .int .i64 0, .int .i64 0] (by kernel_rfl) (vt_at_ok a3 a3n a3c 0 0 _ h hM) ?_)
 clear hM
 rintro _ h5 ⟨x6, rfl, hM⟩
 refine oS [(8, .int .i64 x6)] rfl ?_
 refine oE (cR ?_)
 refine oS [(16, .int .u8 a2)] rfl ?_
 refine oE (cwp_block (cR ?_))
 refine oS [(18, .bool (decide (a2 = 98))), (17, .bool (decide (a2 = 98)))] rfl ?_
 refine oE ?_
 refine cwp_condD (a2 = 98) (by kernel_rfl) (fun hc7 => ?_) (fun hc7 => ?_)
 · replace hM := ifT hc7 hM
   refine cR ?_
   refine oS [(9, .int .i64 0)] rfl ?_
   refine oE (cwp_block ?_)
   obtain ⟨k_, hM⟩ := hM
   refine cwp_loop k_ (lwp_of_part (fn := Tryd.f73) (p := [1, 1, 0, 1, 0, 1, 0, 0]) (by kernel_rfl) (lwp_at 0 (.pointer a1) (by kernel_rfl) (lwp_at 3 (.int .i64 a4) (by kernel_rfl) (lwp_at 9 (.int .i64 0) (by kernel_rfl) (vt_Screen_others_l0_ok _ ?_ k_ a1 a4 0 _ _ hM)))))
   · intro  b23 h22 hM
     refine blockE_h (blockE_n ?_)
     exact end_ (.tuple #[]) (by kernel_rfl) ⟨rfl, hM⟩
 replace hM := ifF hc7 hM
 refine cR ?_
 refine oS [(38, .bool (decide (a2 = 103))), (37, .bool (decide (a2 = 103)))] rfl ?_
 refine oE ?_
 refine cwp_condD (a2 = 103) (by kernel_rfl) (fun hc25 => ?_) (fun hc25 => ?_)
 · replace hM := ifT hc25 hM
   refine cR ?_
   refine oS [(39, .int .i64 x6), (40, .bool (decide (x6 = 0)))] rfl ?_
   refine oE ?_
   refine cwp_condD (x6 = 0) (by kernel_rfl) (fun hc26 => ?_) (fun hc26 => ?_)
   · replace hM := ifT hc26 hM
     refine cwp_draw (by kernel_rfl) ?_
     refine k_pure (i := 0) [1, 2, 3, 9, 10] (.pointer a1) (by kernel_rfl) rfl rfl (by kernel_rfl) (fun h' => by kernel_rfl) (by kernel_rfl) ?_
     obtain ⟨p27, rfl, hM⟩ := hM
     refine k_pure (i := 1) [2, 3, 9, 10] (.pointer (some p27)) (by kernel_rfl) rfl rfl (by kernel_rfl) (fun h' => by kernel_rfl) (by kernel_rfl) ?_
     refine k_pure (i := 2) [3, 9, 10] (.pointer (some (p27.add 21))) (by kernel_rfl) rfl rfl (by kernel_rfl) (fun h' => by kernel_rfl) (by kernel_rfl) ?_
     obtain ⟨x28, x28n, x28c, hc29, hM⟩ := hM
     refine k_load (i := 3) (.slice x28 x28n x28c) (fun h' => cellH h' (p27.add 21) = some (.slice x28 x28n x28c) ∧ True) [9, 10] [10] (by kernel_rfl) (by kernel_rfl) rfl rfl (by kernel_rfl) (fun h' hS => Eq.trans (b := (cellH h' (p27.add 21)).bind fun v31 => some (.value v31)) (by kernel_rfl) (bindE hS.1 _)) ⟨hc29, trivial⟩ (by kernel_rfl) ?_
     refine k_pure (i := 4) [5, 6, 7, 8, 9, 10] (.pointer (some p27)) (by kernel_rfl) rfl rfl (by kernel_rfl) (fun h' => by kernel_rfl) (by kernel_rfl) ?_
     refine k_pure (i := 5) [6, 7, 8, 9, 10] (.pointer (some p27)) (by kernel_rfl) rfl rfl (by kernel_rfl) (fun h' => by kernel_rfl) (by kernel_rfl) ?_
     refine k_pure (i := 6) [7, 8, 9, 10] (.pointer (some (p27.add 9))) (by kernel_rfl) rfl rfl (by kernel_rfl) (fun h' => by kernel_rfl) (by kernel_rfl) ?_
     refine k_pure (i := 7) [8, 9, 10] (.pointer (some (p27.add 9))) (by kernel_rfl) rfl rfl (by kernel_rfl) (fun h' => by kernel_rfl) (by kernel_rfl) ?_
     obtain ⟨x32, hc33, hM⟩ := hM
     refine k_load (i := 8) (.int .i64 x32) (fun h' => cellH h' (p27.add 9) = some (.int .i64 x32) ∧ True) [9, 10] [10] (by kernel_rfl) (by kernel_rfl) rfl rfl (by kernel_rfl) (fun h' hS => Eq.trans (b := (cellH h' (p27.add 9)).bind fun v35 => some (.value v35)) (by kernel_rfl) (bindE hS.1 _)) ⟨hc33, trivial⟩ (by kernel_rfl) ?_
     obtain ⟨p38, rfl, hM⟩ := hM
     obtain ⟨hc36, hM⟩ := hM
     obtain ⟨hc37, hM⟩ := hM
     refine k_pure (i := 9) [10] (.pointer (some (p38.add ((x32).toNat * 1)))) (by kernel_rfl) rfl rfl (by kernel_rfl) (fun h' => rd_ixS (P := Tryd.prog) (h := h') (t := 64) (el := 4) (sz := 1) (ad := p38) (len := x28n) (c := x28c) (k := .i64) (i := x32) (by kernel_rfl) (by kernel_rfl) hc36 hc37 (by kernel_rfl)) (by kernel_rfl) ?_
     refine k_effD (j := 10) (by kernel_rfl) rfl rfl (by kernel_rfl) (hpSt (p38.add ((x32).toNat * 1)) [.bool false] (fun _ => by kernel_rfl) (by kernel_rfl) hM ?_)
     clear hM
     intro h39 hM
     refine ⟨trivial, ?_⟩
     refine k_done (by kernel_rfl) ?_
     refine blockE_n ?_
     exact end_ (.tuple #[]) (by kernel_rfl) ⟨rfl, hM⟩
   replace hM := ifF hc26 hM
   refine cR ?_
   refine oS [(51, .int .i64 x6), (52, .bool (decide (x6 = 3)))] rfl ?_
   refine oE ?_
   refine cwp_condD (x6 = 3) (by kernel_rfl) (fun hc40 => ?_) (fun hc40 => ?_)
   · replace hM := ifT hc40 hM
     refine cwp_region ?_
     refine oS [(53, .pointer a1)] rfl ?_
     obtain ⟨p41, rfl, hM⟩ := hM
     refine owp_rdG (.pointer (some p41)) rfl (by kernel_rfl) (by kernel_rfl) ?_
     refine oS [(55, .pointer (some (p41.add 21)))] rfl ?_
     obtain ⟨x42, x42n, x42c, hc43, hM⟩ := hM
     refine owp_rdG (.slice x42 x42n x42c) rfl (by kernel_rfl) (Eq.trans (b := (cellH h5 (p41.add 21)).bind fun v44 => some (.value v44)) (by kernel_rfl) (bindE hc43 _)) ?_
     exact hM.elim
   replace hM := ifF hc40 hM
   refine cwp_skip (blockE_n ?_)
   exact end_ (.tuple #[]) (by kernel_rfl) ⟨rfl, hM⟩
 replace hM := ifF hc25 hM
 refine cwp_seq (cR ?_)
 refine oS [(58, .bool (decide (a2 = 104))), (57, .bool (decide (a2 = 104)))] rfl ?_
 refine oE ?_
 refine cwp_condD (a2 = 104) (by kernel_rfl) (fun hc45 => ?_) (fun hc45 => ?_)
 · replace hM := ifT hc45 hM
   refine cwp_skip (thenE_n ?_)
   refine cwp_of_part (fn := Tryd.f73) (p := [1, 1, 0, 1, 1, 1, 1, 1]) (by kernel_rfl) (cwp_at 0 (.pointer a1) (by kernel_rfl) (cwp_at 1 (.int .u8 a2) (by kernel_rfl) (cwp_at 2 (.slice a3 a3n a3c) (by kernel_rfl) (cwp_at 3 (.int .i64 a4) (by kernel_rfl) (cwp_at 8 (.int .i64 x6) (by kernel_rfl) (cwp_at 16 (.int .u8 a2) (by kernel_rfl) (cwp_at 57 (.bool (decide (a2 = 104))) (by kernel_rfl) (vt_Screen_others_j1_ok _ ?_ a1 a2 a3 a3n a3c a4 x6 a2 (decide (a2 = 104)) _ _ hM))))))))
   · intro  b158 h157 hM
     refine blockE_n ?_
     exact end_ (.tuple #[]) (by kernel_rfl) ⟨rfl, hM⟩
 replace hM := ifF hc45 hM
 refine cwp_region ?_
 refine oS [(59, .bool (decide (a2 = 108))), (57, .bool (decide (a2 = 108)))] rfl ?_
 refine oE ?_
 refine cwp_of_part (fn := Tryd.f73) (p := [1, 1, 0, 1, 1, 1, 1, 1]) (by kernel_rfl) (cwp_at 0 (.pointer a1) (by kernel_rfl) (cwp_at 1 (.int .u8 a2) (by kernel_rfl) (cwp_at 2 (.slice a3 a3n a3c) (by kernel_rfl) (cwp_at 3 (.int .i64 a4) (by kernel_rfl) (cwp_at 8 (.int .i64 x6) (by kernel_rfl) (cwp_at 16 (.int .u8 a2) (by kernel_rfl) (cwp_at 57 (.bool (decide (a2 = 108))) (by kernel_rfl) (vt_Screen_others_j1_ok _ ?_ a1 a2 a3 a3n a3c a4 x6 a2 (decide (a2 = 108)) _ _ hM))))))))
 · intro  b161 h160 hM
   refine blockE_n ?_
   exact end_ (.tuple #[]) (by kernel_rfl) ⟨rfl, hM⟩
/- (*mullion/vt.Screen).plain -/
def vt_Screen_plain_j6 (Kn : Heap → Prop) (y95 : Option Addr) (y96 : Int) (y97 : Option Addr) (y97n : Nat) (y97c : Nat) (y98 : Int) (y99 : Int) (y100 : Bool) (h : Heap) : Prop :=
 if y100 = true then
  False
 else
 if y99 = 83 then
  nz y95 fun p103 =>
  ldI h .i64 (p103.add 19) fun x104 =>
  ldI h .i64 (p103.add 20) fun x108 =>
  False
 else
 if y99 = 84 then
  nz y95 fun p113 =>
  ldI h .i64 (p113.add 19) fun x114 =>
  ldI h .i64 (p113.add 20) fun x118 =>
  False
 else
 vt_Screen_others y95 y96 y97 y97n y97c y98 (fun  h122 =>
   Kn  h122) h
theorem vt_Screen_plain_j6_ok {Q : Exit → Env → Heap → Prop} (Kn : Heap → Prop) (hKn : ∀  (b : Env) (h : Heap), Kn  h → Q .normal b h) (y95 : Option Addr) (y96 : Int) (y97 : Option Addr) (y97n : Nat) (y97c : Nat) (y98 : Int) (y99 : Int) (y100 : Bool) (b : Env) (h : Heap) (hM : vt_Screen_plain_j6 Kn y95 y96 y97 y97n y97c y98 y99 y100 h) : cwp Tryd.prog (partC Tryd.f59 [1, 1, 0, 1, 1, 1, 1, 1, 1, 1, 1, 1, 1, 1, 1, 1, 1, 1, 1, 1, 1, 1, 1, 1, 1, 1, 1, 1, 1, 1]) 183 Q (upd (upd (upd (upd (upd (upd b 0 (.pointer y95)) 1 (.int .u8 y96)) 2 (.slice y97 y97n y97c)) 6 (.int .i64 y98)) 10 (.int .u8 y99)) 141 (.bool y100)) h := by
  unfold vt_Screen_plain_j6 at hM
  refine cwp_part rfl ?_
  refine cwp_condB y100 (by kernel_rfl) (fun hc101 => ?_) (fun hc101 => ?_)
  · replace hM := ifT hc101 hM
    refine cwp_region ?_
    exact hM.elim
  replace hM := ifF hc101 hM
  refine cR ?_
  refine oS [(150, .bool (decide (y99 = 83))), (149, .bool (decide (y99 = 83)))] rfl ?_
  refine oE ?_
  refine cwp_condD (y99 = 83) (by kernel_rfl) (fun hc102 => ?_) (fun hc102 => ?_)
  · replace hM := ifT hc102 hM
    refine cwp_seq ?_
    refine cwp_draw (by kernel_rfl) ?_
    refine k_pure (i := 0) [10] (.pointer y95) (by kernel_rfl) rfl rfl (by kernel_rfl) (fun h' => by kernel_rfl) (by kernel_rfl) ?_
    refine k_pure (i := 1) [2, 3, 4, 10] (.pointer y95) (by kernel_rfl) rfl rfl (by kernel_rfl) (fun h' => by kernel_rfl) (by kernel_rfl) ?_
    obtain ⟨p103, rfl, hM⟩ := hM
    refine k_pure (i := 2) [3, 4, 10] (.pointer (some p103)) (by kernel_rfl) rfl rfl (by kernel_rfl) (fun h' => by kernel_rfl) (by kernel_rfl) ?_
    refine k_pure (i := 3) [4, 10] (.pointer (some (p103.add 19))) (by kernel_rfl) rfl rfl (by kernel_rfl) (fun h' => by kernel_rfl) (by kernel_rfl) ?_
    obtain ⟨x104, hc105, hM⟩ := hM
    refine k_load (i := 4) (.int .i64 x104) (fun h' => cellH h' (p103.add 19) = some (.int .i64 x104) ∧ True) [10] [10] (by kernel_rfl) (by kernel_rfl) rfl rfl (by kernel_rfl) (fun h' hS => Eq.trans (b := (cellH h' (p103.add 19)).bind fun v107 => some (.value v107)) (by kernel_rfl) (bindE hS.1 _)) ⟨hc105, trivial⟩ (by kernel_rfl) ?_
    refine k_pure (i := 5) [6, 7, 8, 10] (.pointer (some p103)) (by kernel_rfl) rfl rfl (by kernel_rfl) (fun h' => by kernel_rfl) (by kernel_rfl) ?_
    refine k_pure (i := 6) [7, 8, 10] (.pointer (some p103)) (by kernel_rfl) rfl rfl (by kernel_rfl) (fun h' => by kernel_rfl) (by kernel_rfl) ?_
    refine k_pure (i := 7) [8, 10] (.pointer (some (p103.add 20))) (by kernel_rfl) rfl rfl (by kernel_rfl) (fun h' => by kernel_rfl) (by kernel_rfl) ?_
    obtain ⟨x108, hc109, hM⟩ := hM
    refine k_load (i := 8) (.int .i64 x108) (fun h' => cellH h' (p103.add 20) = some (.int .i64 x108) ∧ True) [10] [10] (by kernel_rfl) (by kernel_rfl) rfl rfl (by kernel_rfl) (fun h' hS => Eq.trans (b := (cellH h' (p103.add 20)).bind fun v111 => some (.value v111)) (by kernel_rfl) (bindE hS.1 _)) ⟨hc109, trivial⟩ (by kernel_rfl) ?_
    refine k_pure (i := 9) [10] (.int .i64 y98) (by kernel_rfl) rfl rfl (by kernel_rfl) (fun h' => by kernel_rfl) (by kernel_rfl) ?_
    exact hM.elim
  replace hM := ifF hc102 hM
  refine cR ?_
  refine oS [(167, .bool (decide (y99 = 84))), (166, .bool (decide (y99 = 84)))] rfl ?_
  refine oE ?_
  refine cwp_condD (y99 = 84) (by kernel_rfl) (fun hc112 => ?_) (fun hc112 => ?_)
  · replace hM := ifT hc112 hM
    refine cwp_seq ?_
    refine cwp_draw (by kernel_rfl) ?_
    refine k_pure (i := 0) [10] (.pointer y95) (by kernel_rfl) rfl rfl (by kernel_rfl) (fun h' => by kernel_rfl) (by kernel_rfl) ?_
    refine k_pure (i := 1) [2, 3, 4, 10] (.pointer y95) (by kernel_rfl) rfl rfl (by kernel_rfl) (fun h' => by kernel_rfl) (by kernel_rfl) ?_
    obtain ⟨p113, rfl, hM⟩ := hM
    refine k_pure (i := 2) [3, 4, 10] (.pointer (some p113)) (by kernel_rfl) rfl rfl (by kernel_rfl) (fun h' => by kernel_rfl) (by kernel_rfl) ?_
    refine k_pure (i := 3) [4, 10] (.pointer (some (p113.add 19))) (by kernel_rfl) rfl rfl (by kernel_rfl) (fun h' => by kernel_rfl) (by kernel_rfl) ?_
    obtain ⟨x114, hc115, hM⟩ := hM
    refine k_load (i := 4) (.int .i64 x114) (fun h' => cellH h' (p113.add 19) = some (.int .i64 x114) ∧ True) [10] [10] (by kernel_rfl) (by kernel_rfl) rfl rfl (by kernel_rfl) (fun h' hS => Eq.trans (b := (cellH h' (p113.add 19)).bind fun v117 => some (.value v117)) (by kernel_rfl) (bindE hS.1 _)) ⟨hc115, trivial⟩ (by kernel_rfl) ?_
    refine k_pure (i := 5) [6, 7, 8, 10] (.pointer (some p113)) (by kernel_rfl) rfl rfl (by kernel_rfl) (fun h' => by kernel_rfl) (by kernel_rfl) ?_
    refine k_pure (i := 6) [7, 8, 10] (.pointer (some p113)) (by kernel_rfl) rfl rfl (by kernel_rfl) (fun h' => by kernel_rfl) (by kernel_rfl) ?_
    refine k_pure (i := 7) [8, 10] (.pointer (some (p113.add 20))) (by kernel_rfl) rfl rfl (by kernel_rfl) (fun h' => by kernel_rfl) (by kernel_rfl) ?_
    obtain ⟨x118, hc119, hM⟩ := hM
    refine k_load (i := 8) (.int .i64 x118) (fun h' => cellH h' (p113.add 20) = some (.int .i64 x118) ∧ True) [10] [10] (by kernel_rfl) (by kernel_rfl) rfl rfl (by kernel_rfl) (fun h' hS => Eq.trans (b := (cellH h' (p113.add 20)).bind fun v121 => some (.value v121)) (by kernel_rfl) (bindE hS.1 _)) ⟨hc119, trivial⟩ (by kernel_rfl) ?_
    refine k_pure (i := 9) [10] (.int .i64 y98) (by kernel_rfl) rfl rfl (by kernel_rfl) (fun h' => by kernel_rfl) (by kernel_rfl) ?_
    exact hM.elim
  replace hM := ifF hc112 hM
  refine cwp_region ?_
  refine oS [(11, .pointer y95), (12, .int .u8 y96), (13, .slice y97 y97n y97c), (14, .int .i64 y98)] rfl ?_
  refine owp_hpG rfl (by kernel_rfl) (hpCallE 73 #[.pointer y95, .int .u8 y96, .slice y97 y97n y97c, .int .i64 y98] (by kernel_rfl) (vt_Screen_others_ok y95 y96 y97 y97n y97c y98 _ h hM) ?_)
  clear hM
  rintro _ h122 ⟨rfl, hM⟩
  refine owp_nil ?_
  exact hKn  _ _ hM
def vt_Screen_plain_j5 (Kn : Heap → Prop) (y87 : Option Addr) (y88 : Int) (y89 : Option Addr) (y89n : Nat) (y89c : Nat) (y90 : Int) (y91 : Int) (y92 : Bool) (h : Heap) : Prop :=
 if y92 = true then
  False
 else
 if y91 = 64 then
  vt_Screen_plain_j6
   (fun  h123 =>
       Kn  h123) y87 y88 y89 y89n y89c y90 y91 (decide (y91 = 64)) h
 else
 if y91 = 80 then
  vt_Screen_plain_j6
   (fun  h127 =>
       Kn  h127) y87 y88 y89 y89n y89c y90 y91 (decide (y91 = 80)) h
 else
 vt_Screen_plain_j6
  (fun  h130 =>
      Kn  h130) y87 y88 y89 y89n y89c y90 y91 (decide (y91 = 88)) h
theorem vt_Screen_plain_j5_ok {Q : Exit → Env → Heap → Prop} (Kn : Heap → Prop) (hKn : ∀  (b : Env) (h : Heap), Kn  h → Q .normal b h) (y87 : Option Addr) (y88 : Int) (y89 : Option Addr) (y89n : Nat) (y89c : Nat) (y90 : Int) (y91 : Int) (y92 : Bool) (b : Env) (h : Heap) (hM : vt_Screen_plain_j5 Kn y87 y88 y89 y89n y89c y90 y91 y92 h) : cwp Tryd.prog (partC Tryd.f59 [1, 1, 0, 1, 1, 1, 1, 1, 1, 1, 1, 1, 1, 1, 1, 1, 1, 1, 1, 1, 1, 1, 1, 1, 1, 1, 1, 1]) 183 Q (upd (upd (upd (upd (upd (upd b 0 (.pointer y87)) 1 (.int .u8 y88)) 2 (.slice y89 y89n y89c)) 6 (.int .i64 y90)) 10 (.int .u8 y91)) 134 (.bool y92)) h := by
  unfold vt_Screen_plain_j5 at hM
  refine cwp_part rfl ?_
  refine cwp_condB y92 (by kernel_rfl) (fun hc93 => ?_) (fun hc93 => ?_)
  · replace hM := ifT hc93 hM
    refine cwp_region ?_
    exact hM.elim
  replace hM := ifF hc93 hM
  refine cwp_seq (cR ?_)
  refine oS [(142, .bool (decide (y91 = 64))), (141, .bool (decide (y91 = 64)))] rfl ?_
  refine oE ?_
  refine cwp_condD (y91 = 64) (by kernel_rfl) (fun hc94 => ?_) (fun hc94 => ?_)
  · replace hM := ifT hc94 hM
    refine cwp_skip (thenE_n ?_)
    refine cwp_of_part (fn := Tryd.f59) (p := [1, 1, 0, 1, 1, 1, 1, 1, 1, 1, 1, 1, 1, 1, 1, 1, 1, 1, 1, 1, 1, 1, 1, 1, 1, 1, 1, 1, 1, 1]) (by kernel_rfl) (cwp_at 0 (.pointer y87) (by kernel_rfl) (cwp_at 1 (.int .u8 y88) (by kernel_rfl) (cwp_at 2 (.slice y89 y89n y89c) (by kernel_rfl) (cwp_at 6 (.int .i64 y90) (by kernel_rfl) (cwp_at 10 (.int .u8 y91) (by kernel_rfl) (cwp_at 141 (.bool (decide (y91 = 64))) (by kernel_rfl) (vt_Screen_plain_j6_ok _ ?_ y87 y88 y89 y89n y89c y90 y91 (decide (y91 = 64)) _ _ hM)))))))
    · intro  b124 h123 hM
      exact hKn  _ _ hM
  replace hM := ifF hc94 hM
  refine cR ?_
  refine oS [(143, .bool (decide (y91 = 80))), (141, .bool (decide (y91 = 80)))] rfl ?_
  refine oE ?_
  refine cwp_condD (y91 = 80) (by kernel_rfl) (fun hc126 => ?_) (fun hc126 => ?_)
  · replace hM := ifT hc126 hM
    refine cwp_skip (thenE_n ?_)
    refine cwp_of_part (fn := Tryd.f59) (p := [1, 1, 0, 1, 1, 1, 1, 1, 1, 1, 1, 1, 1, 1, 1, 1, 1, 1, 1, 1, 1, 1, 1, 1, 1, 1, 1, 1, 1, 1]) (by kernel_rfl) (cwp_at 0 (.pointer y87) (by kernel_rfl) (cwp_at 1 (.int .u8 y88) (by kernel_rfl) (cwp_at 2 (.slice y89 y89n y89c) (by kernel_rfl) (cwp_at 6 (.int .i64 y90) (by kernel_rfl) (cwp_at 10 (.int .u8 y91) (by kernel_rfl) (cwp_at 141 (.bool (decide (y91 = 80))) (by kernel_rfl) (vt_Screen_plain_j6_ok _ ?_ y87 y88 y89 y89n y89c y90 y91 (decide (y91 = 80)) _ _ hM)))))))
    · intro  b128 h127 hM
      exact hKn  _ _ hM
  replace hM := ifF hc126 hM
  refine cwp_region ?_
  refine oS [(144, .bool (decide (y91 = 88))), (141, .bool (decide (y91 = 88)))] rfl ?_
  refine oE ?_
  refine cwp_of_part (fn := Tryd.f59) (p := [1, 1, 0, 1, 1, 1, 1, 1, 1, 1, 1, 1, 1, 1, 1, 1, 1, 1, 1, 1, 1, 1, 1, 1, 1, 1, 1, 1, 1, 1]) (by kernel_rfl) (cwp_at 0 (.pointer y87) (by kernel_rfl) (cwp_at 1 (.int .u8 y88) (by kernel_rfl) (cwp_at 2 (.slice y89 y89n y89c) (by kernel_rfl) (cwp_at 6 (.int .i64 y90) (by kernel_rfl) (cwp_at 10 (.int .u8 y91) (by kernel_rfl) (cwp_at 141 (.bool (decide (y91 = 88))) (by kernel_rfl) (vt_Screen_plain_j6_ok _ ?_ y87 y88 y89 y89n y89c y90 y91 (decide (y91 = 88)) _ _ hM)))))))
  · intro  b131 h130 hM
    exact hKn  _ _ hM
def vt_Screen_plain_j4 (Kn : Heap → Prop) (y77 : Option Addr) (y78 : Int) (y79 : Option Addr) (y79n : Nat) (y79c : Nat) (y80 : Int) (y81 : Int) (y82 : Bool) (h : Heap) : Prop :=
 if y82 = true then
  vt_at y79 y79n y79c 0 0 (fun x85 h84 =>
    False) h
 else
 if y81 = 76 then
  vt_Screen_plain_j5
   (fun  h133 =>
       Kn  h133) y77 y78 y79 y79n y79c y80 y81 (decide (y81 = 76)) h
 else
 vt_Screen_plain_j5
  (fun  h136 =>
      Kn  h136) y77 y78 y79 y79n y79c y80 y81 (decide (y81 = 77)) h
theorem vt_Screen_plain_j4_ok {Q : Exit → Env → Heap → Prop} (Kn : Heap → Prop) (hKn : ∀  (b : Env) (h : Heap), Kn  h → Q .normal b h) (y77 : Option Addr) (y78 : Int) (y79 : Option Addr) (y79n : Nat) (y79c : Nat) (y80 : Int) (y81 : Int) (y82 : Bool) (b : Env) (h : Heap) (hM : vt_Screen_plain_j4 Kn y77 y78 y79 y79n y79c y80 y81 y82 h) : cwp Tryd.prog (partC Tryd.f59 [1, 1, 0, 1, 1, 1, 1, 1, 1, 1, 1, 1, 1, 1, 1, 1, 1, 1, 1, 1, 1, 1, 1, 1, 1, 1]) 183 Q (upd (upd (upd (upd (upd (upd b 0 (.pointer y77)) 1 (.int .u8 y78)) 2 (.slice y79 y79n y79c)) 6 (.int .i64 y80)) 10 (.int .u8 y81)) 126 (.bool y82)) h := by
  unfold vt_Screen_plain_j4 at hM
  refine cwp_part rfl ?_
  refine cwp_condB y82 (by kernel_rfl) (fun hc83 => ?_) (fun hc83 => ?_)
  · replace hM := ifT hc83 hM
    refine cwp_region ?_
    refine oS [(129, .pointer y77), (130, .int .u8 y78), (131, .slice y79 y79n y79c)] rfl ?_
    refine owp_hpG rfl (by kernel_rfl) (hpCallE 66 #[.slice y79 y79n y79c, .int .i64 0, .int .i64 0] (by kernel_rfl) (vt_at_ok y79 y79n y79c 0 0 _ h hM) ?_)
    clear hM
    rintro _ h84 ⟨x85, rfl, hM⟩
    exact hM.elim
  replace hM := ifF hc83 hM
  refine cwp_seq (cR ?_)
  refine oS [(135, .bool (decide (y81 = 76))), (134, .bool (decide (y81 = 76)))] rfl ?_
  refine oE ?_
  refine cwp_condD (y81 = 76) (by kernel_rfl) (fun hc86 => ?_) (fun hc86 => ?_)
  · replace hM := ifT hc86 hM
    refine cwp_skip (thenE_n ?_)
    refine cwp_of_part (fn := Tryd.f59) (p := [1, 1, 0, 1, 1, 1, 1, 1, 1, 1, 1, 1, 1, 1, 1, 1, 1, 1, 1, 1, 1, 1, 1, 1, 1, 1, 1, 1]) (by kernel_rfl) (cwp_at 0 (.pointer y77) (by kernel_rfl) (cwp_at 1 (.int .u8 y78) (by kernel_rfl) (cwp_at 2 (.slice y79 y79n y79c) (by kernel_rfl) (cwp_at 6 (.int .i64 y80) (by kernel_rfl) (cwp_at 10 (.int .u8 y81) (by kernel_rfl) (cwp_at 134 (.bool (decide (y81 = 76))) (by kernel_rfl) (vt_Screen_plain_j5_ok _ ?_ y77 y78 y79 y79n y79c y80 y81 (decide (y81 = 76)) _ _ hM)))))))
    · intro  b134 h133 hM
      exact hKn  _ _ hM
  replace hM := ifF hc86 hM
  refine cwp_region ?_
  refine oS [(136, .bool (decide (y81 = 77))), (134, .bool (decide (y81 = 77)))] rfl ?_
  refine oE ?_
  refine cwp_of_part (fn := Tryd.f59) (p := [1, 1, 0, 1, 1, 1, 1, 1, 1, 1, 1, 1, 1, 1, 1, 1, 1, 1, 1, 1, 1, 1, 1, 1, 1, 1, 1, 1]) (by kernel_rfl) (cwp_at 0 (.pointer y77) (by kernel_rfl) (cwp_at 1 (.int .u8 y78) (by kernel_rfl) (cwp_at 2 (.slice y79 y79n y79c) (by kernel_rfl) (cwp_at 6 (.int .i64 y80) (by kernel_rfl) (cwp_at 10 (.int .u8 y81) (by kernel_rfl) (cwp_at 134 (.bool (decide (y81 = 77))) (by kernel_rfl) (vt_Screen_plain_j5_ok _ ?_ y77 y78 y79 y79n y79c y80 y81 (decide (y81 = 77)) _ _ hM)))))))
  · intro  b137 h136 hM
    exact hKn  _ _ hM
def vt_Screen_plain_j3 (Kn : Heap → Prop) (y60 : Option Addr) (y61 : Int) (y62 : Option Addr) (y62n : Nat) (y62c : Nat) (y63 : Int) (y64 : Int) (y65 : Bool) (h : Heap) : Prop :=
 if y65 = true then
  vt_at y62 y62n y62c 1 1 (fun x68 h67 =>
    False) h
 else
 if y64 = 100 then
  nz y60 fun p70 =>
  ldI h .i64 (p70.add 9) fun x71 =>
  False
 else
 if y64 = 73 then
  False
 else
 if y64 = 90 then
  False
 else
 if y64 = 74 then
  vt_Screen_plain_j4
   (fun  h139 =>
       Kn  h139) y60 y61 y62 y62n y62c y63 y64 (decide (y64 = 74)) h
 else
 vt_Screen_plain_j4
  (fun  h142 =>
      Kn  h142) y60 y61 y62 y62n y62c y63 y64 (decide (y64 = 75)) h
theorem vt_Screen_plain_j3_ok {Q : Exit → Env → Heap → Prop} (Kn : Heap → Prop) (hKn : ∀  (b : Env) (h : Heap), Kn  h → Q .normal b h) (y60 : Option Addr) (y61 : Int) (y62 : Option Addr) (y62n : Nat) (y62c : Nat) (y63 : Int) (y64 : Int) (y65 : Bool) (b : Env) (h : Heap) (hM : vt_Screen_plain_j3 Kn y60 y61 y62 y62n y62c y63 y64 y65 h) : cwp Tryd.prog (partC Tryd.f59 [1, 1, 0, 1, 1, 1, 1, 1, 1, 1, 1, 1, 1, 1, 1, 1, 1, 1]) 183 Q (upd (upd (upd (upd (upd (upd b 0 (.pointer y60)) 1 (.int .u8 y61)) 2 (.slice y62 y62n y62c)) 6 (.int .i64 y63)) 10 (.int .u8 y64)) 96 (.bool y65)) h := by
  unfold vt_Screen_plain_j3 at hM
  refine cwp_part rfl ?_
  refine cwp_condB y65 (by kernel_rfl) (fun hc66 => ?_) (fun hc66 => ?_)
  · replace hM := ifT hc66 hM
    refine cwp_region ?_
    refine oS [(99, .pointer y60), (100, .int .i64 y63), (101, .slice y62 y62n y62c)] rfl ?_
    refine owp_hpG rfl (by kernel_rfl) (hpCallE 66 #[.slice y62 y62n y62c, .int .i64 1, .int .i64 1] (by kernel_rfl) (vt_at_ok y62 y62n y62c 1 1 _ h hM) ?_)
    clear hM
    rintro _ h67 ⟨x68, rfl, hM⟩
    exact hM.elim
  replace hM := ifF hc66 hM
  refine cR ?_
  refine oS [(106, .bool (decide (y64 = 100))), (105, .bool (decide (y64 = 100)))] rfl ?_
  refine oE ?_
  refine cwp_condD (y64 = 100) (by kernel_rfl) (fun hc69 => ?_) (fun hc69 => ?_)
  · replace hM := ifT hc69 hM
    refine cwp_region ?_
    refine oS [(107, .pointer y60), (108, .int .i64 y63), (109, .pointer y60)] rfl ?_
    obtain ⟨p70, rfl, hM⟩ := hM
    refine owp_rdG (.pointer (some p70)) rfl (by kernel_rfl) (by kernel_rfl) ?_
    refine oS [(111, .pointer (some (p70.add 9))), (112, .pointer (some (p70.add 9)))] rfl ?_
    obtain ⟨x71, hc72, hM⟩ := hM
    refine owp_rdG (.int .i64 x71) rfl (by kernel_rfl) (Eq.trans (b := (cellH h (p70.add 9)).bind fun v73 => some (.value v73)) (by kernel_rfl) (bindE hc72 _)) ?_
    exact hM.elim
  replace hM := ifF hc69 hM
  refine cR ?_
  refine oS [(117, .bool (decide (y64 = 73))), (116, .bool (decide (y64 = 73)))] rfl ?_
  refine oE ?_
  refine cwp_condD (y64 = 73) (by kernel_rfl) (fun hc74 => ?_) (fun hc74 => ?_)
  · replace hM := ifT hc74 hM
    refine cwp_region ?_
    exact hM.elim
  replace hM := ifF hc74 hM
  refine cR ?_
  refine oS [(122, .bool (decide (y64 = 90))), (121, .bool (decide (y64 = 90)))] rfl ?_
  refine oE ?_
  refine cwp_condD (y64 = 90) (by kernel_rfl) (fun hc75 => ?_) (fun hc75 => ?_)
  · replace hM := ifT hc75 hM
    refine cwp_region ?_
    exact hM.elim
  replace hM := ifF hc75 hM
  refine cwp_seq (cR ?_)
  refine oS [(127, .bool (decide (y64 = 74))), (126, .bool (decide (y64 = 74)))] rfl ?_
  refine oE ?_
  refine cwp_condD (y64 = 74) (by kernel_rfl) (fun hc76 => ?_) (fun hc76 => ?_)
  · replace hM := ifT hc76 hM
    refine cwp_skip (thenE_n ?_)
    refine cwp_of_part (fn := Tryd.f59) (p := [1, 1, 0, 1, 1, 1, 1, 1, 1, 1, 1, 1, 1, 1, 1, 1, 1, 1, 1, 1, 1, 1, 1, 1, 1, 1]) (by kernel_rfl) (cwp_at 0 (.pointer y60) (by kernel_rfl) (cwp_at 1 (.int .u8 y61) (by kernel_rfl) (cwp_at 2 (.slice y62 y62n y62c) (by kernel_rfl) (cwp_at 6 (.int .i64 y63) (by kernel_rfl) (cwp_at 10 (.int .u8 y64) (by kernel_rfl) (cwp_at 126 (.bool (decide (y64 = 74))) (by kernel_rfl) (vt_Screen_plain_j4_ok _ ?_ y60 y61 y62 y62n y62c y63 y64 (decide (y64 = 74)) _ _ hM)))))))
    · intro  b140 h139 hM
      exact hKn  _ _ hM
  replace hM := ifF hc76 hM
  refine cwp_region ?_
  refine oS [(128, .bool (decide (y64 = 75))), (126, .bool (decide (y64 = 75)))] rfl ?_
  refine oE ?_
  refine cwp_of_part (fn := Tryd.f59) (p := [1, 1, 0, 1, 1, 1, 1, 1, 1, 1, 1, 1, 1, 1, 1, 1, 1, 1, 1, 1, 1, 1, 1, 1, 1, 1]) (by kernel_rfl) (cwp_at 0 (.pointer y60) (by kernel_rfl) (cwp_at 1 (.int .u8 y61) (by kernel_rfl) (cwp_at 2 (.slice y62 y62n y62c) (by kernel_rfl) (cwp_at 6 (.int .i64 y63) (by kernel_rfl) (cwp_at 10 (.int .u8 y64) (by kernel_rfl) (cwp_at 126 (.bool (decide (y64 = 75))) (by kernel_rfl) (vt_Screen_plain_j4_ok _ ?_ y60 y61 y62 y62n y62c y63 y64 (decide (y64 = 75)) _ _ hM)))))))
  · intro  b143 h142 hM
    exact hKn  _ _ hM
def vt_Screen_plain_j2 (Kn : Heap → Prop) (y47 : Option Addr) (y48 : Int) (y49 : Option Addr) (y49n : Nat) (y49c : Nat) (y50 : Int) (y51 : Int) (y52 : Bool) (h : Heap) : Prop :=
 if y52 = true then
  nz y47 fun p54 =>
  ldI h .i64 (p54.add 10) fun x55 =>
  vt_Screen_to (some p54) (IntKind.wrap .i64 (y50 - 1)) x55 (fun  h58 =>
    Kn  h58) h
 else
 if y51 = 72 then
  vt_Screen_plain_j3
   (fun  h145 =>
       Kn  h145) y47 y48 y49 y49n y49c y50 y51 (decide (y51 = 72)) h
 else
 vt_Screen_plain_j3
  (fun  h148 =>
      Kn  h148) y47 y48 y49 y49n y49c y50 y51 (decide (y51 = 102)) h
theorem vt_Screen_plain_j2_ok {Q : Exit → Env → Heap → Prop} (Kn : Heap → Prop) (hKn : ∀  (b : Env) (h : Heap), Kn  h → Q .normal b h) (y47 : Option Addr) (y48 : Int) (y49 : Option Addr) (y49n : Nat) (y49c : Nat) (y50 : Int) (y51 : Int) (y52 : Bool) (b : Env) (h : Heap) (hM : vt_Screen_plain_j2 Kn y47 y48 y49 y49n y49c y50 y51 y52 h) : cwp Tryd.prog (partC Tryd.f59 [1, 1, 0, 1, 1, 1, 1, 1, 1, 1, 1, 1, 1, 1, 1, 1]) 183 Q (upd (upd (upd (upd (upd (upd b 0 (.pointer y47)) 1 (.int .u8 y48)) 2 (.slice y49 y49n y49c)) 6 (.int .i64 y50)) 10 (.int .u8 y51)) 84 (.bool y52)) h := by
  unfold vt_Screen_plain_j2 at hM
  refine cwp_part rfl ?_
  refine cwp_condB y52 (by kernel_rfl) (fun hc53 => ?_) (fun hc53 => ?_)
  · replace hM := ifT hc53 hM
    refine cwp_region ?_
    refine oS [(87, .pointer y47), (88, .int .i64 y50), (89, .int .i64 (IntKind.wrap .i64 (y50 - 1))), (90, .pointer y47)] rfl ?_
    obtain ⟨p54, rfl, hM⟩ := hM
    refine owp_rdG (.pointer (some p54)) rfl (by kernel_rfl) (by kernel_rfl) ?_
    refine oS [(92, .pointer (some (p54.add 9))), (93, .pointer (some (p54.add 10)))] rfl ?_
    obtain ⟨x55, hc56, hM⟩ := hM
    refine owp_rdG (.int .i64 x55) rfl (by kernel_rfl) (Eq.trans (b := (cellH h (p54.add 10)).bind fun v57 => some (.value v57)) (by kernel_rfl) (bindE hc56 _)) ?_
    refine owp_hpG rfl (by kernel_rfl) (hpCallE 51 #[.pointer (some p54), .int .i64 (IntKind.wrap .i64 (y50 - 1)), .int .i64 x55] (by kernel_rfl) (vt_Screen_to_ok (some p54) (IntKind.wrap .i64 (y50 - 1)) x55 _ h hM) ?_)
    clear hM
    rintro _ h58 ⟨rfl, hM⟩
    refine owp_nil ?_
    exact hKn  _ _ hM
  replace hM := ifF hc53 hM
  refine cwp_seq (cR ?_)
  refine oS [(97, .bool (decide (y51 = 72))), (96, .bool (decide (y51 = 72)))] rfl ?_
  refine oE ?_
  refine cwp_condD (y51 = 72) (by kernel_rfl) (fun hc59 => ?_) (fun hc59 => ?_)
  · replace hM := ifT hc59 hM
    refine cwp_skip (thenE_n ?_)
    refine cwp_of_part (fn := Tryd.f59) (p := [1, 1, 0, 1, 1, 1, 1, 1, 1, 1, 1, 1, 1, 1, 1, 1, 1, 1]) (by kernel_rfl) (cwp_at 0 (.pointer y47) (by kernel_rfl) (cwp_at 1 (.int .u8 y48) (by kernel_rfl) (cwp_at 2 (.slice y49 y49n y49c) (by kernel_rfl) (cwp_at 6 (.int .i64 y50) (by kernel_rfl) (cwp_at 10 (.int .u8 y51) (by kernel_rfl) (cwp_at 96 (.bool (decide (y51 = 72))) (by kernel_rfl) (vt_Screen_plain_j3_ok _ ?_ y47 y48 y49 y49n y49c y50 y51 (decide (y51 = 72)) _ _ hM)))))))
    · intro  b146 h145 hM
      exact hKn  _ _ hM
  replace hM := ifF hc59 hM
  refine cwp_region ?_
  refine oS [(98, .bool (decide (y51 = 102))), (96, .bool (decide (y51 = 102)))] rfl ?_
  refine oE ?_
  refine cwp_of_part (fn := Tryd.f59) (p := [1, 1, 0, 1, 1, 1, 1, 1, 1, 1, 1, 1, 1, 1, 1, 1, 1, 1]) (by kernel_rfl) (cwp_at 0 (.pointer y47) (by kernel_rfl) (cwp_at 1 (.int .u8 y48) (by kernel_rfl) (cwp_at 2 (.slice y49 y49n y49c) (by kernel_rfl) (cwp_at 6 (.int .i64 y50) (by kernel_rfl) (cwp_at 10 (.int .u8 y51) (by kernel_rfl) (cwp_at 96 (.bool (decide (y51 = 102))) (by kernel_rfl) (vt_Screen_plain_j3_ok _ ?_ y47 y48 y49 y49n y49c y50 y51 (decide (y51 = 102)) _ _ hM)))))))
  · intro  b149 h148 hM
    exact hKn  _ _ hM
def vt_Screen_plain_j1 (Kn : Heap → Prop) (y16 : Option Addr) (y17 : Int) (y18 : Option Addr) (y18n : Nat) (y18c : Nat) (y19 : Int) (y20 : Int) (y21 : Bool) (h : Heap) : Prop :=
 if y21 = true then
  nz y16 fun p23 =>
  ldI h .i64 (p23.add 9) fun x24 =>
  ldI h .i64 (p23.add 10) fun x28 =>
  vt_Screen_to (some p23) (IntKind.wrap .i64 (x24 + y19)) x28 (fun  h32 =>
    Kn  h32) h
 else
 if y20 = 68 then
  nz y16 fun p34 =>
  ldI h .i64 (p34.add 9) fun x35 =>
  ldI h .i64 (p34.add 10) fun x39 =>
  vt_Screen_to (some p34) (IntKind.wrap .i64 (x35 - y19)) x39 (fun  h43 =>
    Kn  h43) h
 else
 if y20 = 69 then
  False
 else
 if y20 = 70 then
  False
 else
 if y20 = 71 then
  vt_Screen_plain_j2
   (fun  h151 =>
       Kn  h151) y16 y17 y18 y18n y18c y19 y20 (decide (y20 = 71)) h
 else
 vt_Screen_plain_j2
  (fun  h154 =>
      Kn  h154) y16 y17 y18 y18n y18c y19 y20 (decide (y20 = 96)) h
theorem vt_Screen_plain_j1_ok {Q : Exit → Env → Heap → Prop} (Kn : Heap → Prop) (hKn : ∀  (b : Env) (h : Heap), Kn  h → Q .normal b h) (y16 : Option Addr) (y17 : Int) (y18 : Option Addr) (y18n : Nat) (y18c : Nat) (y19 : Int) (y20 : Int) (y21 : Bool) (b : Env) (h : Heap) (hM : vt_Screen_plain_j1 Kn y16 y17 y18 y18n y18c y19 y20 y21 h) : cwp Tryd.prog (partC Tryd.f59 [1, 1, 0, 1, 1, 1, 1, 1]) 183 Q (upd (upd (upd (upd (upd (upd b 0 (.pointer y16)) 1 (.int .u8 y17)) 2 (.slice y18 y18n y18c)) 6 (.int .i64 y19)) 10 (.int .u8 y20)) 27 (.bool y21)) h := by
  unfold vt_Screen_plain_j1 at hM
  refine cwp_part rfl ?_
  refine cwp_condB y21 (by kernel_rfl) (fun hc22 => ?_) (fun hc22 => ?_)
  · replace hM := ifT hc22 hM
    refine cwp_draw (by kernel_rfl) ?_
    refine k_pure (i := 0) [13] (.pointer y16) (by kernel_rfl) rfl rfl (by kernel_rfl) (fun h' => by kernel_rfl) (by kernel_rfl) ?_
    refine k_pure (i := 1) [2, 3, 4, 5, 7, 13] (.pointer y16) (by kernel_rfl) rfl rfl (by kernel_rfl) (fun h' => by kernel_rfl) (by kernel_rfl) ?_
    obtain ⟨p23, rfl, hM⟩ := hM
    refine k_pure (i := 2) [3, 4, 5, 7, 13] (.pointer (some p23)) (by kernel_rfl) rfl rfl (by kernel_rfl) (fun h' => by kernel_rfl) (by kernel_rfl) ?_
    refine k_pure (i := 3) [4, 5, 7, 13] (.pointer (some (p23.add 9))) (by kernel_rfl) rfl rfl (by kernel_rfl) (fun h' => by kernel_rfl) (by kernel_rfl) ?_
    refine k_pure (i := 4) [5, 7, 13] (.pointer (some (p23.add 9))) (by kernel_rfl) rfl rfl (by kernel_rfl) (fun h' => by kernel_rfl) (by kernel_rfl) ?_
    obtain ⟨x24, hc25, hM⟩ := hM
    refine k_load (i := 5) (.int .i64 x24) (fun h' => cellH h' (p23.add 9) = some (.int .i64 x24) ∧ True) [7, 13] [13] (by kernel_rfl) (by kernel_rfl) rfl rfl (by kernel_rfl) (fun h' hS => Eq.trans (b := (cellH h' (p23.add 9)).bind fun v27 => some (.value v27)) (by kernel_rfl) (bindE hS.1 _)) ⟨hc25, trivial⟩ (by kernel_rfl) ?_
    refine k_pure (i := 6) [7, 13] (.int .i64 y19) (by kernel_rfl) rfl rfl (by kernel_rfl) (fun h' => by kernel_rfl) (by kernel_rfl) ?_
    refine k_pure (i := 7) [13] (.int .i64 (IntKind.wrap .i64 (x24 + y19))) (by kernel_rfl) rfl rfl (by kernel_rfl) (fun h' => by kernel_rfl) (by kernel_rfl) ?_
    refine k_pure (i := 8) [9, 10, 11, 12, 13] (.pointer (some p23)) (by kernel_rfl) rfl rfl (by kernel_rfl) (fun h' => by kernel_rfl) (by kernel_rfl) ?_
    refine k_pure (i := 9) [10, 11, 12, 13] (.pointer (some p23)) (by kernel_rfl) rfl rfl (by kernel_rfl) (fun h' => by kernel_rfl) (by kernel_rfl) ?_
    refine k_pure (i := 10) [11, 12, 13] (.pointer (some (p23.add 9))) (by kernel_rfl) rfl rfl (by kernel_rfl) (fun h' => by kernel_rfl) (by kernel_rfl) ?_
    refine k_pure (i := 11) [12, 13] (.pointer (some (p23.add 10))) (by kernel_rfl) rfl rfl (by kernel_rfl) (fun h' => by kernel_rfl) (by kernel_rfl) ?_
    obtain ⟨x28, hc29, hM⟩ := hM
    refine k_load (i := 12) (.int .i64 x28) (fun h' => cellH h' (p23.add 10) = some (.int .i64 x28) ∧ True) [13] [13] (by kernel_rfl) (by kernel_rfl) rfl rfl (by kernel_rfl) (fun h' hS => Eq.trans (b := (cellH h' (p23.add 10)).bind fun v31 => some (.value v31)) (by kernel_rfl) (bindE hS.1 _)) ⟨hc29, trivial⟩ (by kernel_rfl) ?_
    refine k_eff (j := 13) (by kernel_rfl) rfl rfl (by kernel_rfl) (hpCallE 51 #[.pointer (some p23), .int .i64 (IntKind.wrap .i64 (x24 + y19)), .int .i64 x28] (by kernel_rfl) (vt_Screen_to_ok (some p23) (IntKind.wrap .i64 (x24 + y19)) x28 _ h hM) ?_)
    clear hM
    rintro _ h32 ⟨rfl, hM⟩
    refine ⟨trivial, ?_⟩
    refine k_done (by kernel_rfl) ?_
    exact hKn  _ _ hM
  replace hM := ifF hc22 hM
  refine cR ?_
  refine oS [(45, .bool (decide (y20 = 68))), (44, .bool (decide (y20 = 68)))] rfl ?_
  refine oE ?_
  refine cwp_condD (y20 = 68) (by kernel_rfl) (fun hc33 => ?_) (fun hc33 => ?_)
  · replace hM := ifT hc33 hM
    refine cwp_draw (by kernel_rfl) ?_
    refine k_pure (i := 0) [13] (.pointer y16) (by kernel_rfl) rfl rfl (by kernel_rfl) (fun h' => by kernel_rfl) (by kernel_rfl) ?_
    refine k_pure (i := 1) [2, 3, 4, 5, 7, 13] (.pointer y16) (by kernel_rfl) rfl rfl (by kernel_rfl) (fun h' => by kernel_rfl) (by kernel_rfl) ?_
    obtain ⟨p34, rfl, hM⟩ := hM
    refine k_pure (i := 2) [3, 4, 5, 7, 13] (.pointer (some p34)) (by kernel_rfl) rfl rfl (by kernel_rfl) (fun h' => by kernel_rfl) (by kernel_rfl) ?_
    refine k_pure (i := 3) [4, 5, 7, 13] (.pointer (some (p34.add 9))) (by kernel_rfl) rfl rfl (by kernel_rfl) (fun h' => by kernel_rfl) (by kernel_rfl) ?_
    refine k_pure (i := 4) [5, 7, 13] (.pointer (some (p34.add 9))) (by kernel_rfl) rfl rfl (by kernel_rfl) (fun h' => by kernel_rfl) (by kernel_rfl) ?_
    obtain ⟨x35, hc36, hM⟩ := hM
    refine k_load (i := 5) (.int .i64 x35) (fun h' => cellH h' (p34.add 9) = some (.int .i64 x35) ∧ True) [7, 13] [13] (by kernel_rfl) (by kernel_rfl) rfl rfl (by kernel_rfl) (fun h' hS => Eq.trans (b := (cellH h' (p34.add 9)).bind fun v38 => some (.value v38)) (by kernel_rfl) (bindE hS.1 _)) ⟨hc36, trivial⟩ (by kernel_rfl) ?_
    refine k_pure (i := 6) [7, 13] (.int .i64 y19) (by kernel_rfl) rfl rfl (by kernel_rfl) (fun h' => by kernel_rfl) (by kernel_rfl) ?_
    refine k_pure (i := 7) [13] (.int .i64 (IntKind.wrap .i64 (x35 - y19))) (by kernel_rfl) rfl rfl (by kernel_rfl) (fun h' => by kernel_rfl) (by kernel_rfl) ?_
    refine k_pure (i := 8) [9, 10, 11, 12, 13] (.pointer (some p34)) (by kernel_rfl) rfl rfl (by kernel_rfl) (fun h' => by kernel_rfl) (by kernel_rfl) ?_
    refine k_pure (i := 9) [10, 11, 12, 13] (.pointer (some p34)) (by kernel_rfl) rfl rfl (by kernel_rfl) (fun h' => by kernel_rfl) (by kernel_rfl) ?_
    refine k_pure (i := 10) [11, 12, 13] (.pointer (some (p34.add 9))) (by kernel_rfl) rfl rfl (by kernel_rfl) (fun h' => by kernel_rfl) (by kernel_rfl) ?_
    refine k_pure (i := 11) [12, 13] (.pointer (some (p34.add 10))) (by kernel_rfl) rfl rfl (by kernel_rfl) (fun h' => by kernel_rfl) (by kernel_rfl) ?_
    obtain ⟨x39, hc40, hM⟩ := hM
    refine k_load (i := 12) (.int .i64 x39) (fun h' => cellH h' (p34.add 10) = some (.int .i64 x39) ∧ True) [13] [13] (by kernel_rfl) (by kernel_rfl) rfl rfl (by kernel_rfl) (fun h' hS => Eq.trans (b := (cellH h' (p34.add 10)).bind fun v42 => some (.value v42)) (by kernel_rfl) (bindE hS.1 _)) ⟨hc40, trivial⟩ (by kernel_rfl) ?_
    refine k_eff (j := 13) (by kernel_rfl) rfl rfl (by kernel_rfl) (hpCallE 51 #[.pointer (some p34), .int .i64 (IntKind.wrap .i64 (x35 - y19)), .int .i64 x39] (by kernel_rfl) (vt_Screen_to_ok (some p34) (IntKind.wrap .i64 (x35 - y19)) x39 _ h hM) ?_)
    clear hM
    rintro _ h43 ⟨rfl, hM⟩
    refine ⟨trivial, ?_⟩
    refine k_done (by kernel_rfl) ?_
    exact hKn  _ _ hM
  replace hM := ifF hc33 hM
  refine cR ?_
  refine oS [(61, .bool (decide (y20 = 69))), (60, .bool (decide (y20 = 69)))] rfl ?_
  refine oE ?_
  refine cwp_condD (y20 = 69) (by kernel_rfl) (fun hc44 => ?_) (fun hc44 => ?_)
  · replace hM := ifT hc44 hM
    refine cR ?_
    exact hM.elim
  replace hM := ifF hc44 hM
  refine cR ?_
  refine oS [(73, .bool (decide (y20 = 70))), (72, .bool (decide (y20 = 70)))] rfl ?_
  refine oE ?_
  refine cwp_condD (y20 = 70) (by kernel_rfl) (fun hc45 => ?_) (fun hc45 => ?_)
  · replace hM := ifT hc45 hM
    refine cR ?_
    exact hM.elim
  replace hM := ifF hc45 hM
  refine cwp_seq (cR ?_)
  refine oS [(85, .bool (decide (y20 = 71))), (84, .bool (decide (y20 = 71)))] rfl ?_
  refine oE ?_
  refine cwp_condD (y20 = 71) (by kernel_rfl) (fun hc46 => ?_) (fun hc46 => ?_)
  · replace hM := ifT hc46 hM
    refine cwp_skip (thenE_n ?_)
    refine cwp_of_part (fn := Tryd.f59) (p := [1, 1, 0, 1, 1, 1, 1, 1, 1, 1, 1, 1, 1, 1, 1, 1]) (by kernel_rfl) (cwp_at 0 (.pointer y16) (by kernel_rfl) (cwp_at 1 (.int .u8 y17) (by kernel_rfl) (cwp_at 2 (.slice y18 y18n y18c) (by kernel_rfl) (cwp_at 6 (.int .i64 y19) (by kernel_rfl) (cwp_at 10 (.int .u8 y20) (by kernel_rfl) (cwp_at 84 (.bool (decide (y20 = 71))) (by kernel_rfl) (vt_Screen_plain_j2_ok _ ?_ y16 y17 y18 y18n y18c y19 y20 (decide (y20 = 71)) _ _ hM)))))))
    · intro  b152 h151 hM
      exact hKn  _ _ hM
  replace hM := ifF hc46 hM
  refine cwp_region ?_
  refine oS [(86, .bool (decide (y20 = 96))), (84, .bool (decide (y20 = 96)))] rfl ?_
  refine oE ?_
  refine cwp_of_part (fn := Tryd.f59) (p := [1, 1, 0, 1, 1, 1, 1, 1, 1, 1, 1, 1, 1, 1, 1, 1]) (by kernel_rfl) (cwp_at 0 (.pointer y16) (by kernel_rfl) (cwp_at 1 (.int .u8 y17) (by kernel_rfl) (cwp_at 2 (.slice y18 y18n y18c) (by kernel_rfl) (cwp_at 6 (.int .i64 y19) (by kernel_rfl) (cwp_at 10 (.int .u8 y20) (by kernel_rfl) (cwp_at 84 (.bool (decide (y20 = 96))) (by kernel_rfl) (vt_Screen_plain_j2_ok _ ?_ y16 y17 y18 y18n y18c y19 y20 (decide (y20 = 96)) _ _ hM)))))))
  · intro  b155 h154 hM
    exact hKn  _ _ hM
def vt_Screen_plain_j0 (Kn : Heap → Prop) (y8 : Option Addr) (y9 : Int) (y10 : Option Addr) (y10n : Nat) (y10c : Nat) (y11 : Int) (y12 : Int) (y13 : Bool) (h : Heap) : Prop :=
 if y13 = true then
  False
 else
 if y12 = 67 then
  vt_Screen_plain_j1
   (fun  h157 =>
       Kn  h157) y8 y9 y10 y10n y10c y11 y12 (decide (y12 = 67)) h
 else
 vt_Screen_plain_j1
  (fun  h160 =>
      Kn  h160) y8 y9 y10 y10n y10c y11 y12 (decide (y12 = 97)) h
theorem vt_Screen_plain_j0_ok {Q : Exit → Env → Heap → Prop} (Kn : Heap → Prop) (hKn : ∀  (b : Env) (h : Heap), Kn  h → Q .normal b h) (y8 : Option Addr) (y9 : Int) (y10 : Option Addr) (y10n : Nat) (y10c : Nat) (y11 : Int) (y12 : Int) (y13 : Bool) (b : Env) (h : Heap) (hM : vt_Screen_plain_j0 Kn y8 y9 y10 y10n y10c y11 y12 y13 h) : cwp Tryd.prog (partC Tryd.f59 [1, 1, 0, 1, 1, 1]) 183 Q (upd (upd (upd (upd (upd (upd b 0 (.pointer y8)) 1 (.int .u8 y9)) 2 (.slice y10 y10n y10c)) 6 (.int .i64 y11)) 10 (.int .u8 y12)) 21 (.bool y13)) h := by
  unfold vt_Screen_plain_j0 at hM
  refine cwp_part rfl ?_
  refine cwp_condB y13 (by kernel_rfl) (fun hc14 => ?_) (fun hc14 => ?_)
  · replace hM := ifT hc14 hM
    refine cwp_region ?_
    exact hM.elim
  replace hM := ifF hc14 hM
  refine cwp_seq (cR ?_)
  refine oS [(28, .bool (decide (y12 = 67))), (27, .bool (decide (y12 = 67)))] rfl ?_
  refine oE ?_
  refine cwp_condD (y12 = 67) (by kernel_rfl) (fun hc15 => ?_) (fun hc15 => ?_)
  · replace hM := ifT hc15 hM
    refine cwp_skip (thenE_n ?_)
    refine cwp_of_part (fn := Tryd.f59) (p := [1, 1, 0, 1, 1, 1, 1, 1]) (by kernel_rfl) (cwp_at 0 (.pointer y8) (by kernel_rfl) (cwp_at 1 (.int .u8 y9) (by kernel_rfl) (cwp_at 2 (.slice y10 y10n y10c) (by kernel_rfl) (cwp_at 6 (.int .i64 y11) (by kernel_rfl) (cwp_at 10 (.int .u8 y12) (by kernel_rfl) (cwp_at 27 (.bool (decide (y12 = 67))) (by kernel_rfl) (vt_Screen_plain_j1_ok _ ?_ y8 y9 y10 y10n y10c y11 y12 (decide (y12 = 67)) _ _ hM)))))))
    · intro  b158 h157 hM
      exact hKn  _ _ hM
  replace hM := ifF hc15 hM
  refine cwp_region ?_
  refine oS [(29, .bool (decide (y12 = 97))), (27, .bool (decide (y12 = 97)))] rfl ?_
  refine oE ?_
  refine cwp_of_part (fn := Tryd.f59) (p := [1, 1, 0, 1, 1, 1, 1, 1]) (by kernel_rfl) (cwp_at 0 (.pointer y8) (by kernel_rfl) (cwp_at 1 (.int .u8 y9) (by kernel_rfl) (cwp_at 2 (.slice y10 y10n y10c) (by kernel_rfl) (cwp_at 6 (.int .i64 y11) (by kernel_rfl) (cwp_at 10 (.int .u8 y12) (by kernel_rfl) (cwp_at 27 (.bool (decide (y12 = 97))) (by kernel_rfl) (vt_Screen_plain_j1_ok _ ?_ y8 y9 y10 y10n y10c y11 y12 (decide (y12 = 97)) _ _ hM)))))))
  · intro  b161 h160 hM
    exact hKn  _ _ hM
def vt_Screen_plain (a1 : Option Addr) (a2 : Int) (a3 : Option Addr) (a3n : Nat) (a3c : Nat) (K : Heap → Prop) (h : Heap) : Prop :=
 vt_at a3 a3n a3c 0 1 (fun x5 h4 =>
  if a2 = 65 then
   False
  else
  if a2 = 66 then
   vt_Screen_plain_j0
    (fun  h163 =>
        K h163) a1 a2 a3 a3n a3c (imax 1 x5) a2 (decide (a2 = 66)) h4
  else
  vt_Screen_plain_j0
   (fun  h166 =>
        K h166) a1 a2 a3 a3n a3c (imax 1 x5) a2 (decide (a2 = 101)) h4) h
theorem vt_Screen_plain_ok (a1 : Option Addr) (a2 : Int) (a3 : Option Addr) (a3n : Nat) (a3c : Nat) (K : Heap → Prop) (h : Heap) (hM : vt_Screen_plain a1 a2 a3 a3n a3c K h) : CallsH Tryd.prog 59 #[.pointer a1, .int .u8 a2, .slice a3 a3n a3c] (fun v h' => v = .tuple #[] ∧ K h') h := by
 unfold vt_Screen_plain at hM
 refine callsH_intro (n := 183) Tryd.func59 rfl rfl (by kernel_rfl) ?_
 refine cR ?_
 refine oS [(7, .slice a3 a3n a3c)] rfl ?_
 refine owp_hpG rfl (by kernel_rfl) (hpCallE 66 #[.slice a3 a3n a3c, .int .i64 0, .int .i64 1] (by kernel_rfl) (vt_at_ok a3 a3n a3c 0 1 _ h hM) ?_)
 clear hM
 rintro _ h4 ⟨x5, rfl, hM⟩
 refine oS [(9, .int .i64 (imax 1 x5)), (6, .int .i64 (imax 1 x5))] rfl ?_
 refine oE (cR ?_)
 refine oS [(10, .int .u8 a2)] rfl ?_
 refine oE (cwp_block (cR ?_))
 refine oS [(17, .bool (decide (a2 = 65))), (16, .bool (decide (a2 = 65)))] rfl ?_
 refine oE ?_
 refine cwp_condD (a2 = 65) (by kernel_rfl) (fun hc6 => ?_) (fun hc6 => ?_)
 · replace hM := ifT hc6 hM
   refine cwp_region ?_
   exact hM.elim
 replace hM := ifF hc6 hM
 refine cwp_seq (cR ?_)
 refine oS [(22, .bool (decide (a2 = 66))), (21, .bool (decide (a2 = 66)))] rfl ?_
 refine oE ?_
 refine cwp_condD (a2 = 66) (by kernel_rfl) (fun hc7 => ?_) (fun hc7 => ?_)
 · replace hM := ifT hc7 hM
   refine cwp_skip (thenE_n ?_)
   refine cwp_of_part (fn := Tryd.f59) (p := [1, 1, 0, 1, 1, 1]) (by kernel_rfl) (cwp_at 0 (.pointer a1) (by kernel_rfl) (cwp_at 1 (.int .u8 a2) (by kernel_rfl) (cwp_at 2 (.slice a3 a3n a3c) (by kernel_rfl) (cwp_at 6 (.int .i64 (imax 1 x5)) (by kernel_rfl) (cwp_at 10 (.int .u8 a2) (by kernel_rfl) (cwp_at 21 (.bool (decide (a2 = 66))) (by kernel_rfl) (vt_Screen_plain_j0_ok _ ?_ a1 a2 a3 a3n a3c (imax 1 x5) a2 (decide (a2 = 66)) _ _ hM)))))))
   · intro  b164 h163 hM
     refine blockE_n ?_
     exact end_ (.tuple #[]) (by kernel_rfl) ⟨rfl, hM⟩
 replace hM := ifF hc7 hM
 refine cwp_region ?_
 refine oS [(23, .bool (decide (a2 = 101))), (21, .bool (decide (a2 = 101)))] rfl ?_
 refine oE ?_
 refine cwp_of_part (fn := Tryd.f59) (p := [1, 1, 0, 1, 1, 1]) (by kernel_rfl) (cwp_at 0 (.pointer a1) (by kernel_rfl) (cwp_at 1 (.int .u8 a2) (by kernel_rfl) (cwp_at 2 (.slice a3 a3n a3c) (by kernel_rfl) (cwp_at 6 (.int .i64 (imax 1 x5)) (by kernel_rfl) (cwp_at 10 (.int .u8 a2) (by kernel_rfl) (cwp_at 21 (.bool (decide (a2 = 101))) (by kernel_rfl) (vt_Screen_plain_j0_ok _ ?_ a1 a2 a3 a3n a3c (imax 1 x5) a2 (decide (a2 = 101)) _ _ hM)))))))
 · intro  b167 h166 hM
   refine blockE_n ?_
   exact end_ (.tuple #[]) (by kernel_rfl) ⟨rfl, hM⟩
/- (*mullion/vt.Screen).controlled -/
def vt_Screen_controlled_l0 (K1 : Heap → Prop) : Nat → Option Addr → Int → Option Addr → Nat → Nat → Int → Int → Heap → Prop
  | 0, _, _, _, _, _, _, _, _ => False
  | k + 1, y22, y23, y24, y24n, y24c, y25, y26, h =>
  if y26 < y25 then
   nz y24 fun p30 =>
   0 ≤ y26 ∧
   y26 < (y24n : Int) ∧
   ldI h .i64 (p30.add ((y26).toNat * 1)) fun x31 =>
   False
  else
  K1  h
theorem vt_Screen_controlled_l0_ok {Q : Exit → Env → Heap → Prop} (K1 : Heap → Prop) (hK1 : ∀  (b : Env) (h : Heap), K1  h → Q (.exit 1) b h) : ∀ (k : Nat) (y22 : Option Addr) (y23 : Int) (y24 : Option Addr) (y24n : Nat) (y24c : Nat) (y25 : Int) (y26 : Int) (b : Env) (h : Heap) (hM : vt_Screen_controlled_l0 K1 k y22 y23 y24 y24n y24c y25 y26 h), lwp Tryd.prog (partC Tryd.f42 [1, 0, 1, 1, 1, 0, 1, 0, 0]) 71 Q k (upd (upd (upd (upd (upd b 0 (.pointer y22)) 1 (.int .u8 y23)) 35 (.slice y24 y24n y24c)) 36 (.int .i64 y25)) 37 (.int .i64 y26)) h := by
  intro k
  induction k with
  | zero => intro y22 y23 y24 y24n y24c y25 y26 b h hM; exact (show False from hM).elim
  | succ k ih =>
    intro y22 y23 y24 y24n y24c y25 y26 b h hM
    unfold vt_Screen_controlled_l0 at hM
    refine lwp_succ (cwp_part rfl ?_)
    refine cR ?_
    refine oS [(38, .bool (decide (y26 < y25)))] rfl ?_
    refine oE (cwp_seq ?_)
    refine cwp_condD (y26 < y25) (by kernel_rfl) (fun hc27 => ?_) (fun hc27 => ?_)
    · replace hM := ifT hc27 hM
      refine cwp_skip (thenE_n (cwp_seq (cwp_block (cR ?_))))
      obtain ⟨p30, rfl, hM⟩ := hM
      obtain ⟨hc28, hM⟩ := hM
      obtain ⟨hc29, hM⟩ := hM
      refine owp_rdG (.pointer (some (p30.add ((y26).toNat * 1)))) rfl (by kernel_rfl) (rd_ixS (P := Tryd.prog) (h := h) (t := 95) (el := 3) (sz := 1) (ad := p30) (len := y24n) (c := y24c) (k := .i64) (i := y26) (by kernel_rfl) (by kernel_rfl) hc28 hc29 (by kernel_rfl)) ?_
      obtain ⟨x31, hc32, hM⟩ := hM
      refine owp_rdG (.int .i64 x31) rfl (by kernel_rfl) (Eq.trans (b := (cellH h (p30.add ((y26).toNat * 1))).bind fun v33 => some (.value v33)) (by kernel_rfl) (bindE hc32 _)) ?_
      refine oS [(9, .int .i64 x31)] rfl ?_
      refine oE (cwp_region ?_)
      exact hM.elim
    replace hM := ifF hc27 hM
    refine cwp_exit (thenE_x ?_)
    exact hK1  _ _ hM
def vt_Screen_controlled (a1 : Option Addr) (a2 : Int) (K : Heap → Prop) (h : Heap) : Prop :=
 vt_Screen_numbers a1 (fun x4 x5 x5n x5c x6 x7 h3 =>
  if (!x7) = true then
   K h3
  else
  if (((decide (x4 = 63)) && (x6.toList == (⟨#[]⟩ : ByteArray).toList)) && ((decide (a2 = 104)) || (decide (a2 = 108)))) = true then
   ∃ k36, vt_Screen_controlled_l0
    (fun  h34 =>
        K h34) k36 a1 a2 x5 x5n x5c (x5n : Int) 0 h3
  else
  if (((decide (x4 = 0)) && (x6.toList == (⟨#[33]⟩ : ByteArray).toList)) && (decide (a2 = 112))) = true then
   False
  else
  if ((decide (x4 = 0)) && (x6.toList == (⟨#[]⟩ : ByteArray).toList)) = true then
   vt_Screen_plain a1 a2 x5 x5n x5c (fun  h51 =>
     K h51) h3
  else
   K h3) h
theorem vt_Screen_controlled_ok (a1 : Option Addr) (a2 : Int) (K : Heap → Prop) (h : Heap) (hM : vt_Screen_controlled a1 a2 K h) : CallsH Tryd.prog 42 #[.pointer a1, .int .u8 a2] (fun v h' => v = .tuple #[] ∧ K h') h := by
 unfold vt_Screen_controlled at hM
 refine callsH_intro (n := 71) Tryd.func42 rfl rfl (by kernel_rfl) ?_
 refine cR ?_
 refine oS [(11, .pointer a1)] rfl ?_
 refine owp_hpG rfl (by kernel_rfl) (hpCallE 56 #[.pointer a1] (by kernel_rfl) (vt_Screen_numbers_ok a1 _ h hM) ?_)
 clear hM
 rintro _ h3 ⟨x4, x5, x5n, x5c, x6, x7, rfl, hM⟩
 refine oS [(10, .tuple #[.int .u8 x4, .slice x5 x5n x5c, .string x6, .bool x7]), (13, .int .u8 x4), (14, .slice x5 x5n x5c), (15, .string x6), (16, .bool x7), (4, .int .u8 x4), (5, .slice x5 x5n x5c), (6, .string x6), (7, .bool x7)] rfl ?_
 refine oE (cwp_block (cR ?_))
 refine oS [(18, .bool x7), (19, .bool (!x7)), (17, .bool (!x7))] rfl ?_
 refine oE ?_
 refine cwp_condB (!x7) (by kernel_rfl) (fun hc8 => ?_) (fun hc8 => ?_)
 · replace hM := ifT hc8 hM
   refine cwp_skip (blockE_n ?_)
   exact end_ (.tuple #[]) (by kernel_rfl) ⟨rfl, hM⟩
 replace hM := ifF hc8 hM
 refine cR ?_
 refine oS [(21, .int .u8 x4), (22, .bool (decide (x4 = 63))), (23, .bool (decide (x4 = 63)))] rfl ?_
 refine oB (decide (x4 = 63)) 3 [22, 23] (fun b_ => [(24, iteV b_ (.string x6 : Value) undef), (25, iteV b_ (.bool (x6.toList == (⟨#[]⟩ : ByteArray).toList) : Value) undef), (26, .bool (b_ && (x6.toList == (⟨#[]⟩ : ByteArray).toList)))]) rfl (fun hb9 hq10 => oS [(24, .string x6), (25, .bool (x6.toList == (⟨#[]⟩ : ByteArray).toList)), (26, .bool (x6.toList == (⟨#[]⟩ : ByteArray).toList))] rfl (hq10)) (fun hb11 hq12 => oS [(24, undef), (25, undef), (26, .bool false)] rfl (hq12)) ?_
 refine oS [(27, .bool ((decide (x4 = 63)) && (x6.toList == (⟨#[]⟩ : ByteArray).toList)))] rfl ?_
 refine oB ((decide (x4 = 63)) && (x6.toList == (⟨#[]⟩ : ByteArray).toList)) 7 [26, 27] (fun b_ => [(28, iteV b_ (.int .u8 a2 : Value) undef), (29, iteV b_ (.bool (decide (a2 = 104)) : Value) undef), (30, iteV b_ (.bool (decide (a2 = 104)) : Value) undef), (31, iteV b_ (iteV (decide (a2 = 104)) undef (.int .u8 a2 : Value)) undef), (32, iteV b_ (iteV (decide (a2 = 104)) undef (.bool (decide (a2 = 108)) : Value)) undef), (33, iteV b_ (.bool ((decide (a2 = 104)) || (decide (a2 = 108))) : Value) undef), (34, .bool (b_ && ((decide (a2 = 104)) || (decide (a2 = 108)))))]) rfl (fun hb17 hq18 => oS [(28, .int .u8 a2), (29, .bool (decide (a2 = 104))), (30, .bool (decide (a2 = 104)))] rfl (oB (decide (a2 = 104)) 3 [29, 30] (fun b_ => [(31, iteV b_ undef (.int .u8 a2 : Value)), (32, iteV b_ undef (.bool (decide (a2 = 108)) : Value)), (33, .bool (b_ || (decide (a2 = 108))))]) rfl (fun hb13 hq14 => oS [(31, undef), (32, undef), (33, .bool true)] rfl (hq14)) (fun hb15 hq16 => oS [(31, .int .u8 a2), (32, .bool (decide (a2 = 108))), (33, .bool (decide (a2 = 108)))] rfl (hq16)) (oS [(34, .bool ((decide (a2 = 104)) || (decide (a2 = 108))))] rfl (hq18)))) (fun hb19 hq20 => oS [(28, undef), (29, undef), (30, undef), (31, undef), (32, undef), (33, undef), (34, .bool false)] rfl (hq20)) ?_
 refine oS [(20, .bool (((decide (x4 = 63)) && (x6.toList == (⟨#[]⟩ : ByteArray).toList)) && ((decide (a2 = 104)) || (decide (a2 = 108)))))] rfl ?_
 refine oE ?_
 refine cwp_condB (((decide (x4 = 63)) && (x6.toList == (⟨#[]⟩ : ByteArray).toList)) && ((decide (a2 = 104)) || (decide (a2 = 108)))) (by kernel_rfl) (fun hc21 => ?_) (fun hc21 => ?_)
 · replace hM := ifT hc21 hM
   refine cR ?_
   refine oS [(35, .slice x5 x5n x5c), (36, .int .i64 (x5n : Int)), (37, .int .i64 0)] rfl ?_
   refine oE (cwp_block ?_)
   obtain ⟨k_, hM⟩ := hM
   refine cwp_loop k_ (lwp_of_part (fn := Tryd.f42) (p := [1, 0, 1, 1, 1, 0, 1, 0, 0]) (by kernel_rfl) (lwp_at 0 (.pointer a1) (by kernel_rfl) (lwp_at 1 (.int .u8 a2) (by kernel_rfl) (lwp_at 35 (.slice x5 x5n x5c) (by kernel_rfl) (lwp_at 36 (.int .i64 (x5n : Int)) (by kernel_rfl) (lwp_at 37 (.int .i64 0) (by kernel_rfl) (vt_Screen_controlled_l0_ok _ ?_ k_ a1 a2 x5 x5n x5c (x5n : Int) 0 _ _ hM)))))))
   · intro  b35 h34 hM
     refine blockE_h (blockE_n ?_)
     exact end_ (.tuple #[]) (by kernel_rfl) ⟨rfl, hM⟩
 replace hM := ifF hc21 hM
 refine cR ?_
 refine oS [(48, .int .u8 x4), (49, .bool (decide (x4 = 0))), (50, .bool (decide (x4 = 0)))] rfl ?_
 refine oB (decide (x4 = 0)) 3 [49, 50] (fun b_ => [(51, iteV b_ (.string x6 : Value) undef), (52, iteV b_ (.bool (x6.toList == (⟨#[33]⟩ : ByteArray).toList) : Value) undef), (53, .bool (b_ && (x6.toList == (⟨#[33]⟩ : ByteArray).toList)))]) rfl (fun hb37 hq38 => oS [(51, .string x6), (52, .bool (x6.toList == (⟨#[33]⟩ : ByteArray).toList)), (53, .bool (x6.toList == (⟨#[33]⟩ : ByteArray).toList))] rfl (hq38)) (fun hb39 hq40 => oS [(51, undef), (52, undef), (53, .bool false)] rfl (hq40)) ?_
 refine oS [(54, .bool ((decide (x4 = 0)) && (x6.toList == (⟨#[33]⟩ : ByteArray).toList)))] rfl ?_
 refine oB ((decide (x4 = 0)) && (x6.toList == (⟨#[33]⟩ : ByteArray).toList)) 3 [53, 54] (fun b_ => [(55, iteV b_ (.int .u8 a2 : Value) undef), (56, iteV b_ (.bool (decide (a2 = 112)) : Value) undef), (57, .bool (b_ && (decide (a2 = 112))))]) rfl (fun hb41 hq42 => oS [(55, .int .u8 a2), (56, .bool (decide (a2 = 112))), (57, .bool (decide (a2 = 112)))] rfl (hq42)) (fun hb43 hq44 => oS [(55, undef), (56, undef), (57, .bool false)] rfl (hq44)) ?_
 refine oS [(47, .bool (((decide (x4 = 0)) && (x6.toList == (⟨#[33]⟩ : ByteArray).toList)) && (decide (a2 = 112))))] rfl ?_
 refine oE ?_
 refine cwp_condB (((decide (x4 = 0)) && (x6.toList == (⟨#[33]⟩ : ByteArray).toList)) && (decide (a2 = 112))) (by kernel_rfl) (fun hc45 => ?_) (fun hc45 => ?_)
 · replace hM := ifT hc45 hM
   refine cwp_region ?_
   exact hM.elim
 replace hM := ifF hc45 hM
 refine cR ?_
 refine oS [(61, .int .u8 x4), (62, .bool (decide (x4 = 0))), (63, .bool (decide (x4 = 0)))] rfl ?_
 refine oB (decide (x4 = 0)) 3 [62, 63] (fun b_ => [(64, iteV b_ (.string x6 : Value) undef), (65, iteV b_ (.bool (x6.toList == (⟨#[]⟩ : ByteArray).toList) : Value) undef), (66, .bool (b_ && (x6.toList == (⟨#[]⟩ : ByteArray).toList)))]) rfl (fun hb46 hq47 => oS [(64, .string x6), (65, .bool (x6.toList == (⟨#[]⟩ : ByteArray).toList)), (66, .bool (x6.toList == (⟨#[]⟩ : ByteArray).toList))] rfl (hq47)) (fun hb48 hq49 => oS [(64, undef), (65, undef), (66, .bool false)] rfl (hq49)) ?_
 refine oS [(60, .bool ((decide (x4 = 0)) && (x6.toList == (⟨#[]⟩ : ByteArray).toList)))] rfl ?_
 refine oE ?_
 refine cwp_condB ((decide (x4 = 0)) && (x6.toList == (⟨#[]⟩ : ByteArray).toList)) (by kernel_rfl) (fun hc50 => ?_) (fun hc50 => ?_)
 · replace hM := ifT hc50 hM
   refine cwp_region ?_
   refine oS [(67, .pointer a1), (68, .int .u8 a2), (69, .slice x5 x5n x5c)] rfl ?_
   refine owp_hpG rfl (by kernel_rfl) (hpCallE 59 #[.pointer a1, .int .u8 a2, .slice x5 x5n x5c] (by kernel_rfl) (vt_Screen_plain_ok a1 a2 x5 x5n x5c _ h3 hM) ?_)
   clear hM
   rintro _ h51 ⟨rfl, hM⟩
   refine owp_nil (blockE_n ?_)
   exact end_ (.tuple #[]) (by kernel_rfl) ⟨rfl, hM⟩
 replace hM := ifF hc50 hM
 refine cwp_skip (blockE_n ?_)
 exact end_ (.tuple #[]) (by kernel_rfl) ⟨rfl, hM⟩
/- (*mullion/vt.Screen).sequence -/
def vt_Screen_sequence (a1 : Option Addr) (a2 : Int) (K : Heap → Prop) (h : Heap) : Prop :=
 if a2 < 32 then
  vt_Screen_does a1 a2 (fun  h4 =>
    K h4) h
 else
 if a2 < 64 then
  vt_Screen_gather a1 a2 (fun  h6 =>
    K h6) h
 else
 if a2 < 127 then
  nz a1 fun p8 =>
  stN (p8.add 31) [.int .i64 0] 0 h fun h9 =>
  ldB h9 (p8.add 33) fun x10 =>
  if (!x10) = true then
   vt_Screen_controlled (some p8) a2 (fun  h14 =>
     K h14) h9
  else
  K h9
 else
 if 128 ≤ a2 then
  nz a1 fun p16 =>
  stN (p16.add 31) [.int .i64 0] 0 h fun h17 =>
  vt_Screen_ground (some p16) a2 (fun  h18 =>
    K h18) h17
 else
 K h
theorem vt_Screen_sequence_ok (a1 : Option Addr) (a2 : Int) (K : Heap → Prop) (h : Heap) (hM : vt_Screen_sequence a1 a2 K h) : CallsH Tryd.prog 31 #[.pointer a1, .int .u8 a2] (fun v h' => v = .tuple #[] ∧ K h') h := by
 unfold vt_Screen_sequence at hM
 refine callsH_intro (n := 39) Tryd.func31 rfl rfl (by kernel_rfl) ?_
 refine cwp_block (cR ?_)
 refine oS [(5, .int .u8 a2), (6, .bool (decide (a2 < 32))), (4, .bool (decide (a2 < 32)))] rfl ?_
 refine oE ?_
 refine cwp_condD (a2 < 32) (by kernel_rfl) (fun hc3 => ?_) (fun hc3 => ?_)
 · replace hM := ifT hc3 hM
   refine cwp_region ?_
   refine oS [(7, .pointer a1), (8, .int .u8 a2)] rfl ?_
   refine owp_hpG rfl (by kernel_rfl) (hpCallE 39 #[.pointer a1, .int .u8 a2] (by kernel_rfl) (vt_Screen_does_ok a1 a2 _ h hM) ?_)
   clear hM
   rintro _ h4 ⟨rfl, hM⟩
   refine owp_nil (blockE_n ?_)
   exact end_ (.tuple #[]) (by kernel_rfl) ⟨rfl, hM⟩
 replace hM := ifF hc3 hM
 refine cR ?_
 refine oS [(11, .int .u8 a2), (12, .bool (decide (a2 < 64))), (10, .bool (decide (a2 < 64)))] rfl ?_
 refine oE ?_
 refine cwp_condD (a2 < 64) (by kernel_rfl) (fun hc5 => ?_) (fun hc5 => ?_)
 · replace hM := ifT hc5 hM
   refine cwp_region ?_
   refine oS [(13, .pointer a1), (14, .int .u8 a2)] rfl ?_
   refine owp_hpG rfl (by kernel_rfl) (hpCallE 40 #[.pointer a1, .int .u8 a2] (by kernel_rfl) (vt_Screen_gather_ok a1 a2 _ h hM) ?_)
   clear hM
   rintro _ h6 ⟨rfl, hM⟩
   refine owp_nil (blockE_n ?_)
   exact end_ (.tuple #[]) (by kernel_rfl) ⟨rfl, hM⟩
 replace hM := ifF hc5 hM
 refine cR ?_
 refine oS [(17, .int .u8 a2), (18, .bool (decide (a2 < 127))), (16, .bool (decide (a2 < 127)))] rfl ?_
 refine oE ?_
 refine cwp_condD (a2 < 127) (by kernel_rfl) (fun hc7 => ?_) (fun hc7 => ?_)
 · replace hM := ifT hc7 hM
   refine cR ?_
   refine oS [(19, .pointer a1)] rfl ?_
   obtain ⟨p8, rfl, hM⟩ := hM
   refine owp_rdG (.pointer (some p8)) rfl (by kernel_rfl) (by kernel_rfl) ?_
   refine oS [(21, .pointer (some (p8.add 31)))] rfl ?_
   refine owp_hpD rfl (by kernel_rfl) (hpSt (p8.add 31) [.int .i64 0] (fun _ => by kernel_rfl) (by kernel_rfl) hM ?_)
   clear hM
   intro h9 hM
   refine oE (cR ?_)
   refine oS [(22, .pointer (some p8)), (23, .pointer (some p8)), (24, .pointer (some (p8.add 33)))] rfl ?_
   obtain ⟨x10, hc11, hM⟩ := hM
   refine owp_rdG (.bool x10) rfl (by kernel_rfl) (Eq.trans (b := (cellH h9 (p8.add 33)).bind fun v12 => some (.value v12)) (by kernel_rfl) (bindE hc11 _)) ?_
   refine oS [(26, .bool (!x10))] rfl ?_
   refine oE ?_
   refine cwp_condB (!x10) (by kernel_rfl) (fun hc13 => ?_) (fun hc13 => ?_)
   · replace hM := ifT hc13 hM
     refine cwp_region ?_
     refine oS [(27, .pointer (some p8)), (28, .int .u8 a2)] rfl ?_
     refine owp_hpG rfl (by kernel_rfl) (hpCallE 42 #[.pointer (some p8), .int .u8 a2] (by kernel_rfl) (vt_Screen_controlled_ok (some p8) a2 _ h9 hM) ?_)
     clear hM
     rintro _ h14 ⟨rfl, hM⟩
     refine owp_nil (blockE_n ?_)
     exact end_ (.tuple #[]) (by kernel_rfl) ⟨rfl, hM⟩
   replace hM := ifF hc13 hM
   refine cwp_skip (blockE_n ?_)
   exact end_ (.tuple #[]) (by kernel_rfl) ⟨rfl, hM⟩
 replace hM := ifF hc7 hM
 refine cR ?_
 refine oS [(31, .int .u8 a2), (32, .bool (decide (128 ≤ a2))), (30, .bool (decide (128 ≤ a2)))] rfl ?_
 refine oE ?_
 refine cwp_condD (128 ≤ a2) (by kernel_rfl) (fun hc15 => ?_) (fun hc15 => ?_)
 · replace hM := ifT hc15 hM
   refine cR ?_
   refine oS [(33, .pointer a1)] rfl ?_
   obtain ⟨p16, rfl, hM⟩ := hM
   refine owp_rdG (.pointer (some p16)) rfl (by kernel_rfl) (by kernel_rfl) ?_
   refine oS [(35, .pointer (some (p16.add 31)))] rfl ?_
   refine owp_hpD rfl (by kernel_rfl) (hpSt (p16.add 31) [.int .i64 0] (fun _ => by kernel_rfl) (by kernel_rfl) hM ?_)
   clear hM
   intro h17 hM
   refine oE (cwp_region ?_)
   refine oS [(36, .pointer (some p16)), (37, .int .u8 a2)] rfl ?_
   refine owp_hpG rfl (by kernel_rfl) (hpCallE 29 #[.pointer (some p16), .int .u8 a2] (by kernel_rfl) (vt_Screen_ground_ok (some p16) a2 _ h17 hM) ?_)
   clear hM
   rintro _ h18 ⟨rfl, hM⟩
   refine owp_nil (blockE_n ?_)
   exact end_ (.tuple #[]) (by kernel_rfl) ⟨rfl, hM⟩
 replace hM := ifF hc15 hM
 refine cwp_skip (blockE_n ?_)
 exact end_ (.tuple #[]) (by kernel_rfl) ⟨rfl, hM⟩
/- (*mullion/vt.Screen).byte -/
def vt_Screen_byte_j0 (Kn : Option Addr → Int → Heap → Prop) (Kr : Heap → Prop) (y4 : Option Addr) (y5 : Int) (y6 : Int) (y7 : Bool) (h : Heap) : Prop :=
 if y7 = true then
  vt_Screen_broken y4 (fun  h9 =>
   nz y4 fun p10 =>
   stN (p10.add 31) [.int .i64 0] 0 h9 fun h11 =>
    Kr  h11) h
 else
 if y6 = 27 then
  vt_Screen_broken y4 (fun  h13 =>
   nz y4 fun p14 =>
   ldI h13 .i64 (p14.add 31) fun x15 =>
   if x15 = 3 then
    False
   else
   vt_Screen_begin (some p14) 1 (fun  h19 =>
      Kr  h19) h13) h
 else
 Kn y4 y5 h
theorem vt_Screen_byte_j0_ok {Q : Exit → Env → Heap → Prop} (Kn : Option Addr → Int → Heap → Prop) (hKn : ∀ (z24 : Option Addr) (z25 : Int) (b : Env) (h : Heap), Kn z24 z25 h → Q .normal (upd (upd b 0 (.pointer z24)) 1 (.int .u8 z25)) h) (Kr : Heap → Prop) (hKr : ∀  (b : Env) (h : Heap), Kr  h → Q .ret b h) (y4 : Option Addr) (y5 : Int) (y6 : Int) (y7 : Bool) (b : Env) (h : Heap) (hM : vt_Screen_byte_j0 Kn Kr y4 y5 y6 y7 h) : cwp Tryd.prog (partC Tryd.f21 [0, 1, 0, 1]) 78 Q (upd (upd (upd (upd b 0 (.pointer y4)) 1 (.int .u8 y5)) 4 (.int .u8 y6)) 5 (.bool y7)) h := by
  unfold vt_Screen_byte_j0 at hM
  refine cwp_part rfl ?_
  refine cwp_condB y7 (by kernel_rfl) (fun hc8 => ?_) (fun hc8 => ?_)
  · replace hM := ifT hc8 hM
    refine cR ?_
    refine oS [(8, .pointer y4)] rfl ?_
    refine owp_hpG rfl (by kernel_rfl) (hpCallE 26 #[.pointer y4] (by kernel_rfl) (vt_Screen_broken_ok y4 _ h hM) ?_)
    clear hM
    rintro _ h9 ⟨rfl, hM⟩
    refine oE (cR ?_)
    refine oS [(10, .pointer y4)] rfl ?_
    obtain ⟨p10, rfl, hM⟩ := hM
    refine owp_rdG (.pointer (some p10)) rfl (by kernel_rfl) (by kernel_rfl) ?_
    refine oS [(12, .pointer (some (p10.add 31)))] rfl ?_
    refine owp_hpD rfl (by kernel_rfl) (hpSt (p10.add 31) [.int .i64 0] (fun _ => by kernel_rfl) (by kernel_rfl) hM ?_)
    clear hM
    intro h11 hM
    refine oE (cwp_ret ?_)
    exact hKr  _ _ hM
  replace hM := ifF hc8 hM
  refine cR ?_
  refine oS [(14, .bool (decide (y6 = 27))), (13, .bool (decide (y6 = 27)))] rfl ?_
  refine oE ?_
  refine cwp_condD (y6 = 27) (by kernel_rfl) (fun hc12 => ?_) (fun hc12 => ?_)
  · replace hM := ifT hc12 hM
    refine cR ?_
    refine oS [(15, .pointer y4)] rfl ?_
    refine owp_hpG rfl (by kernel_rfl) (hpCallE 26 #[.pointer y4] (by kernel_rfl) (vt_Screen_broken_ok y4 _ h hM) ?_)
    clear hM
    rintro _ h13 ⟨rfl, hM⟩
    refine oE (cwp_seq (cR ?_))
    refine oS [(17, .pointer y4)] rfl ?_
    obtain ⟨p14, rfl, hM⟩ := hM
    refine owp_rdG (.pointer (some p14)) rfl (by kernel_rfl) (by kernel_rfl) ?_
    refine oS [(19, .pointer (some (p14.add 31)))] rfl ?_
    obtain ⟨x15, hc16, hM⟩ := hM
    refine owp_rdG (.int .i64 x15) rfl (by kernel_rfl) (Eq.trans (b := (cellH h13 (p14.add 31)).bind fun v17 => some (.value v17)) (by kernel_rfl) (bindE hc16 _)) ?_
    refine oS [(21, .bool (decide (x15 = 3)))] rfl ?_
    refine oE ?_
    refine cwp_condD (x15 = 3) (by kernel_rfl) (fun hc18 => ?_) (fun hc18 => ?_)
    · replace hM := ifT hc18 hM
      refine cwp_region ?_
      exact hM.elim
    replace hM := ifF hc18 hM
    refine cwp_skip (thenE_n (cR ?_))
    refine oS [(24, .pointer (some p14))] rfl ?_
    refine owp_hpG rfl (by kernel_rfl) (hpCallE 28 #[.pointer (some p14), .int .i64 1] (by kernel_rfl) (vt_Screen_begin_ok (some p14) 1 _ h13 hM) ?_)
    clear hM
    rintro _ h19 ⟨rfl, hM⟩
    refine oE (cwp_ret ?_)
    exact hKr  _ _ hM
  replace hM := ifF hc12 hM
  refine cwp_skip ?_
  exact q_at (Q := Q .normal) 0 (.pointer y4) (by kernel_rfl) (q_at (Q := Q .normal) 1 (.int .u8 y5) (by kernel_rfl) (hKn y4 y5 _ _ hM))
def vt_Screen_byte_j1 (Kn : Heap → Prop) (y29 : Option Addr) (y30 : Int) (h : Heap) : Prop :=
 nz y29 fun p31 =>
 ldI h .i64 (p31.add 31) fun x32 =>
 if x32 = 0 then
  vt_Screen_ground (some p31) y30 (fun  h36 =>
    Kn  h36) h
 else
 if x32 = 1 then
  vt_Screen_escape (some p31) y30 (fun  h38 =>
    Kn  h38) h
 else
 if x32 = 2 then
  vt_Screen_sequence (some p31) y30 (fun  h40 =>
    Kn  h40) h
 else
 if x32 = 3 then
  if y30 = 7 then
   False
  else
  if ((decide (32 ≤ y30)) && (!decide (y30 = 127))) = true then
   ldL h (p31.add 32) fun x51 x51n x51c =>
   if (x51n : Int) < 130 then
    ldL h (p31.add 32) fun x55 x55n x55c =>
    gap h fun h59 =>
    appH h59 5 1 [.int .u8 0] x55 x55n x55c [.int .u8 y30] 1 fun s62 s62c h61 =>
    stN (p31.add 32) [.slice s62 (x55n + 1) s62c] 0 h61 fun h63 =>
    Kn  h63
   else
   Kn  h
  else
  Kn  h
 else
 Kn  h
theorem vt_Screen_byte_j1_ok {Q : Exit → Env → Heap → Prop} (Kn : Heap → Prop) (hKn : ∀  (b : Env) (h : Heap), Kn  h → Q .normal b h) (y29 : Option Addr) (y30 : Int) (b : Env) (h : Heap) (hM : vt_Screen_byte_j1 Kn y29 y30 h) : cwp Tryd.prog (partC Tryd.f21 [1]) 78 Q (upd (upd b 0 (.pointer y29)) 1 (.int .u8 y30)) h := by
  unfold vt_Screen_byte_j1 at hM
  refine cwp_part rfl ?_
  refine cR ?_
  refine oS [(26, .pointer y29)] rfl ?_
  obtain ⟨p31, rfl, hM⟩ := hM
  refine owp_rdG (.pointer (some p31)) rfl (by kernel_rfl) (by kernel_rfl) ?_
  refine oS [(28, .pointer (some (p31.add 31)))] rfl ?_
  obtain ⟨x32, hc33, hM⟩ := hM
  refine owp_rdG (.int .i64 x32) rfl (by kernel_rfl) (Eq.trans (b := (cellH h (p31.add 31)).bind fun v34 => some (.value v34)) (by kernel_rfl) (bindE hc33 _)) ?_
  refine oE (cwp_block (cR ?_))
  refine oS [(31, .bool (decide (x32 = 0))), (30, .bool (decide (x32 = 0)))] rfl ?_
  refine oE ?_
  refine cwp_condD (x32 = 0) (by kernel_rfl) (fun hc35 => ?_) (fun hc35 => ?_)
  · replace hM := ifT hc35 hM
    refine cwp_region ?_
    refine oS [(32, .pointer (some p31)), (33, .int .u8 y30)] rfl ?_
    refine owp_hpG rfl (by kernel_rfl) (hpCallE 29 #[.pointer (some p31), .int .u8 y30] (by kernel_rfl) (vt_Screen_ground_ok (some p31) y30 _ h hM) ?_)
    clear hM
    rintro _ h36 ⟨rfl, hM⟩
    refine owp_nil (blockE_n ?_)
    exact hKn  _ _ hM
  replace hM := ifF hc35 hM
  refine cR ?_
  refine oS [(36, .bool (decide (x32 = 1))), (35, .bool (decide (x32 = 1)))] rfl ?_
  refine oE ?_
  refine cwp_condD (x32 = 1) (by kernel_rfl) (fun hc37 => ?_) (fun hc37 => ?_)
  · replace hM := ifT hc37 hM
    refine cwp_region ?_
    refine oS [(37, .pointer (some p31)), (38, .int .u8 y30)] rfl ?_
    refine owp_hpG rfl (by kernel_rfl) (hpCallE 30 #[.pointer (some p31), .int .u8 y30] (by kernel_rfl) (vt_Screen_escape_ok (some p31) y30 _ h hM) ?_)
    clear hM
    rintro _ h38 ⟨rfl, hM⟩
    refine owp_nil (blockE_n ?_)
    exact hKn  _ _ hM
  replace hM := ifF hc37 hM
  refine cR ?_
  refine oS [(41, .bool (decide (x32 = 2))), (40, .bool (decide (x32 = 2)))] rfl ?_
  refine oE ?_
  refine cwp_condD (x32 = 2) (by kernel_rfl) (fun hc39 => ?_) (fun hc39 => ?_)
  · replace hM := ifT hc39 hM
    refine cwp_region ?_
    refine oS [(42, .pointer (some p31)), (43, .int .u8 y30)] rfl ?_
    refine owp_hpG rfl (by kernel_rfl) (hpCallE 31 #[.pointer (some p31), .int .u8 y30] (by kernel_rfl) (vt_Screen_sequence_ok (some p31) y30 _ h hM) ?_)
    clear hM
    rintro _ h40 ⟨rfl, hM⟩
    refine owp_nil (blockE_n ?_)
    exact hKn  _ _ hM
  replace hM := ifF hc39 hM
  refine cR ?_
  refine oS [(46, .bool (decide (x32 = 3))), (45, .bool (decide (x32 = 3)))] rfl ?_
  refine oE ?_
  refine cwp_condD (x32 = 3) (by kernel_rfl) (fun hc41 => ?_) (fun hc41 => ?_)
  · replace hM := ifT hc41 hM
    refine cR ?_
    refine oS [(47, .int .u8 y30), (48, .bool (decide (y30 = 7)))] rfl ?_
    refine oE ?_
    refine cwp_condD (y30 = 7) (by kernel_rfl) (fun hc42 => ?_) (fun hc42 => ?_)
    · replace hM := ifT hc42 hM
      refine cR ?_
      exact hM.elim
    replace hM := ifF hc42 hM
    refine cR ?_
    refine oS [(54, .int .u8 y30), (55, .bool (decide (32 ≤ y30))), (56, .bool (decide (32 ≤ y30)))] rfl ?_
    refine oB (decide (32 ≤ y30)) 3 [55, 56] (fun b_ => [(57, iteV b_ (.int .u8 y30 : Value) undef), (58, iteV b_ (.bool (!decide (y30 = 127)) : Value) undef), (59, .bool (b_ && (!decide (y30 = 127))))]) rfl (fun hb43 hq44 => oS [(57, .int .u8 y30), (58, .bool (!decide (y30 = 127))), (59, .bool (!decide (y30 = 127)))] rfl (hq44)) (fun hb45 hq46 => oS [(57, undef), (58, undef), (59, .bool false)] rfl (hq46)) ?_
    refine oS [(60, .bool ((decide (32 ≤ y30)) && (!decide (y30 = 127))))] rfl ?_
    by_cases hc50 : ((decide (32 ≤ y30)) && (!decide (y30 = 127))) = true
    · refine owp_at 59 (.bool true) (Eq.trans (b := .bool ((decide (32 ≤ y30)) && (!decide (y30 = 127)))) (by kernel_rfl) (by rw [hc50])) ?_
      refine owp_at 60 (.bool true) (Eq.trans (b := .bool ((decide (32 ≤ y30)) && (!decide (y30 = 127)))) (by kernel_rfl) (by rw [hc50])) ?_
      replace hM := ifT hc50 hM
      refine oS [(61, .pointer (some p31)), (62, .pointer (some p31)), (63, .pointer (some (p31.add 32)))] rfl ?_
      obtain ⟨x51, x51n, x51c, hc52, hM⟩ := hM
      refine owp_rdG (.slice x51 x51n x51c) rfl (by kernel_rfl) (Eq.trans (b := (cellH h (p31.add 32)).bind fun v53 => some (.value v53)) (by kernel_rfl) (bindE hc52 _)) ?_
      refine oS [(65, .int .i64 (x51n : Int)), (66, .bool (decide ((x51n : Int) < 130))), (67, .bool (decide ((x51n : Int) < 130)))] rfl ?_
      refine oE ?_
      refine cwp_condD ((x51n : Int) < 130) (by kernel_rfl) (fun hc54 => ?_) (fun hc54 => ?_)
      · replace hM := ifT hc54 hM
        refine cwp_region ?_
        refine oS [(68, .pointer (some p31)), (69, .pointer (some p31)), (70, .pointer (some p31)), (71, .pointer (some (p31.add 32)))] rfl ?_
        obtain ⟨x55, x55n, x55c, hc56, hM⟩ := hM
        refine owp_rdG (.slice x55 x55n x55c) rfl (by kernel_rfl) (Eq.trans (b := (cellH h (p31.add 32)).bind fun v57 => some (.value v57)) (by kernel_rfl) (bindE hc56 _)) ?_
        refine oS [(73, .int .u8 y30)] rfl ?_
        refine owp_hpG rfl (by kernel_rfl) (hpNewS #[.int .u8 y30] 5 1 (fun _ => by kernel_rfl) ?_)
        intro b58 h59 hN60
        replace hM := hM _ (New.ext hN60)
        refine owp_hpG rfl (by kernel_rfl) (hpApp (t := 66) (ty := 66) (et := 5) (zv := .int .u8 0) (sz := 1) (by_ := 1) (base := x55) (n' := x55n) (c := x55c) (xb := (some ⟨b58, 0, none⟩)) (m := 1) (xc := 1) (new := [.int .u8 y30]) (fun _ => by kernel_rfl) (by kernel_rfl) (by kernel_rfl) [.int .u8 0] rfl rfl (by decide) rfl rfl ⟨Blk.cell (New.blk hN60) 0 (by kernel_rfl), trivial⟩ hM ?_)
        clear hM
        intro s62 s62c h61 hM
        refine oS [(76, .pointer (some p31)), (77, .pointer (some (p31.add 32)))] rfl ?_
        refine owp_hpD rfl (by kernel_rfl) (hpSt (p31.add 32) [.slice s62 (x55n + 1) s62c] (fun _ => by kernel_rfl) (by kernel_rfl) hM ?_)
        clear hM
        intro h63 hM
        refine owp_nil (blockE_n ?_)
        exact hKn  _ _ hM
      replace hM := ifF hc54 hM
      refine cwp_skip (blockE_n ?_)
      exact hKn  _ _ hM
    refine owp_at 59 (.bool false) (Eq.trans (b := .bool ((decide (32 ≤ y30)) && (!decide (y30 = 127)))) (by kernel_rfl) (by rw [Bool.eq_false_iff.2 hc50])) ?_
    refine owp_at 60 (.bool false) (Eq.trans (b := .bool ((decide (32 ≤ y30)) && (!decide (y30 = 127)))) (by kernel_rfl) (by rw [Bool.eq_false_iff.2 hc50])) ?_
    replace hM := ifF hc50 hM
    refine oS [(61, undef), (62, undef), (63, undef), (64, undef), (65, undef), (66, undef), (67, .bool false)] rfl ?_
    refine oE ?_
    refine cwp_cond (t := false) (by kernel_rfl) (fun hx_ => ?_) (fun hx_ => ?_)
    all_goals first | (cases hx_; done) | skip
    refine cwp_skip (blockE_n ?_)
    exact hKn  _ _ hM
  replace hM := ifF hc41 hM
  refine cwp_skip (blockE_n ?_)
  exact hKn  _ _ hM
def vt_Screen_byte (a1 : Option Addr) (a2 : Int) (K : Heap → Prop) (h : Heap) : Prop :=
 if a2 = 24 then
  vt_Screen_byte_j0
   (fun z26 z27 h28 =>
     vt_Screen_byte_j1
      (fun  h64 =>
            K h64) z26 z27 h28)
   (fun  h68 =>
       K h68) a1 a2 a2 (decide (a2 = 24)) h
 else
 vt_Screen_byte_j0
  (fun z71 z72 h73 =>
    vt_Screen_byte_j1
     (fun  h74 =>
           K h74) z71 z72 h73)
  (fun  h78 =>
      K h78) a1 a2 a2 (decide (a2 = 26)) h
theorem vt_Screen_byte_ok (a1 : Option Addr) (a2 : Int) (K : Heap → Prop) (h : Heap) (hM : vt_Screen_byte a1 a2 K h) : CallsH Tryd.prog 21 #[.pointer a1, .int .u8 a2] (fun v h' => v = .tuple #[] ∧ K h') h := by
 unfold vt_Screen_byte at hM
 refine callsH_intro (n := 78) Tryd.func21 rfl rfl (by kernel_rfl) ?_
 refine cwp_seq (cR ?_)
 refine oS [(4, .int .u8 a2)] rfl ?_
 refine oE (cwp_block (cwp_seq (cR ?_)))
 refine oS [(6, .bool (decide (a2 = 24))), (5, .bool (decide (a2 = 24)))] rfl ?_
 refine oE ?_
 refine cwp_condD (a2 = 24) (by kernel_rfl) (fun hc3 => ?_) (fun hc3 => ?_)
 · replace hM := ifT hc3 hM
   refine cwp_skip (thenE_n ?_)
   refine cwp_of_part (fn := Tryd.f21) (p := [0, 1, 0, 1]) (by kernel_rfl) (cwp_at 0 (.pointer a1) (by kernel_rfl) (cwp_at 1 (.int .u8 a2) (by kernel_rfl) (cwp_at 4 (.int .u8 a2) (by kernel_rfl) (cwp_at 5 (.bool (decide (a2 = 24))) (by kernel_rfl) (vt_Screen_byte_j0_ok _ ?_ _ ?_ a1 a2 a2 (decide (a2 = 24)) _ _ hM)))))
   · intro z26 z27 b67 h28 hM
     refine blockE_n (thenE_n ?_)
     refine cwp_of_part (fn := Tryd.f21) (p := [1]) (by kernel_rfl) (cwp_at 0 (.pointer z26) (by kernel_rfl) (cwp_at 1 (.int .u8 z27) (by kernel_rfl) (vt_Screen_byte_j1_ok _ ?_ z26 z27 _ _ hM)))
     · intro  b65 h64 hM
       exact end_ (.tuple #[]) (by kernel_rfl) ⟨rfl, hM⟩
   · intro  b69 h68 hM
     refine blockE_r (thenE_r ?_)
     exact ret_ (.tuple #[]) (by kernel_rfl) ⟨rfl, hM⟩
 replace hM := ifF hc3 hM
 refine cwp_region ?_
 refine oS [(7, .bool (decide (a2 = 26))), (5, .bool (decide (a2 = 26)))] rfl ?_
 refine oE ?_
 refine cwp_of_part (fn := Tryd.f21) (p := [0, 1, 0, 1]) (by kernel_rfl) (cwp_at 0 (.pointer a1) (by kernel_rfl) (cwp_at 1 (.int .u8 a2) (by kernel_rfl) (cwp_at 4 (.int .u8 a2) (by kernel_rfl) (cwp_at 5 (.bool (decide (a2 = 26))) (by kernel_rfl) (vt_Screen_byte_j0_ok _ ?_ _ ?_ a1 a2 a2 (decide (a2 = 26)) _ _ hM)))))
 · intro z71 z72 b77 h73 hM
   refine blockE_n (thenE_n ?_)
   refine cwp_of_part (fn := Tryd.f21) (p := [1]) (by kernel_rfl) (cwp_at 0 (.pointer z71) (by kernel_rfl) (cwp_at 1 (.int .u8 z72) (by kernel_rfl) (vt_Screen_byte_j1_ok _ ?_ z71 z72 _ _ hM)))
   · intro  b75 h74 hM
     exact end_ (.tuple #[]) (by kernel_rfl) ⟨rfl, hM⟩
 · intro  b79 h78 hM
   refine blockE_r (thenE_r ?_)
   exact ret_ (.tuple #[]) (by kernel_rfl) ⟨rfl, hM⟩
/- (*mullion/vt.Screen).Feed -/
def vt_Screen_Feed_l0 (K0 : Heap → Prop) : Nat → Option Addr → ByteArray → Int → Int → Heap → Prop
  | 0, _, _, _, _, _ => False
  | k + 1, y3, y4, y5, y6, h =>
  if y6 < y5 then
   0 ≤ y6 ∧
   y6 < (y4.size : Int) ∧
   vt_Screen_byte y3 (byteAt y4 y6) (fun  h10 =>
     vt_Screen_Feed_l0 K0 k y3 y4 y5 (IntKind.wrap .i64 (y6 + 1)) h10) h
  else
  K0  h
theorem vt_Screen_Feed_l0_ok {Q : Exit → Env → Heap → Prop} (K0 : Heap → Prop) (hK0 : ∀  (b : Env) (h : Heap), K0  h → Q (.exit 0) b h) : ∀ (k : Nat) (y3 : Option Addr) (y4 : ByteArray) (y5 : Int) (y6 : Int) (b : Env) (h : Heap) (hM : vt_Screen_Feed_l0 K0 k y3 y4 y5 y6 h), lwp Tryd.prog (partC Tryd.f9 [1, 0, 0]) 16 Q k (upd (upd (upd (upd b 0 (.pointer y3)) 1 (.string y4)) 6 (.int .i64 y5)) 7 (.int .i64 y6)) h := by
  intro k
  induction k with
  | zero => intro y3 y4 y5 y6 b h hM; exact (show False from hM).elim
  | succ k ih =>
    intro y3 y4 y5 y6 b h hM
    unfold vt_Screen_Feed_l0 at hM
    refine lwp_succ (cwp_part rfl ?_)
    refine cR ?_
    refine oS [(8, .bool (decide (y6 < y5)))] rfl ?_
    refine oE (cwp_seq ?_)
    refine cwp_condD (y6 < y5) (by kernel_rfl) (fun hc7 => ?_) (fun hc7 => ?_)
    · replace hM := ifT hc7 hM
      refine cwp_skip (thenE_n (cwp_seq (cwp_block (cR ?_))))
      refine oS [(9, .int .i64 y6), (4, .int .i64 y6)] rfl ?_
      refine oE (cwp_region ?_)
      refine oS [(10, .pointer y3), (11, .string y4), (12, .int .i64 y6)] rfl ?_
      obtain ⟨hc8, hM⟩ := hM
      obtain ⟨hc9, hM⟩ := hM
      refine owp_rdG (.int .u8 (byteAt y4 y6)) rfl (by kernel_rfl) (rd_ixStr (P := Tryd.prog) (h := h) (t := 9) (s := y4) (k := .i64) (i := y6) (by kernel_rfl) hc8 hc9 (by kernel_rfl)) ?_
      refine owp_hpG rfl (by kernel_rfl) (hpCallE 21 #[.pointer y3, .int .u8 (byteAt y4 y6)] (by kernel_rfl) (vt_Screen_byte_ok y3 (byteAt y4 y6) _ h hM) ?_)
      clear hM
      rintro _ h10 ⟨rfl, hM⟩
      refine owp_nil (blockE_n (thenE_n (cwp_region ?_)))
      refine oS [(15, .int .i64 (IntKind.wrap .i64 (y6 + 1))), (7, .int .i64 (IntKind.wrap .i64 (y6 + 1)))] rfl ?_
      refine owp_nil ?_
      exact lwp_at 0 (.pointer y3) (by kernel_rfl) (lwp_at 1 (.string y4) (by kernel_rfl) (lwp_at 6 (.int .i64 y5) (by kernel_rfl) (lwp_at 7 (.int .i64 (IntKind.wrap .i64 (y6 + 1))) (by kernel_rfl) (ih y3 y4 y5 (IntKind.wrap .i64 (y6 + 1)) _ _ hM))))
    replace hM := ifF hc7 hM
    refine cwp_exit (thenE_x ?_)
    exact hK0  _ _ hM
def vt_Screen_Feed (a1 : Option Addr) (a2 : ByteArray) (K : Heap → Prop) (h : Heap) : Prop :=
 ∃ k13, vt_Screen_Feed_l0
  (fun  h11 =>
      K h11) k13 a1 a2 (a2.size : Int) 0 h
theorem vt_Screen_Feed_ok (a1 : Option Addr) (a2 : ByteArray) (K : Heap → Prop) (h : Heap) (hM : vt_Screen_Feed a1 a2 K h) : CallsH Tryd.prog 9 #[.pointer a1, .string a2] (fun v h' => v = .tuple #[] ∧ K h') h := by
 unfold vt_Screen_Feed at hM
 refine callsH_intro (n := 16) Tryd.func9 rfl rfl (by kernel_rfl) ?_
 refine cR ?_
 refine oS [(5, .string a2), (6, .int .i64 (a2.size : Int)), (7, .int .i64 0)] rfl ?_
 refine oE (cwp_block ?_)
 obtain ⟨k_, hM⟩ := hM
 refine cwp_loop k_ (lwp_of_part (fn := Tryd.f9) (p := [1, 0, 0]) (by kernel_rfl) (lwp_at 0 (.pointer a1) (by kernel_rfl) (lwp_at 1 (.string a2) (by kernel_rfl) (lwp_at 6 (.int .i64 (a2.size : Int)) (by kernel_rfl) (lwp_at 7 (.int .i64 0) (by kernel_rfl) (vt_Screen_Feed_l0_ok _ ?_ k_ a1 a2 (a2.size : Int) 0 _ _ hM))))))
 · intro  b12 h11 hM
   refine blockE_h ?_
   exact end_ (.tuple #[]) (by kernel_rfl) ⟨rfl, hM⟩
/- (*mullion/vt.Screen).Picture -/
def vt_Screen_Picture_l0 (K0 : Nat → Nat → Heap → Prop) : Nat → Nat → Nat → Option Addr → Nat → Nat → Int → Int → Heap → Prop
  | 0, _, _, _, _, _, _, _, _ => False
  | k + 1, y46, y47, y48, y48n, y48c, y49, y50, h =>
  if y50 < y49 then
   nz y48 fun p54 =>
   0 ≤ y50 ∧
   y50 < (y48n : Int) ∧
   ldL h (p54.add ((y50).toNat * 1)) fun x55 x55n x55c =>
   ldL h ⟨y47, 2, none⟩ fun x58 x58n x58c =>
   appS h 43 48 [.string (⟨#[]⟩ : ByteArray), .int .i64 0, .int .i64 0, .int .i64 0, .int .i64 0] x58 x58n x58c x55 x55n fun s62 s62c h61 =>
   stN ⟨y47, 2, none⟩ [.slice s62 (x58n + x55n) s62c] 0 h61 fun h64 =>
   vt_Screen_Picture_l0 K0 k y46 y47 (some p54) y48n y48c y49 (IntKind.wrap .i64 (y50 + 1)) h64
  else
  K0 y46 y47 h
theorem vt_Screen_Picture_l0_ok {Q : Exit → Env → Heap → Prop} (K0 : Nat → Nat → Heap → Prop) (hK0 : ∀ (z69 : Nat) (z70 : Nat) (b : Env) (h : Heap), K0 z69 z70 h → Q (.exit 0) (upd (upd b 2 (.pointer (some ⟨z69, 0, none⟩))) 3 (.pointer (some ⟨z70, 0, none⟩))) h) : ∀ (k : Nat) (y46 : Nat) (y47 : Nat) (y48 : Option Addr) (y48n : Nat) (y48c : Nat) (y49 : Int) (y50 : Int) (b : Env) (h : Heap) (hM : vt_Screen_Picture_l0 K0 k y46 y47 y48 y48n y48c y49 y50 h), lwp Tryd.prog (partC Tryd.f12 [1, 1, 0, 1, 0, 0]) 50 Q k (upd (upd (upd (upd (upd b 2 (.pointer (some ⟨y46, 0, none⟩))) 3 (.pointer (some ⟨y47, 0, none⟩))) 37 (.slice y48 y48n y48c)) 38 (.int .i64 y49)) 39 (.int .i64 y50)) h := by
  intro k
  induction k with
  | zero => intro y46 y47 y48 y48n y48c y49 y50 b h hM; exact (show False from hM).elim
  | succ k ih =>
    intro y46 y47 y48 y48n y48c y49 y50 b h hM
    unfold vt_Screen_Picture_l0 at hM
    refine lwp_succ (cwp_part rfl ?_)
    refine cR ?_
    refine oS [(40, .bool (decide (y50 < y49)))] rfl ?_
    refine oE (cwp_seq ?_)
    refine cwp_condD (y50 < y49) (by kernel_rfl) (fun hc51 => ?_) (fun hc51 => ?_)
    · replace hM := ifT hc51 hM
      refine cwp_skip (thenE_n (cwp_seq (cwp_block (cR ?_))))
      obtain ⟨p54, rfl, hM⟩ := hM
      obtain ⟨hc52, hM⟩ := hM
      obtain ⟨hc53, hM⟩ := hM
      refine owp_rdG (.pointer (some (p54.add ((y50).toNat * 1)))) rfl (by kernel_rfl) (rd_ixS (P := Tryd.prog) (h := h) (t := 57) (el := 72) (sz := 1) (ad := p54) (len := y48n) (c := y48c) (k := .i64) (i := y50) (by kernel_rfl) (by kernel_rfl) hc52 hc53 (by kernel_rfl)) ?_
      obtain ⟨x55, x55n, x55c, hc56, hM⟩ := hM
      refine owp_rdG (.slice x55 x55n x55c) rfl (by kernel_rfl) (Eq.trans (b := (cellH h (p54.add ((y50).toNat * 1))).bind fun v57 => some (.value v57)) (by kernel_rfl) (bindE hc56 _)) ?_
      refine oS [(5, .slice x55 x55n x55c)] rfl ?_
      refine oE (cwp_region ?_)
      refine oS [(43, .pointer (some ⟨y47, 2, none⟩))] rfl ?_
      obtain ⟨x58, x58n, x58c, hc59, hM⟩ := hM
      refine owp_rdG (.slice x58 x58n x58c) rfl (by kernel_rfl) (Eq.trans (b := (cellH h ⟨y47, 2, none⟩).bind fun v60 => some (.value v60)) (by kernel_rfl) (bindE hc59 _)) ?_
      refine oS [(45, .slice x55 x55n x55c)] rfl ?_
      obtain ⟨nw63, nw631, nw632, nw633, hM⟩ := hM
      refine owp_hpG rfl (by kernel_rfl) (hpApp2 (t2 := 72) (et2 := 43) (t := 33) (ty := 33) (et := 43) (zv := .agg #[.string (⟨#[]⟩ : ByteArray), .int .i64 0, .int .i64 0, .int .i64 0, .int .i64 0]) (sz := 5) (by_ := 48) (base := x58) (n' := x58n) (c := x58c) (xb := x55) (m := x55n) (xc := x55c) (new := nw63) (fun _ => by kernel_rfl) (by kernel_rfl) (by kernel_rfl) (by kernel_rfl) [.string (⟨#[]⟩ : ByteArray), .int .i64 0, .int .i64 0, .int .i64 0, .int .i64 0] rfl rfl (by decide) nw631 nw632 nw633 hM ?_)
      clear hM
      intro s62 s62c h61 hM
      refine oS [(47, .pointer (some ⟨y47, 2, none⟩))] rfl ?_
      refine owp_hpD rfl (by kernel_rfl) (hpSt ⟨y47, 2, none⟩ [.slice s62 (x58n + x55n) s62c] (fun _ => by kernel_rfl) (by kernel_rfl) hM ?_)
      clear hM
      intro h64 hM
      refine owp_nil (blockE_n (thenE_n (cwp_region ?_)))
      refine oS [(48, .int .i64 (IntKind.wrap .i64 (y50 + 1))), (39, .int .i64 (IntKind.wrap .i64 (y50 + 1)))] rfl ?_
      refine owp_nil ?_
      exact lwp_at 2 (.pointer (some ⟨y46, 0, none⟩)) (by kernel_rfl) (lwp_at 3 (.pointer (some ⟨y47, 0, none⟩)) (by kernel_rfl) (lwp_at 37 (.slice (some p54) y48n y48c) (by kernel_rfl) (lwp_at 38 (.int .i64 y49) (by kernel_rfl) (lwp_at 39 (.int .i64 (IntKind.wrap .i64 (y50 + 1))) (by kernel_rfl) (ih y46 y47 (some p54) y48n y48c y49 (IntKind.wrap .i64 (y50 + 1)) _ _ hM)))))
    replace hM := ifF hc51 hM
    refine cwp_exit (thenE_x ?_)
    exact q_at (Q := Q (.exit 0)) 2 (.pointer (some ⟨y46, 0, none⟩)) (by kernel_rfl) (q_at (Q := Q (.exit 0)) 3 (.pointer (some ⟨y47, 0, none⟩)) (by kernel_rfl) (hK0 y46 y47 _ _ hM))
def vt_Screen_Picture (a1 : Option Addr) (K : Int → Int → Option Addr → Nat → Nat → Int → Int → Bool → ByteArray → Heap → Prop) (h : Heap) : Prop :=
 newB h #[.int .i64 0, .int .i64 0, .slice none 0 0, .int .i64 0, .int .i64 0, .bool false, .string (⟨#[]⟩ : ByteArray)] 35 fun b2 h3 =>
 nz a1 fun p5 =>
 ldI h3 .i64 p5 fun x6 =>
 ldI h3 .i64 (p5.add 1) fun x10 =>
 ldI h3 .i64 (p5.add 9) fun x14 =>
 ldI h3 .i64 (p5.add 10) fun x18 =>
 ldB h3 (p5.add 27) fun x22 =>
 ldS h3 (p5.add 28) fun x26 =>
 newB h3 #[.int .i64 0, .int .i64 0, .slice none 0 0, .int .i64 0, .int .i64 0, .bool false, .string (⟨#[]⟩ : ByteArray)] 35 fun b30 h31 =>
 (cellH h31 (p5.add 28) = some (.string x26) ∧ cellH h31 (p5.add 27) = some (.bool x22) ∧ cellH h31 (p5.add 10) = some (.int .i64 x18) ∧ cellH h31 (p5.add 9) = some (.int .i64 x14) ∧ cellH h31 (p5.add 1) = some (.int .i64 x10) ∧ cellH h31 p5 = some (.int .i64 x6)) ∧
 stN ⟨b30, 0, none⟩ [.int .i64 x6, .int .i64 x10, .slice none 0 0, .int .i64 x14, .int .i64 x18, .bool x22, .string x26] 0 h31 fun h39 =>
 vt_Screen_shown (some p5) (fun x41 h40 =>
  nz x41 fun p42 =>
  ldL h40 p42 fun x43 x43n x43c =>
  ∃ k118, vt_Screen_Picture_l0
   (fun z71 z72 h73 =>
     ldI h73 .i64 ⟨z72, 0, none⟩ fun x74 =>
     ldI h73 .i64 ⟨z72, 1, none⟩ fun x76 =>
     ldL h73 ⟨z72, 2, none⟩ fun x78 x78n x78c =>
     ldI h73 .i64 ⟨z72, 3, none⟩ fun x80 =>
     ldI h73 .i64 ⟨z72, 4, none⟩ fun x82 =>
     ldB h73 ⟨z72, 5, none⟩ fun x84 =>
     ldS h73 ⟨z72, 6, none⟩ fun x86 =>
     stN ⟨z71, 0, none⟩ [.int .i64 x74, .int .i64 x76, .slice x78 x78n x78c, .int .i64 x80, .int .i64 x82, .bool x84, .string x86] 0 h73 fun h95 =>
     ldI h95 .i64 ⟨z71, 0, none⟩ fun x96 =>
     ldI h95 .i64 ⟨z71, 1, none⟩ fun x98 =>
     ldL h95 ⟨z71, 2, none⟩ fun x100 x100n x100c =>
     ldI h95 .i64 ⟨z71, 3, none⟩ fun x102 =>
     ldI h95 .i64 ⟨z71, 4, none⟩ fun x104 =>
     ldB h95 ⟨z71, 5, none⟩ fun x106 =>
     ldS h95 ⟨z71, 6, none⟩ fun x108 =>
        K x96 x98 x100 x100n x100c x102 x104 x106 x108 h95) k118 b2 b30 x43 x43n x43c (x43n : Int) 0 h40) h39
theorem vt_Screen_Picture_ok (a1 : Option Addr) (K : Int → Int → Option Addr → Nat → Nat → Int → Int → Bool → ByteArray → Heap → Prop) (h : Heap) (hM : vt_Screen_Picture a1 K h) : CallsH Tryd.prog 12 #[.pointer a1] (fun v h' => ∃ (r119 : Int) (r120 : Int) (r121 : Option Addr) (r121n : Nat) (r121c : Nat) (r122 : Int) (r123 : Int) (r124 : Bool) (r125 : ByteArray), v = .agg #[.int .i64 r119, .int .i64 r120, .slice r121 r121n r121c, .int .i64 r122, .int .i64 r123, .bool r124, .string r125] ∧ K r119 r120 r121 r121n r121c r122 r123 r124 r125 h') h := by
 unfold vt_Screen_Picture at hM
 refine callsH_intro (n := 50) Tryd.func12 rfl rfl (by kernel_rfl) ?_
 refine cR ?_
 refine owp_hpG rfl (by kernel_rfl) (hpNew #[.int .i64 0, .int .i64 0, .slice none 0 0, .int .i64 0, .int .i64 0, .bool false, .string (⟨#[]⟩ : ByteArray)] 35 (fun _ => by kernel_rfl) ?_)
 intro b2 h3 hN4
 replace hM := newB_of hN4 hM
 refine oE (cwp_seq ?_)
 refine cwp_draw (by kernel_rfl) ?_
 refine k_pure (i := 0) [1, 2, 3, 26, 28] (.pointer a1) (by kernel_rfl) rfl rfl (by kernel_rfl) (fun h' => by kernel_rfl) (by kernel_rfl) ?_
 obtain ⟨p5, rfl, hM⟩ := hM
 refine k_pure (i := 1) [2, 3, 26, 28] (.pointer (some p5)) (by kernel_rfl) rfl rfl (by kernel_rfl) (fun h' => by kernel_rfl) (by kernel_rfl) ?_
 refine k_pure (i := 2) [3, 26, 28] (.pointer (some p5)) (by kernel_rfl) rfl rfl (by kernel_rfl) (fun h' => by kernel_rfl) (by kernel_rfl) ?_
 obtain ⟨x6, hc7, hM⟩ := hM
 refine k_load (i := 3) (.int .i64 x6) (fun h' => cellH h' p5 = some (.int .i64 x6) ∧ True) [26, 28] [28] (by kernel_rfl) (by kernel_rfl) rfl rfl (by kernel_rfl) (fun h' hS => Eq.trans (b := (cellH h' p5).bind fun v9 => some (.value v9)) (by kernel_rfl) (bindE hS.1 _)) ⟨hc7, trivial⟩ (by kernel_rfl) ?_
 refine k_pure (i := 4) [5, 6, 7, 26, 28] (.pointer (some p5)) (by kernel_rfl) rfl rfl (by kernel_rfl) (fun h' => by kernel_rfl) (by kernel_rfl) ?_
 refine k_pure (i := 5) [6, 7, 26, 28] (.pointer (some p5)) (by kernel_rfl) rfl rfl (by kernel_rfl) (fun h' => by kernel_rfl) (by kernel_rfl) ?_
 refine k_pure (i := 6) [7, 26, 28] (.pointer (some (p5.add 1))) (by kernel_rfl) rfl rfl (by kernel_rfl) (fun h' => by kernel_rfl) (by kernel_rfl) ?_
 obtain ⟨x10, hc11, hM⟩ := hM
 refine k_load (i := 7) (.int .i64 x10) (fun h' => cellH h' (p5.add 1) = some (.int .i64 x10) ∧ True) [26, 28] [28] (by kernel_rfl) (by kernel_rfl) rfl rfl (by kernel_rfl) (fun h' hS => Eq.trans (b := (cellH h' (p5.add 1)).bind fun v13 => some (.value v13)) (by kernel_rfl) (bindE hS.1 _)) ⟨hc11, trivial⟩ (by kernel_rfl) ?_
 refine k_pure (i := 8) [9, 10, 11, 12, 26, 28] (.pointer (some p5)) (by kernel_rfl) rfl rfl (by kernel_rfl) (fun h' => by kernel_rfl) (by kernel_rfl) ?_
 refine k_pure (i := 9) [10, 11, 12, 26, 28] (.pointer (some p5)) (by kernel_rfl) rfl rfl (by kernel_rfl) (fun h' => by kernel_rfl) (by kernel_rfl) ?_
 refine k_pure (i := 10) [11, 12, 26, 28] (.pointer (some (p5.add 9))) (by kernel_rfl) rfl rfl (by kernel_rfl) (fun h' => by kernel_rfl) (by kernel_rfl) ?_
 refine k_pure (i := 11) [12, 26, 28] (.pointer (some (p5.add 9))) (by kernel_rfl) rfl rfl (by kernel_rfl) (fun h' => by kernel_rfl) (by kernel_rfl) ?_
 obtain ⟨x14, hc15, hM⟩ := hM
 refine k_load (i := 12) (.int .i64 x14) (fun h' => cellH h' (p5.add 9) = some (.int .i64 x14) ∧ True) [26, 28] [28] (by kernel_rfl) (by kernel_rfl) rfl rfl (by kernel_rfl) (fun h' hS => Eq.trans (b := (cellH h' (p5.add 9)).bind fun v17 => some (.value v17)) (by kernel_rfl) (bindE hS.1 _)) ⟨hc15, trivial⟩ (by kernel_rfl) ?_
 refine k_pure (i := 13) [14, 15, 16, 17, 26, 28] (.pointer (some p5)) (by kernel_rfl) rfl rfl (by kernel_rfl) (fun h' => by kernel_rfl) (by kernel_rfl) ?_
 refine k_pure (i := 14) [15, 16, 17, 26, 28] (.pointer (some p5)) (by kernel_rfl) rfl rfl (by kernel_rfl) (fun h' => by kernel_rfl) (by kernel_rfl) ?_
 refine k_pure (i := 15) [16, 17, 26, 28] (.pointer (some (p5.add 9))) (by kernel_rfl) rfl rfl (by kernel_rfl) (fun h' => by kernel_rfl) (by kernel_rfl) ?_
 refine k_pure (i := 16) [17, 26, 28] (.pointer (some (p5.add 10))) (by kernel_rfl) rfl rfl (by kernel_rfl) (fun h' => by kernel_rfl) (by kernel_rfl) ?_
 obtain ⟨x18, hc19, hM⟩ := hM
 refine k_load (i := 17) (.int .i64 x18) (fun h' => cellH h' (p5.add 10) = some (.int .i64 x18) ∧ True) [26, 28] [28] (by kernel_rfl) (by kernel_rfl) rfl rfl (by kernel_rfl) (fun h' hS => Eq.trans (b := (cellH h' (p5.add 10)).bind fun v21 => some (.value v21)) (by kernel_rfl) (bindE hS.1 _)) ⟨hc19, trivial⟩ (by kernel_rfl) ?_
 refine k_pure (i := 18) [19, 20, 21, 26, 28] (.pointer (some p5)) (by kernel_rfl) rfl rfl (by kernel_rfl) (fun h' => by kernel_rfl) (by kernel_rfl) ?_
 refine k_pure (i := 19) [20, 21, 26, 28] (.pointer (some p5)) (by kernel_rfl) rfl rfl (by kernel_rfl) (fun h' => by kernel_rfl) (by kernel_rfl) ?_
 refine k_pure (i := 20) [21, 26, 28] (.pointer (some (p5.add 27))) (by kernel_rfl) rfl rfl (by kernel_rfl) (fun h' => by kernel_rfl) (by kernel_rfl) ?_
 obtain ⟨x22, hc23, hM⟩ := hM
 refine k_load (i := 21) (.bool x22) (fun h' => cellH h' (p5.add 27) = some (.bool x22) ∧ True) [26, 28] [28] (by kernel_rfl) (by kernel_rfl) rfl rfl (by kernel_rfl) (fun h' hS => Eq.trans (b := (cellH h' (p5.add 27)).bind fun v25 => some (.value v25)) (by kernel_rfl) (bindE hS.1 _)) ⟨hc23, trivial⟩ (by kernel_rfl) ?_
 refine k_pure (i := 22) [23, 24, 25, 26, 28] (.pointer (some p5)) (by kernel_rfl) rfl rfl (by kernel_rfl) (fun h' => by kernel_rfl) (by kernel_rfl) ?_
 refine k_pure (i := 23) [24, 25, 26, 28] (.pointer (some p5)) (by kernel_rfl) rfl rfl (by kernel_rfl) (fun h' => by kernel_rfl) (by kernel_rfl) ?_
 refine k_pure (i := 24) [25, 26, 28] (.pointer (some (p5.add 28))) (by kernel_rfl) rfl rfl (by kernel_rfl) (fun h' => by kernel_rfl) (by kernel_rfl) ?_
 obtain ⟨x26, hc27, hM⟩ := hM
 refine k_load (i := 25) (.string x26) (fun h' => cellH h' (p5.add 28) = some (.string x26) ∧ True) [26, 28] [28] (by kernel_rfl) (by kernel_rfl) rfl rfl (by kernel_rfl) (fun h' hS => Eq.trans (b := (cellH h' (p5.add 28)).bind fun v29 => some (.value v29)) (by kernel_rfl) (bindE hS.1 _)) ⟨hc27, trivial⟩ (by kernel_rfl) ?_
 refine k_pure (i := 26) [28] (.agg #[.int .i64 x6, .int .i64 x10, .slice none 0 0, .int .i64 x14, .int .i64 x18, .bool x22, .string x26]) (by kernel_rfl) rfl rfl (by kernel_rfl) (fun h' => by kernel_rfl) (by kernel_rfl) ?_
 refine k_eff (j := 27) (by kernel_rfl) rfl rfl (by kernel_rfl) (hpNew #[.int .i64 0, .int .i64 0, .slice none 0 0, .int .i64 0, .int .i64 0, .bool false, .string (⟨#[]⟩ : ByteArray)] 35 (fun _ => by kernel_rfl) ?_)
 intro b30 h31 hN32
 replace hM := newB_of hN32 hM
 obtain ⟨⟨hk33, hk34, hk35, hk36, hk37, hk38⟩, hM⟩ := hM
 refine ⟨⟨⟨hk33, trivial⟩, ⟨hk34, trivial⟩, ⟨hk35, trivial⟩, ⟨hk36, trivial⟩, ⟨hk37, trivial⟩, ⟨hk38, trivial⟩, trivial⟩, ?_⟩
 refine k_effD (j := 28) (by kernel_rfl) rfl rfl (by kernel_rfl) (hpSt ⟨b30, 0, none⟩ [.int .i64 x6, .int .i64 x10, .slice none 0 0, .int .i64 x14, .int .i64 x18, .bool x22, .string x26] (fun _ => by kernel_rfl) (by kernel_rfl) hM ?_)
 clear hM
 intro h39 hM
 refine ⟨trivial, ?_⟩
 refine k_done (by kernel_rfl) ?_
 refine thenE_n (cwp_seq (cR ?_))
 refine oS [(33, .pointer (some p5))] rfl ?_
 refine owp_hpG rfl (by kernel_rfl) (hpCallE 22 #[.pointer (some p5)] (by kernel_rfl) (vt_Screen_shown_ok (some p5) _ h39 hM) ?_)
 clear hM
 rintro _ h40 ⟨x41, rfl, hM⟩
 obtain ⟨p42, rfl, hM⟩ := hM
 refine owp_rdG (.pointer (some p42)) rfl (by kernel_rfl) (by kernel_rfl) ?_
 refine oS [(36, .pointer (some p42))] rfl ?_
 obtain ⟨x43, x43n, x43c, hc44, hM⟩ := hM
 refine owp_rdG (.slice x43 x43n x43c) rfl (by kernel_rfl) (Eq.trans (b := (cellH h40 p42).bind fun v45 => some (.value v45)) (by kernel_rfl) (bindE hc44 _)) ?_
 refine oS [(38, .int .i64 (x43n : Int)), (39, .int .i64 0)] rfl ?_
 refine oE (cwp_block ?_)
 obtain ⟨k_, hM⟩ := hM
 refine cwp_loop k_ (lwp_of_part (fn := Tryd.f12) (p := [1, 1, 0, 1, 0, 0]) (by kernel_rfl) (lwp_at 2 (.pointer (some ⟨b2, 0, none⟩)) (by kernel_rfl) (lwp_at 3 (.pointer (some ⟨b30, 0, none⟩)) (by kernel_rfl) (lwp_at 37 (.slice x43 x43n x43c) (by kernel_rfl) (lwp_at 38 (.int .i64 (x43n : Int)) (by kernel_rfl) (lwp_at 39 (.int .i64 0) (by kernel_rfl) (vt_Screen_Picture_l0_ok _ ?_ k_ b2 b30 x43 x43n x43c (x43n : Int) 0 _ _ hM)))))))
 · intro z71 z72 b117 h73 hM
   refine blockE_h (thenE_n (cR ?_))
   obtain ⟨x74, hc75, hM⟩ := hM
   obtain ⟨x76, hc77, hM⟩ := hM
   obtain ⟨x78, x78n, x78c, hc79, hM⟩ := hM
   obtain ⟨x80, hc81, hM⟩ := hM
   obtain ⟨x82, hc83, hM⟩ := hM
   obtain ⟨x84, hc85, hM⟩ := hM
   obtain ⟨x86, hc87, hM⟩ := hM
   refine owp_rdG (.agg #[.int .i64 x74, .int .i64 x76, .slice x78 x78n x78c, .int .i64 x80, .int .i64 x82, .bool x84, .string x86]) rfl (by kernel_rfl) (Eq.trans (b := (cellH h73 ⟨z72, 0, none⟩).bind fun v88 => (cellH h73 ⟨z72, 1, none⟩).bind fun v89 => (cellH h73 ⟨z72, 2, none⟩).bind fun v90 => (cellH h73 ⟨z72, 3, none⟩).bind fun v91 => (cellH h73 ⟨z72, 4, none⟩).bind fun v92 => (cellH h73 ⟨z72, 5, none⟩).bind fun v93 => (cellH h73 ⟨z72, 6, none⟩).bind fun v94 => some (.value (.agg #[v88, v89, v90, v91, v92, v93, v94]))) (by kernel_rfl) ((bindE hc75 _).trans ((bindE hc77 _).trans ((bindE hc79 _).trans ((bindE hc81 _).trans ((bindE hc83 _).trans ((bindE hc85 _).trans (bindE hc87 _)))))))) ?_
   refine owp_hpD rfl (by kernel_rfl) (hpSt ⟨z71, 0, none⟩ [.int .i64 x74, .int .i64 x76, .slice x78 x78n x78c, .int .i64 x80, .int .i64 x82, .bool x84, .string x86] (fun _ => by kernel_rfl) (by kernel_rfl) hM ?_)
   clear hM
   intro h95 hM
   refine oE (cwp_ret ?_)
   obtain ⟨x96, hc97, hM⟩ := hM
   obtain ⟨x98, hc99, hM⟩ := hM
   obtain ⟨x100, x100n, x100c, hc101, hM⟩ := hM
   obtain ⟨x102, hc103, hM⟩ := hM
   obtain ⟨x104, hc105, hM⟩ := hM
   obtain ⟨x106, hc107, hM⟩ := hM
   obtain ⟨x108, hc109, hM⟩ := hM
   exact ret_ (.agg #[.int .i64 x96, .int .i64 x98, .slice x100 x100n x100c, .int .i64 x102, .int .i64 x104, .bool x106, .string x108]) (Eq.trans (b := (cellH h95 ⟨z71, 0, none⟩).bind fun v110 => (cellH h95 ⟨z71, 1, none⟩).bind fun v111 => (cellH h95 ⟨z71, 2, none⟩).bind fun v112 => (cellH h95 ⟨z71, 3, none⟩).bind fun v113 => (cellH h95 ⟨z71, 4, none⟩).bind fun v114 => (cellH h95 ⟨z71, 5, none⟩).bind fun v115 => (cellH h95 ⟨z71, 6, none⟩).bind fun v116 => some (.agg #[v110, v111, v112, v113, v114, v115, v116])) (by kernel_rfl) ((bindE hc97 _).trans ((bindE hc99 _).trans ((bindE hc101 _).trans ((bindE hc103 _).trans ((bindE hc105 _).trans ((bindE hc107 _).trans (bindE hc109 _)))))))) ⟨_, _, _, _, _, _, _, _, _, rfl, hM⟩
/- mullion/vt.fits -/
def vt_fits (a1 : Int) : Bool :=
 ((decide (1 ≤ a1)) && (decide (a1 ≤ 1000)))
theorem vt_fits_ok (a1 : Int) (r : Bool) (h : Heap) (hM : vt_fits a1 = r) : CallsH Tryd.prog 23 #[.int .i64 a1] (fun v h' => v = .bool r ∧ Ext h h') h := by
 unfold vt_fits at hM
 refine callsH_intro (n := 9) Tryd.func23 rfl rfl (by kernel_rfl) ?_
 refine cR ?_
 refine oS [(2, .bool false)] rfl ?_
 refine oE (cR ?_)
 refine oS [(3, .int .i64 a1), (4, .bool (decide (1 ≤ a1))), (5, .bool (decide (1 ≤ a1)))] rfl ?_
 refine oB (decide (1 ≤ a1)) 3 [4, 5] (fun b_ => [(6, iteV b_ (.int .i64 a1 : Value) undef), (7, iteV b_ (.bool (decide (a1 ≤ 1000)) : Value) undef), (8, .bool (b_ && (decide (a1 ≤ 1000))))]) rfl (fun hb2 hq3 => oS [(6, .int .i64 a1), (7, .bool (decide (a1 ≤ 1000))), (8, .bool (decide (a1 ≤ 1000)))] rfl (hq3)) (fun hb4 hq5 => oS [(6, undef), (7, undef), (8, .bool false)] rfl (hq5)) ?_
 refine oS [(2, .bool ((decide (1 ≤ a1)) && (decide (a1 ≤ 1000))))] rfl ?_
 refine oE (cwp_ret ?_)
 subst hM
 exact ret_ (.bool ((decide (1 ≤ a1)) && (decide (a1 ≤ 1000)))) (by kernel_rfl) ⟨rfl, Ext.refl _⟩
/- mullion/vt.fresh -/
def vt_fresh_l0 (K0 : Option Addr → Nat → Nat → Heap → Prop) : Nat → Nat → Option Addr → Nat → Nat → Int → Int → Heap → Prop
  | 0, _, _, _, _, _, _, _ => False
  | k + 1, y10, y11, y11n, y11c, y12, y13, h =>
  if y13 < y12 then
   ldI h .i64 ⟨y10, 0, none⟩ fun x15 =>
   ldI h .i64 ⟨y10, 1, none⟩ fun x17 =>
   ldI h .i64 ⟨y10, 2, none⟩ fun x19 =>
   nz y11 fun p28 =>
   0 ≤ y13 ∧
   y13 < (y11n : Int) ∧
   gap h fun h24 =>
   stN (p28.add ((y13).toNat * 5)) [.string ((vt_blank x15 x17 x19).1), .int .i64 ((vt_blank x15 x17 x19).2.1), .int .i64 ((vt_blank x15 x17 x19).2.2.1), .int .i64 ((vt_blank x15 x17 x19).2.2.2.1), .int .i64 ((vt_blank x15 x17 x19).2.2.2.2)] 0 h24 fun h29 =>
   vt_fresh_l0 K0 k y10 (some p28) y11n y11c y12 (IntKind.wrap .i64 (y13 + 1)) h29
  else
  K0 y11 y11n y11c h
theorem vt_fresh_l0_ok {Q : Exit → Env → Heap → Prop} (K0 : Option Addr → Nat → Nat → Heap → Prop) (hK0 : ∀ (z32 : Option Addr) (z32n : Nat) (z32c : Nat) (b : Env) (h : Heap), K0 z32 z32n z32c h → Q (.exit 0) (upd b 5 (.slice z32 z32n z32c)) h) : ∀ (k : Nat) (y10 : Nat) (y11 : Option Addr) (y11n : Nat) (y11c : Nat) (y12 : Int) (y13 : Int) (b : Env) (h : Heap) (hM : vt_fresh_l0 K0 k y10 y11 y11n y11c y12 y13 h), lwp Tryd.prog (partC Tryd.f43 [1, 1, 0, 1, 0, 0]) 21 Q k (upd (upd (upd (upd b 3 (.pointer (some ⟨y10, 0, none⟩))) 5 (.slice y11 y11n y11c)) 10 (.int .i64 y12)) 11 (.int .i64 y13)) h := by
  intro k
  induction k with
  | zero => intro y10 y11 y11n y11c y12 y13 b h hM; exact (show False from hM).elim
  | succ k ih =>
    intro y10 y11 y11n y11c y12 y13 b h hM
    unfold vt_fresh_l0 at hM
    refine lwp_succ (cwp_part rfl ?_)
    refine cR ?_
    refine oS [(12, .bool (decide (y13 < y12)))] rfl ?_
    refine oE (cwp_seq ?_)
    refine cwp_condD (y13 < y12) (by kernel_rfl) (fun hc14 => ?_) (fun hc14 => ?_)
    · replace hM := ifT hc14 hM
      refine cwp_skip (thenE_n (cwp_seq (cwp_block (cR ?_))))
      refine oS [(13, .int .i64 y13), (6, .int .i64 y13)] rfl ?_
      refine oE (cwp_region ?_)
      refine oS [(14, .slice y11 y11n y11c), (15, .int .i64 y13)] rfl ?_
      obtain ⟨x15, hc16, hM⟩ := hM
      obtain ⟨x17, hc18, hM⟩ := hM
      obtain ⟨x19, hc20, hM⟩ := hM
      refine owp_rdG (.agg #[.int .i64 x15, .int .i64 x17, .int .i64 x19]) rfl (by kernel_rfl) (Eq.trans (b := (cellH h ⟨y10, 0, none⟩).bind fun v21 => (cellH h ⟨y10, 1, none⟩).bind fun v22 => (cellH h ⟨y10, 2, none⟩).bind fun v23 => some (.value (.agg #[v21, v22, v23]))) (by kernel_rfl) ((bindE hc16 _).trans ((bindE hc18 _).trans (bindE hc20 _)))) ?_
      refine owp_hpG rfl (by kernel_rfl) (hpCallP 60 #[.agg #[.int .i64 x15, .int .i64 x17, .int .i64 x19]] (.agg #[.string ((vt_blank x15 x17 x19).1), .int .i64 ((vt_blank x15 x17 x19).2.1), .int .i64 ((vt_blank x15 x17 x19).2.2.1), .int .i64 ((vt_blank x15 x17 x19).2.2.2.1), .int .i64 ((vt_blank x15 x17 x19).2.2.2.2)]) (by kernel_rfl) (vt_blank_ok x15 x17 x19 _ h rfl) ?_)
      intro h24 hx25
      obtain ⟨p28, rfl, hM⟩ := hM
      obtain ⟨hc26, hM⟩ := hM
      obtain ⟨hc27, hM⟩ := hM
      refine owp_rdG (.pointer (some (p28.add ((y13).toNat * 5)))) rfl (by kernel_rfl) (rd_ixS (P := Tryd.prog) (h := h24) (t := 72) (el := 43) (sz := 5) (ad := p28) (len := y11n) (c := y11c) (k := .i64) (i := y13) (by kernel_rfl) (by kernel_rfl) hc26 hc27 (by kernel_rfl)) ?_
      replace hM := hM _ hx25
      refine owp_hpD rfl (by kernel_rfl) (hpSt (p28.add ((y13).toNat * 5)) [.string ((vt_blank x15 x17 x19).1), .int .i64 ((vt_blank x15 x17 x19).2.1), .int .i64 ((vt_blank x15 x17 x19).2.2.1), .int .i64 ((vt_blank x15 x17 x19).2.2.2.1), .int .i64 ((vt_blank x15 x17 x19).2.2.2.2)] (fun _ => by kernel_rfl) (by kernel_rfl) hM ?_)
      clear hM
      intro h29 hM
      refine owp_nil (blockE_n (thenE_n (cwp_region ?_)))
      refine oS [(19, .int .i64 (IntKind.wrap .i64 (y13 + 1))), (11, .int .i64 (IntKind.wrap .i64 (y13 + 1)))] rfl ?_
      refine owp_nil ?_
      exact lwp_at 3 (.pointer (some ⟨y10, 0, none⟩)) (by kernel_rfl) (lwp_at 5 (.slice (some p28) y11n y11c) (by kernel_rfl) (lwp_at 10 (.int .i64 y12) (by kernel_rfl) (lwp_at 11 (.int .i64 (IntKind.wrap .i64 (y13 + 1))) (by kernel_rfl) (ih y10 (some p28) y11n y11c y12 (IntKind.wrap .i64 (y13 + 1)) _ _ hM))))
    replace hM := ifF hc14 hM
    refine cwp_exit (thenE_x ?_)
    exact q_at (Q := Q (.exit 0)) 5 (.slice y11 y11n y11c) (by kernel_rfl) (hK0 y11 y11n y11c _ _ hM)
def vt_fresh (a1 : Int) (a2 : Int) (a3 : Int) (a4 : Int) (K : Option Addr → Nat → Nat → Heap → Prop) (h : Heap) : Prop :=
 newB h #[.int .i64 a2, .int .i64 a3, .int .i64 a4] 41 fun b5 h6 =>
 mkM h6 43 48 [.string (⟨#[]⟩ : ByteArray), .int .i64 0, .int .i64 0, .int .i64 0, .int .i64 0] a1 fun b8 h9 =>
 ∃ k36, vt_fresh_l0
  (fun z33 z33n z33c h34 =>
      K z33 z33n z33c h34) k36 b5 (some ⟨b8, 0, none⟩) a1.toNat a1.toNat (a1.toNat : Int) 0 h9
theorem vt_fresh_ok (a1 : Int) (a2 : Int) (a3 : Int) (a4 : Int) (K : Option Addr → Nat → Nat → Heap → Prop) (h : Heap) (hM : vt_fresh a1 a2 a3 a4 K h) : CallsH Tryd.prog 43 #[.int .i64 a1, .agg #[.int .i64 a2, .int .i64 a3, .int .i64 a4]] (fun v h' => ∃ (r37 : Option Addr) (r37n : Nat) (r37c : Nat), v = .slice r37 r37n r37c ∧ K r37 r37n r37c h') h := by
 unfold vt_fresh at hM
 refine callsH_intro (n := 21) Tryd.func43 rfl rfl (by kernel_rfl) ?_
 refine cR ?_
 refine owp_hpG rfl (by kernel_rfl) (hpNew #[.int .i64 a2, .int .i64 a3, .int .i64 a4] 41 (fun _ => by kernel_rfl) ?_)
 intro b5 h6 hN7
 replace hM := newB_of hN7 hM
 refine oS [(4, .slice none 0 0)] rfl ?_
 refine oE (cR ?_)
 refine oS [(7, .int .i64 a1)] rfl ?_
 refine owp_hpG rfl (by kernel_rfl) (hpMk (t := 72) (et := 43) (zv := .agg #[.string (⟨#[]⟩ : ByteArray), .int .i64 0, .int .i64 0, .int .i64 0, .int .i64 0]) (by_ := 48) (sz := 5) (x := a1) [.string (⟨#[]⟩ : ByteArray), .int .i64 0, .int .i64 0, .int .i64 0, .int .i64 0] (fun _ => by kernel_rfl) (by kernel_rfl) (by kernel_rfl) rfl rfl (by decide) hM ?_)
 clear hM
 intro b8 h9 hM
 refine oS [(5, .slice (some ⟨b8, 0, none⟩) a1.toNat a1.toNat)] rfl ?_
 refine oE (cwp_seq (cR ?_))
 refine oS [(9, .slice (some ⟨b8, 0, none⟩) a1.toNat a1.toNat), (10, .int .i64 (a1.toNat : Int)), (11, .int .i64 0)] rfl ?_
 refine oE (cwp_block ?_)
 obtain ⟨k_, hM⟩ := hM
 refine cwp_loop k_ (lwp_of_part (fn := Tryd.f43) (p := [1, 1, 0, 1, 0, 0]) (by kernel_rfl) (lwp_at 3 (.pointer (some ⟨b5, 0, none⟩)) (by kernel_rfl) (lwp_at 5 (.slice (some ⟨b8, 0, none⟩) a1.toNat a1.toNat) (by kernel_rfl) (lwp_at 10 (.int .i64 (a1.toNat : Int)) (by kernel_rfl) (lwp_at 11 (.int .i64 0) (by kernel_rfl) (vt_fresh_l0_ok _ ?_ k_ b5 (some ⟨b8, 0, none⟩) a1.toNat a1.toNat (a1.toNat : Int) 0 _ _ hM))))))
 · intro z33 z33n z33c b35 h34 hM
   refine blockE_h (thenE_n (cR ?_))
   refine oS [(20, .slice z33 z33n z33c), (4, .slice z33 z33n z33c)] rfl ?_
   refine oE (cwp_ret ?_)
   exact ret_ (.slice z33 z33n z33c) (by kernel_rfl) ⟨_, _, _, rfl, hM⟩
/- mullion/vt.sheetOf -/
def vt_sheetOf_l0 (K0 : Nat → Nat → Heap → Prop) : Nat → Int → Nat → Nat → Nat → Int → Int → Heap → Prop
  | 0, _, _, _, _, _, _, _ => False
  | k + 1, y15, y16, y17, y18, y19, y20, h =>
  if y20 < y19 then
   ldL h ⟨y18, 0, none⟩ fun x22 x22n x22c =>
   ldI h .i64 ⟨y16, 0, none⟩ fun x26 =>
   ldI h .i64 ⟨y16, 1, none⟩ fun x28 =>
   ldI h .i64 ⟨y16, 2, none⟩ fun x30 =>
   vt_fresh y15 x26 x28 x30 (fun x39 x39n x39c h38 =>
    (cellH h38 ⟨y18, 0, none⟩ = some (.slice x22 x22n x22c)) ∧
    gap h38 fun h42 =>
    (cellH h42 ⟨y18, 0, none⟩ = some (.slice x22 x22n x22c)) ∧
    appH h42 72 24 [.slice none 0 0] x22 x22n x22c [.slice x39 x39n x39c] 1 fun s46 s46c h45 =>
    stN ⟨y18, 0, none⟩ [.slice s46 (x22n + 1) s46c] 0 h45 fun h47 =>
     vt_sheetOf_l0 K0 k y15 y16 y17 y18 y19 (IntKind.wrap .i64 (y20 + 1)) h47) h
  else
  K0 y17 y18 h
theorem vt_sheetOf_l0_ok {Q : Exit → Env → Heap → Prop} (K0 : Nat → Nat → Heap → Prop) (hK0 : ∀ (z52 : Nat) (z53 : Nat) (b : Env) (h : Heap), K0 z52 z53 h → Q (.exit 0) (upd (upd b 6 (.pointer (some ⟨z52, 0, none⟩))) 7 (.pointer (some ⟨z53, 0, none⟩))) h) : ∀ (k : Nat) (y15 : Int) (y16 : Nat) (y17 : Nat) (y18 : Nat) (y19 : Int) (y20 : Int) (b : Env) (h : Heap) (hM : vt_sheetOf_l0 K0 k y15 y16 y17 y18 y19 y20 h), lwp Tryd.prog (partC Tryd.f32 [1, 1, 0, 1, 0, 0]) 21 Q k (upd (upd (upd (upd (upd (upd b 0 (.int .i64 y15)) 5 (.pointer (some ⟨y16, 0, none⟩))) 6 (.pointer (some ⟨y17, 0, none⟩))) 7 (.pointer (some ⟨y18, 0, none⟩))) 8 (.int .i64 y19)) 9 (.int .i64 y20)) h := by
  intro k
  induction k with
  | zero => intro y15 y16 y17 y18 y19 y20 b h hM; exact (show False from hM).elim
  | succ k ih =>
    intro y15 y16 y17 y18 y19 y20 b h hM
    unfold vt_sheetOf_l0 at hM
    refine lwp_succ (cwp_part rfl ?_)
    refine cR ?_
    refine oS [(10, .bool (decide (y20 < y19)))] rfl ?_
    refine oE (cwp_seq ?_)
    refine cwp_condD (y20 < y19) (by kernel_rfl) (fun hc21 => ?_) (fun hc21 => ?_)
    · replace hM := ifT hc21 hM
      refine cwp_skip (thenE_n (cwp_seq (cwp_block ?_)))
      refine cwp_draw (by kernel_rfl) ?_
      refine k_pure (i := 0) [1, 6, 7, 8] (.pointer (some ⟨y18, 0, none⟩)) (by kernel_rfl) rfl rfl (by kernel_rfl) (fun h' => by kernel_rfl) (by kernel_rfl) ?_
      obtain ⟨x22, x22n, x22c, hc23, hM⟩ := hM
      refine k_load (i := 1) (.slice x22 x22n x22c) (fun h' => cellH h' ⟨y18, 0, none⟩ = some (.slice x22 x22n x22c) ∧ True) [6, 7, 8] [6, 8] (by kernel_rfl) (by kernel_rfl) rfl rfl (by kernel_rfl) (fun h' hS => Eq.trans (b := (cellH h' ⟨y18, 0, none⟩).bind fun v25 => some (.value v25)) (by kernel_rfl) (bindE hS.1 _)) ⟨hc23, trivial⟩ (by kernel_rfl) ?_
      refine k_pure (i := 2) [4, 5, 6, 7, 8] (.int .i64 y15) (by kernel_rfl) rfl rfl (by kernel_rfl) (fun h' => by kernel_rfl) (by kernel_rfl) ?_
      obtain ⟨x26, hc27, hM⟩ := hM
      obtain ⟨x28, hc29, hM⟩ := hM
      obtain ⟨x30, hc31, hM⟩ := hM
      refine k_load (i := 3) (.agg #[.int .i64 x26, .int .i64 x28, .int .i64 x30]) (fun h' => cellH h' ⟨y16, 0, none⟩ = some (.int .i64 x26) ∧ cellH h' ⟨y16, 1, none⟩ = some (.int .i64 x28) ∧ cellH h' ⟨y16, 2, none⟩ = some (.int .i64 x30) ∧ True) [4, 5, 6, 7, 8] [4, 5, 6, 8] (by kernel_rfl) (by kernel_rfl) rfl rfl (by kernel_rfl) (fun h' hS => Eq.trans (b := (cellH h' ⟨y16, 0, none⟩).bind fun v35 => (cellH h' ⟨y16, 1, none⟩).bind fun v36 => (cellH h' ⟨y16, 2, none⟩).bind fun v37 => some (.value (.agg #[v35, v36, v37]))) (by kernel_rfl) ((bindE hS.1 _).trans ((bindE hS.2.1 _).trans (bindE hS.2.2.1 _)))) ⟨hc27, hc29, hc31, trivial⟩ (by kernel_rfl) ?_
      refine k_eff (j := 4) (by kernel_rfl) rfl rfl (by kernel_rfl) (hpCallE 43 #[.int .i64 y15, .agg #[.int .i64 x26, .int .i64 x28, .int .i64 x30]] (by kernel_rfl) (vt_fresh_ok y15 x26 x28 x30 _ h hM) ?_)
      clear hM
      rintro _ h38 ⟨x39, x39n, x39c, rfl, hM⟩
      obtain ⟨hk40, hM⟩ := hM
      refine ⟨⟨⟨hk40, trivial⟩, trivial⟩, ?_⟩
      refine k_eff (j := 5) (by kernel_rfl) rfl rfl (by kernel_rfl) (hpNewS #[.slice x39 x39n x39c] 72 1 (fun _ => by kernel_rfl) ?_)
      intro b41 h42 hN43
      replace hM := hM _ (New.ext hN43)
      obtain ⟨hk44, hM⟩ := hM
      refine ⟨⟨⟨hk44, trivial⟩, trivial⟩, ?_⟩
      refine k_eff (j := 6) (by kernel_rfl) rfl rfl (by kernel_rfl) (hpApp (t := 57) (ty := 57) (et := 72) (zv := .slice none 0 0) (sz := 1) (by_ := 24) (base := x22) (n' := x22n) (c := x22c) (xb := (some ⟨b41, 0, none⟩)) (m := 1) (xc := 1) (new := [.slice x39 x39n x39c]) (fun _ => by kernel_rfl) (by kernel_rfl) (by kernel_rfl) [.slice none 0 0] rfl rfl (by decide) rfl rfl ⟨Blk.cell (New.blk hN43) 0 (by kernel_rfl), trivial⟩ hM ?_)
      clear hM
      intro s46 s46c h45 hM
      refine ⟨trivial, ?_⟩
      refine k_pure (i := 7) [8] (.pointer (some ⟨y18, 0, none⟩)) (by kernel_rfl) rfl rfl (by kernel_rfl) (fun h' => by kernel_rfl) (by kernel_rfl) ?_
      refine k_effD (j := 8) (by kernel_rfl) rfl rfl (by kernel_rfl) (hpSt ⟨y18, 0, none⟩ [.slice s46 (x22n + 1) s46c] (fun _ => by kernel_rfl) (by kernel_rfl) hM ?_)
      clear hM
      intro h47 hM
      refine ⟨trivial, ?_⟩
      refine k_done (by kernel_rfl) ?_
      refine blockE_n (thenE_n (cwp_region ?_))
      refine oS [(19, .int .i64 (IntKind.wrap .i64 (y20 + 1))), (9, .int .i64 (IntKind.wrap .i64 (y20 + 1)))] rfl ?_
      refine owp_nil ?_
      exact lwp_at 0 (.int .i64 y15) (by kernel_rfl) (lwp_at 5 (.pointer (some ⟨y16, 0, none⟩)) (by kernel_rfl) (lwp_at 6 (.pointer (some ⟨y17, 0, none⟩)) (by kernel_rfl) (lwp_at 7 (.pointer (some ⟨y18, 0, none⟩)) (by kernel_rfl) (lwp_at 8 (.int .i64 y19) (by kernel_rfl) (lwp_at 9 (.int .i64 (IntKind.wrap .i64 (y20 + 1))) (by kernel_rfl) (ih y15 y16 y17 y18 y19 (IntKind.wrap .i64 (y20 + 1)) _ _ hM))))))
    replace hM := ifF hc21 hM
    refine cwp_exit (thenE_x ?_)
    exact q_at (Q := Q (.exit 0)) 6 (.pointer (some ⟨y17, 0, none⟩)) (by kernel_rfl) (q_at (Q := Q (.exit 0)) 7 (.pointer (some ⟨y18, 0, none⟩)) (by kernel_rfl) (hK0 y17 y18 _ _ hM))
def vt_sheetOf (a1 : Int) (a2 : Int) (a3 : Int) (a4 : Int) (a5 : Int) (K : Option Addr → Nat → Nat → Option Addr → Heap → Prop) (h : Heap) : Prop :=
 newB h #[.int .i64 a3, .int .i64 a4, .int .i64 a5] 41 fun b6 h7 =>
 newB h7 #[.slice none 0 0, .pointer none] 60 fun b9 h10 =>
 newB h10 #[.slice none 0 0, .pointer none] 60 fun b12 h13 =>
 ∃ k71, vt_sheetOf_l0
  (fun z54 z55 h56 =>
    ldL h56 ⟨z55, 0, none⟩ fun x57 x57n x57c =>
    ldP h56 ⟨z55, 1, none⟩ fun x59 =>
    stN ⟨z54, 0, none⟩ [.slice x57 x57n x57c, .pointer x59] 0 h56 fun h63 =>
    ldL h63 ⟨z54, 0, none⟩ fun x64 x64n x64c =>
    ldP h63 ⟨z54, 1, none⟩ fun x66 =>
      K x64 x64n x64c x66 h63) k71 a1 b6 b9 b12 a2 0 h13
theorem vt_sheetOf_ok (a1 : Int) (a2 : Int) (a3 : Int) (a4 : Int) (a5 : Int) (K : Option Addr → Nat → Nat → Option Addr → Heap → Prop) (h : Heap) (hM : vt_sheetOf a1 a2 a3 a4 a5 K h) : CallsH Tryd.prog 32 #[.int .i64 a1, .int .i64 a2, .agg #[.int .i64 a3, .int .i64 a4, .int .i64 a5]] (fun v h' => ∃ (r72 : Option Addr) (r72n : Nat) (r72c : Nat) (r73 : Option Addr), v = .agg #[.slice r72 r72n r72c, .pointer r73] ∧ K r72 r72n r72c r73 h') h := by
 unfold vt_sheetOf at hM
 refine callsH_intro (n := 21) Tryd.func32 rfl rfl (by kernel_rfl) ?_
 refine cR ?_
 refine owp_hpG rfl (by kernel_rfl) (hpNew #[.int .i64 a3, .int .i64 a4, .int .i64 a5] 41 (fun _ => by kernel_rfl) ?_)
 intro b6 h7 hN8
 replace hM := newB_of hN8 hM
 refine owp_hpG rfl (by kernel_rfl) (hpNew #[.slice none 0 0, .pointer none] 60 (fun _ => by kernel_rfl) ?_)
 intro b9 h10 hN11
 replace hM := newB_of hN11 hM
 refine oE (cR ?_)
 refine owp_hpG rfl (by kernel_rfl) (hpNew #[.slice none 0 0, .pointer none] 60 (fun _ => by kernel_rfl) ?_)
 intro b12 h13 hN14
 replace hM := newB_of hN14 hM
 refine oE (cwp_seq (cR ?_))
 refine oS [(8, .int .i64 a2), (9, .int .i64 0)] rfl ?_
 refine oE (cwp_block ?_)
 obtain ⟨k_, hM⟩ := hM
 refine cwp_loop k_ (lwp_of_part (fn := Tryd.f32) (p := [1, 1, 0, 1, 0, 0]) (by kernel_rfl) (lwp_at 0 (.int .i64 a1) (by kernel_rfl) (lwp_at 5 (.pointer (some ⟨b6, 0, none⟩)) (by kernel_rfl) (lwp_at 6 (.pointer (some ⟨b9, 0, none⟩)) (by kernel_rfl) (lwp_at 7 (.pointer (some ⟨b12, 0, none⟩)) (by kernel_rfl) (lwp_at 8 (.int .i64 a2) (by kernel_rfl) (lwp_at 9 (.int .i64 0) (by kernel_rfl) (vt_sheetOf_l0_ok _ ?_ k_ a1 b6 b9 b12 a2 0 _ _ hM))))))))
 · intro z54 z55 b70 h56 hM
   refine blockE_h (thenE_n (cR ?_))
   obtain ⟨x57, x57n, x57c, hc58, hM⟩ := hM
   obtain ⟨x59, hc60, hM⟩ := hM
   refine owp_rdG (.agg #[.slice x57 x57n x57c, .pointer x59]) rfl (by kernel_rfl) (Eq.trans (b := (cellH h56 ⟨z55, 0, none⟩).bind fun v61 => (cellH h56 ⟨z55, 1, none⟩).bind fun v62 => some (.value (.agg #[v61, v62]))) (by kernel_rfl) ((bindE hc58 _).trans (bindE hc60 _))) ?_
   refine owp_hpD rfl (by kernel_rfl) (hpSt ⟨z54, 0, none⟩ [.slice x57 x57n x57c, .pointer x59] (fun _ => by kernel_rfl) (by kernel_rfl) hM ?_)
   clear hM
   intro h63 hM
   refine oE (cwp_ret ?_)
   obtain ⟨x64, x64n, x64c, hc65, hM⟩ := hM
   obtain ⟨x66, hc67, hM⟩ := hM
   exact ret_ (.agg #[.slice x64 x64n x64c, .pointer x66]) (Eq.trans (b := (cellH h63 ⟨z54, 0, none⟩).bind fun v68 => (cellH h63 ⟨z54, 1, none⟩).bind fun v69 => some (.agg #[v68, v69])) (by kernel_rfl) ((bindE hc65 _).trans (bindE hc67 _))) ⟨_, _, _, _, rfl, hM⟩
/- (*mullion/vt.Screen).stops -/
def vt_Screen_stops_l0 (K0 : Heap → Prop) : Nat → Addr → Int → Heap → Prop
  | 0, _, _, _ => False
  | k + 1, y9, y10, h =>
  ldI h .i64 y9 fun x11 =>
  if y10 < x11 then
   ldL h (y9.add 21) fun x15 x15n x15c =>
   nz x15 fun p20 =>
   0 ≤ y10 ∧
   y10 < (x15n : Int) ∧
   stN (p20.add ((y10).toNat * 1)) [.bool true] 0 h fun h21 =>
   vt_Screen_stops_l0 K0 k y9 (IntKind.wrap .i64 (y10 + 8)) h21
  else
  K0  h
theorem vt_Screen_stops_l0_ok {Q : Exit → Env → Heap → Prop} (K0 : Heap → Prop) (hK0 : ∀  (b : Env) (h : Heap), K0  h → Q (.exit 0) b h) : ∀ (k : Nat) (y9 : Addr) (y10 : Int) (b : Env) (h : Heap) (hM : vt_Screen_stops_l0 K0 k y9 y10 h), lwp Tryd.prog (partC Tryd.f33 [1, 1, 0, 0]) 25 Q k (upd (upd b 0 (.pointer (some y9))) 2 (.int .i64 y10)) h := by
  intro k
  induction k with
  | zero => intro y9 y10 b h hM; exact (show False from hM).elim
  | succ k ih =>
    intro y9 y10 b h hM
    unfold vt_Screen_stops_l0 at hM
    refine lwp_succ (cwp_part rfl ?_)
    refine cwp_seq (cR ?_)
    refine oS [(11, .int .i64 y10), (12, .pointer (some y9)), (13, .pointer (some y9)), (14, .pointer (some y9))] rfl ?_
    obtain ⟨x11, hc12, hM⟩ := hM
    refine owp_rdG (.int .i64 x11) rfl (by kernel_rfl) (Eq.trans (b := (cellH h y9).bind fun v13 => some (.value v13)) (by kernel_rfl) (bindE hc12 _)) ?_
    refine oS [(16, .bool (decide (y10 < x11)))] rfl ?_
    refine oE ?_
    refine cwp_condD (y10 < x11) (by kernel_rfl) (fun hc14 => ?_) (fun hc14 => ?_)
    · replace hM := ifT hc14 hM
      refine cwp_skip (thenE_n (cwp_seq (cwp_block (cwp_region ?_))))
      refine oS [(19, .pointer (some y9)), (20, .pointer (some y9)), (21, .pointer (some (y9.add 21)))] rfl ?_
      obtain ⟨x15, x15n, x15c, hc16, hM⟩ := hM
      refine owp_rdG (.slice x15 x15n x15c) rfl (by kernel_rfl) (Eq.trans (b := (cellH h (y9.add 21)).bind fun v17 => some (.value v17)) (by kernel_rfl) (bindE hc16 _)) ?_
      refine oS [(23, .int .i64 y10)] rfl ?_
      obtain ⟨p20, rfl, hM⟩ := hM
      obtain ⟨hc18, hM⟩ := hM
      obtain ⟨hc19, hM⟩ := hM
      refine owp_rdG (.pointer (some (p20.add ((y10).toNat * 1)))) rfl (by kernel_rfl) (rd_ixS (P := Tryd.prog) (h := h) (t := 64) (el := 4) (sz := 1) (ad := p20) (len := x15n) (c := x15c) (k := .i64) (i := y10) (by kernel_rfl) (by kernel_rfl) hc18 hc19 (by kernel_rfl)) ?_
      refine owp_hpD rfl (by kernel_rfl) (hpSt (p20.add ((y10).toNat * 1)) [.bool true] (fun _ => by kernel_rfl) (by kernel_rfl) hM ?_)
      clear hM
      intro h21 hM
      refine owp_nil (blockE_n (thenE_n (cwp_region ?_)))
      refine oS [(17, .int .i64 y10), (18, .int .i64 (IntKind.wrap .i64 (y10 + 8))), (2, .int .i64 (IntKind.wrap .i64 (y10 + 8)))] rfl ?_
      refine owp_nil ?_
      exact lwp_at 0 (.pointer (some y9)) (by kernel_rfl) (lwp_at 2 (.int .i64 (IntKind.wrap .i64 (y10 + 8))) (by kernel_rfl) (ih y9 (IntKind.wrap .i64 (y10 + 8)) _ _ hM))
    replace hM := ifF hc14 hM
    refine cwp_exit (thenE_x ?_)
    exact hK0  _ _ hM
def vt_Screen_stops (a1 : Option Addr) (K : Heap → Prop) (h : Heap) : Prop :=
 nz a1 fun p2 =>
 ldI h .i64 p2 fun x3 =>
 mkM h 4 1 [.bool false] x3 fun b6 h7 =>
 stN (p2.add 21) [.slice (some ⟨b6, 0, none⟩) x3.toNat x3.toNat] 0 h7 fun h8 =>
 ∃ k24, vt_Screen_stops_l0
  (fun  h22 =>
      K h22) k24 p2 8 h8
theorem vt_Screen_stops_ok (a1 : Option Addr) (K : Heap → Prop) (h : Heap) (hM : vt_Screen_stops a1 K h) : CallsH Tryd.prog 33 #[.pointer a1] (fun v h' => v = .tuple #[] ∧ K h') h := by
 unfold vt_Screen_stops at hM
 refine callsH_intro (n := 25) Tryd.func33 rfl rfl (by kernel_rfl) ?_
 refine cR ?_
 refine oS [(3, .pointer a1), (4, .pointer a1)] rfl ?_
 obtain ⟨p2, rfl, hM⟩ := hM
 refine owp_rdG (.pointer (some p2)) rfl (by kernel_rfl) (by kernel_rfl) ?_
 refine oS [(6, .pointer (some p2))] rfl ?_
 obtain ⟨x3, hc4, hM⟩ := hM
 refine owp_rdG (.int .i64 x3) rfl (by kernel_rfl) (Eq.trans (b := (cellH h p2).bind fun v5 => some (.value v5)) (by kernel_rfl) (bindE hc4 _)) ?_
 refine owp_hpG rfl (by kernel_rfl) (hpMk (t := 64) (et := 4) (zv := .bool false) (by_ := 1) (sz := 1) (x := x3) [.bool false] (fun _ => by kernel_rfl) (by kernel_rfl) (by kernel_rfl) rfl rfl (by decide) hM ?_)
 clear hM
 intro b6 h7 hM
 refine oS [(9, .pointer (some p2)), (10, .pointer (some (p2.add 21)))] rfl ?_
 refine owp_hpD rfl (by kernel_rfl) (hpSt (p2.add 21) [.slice (some ⟨b6, 0, none⟩) x3.toNat x3.toNat] (fun _ => by kernel_rfl) (by kernel_rfl) hM ?_)
 clear hM
 intro h8 hM
 refine oE (cR ?_)
 refine oS [(2, .int .i64 8)] rfl ?_
 refine oE (cwp_block ?_)
 obtain ⟨k_, hM⟩ := hM
 refine cwp_loop k_ (lwp_of_part (fn := Tryd.f33) (p := [1, 1, 0, 0]) (by kernel_rfl) (lwp_at 0 (.pointer (some p2)) (by kernel_rfl) (lwp_at 2 (.int .i64 8) (by kernel_rfl) (vt_Screen_stops_l0_ok _ ?_ k_ p2 8 _ _ hM))))
 · intro  b23 h22 hM
   refine blockE_h ?_
   exact end_ (.tuple #[]) (by kernel_rfl) ⟨rfl, hM⟩
/- (*mullion/vt.Screen).reset -/
def vt_Screen_reset (a1 : Option Addr) (K : Heap → Prop) (h : Heap) : Prop :=
 nz a1 fun p2 =>
 ldI h .i64 p2 fun x3 =>
 ldI h .i64 (p2.add 1) fun x7 =>
 ldI h .i64 (p2.add 2) fun x11 =>
 ldL h (p2.add 8) fun x15 x15n x15c =>
 ldI h .i64 (p2.add 29) fun x19 =>
 ldS h (p2.add 30) fun x23 =>
 ldI h .i64 (p2.add 1) fun x27 =>
 newB h #[.int .i64 x3, .int .i64 x7, .int .i64 x11, .slice none 0 0, .pointer none, .slice none 0 0, .pointer none, .bool false, .slice x15 x15n x15c, .int .i64 0, .int .i64 0, .int .i64 0, .int .i64 0, .int .i64 0, .bool false, .bool false, .bool false, .bool false, .bool false, .int .i64 0, .int .i64 (IntKind.wrap .i64 (x27 - 1)), .slice none 0 0, .bool false, .bool false, .bool true, .bool false, .bool false, .bool false, .string (⟨#[]⟩ : ByteArray), .int .i64 x19, .string x23, .int .i64 0, .slice none 0 0, .bool false, .int .u8 0, .int .u8 0, .int .u8 0, .int .u8 0, .int .i64 0, .int .i64 0, .int .i32 0] 69 fun b31 h32 =>
 ldI h32 .i64 ⟨b31, 0, none⟩ fun x34 =>
 ldI h32 .i64 ⟨b31, 1, none⟩ fun x36 =>
 ldI h32 .i64 ⟨b31, 2, none⟩ fun x38 =>
 ldL h32 ⟨b31, 3, none⟩ fun x40 x40n x40c =>
 ldP h32 ⟨b31, 4, none⟩ fun x42 =>
 ldL h32 ⟨b31, 5, none⟩ fun x44 x44n x44c =>
 ldP h32 ⟨b31, 6, none⟩ fun x46 =>
 ldB h32 ⟨b31, 7, none⟩ fun x48 =>
 ldL h32 ⟨b31, 8, none⟩ fun x50 x50n x50c =>
 ldI h32 .i64 ⟨b31, 9, none⟩ fun x52 =>
 ldI h32 .i64 ⟨b31, 10, none⟩ fun x54 =>
 ldI h32 .i64 ⟨b31, 11, none⟩ fun x56 =>
 ldI h32 .i64 ⟨b31, 12, none⟩ fun x58 =>
 ldI h32 .i64 ⟨b31, 13, none⟩ fun x60 =>
 ldB h32 ⟨b31, 14, none⟩ fun x62 =>
 ldB h32 ⟨b31, 15, none⟩ fun x64 =>
 ldB h32 ⟨b31, 16, none⟩ fun x66 =>
 ldB h32 ⟨b31, 17, none⟩ fun x68 =>
 ldB h32 ⟨b31, 18, none⟩ fun x70 =>
 ldI h32 .i64 ⟨b31, 19, none⟩ fun x72 =>
 ldI h32 .i64 ⟨b31, 20, none⟩ fun x74 =>
 ldL h32 ⟨b31, 21, none⟩ fun x76 x76n x76c =>
 ldB h32 ⟨b31, 22, none⟩ fun x78 =>
 ldB h32 ⟨b31, 23, none⟩ fun x80 =>
 ldB h32 ⟨b31, 24, none⟩ fun x82 =>
 ldB h32 ⟨b31, 25, none⟩ fun x84 =>
 ldB h32 ⟨b31, 26, none⟩ fun x86 =>
 ldB h32 ⟨b31, 27, none⟩ fun x88 =>
 ldS h32 ⟨b31, 28, none⟩ fun x90 =>
 ldI h32 .i64 ⟨b31, 29, none⟩ fun x92 =>
 ldS h32 ⟨b31, 30, none⟩ fun x94 =>
 ldI h32 .i64 ⟨b31, 31, none⟩ fun x96 =>
 ldL h32 ⟨b31, 32, none⟩ fun x98 x98n x98c =>
 ldB h32 ⟨b31, 33, none⟩ fun x100 =>
 ldI h32 .u8 ⟨b31, 34, none⟩ fun x102 =>
 ldI h32 .u8 ⟨b31, 35, none⟩ fun x104 =>
 ldI h32 .u8 ⟨b31, 36, none⟩ fun x106 =>
 ldI h32 .u8 ⟨b31, 37, none⟩ fun x108 =>
 ldI h32 .i64 ⟨b31, 38, none⟩ fun x110 =>
 ldI h32 .i64 ⟨b31, 39, none⟩ fun x112 =>
 ldI h32 .i32 ⟨b31, 40, none⟩ fun x114 =>
 stN p2 (.int .i64 x34 :: .int .i64 x36 :: .int .i64 x38 :: .slice x40 x40n x40c :: .pointer x42 :: .slice x44 x44n x44c :: .pointer x46 :: .bool x48 :: .slice x50 x50n x50c :: .int .i64 x52 :: .int .i64 x54 :: .int .i64 x56 :: .int .i64 x58 :: .int .i64 x60 :: .bool x62 :: .bool x64 :: .bool x66 :: .bool x68 :: .bool x70 :: .int .i64 x72 :: .int .i64 x74 :: .slice x76 x76n x76c :: .bool x78 :: .bool x80 :: .bool x82 :: .bool x84 :: .bool x86 :: .bool x88 :: .string x90 :: .int .i64 x92 :: .string x94 :: .int .i64 x96 :: .slice x98 x98n x98c :: .bool x100 :: .int .u8 x102 :: .int .u8 x104 :: .int .u8 x106 :: .int .u8 x108 :: .int .i64 x110 :: .int .i64 x112 :: .int .i32 x114 :: []) 0 h32 fun h116 =>
 ldI h116 .i64 p2 fun x117 =>
 ldI h116 .i64 (p2.add 1) fun x121 =>
 vt_sheetOf x117 x121 0 0 0 (fun x126 x126n x126c x127 h125 =>
  stN (p2.add 3) [.slice x126 x126n x126c, .pointer x127] 0 h125 fun h128 =>
  vt_Screen_stops (some p2) (fun  h129 =>
     K h129) h128) h116
theorem vt_Screen_reset_ok (a1 : Option Addr) (K : Heap → Prop) (h : Heap) (hM : vt_Screen_reset a1 K h) : CallsH Tryd.prog 24 #[.pointer a1] (fun v h' => v = .tuple #[] ∧ K h') h := by
 unfold vt_Screen_reset at hM
 refine callsH_intro (n := 54) Tryd.func24 rfl rfl (by kernel_rfl) ?_
 refine cwp_seq ?_
 refine cwp_draw (by kernel_rfl) ?_
 refine k_pure (i := 0) [1, 2, 3, 29, 30, 31] (.pointer a1) (by kernel_rfl) rfl rfl (by kernel_rfl) (fun h' => by kernel_rfl) (by kernel_rfl) ?_
 obtain ⟨p2, rfl, hM⟩ := hM
 refine k_pure (i := 1) [2, 3, 29, 30, 31] (.pointer (some p2)) (by kernel_rfl) rfl rfl (by kernel_rfl) (fun h' => by kernel_rfl) (by kernel_rfl) ?_
 refine k_pure (i := 2) [3, 29, 30, 31] (.pointer (some p2)) (by kernel_rfl) rfl rfl (by kernel_rfl) (fun h' => by kernel_rfl) (by kernel_rfl) ?_
 obtain ⟨x3, hc4, hM⟩ := hM
 refine k_load (i := 3) (.int .i64 x3) (fun h' => cellH h' p2 = some (.int .i64 x3) ∧ True) [29, 30, 31] [30] (by kernel_rfl) (by kernel_rfl) rfl rfl (by kernel_rfl) (fun h' hS => Eq.trans (b := (cellH h' p2).bind fun v6 => some (.value v6)) (by kernel_rfl) (bindE hS.1 _)) ⟨hc4, trivial⟩ (by kernel_rfl) ?_
 refine k_pure (i := 4) [5, 6, 7, 29, 30, 31] (.pointer (some p2)) (by kernel_rfl) rfl rfl (by kernel_rfl) (fun h' => by kernel_rfl) (by kernel_rfl) ?_
 refine k_pure (i := 5) [6, 7, 29, 30, 31] (.pointer (some p2)) (by kernel_rfl) rfl rfl (by kernel_rfl) (fun h' => by kernel_rfl) (by kernel_rfl) ?_
 refine k_pure (i := 6) [7, 29, 30, 31] (.pointer (some (p2.add 1))) (by kernel_rfl) rfl rfl (by kernel_rfl) (fun h' => by kernel_rfl) (by kernel_rfl) ?_
 obtain ⟨x7, hc8, hM⟩ := hM
 refine k_load (i := 7) (.int .i64 x7) (fun h' => cellH h' (p2.add 1) = some (.int .i64 x7) ∧ True) [29, 30, 31] [30] (by kernel_rfl) (by kernel_rfl) rfl rfl (by kernel_rfl) (fun h' hS => Eq.trans (b := (cellH h' (p2.add 1)).bind fun v10 => some (.value v10)) (by kernel_rfl) (bindE hS.1 _)) ⟨hc8, trivial⟩ (by kernel_rfl) ?_
 refine k_pure (i := 8) [9, 10, 11, 29, 30, 31] (.pointer (some p2)) (by kernel_rfl) rfl rfl (by kernel_rfl) (fun h' => by kernel_rfl) (by kernel_rfl) ?_
 refine k_pure (i := 9) [10, 11, 29, 30, 31] (.pointer (some p2)) (by kernel_rfl) rfl rfl (by kernel_rfl) (fun h' => by kernel_rfl) (by kernel_rfl) ?_
 refine k_pure (i := 10) [11, 29, 30, 31] (.pointer (some (p2.add 2))) (by kernel_rfl) rfl rfl (by kernel_rfl) (fun h' => by kernel_rfl) (by kernel_rfl) ?_
 obtain ⟨x11, hc12, hM⟩ := hM
 refine k_load (i := 11) (.int .i64 x11) (fun h' => cellH h' (p2.add 2) = some (.int .i64 x11) ∧ True) [29, 30, 31] [30] (by kernel_rfl) (by kernel_rfl) rfl rfl (by kernel_rfl) (fun h' hS => Eq.trans (b := (cellH h' (p2.add 2)).bind fun v14 => some (.value v14)) (by kernel_rfl) (bindE hS.1 _)) ⟨hc12, trivial⟩ (by kernel_rfl) ?_
 refine k_pure (i := 12) [13, 14, 15, 29, 30, 31] (.pointer (some p2)) (by kernel_rfl) rfl rfl (by kernel_rfl) (fun h' => by kernel_rfl) (by kernel_rfl) ?_
 refine k_pure (i := 13) [14, 15, 29, 30, 31] (.pointer (some p2)) (by kernel_rfl) rfl rfl (by kernel_rfl) (fun h' => by kernel_rfl) (by kernel_rfl) ?_
 refine k_pure (i := 14) [15, 29, 30, 31] (.pointer (some (p2.add 8))) (by kernel_rfl) rfl rfl (by kernel_rfl) (fun h' => by kernel_rfl) (by kernel_rfl) ?_
 obtain ⟨x15, x15n, x15c, hc16, hM⟩ := hM
 refine k_load (i := 15) (.slice x15 x15n x15c) (fun h' => cellH h' (p2.add 8) = some (.slice x15 x15n x15c) ∧ True) [29, 30, 31] [30] (by kernel_rfl) (by kernel_rfl) rfl rfl (by kernel_rfl) (fun h' hS => Eq.trans (b := (cellH h' (p2.add 8)).bind fun v18 => some (.value v18)) (by kernel_rfl) (bindE hS.1 _)) ⟨hc16, trivial⟩ (by kernel_rfl) ?_
 refine k_pure (i := 16) [17, 18, 19, 29, 30, 31] (.pointer (some p2)) (by kernel_rfl) rfl rfl (by kernel_rfl) (fun h' => by kernel_rfl) (by kernel_rfl) ?_
 refine k_pure (i := 17) [18, 19, 29, 30, 31] (.pointer (some p2)) (by kernel_rfl) rfl rfl (by kernel_rfl) (fun h' => by kernel_rfl) (by kernel_rfl) ?_
 refine k_pure (i := 18) [19, 29, 30, 31] (.pointer (some (p2.add 29))) (by kernel_rfl) rfl rfl (by kernel_rfl) (fun h' => by kernel_rfl) (by kernel_rfl) ?_
 obtain ⟨x19, hc20, hM⟩ := hM
 refine k_load (i := 19) (.int .i64 x19) (fun h' => cellH h' (p2.add 29) = some (.int .i64 x19) ∧ True) [29, 30, 31] [30] (by kernel_rfl) (by kernel_rfl) rfl rfl (by kernel_rfl) (fun h' hS => Eq.trans (b := (cellH h' (p2.add 29)).bind fun v22 => some (.value v22)) (by kernel_rfl) (bindE hS.1 _)) ⟨hc20, trivial⟩ (by kernel_rfl) ?_
 refine k_pure (i := 20) [21, 22, 23, 29, 30, 31] (.pointer (some p2)) (by kernel_rfl) rfl rfl (by kernel_rfl) (fun h' => by kernel_rfl) (by kernel_rfl) ?_
 refine k_pure (i := 21) [22, 23, 29, 30, 31] (.pointer (some p2)) (by kernel_rfl) rfl rfl (by kernel_rfl) (fun h' => by kernel_rfl) (by kernel_rfl) ?_
 refine k_pure (i := 22) [23, 29, 30, 31] (.pointer (some (p2.add 30))) (by kernel_rfl) rfl rfl (by kernel_rfl) (fun h' => by kernel_rfl) (by kernel_rfl) ?_
 obtain ⟨x23, hc24, hM⟩ := hM
 refine k_load (i := 23) (.string x23) (fun h' => cellH h' (p2.add 30) = some (.string x23) ∧ True) [29, 30, 31] [30] (by kernel_rfl) (by kernel_rfl) rfl rfl (by kernel_rfl) (fun h' hS => Eq.trans (b := (cellH h' (p2.add 30)).bind fun v26 => some (.value v26)) (by kernel_rfl) (bindE hS.1 _)) ⟨hc24, trivial⟩ (by kernel_rfl) ?_
 refine k_pure (i := 24) [25, 26, 27, 28, 29, 30, 31] (.pointer (some p2)) (by kernel_rfl) rfl rfl (by kernel_rfl) (fun h' => by kernel_rfl) (by kernel_rfl) ?_
 refine k_pure (i := 25) [26, 27, 28, 29, 30, 31] (.pointer (some p2)) (by kernel_rfl) rfl rfl (by kernel_rfl) (fun h' => by kernel_rfl) (by kernel_rfl) ?_
 refine k_pure (i := 26) [27, 28, 29, 30, 31] (.pointer (some (p2.add 1))) (by kernel_rfl) rfl rfl (by kernel_rfl) (fun h' => by kernel_rfl) (by kernel_rfl) ?_
 obtain ⟨x27, hc28, hM⟩ := hM
 refine k_load (i := 27) (.int .i64 x27) (fun h' => cellH h' (p2.add 1) = some (.int .i64 x27) ∧ True) [28, 29, 30, 31] [30] (by kernel_rfl) (by kernel_rfl) rfl rfl (by kernel_rfl) (fun h' hS => Eq.trans (b := (cellH h' (p2.add 1)).bind fun v30 => some (.value v30)) (by kernel_rfl) (bindE hS.1 _)) ⟨hc28, trivial⟩ (by kernel_rfl) ?_
 refine k_pure (i := 28) [29, 30, 31] (.int .i64 (IntKind.wrap .i64 (x27 - 1))) (by kernel_rfl) rfl rfl (by kernel_rfl) (fun h' => by kernel_rfl) (by kernel_rfl) ?_
 refine k_pure (i := 29) [30, 31] (.agg #[.int .i64 x3, .int .i64 x7, .int .i64 x11, .slice none 0 0, .pointer none, .slice none 0 0, .pointer none, .bool false, .slice x15 x15n x15c, .int .i64 0, .int .i64 0, .int .i64 0, .int .i64 0, .int .i64 0, .bool false, .bool false, .bool false, .bool false, .bool false, .int .i64 0, .int .i64 (IntKind.wrap .i64 (x27 - 1)), .slice none 0 0, .bool false, .bool false, .bool true, .bool false, .bool false, .bool false, .string (⟨#[]⟩ : ByteArray), .int .i64 x19, .string x23, .int .i64 0, .slice none 0 0, .bool false, .int .u8 0, .int .u8 0, .int .u8 0, .int .u8 0, .int .i64 0, .int .i64 0, .int .i32 0]) (by kernel_rfl) rfl rfl (by kernel_rfl) (fun h' => by kernel_rfl) (by kernel_rfl) ?_
 refine k_eff (j := 30) (by kernel_rfl) rfl rfl (by kernel_rfl) (hpNew #[.int .i64 x3, .int .i64 x7, .int .i64 x11, .slice none 0 0, .pointer none, .slice none 0 0, .pointer none, .bool false, .slice x15 x15n x15c, .int .i64 0, .int .i64 0, .int .i64 0, .int .i64 0, .int .i64 0, .bool false, .bool false, .bool false, .bool false, .bool false, .int .i64 0, .int .i64 (IntKind.wrap .i64 (x27 - 1)), .slice none 0 0, .bool false, .bool false, .bool true, .bool false, .bool false, .bool false, .string (⟨#[]⟩ : ByteArray), .int .i64 x19, .string x23, .int .i64 0, .slice none 0 0, .bool false, .int .u8 0, .int .u8 0, .int .u8 0, .int .u8 0, .int .i64 0, .int .i64 0, .int .i32 0] 69 (fun _ => by kernel_rfl) ?_)
 intro b31 h32 hN33
 replace hM := newB_of hN33 hM
 refine ⟨trivial, ?_⟩
 refine k_pure (i := 31) [] (.pointer (some ⟨b31, 0, none⟩)) (by kernel_rfl) rfl rfl (by kernel_rfl) (fun h' => by kernel_rfl) (by kernel_rfl) ?_
 refine k_done (by kernel_rfl) ?_
 refine thenE_n (cR ?_)
 refine oS [(34, .pointer (some p2)), (35, .pointer (some ⟨b31, 0, none⟩)), (36, .pointer (some ⟨b31, 0, none⟩))] rfl ?_
 obtain ⟨x34, hc35, hM⟩ := hM
 obtain ⟨x36, hc37, hM⟩ := hM
 obtain ⟨x38, hc39, hM⟩ := hM
 obtain ⟨x40, x40n, x40c, hc41, hM⟩ := hM
 obtain ⟨x42, hc43, hM⟩ := hM
 obtain ⟨x44, x44n, x44c, hc45, hM⟩ := hM
 obtain ⟨x46, hc47, hM⟩ := hM
 obtain ⟨x48, hc49, hM⟩ := hM
 obtain ⟨x50, x50n, x50c, hc51, hM⟩ := hM
 obtain ⟨x52, hc53, hM⟩ := hM
 obtain ⟨x54, hc55, hM⟩ := hM
 obtain ⟨x56, hc57, hM⟩ := hM
 obtain ⟨x58, hc59, hM⟩ := hM
 obtain ⟨x60, hc61, hM⟩ := hM
 obtain ⟨x62, hc63, hM⟩ := hM
 obtain ⟨x64, hc65, hM⟩ := hM
 obtain ⟨x66, hc67, hM⟩ := hM
 obtain ⟨x68, hc69, hM⟩ := hM
 obtain ⟨x70, hc71, hM⟩ := hM
 obtain ⟨x72, hc73, hM⟩ := hM
 obtain ⟨x74, hc75, hM⟩ := hM
 obtain ⟨x76, x76n, x76c, hc77, hM⟩ := hM
 obtain ⟨x78, hc79, hM⟩ := hM
 obtain ⟨x80, hc81, hM⟩ := hM
 obtain ⟨x82, hc83, hM⟩ := hM
 obtain ⟨x84, hc85, hM⟩ := hM
 obtain ⟨x86, hc87, hM⟩ := hM
 obtain ⟨x88, hc89, hM⟩ := hM
 obtain ⟨x90, hc91, hM⟩ := hM
 obtain ⟨x92, hc93, hM⟩ := hM
 obtain ⟨x94, hc95, hM⟩ := hM
 obtain ⟨x96, hc97, hM⟩ := hM
 obtain ⟨x98, x98n, x98c, hc99, hM⟩ := hM
 obtain ⟨x100, hc101, hM⟩ := hM
 obtain ⟨x102, hc103, hM⟩ := hM
 obtain ⟨x104, hc105, hM⟩ := hM
 obtain ⟨x106, hc107, hM⟩ := hM
 obtain ⟨x108, hc109, hM⟩ := hM
 obtain ⟨x110, hc111, hM⟩ := hM
 obtain ⟨x112, hc113, hM⟩ := hM
 obtain ⟨x114, hc115, hM⟩ := hM
 refine owp_rdG (.agg #[.int .i64 x34, .int .i64 x36, .int .i64 x38, .slice x40 x40n x40c, .pointer x42, .slice x44 x44n x44c, .pointer x46, .bool x48, .slice x50 x50n x50c, .int .i64 x52, .int .i64 x54, .int .i64 x56, .int .i64 x58, .int .i64 x60, .bool x62, .bool x64, .bool x66, .bool x68, .bool x70, .int .i64 x72, .int .i64 x74, .slice x76 x76n x76c, .bool x78, .bool x80, .bool x82, .bool x84, .bool x86, .bool x88, .string x90, .int .i64 x92, .string x94, .int .i64 x96, .slice x98 x98n x98c, .bool x100, .int .u8 x102, .int .u8 x104, .int .u8 x106, .int .u8 x108, .int .i64 x110, .int .i64 x112, .int .i32 x114]) rfl (by kernel_rfl) (rd_loadStr (P := Tryd.prog) (h := h32) (t := 69) (a := ⟨b31, 0, none⟩) (.int .i64 x34 :: .int .i64 x36 :: .int .i64 x38 :: .slice x40 x40n x40c :: .pointer x42 :: .slice x44 x44n x44c :: .pointer x46 :: .bool x48 :: .slice x50 x50n x50c :: .int .i64 x52 :: .int .i64 x54 :: .int .i64 x56 :: .int .i64 x58 :: .int .i64 x60 :: .bool x62 :: .bool x64 :: .bool x66 :: .bool x68 :: .bool x70 :: .int .i64 x72 :: .int .i64 x74 :: .slice x76 x76n x76c :: .bool x78 :: .bool x80 :: .bool x82 :: .bool x84 :: .bool x86 :: .bool x88 :: .string x90 :: .int .i64 x92 :: .string x94 :: .int .i64 x96 :: .slice x98 x98n x98c :: .bool x100 :: .int .u8 x102 :: .int .u8 x104 :: .int .u8 x106 :: .int .u8 x108 :: .int .i64 x110 :: .int .i64 x112 :: .int .i32 x114 :: []) Tryd.underlying69 (by kernel_rfl) (cN 0 hc35 (cN 1 hc37 (cN 2 hc39 (cN 3 hc41 (cN 4 hc43 (cN 5 hc45 (cN 6 hc47 (cN 7 hc49 (cN 8 hc51 (cN 9 hc53 (cN 10 hc55 (cN 11 hc57 (cN 12 hc59 (cN 13 hc61 (cN 14 hc63 (cN 15 hc65 (cN 16 hc67 (cN 17 hc69 (cN 18 hc71 (cN 19 hc73 (cN 20 hc75 (cN 21 hc77 (cN 22 hc79 (cN 23 hc81 (cN 24 hc83 (cN 25 hc85 (cN 26 hc87 (cN 27 hc89 (cN 28 hc91 (cN 29 hc93 (cN 30 hc95 (cN 31 hc97 (cN 32 hc99 (cN 33 hc101 (cN 34 hc103 (cN 35 hc105 (cN 36 hc107 (cN 37 hc109 (cN 38 hc111 (cN 39 hc113 (cN 40 hc115 trivial))))))))))))))))))))))))))))))))))))))))) (by kernel_rfl)) ?_
 refine oS [(38, .pointer (some p2))] rfl ?_
 refine owp_hpD rfl (by kernel_rfl) (hpSt p2 (.int .i64 x34 :: .int .i64 x36 :: .int .i64 x38 :: .slice x40 x40n x40c :: .pointer x42 :: .slice x44 x44n x44c :: .pointer x46 :: .bool x48 :: .slice x50 x50n x50c :: .int .i64 x52 :: .int .i64 x54 :: .int .i64 x56 :: .int .i64 x58 :: .int .i64 x60 :: .bool x62 :: .bool x64 :: .bool x66 :: .bool x68 :: .bool x70 :: .int .i64 x72 :: .int .i64 x74 :: .slice x76 x76n x76c :: .bool x78 :: .bool x80 :: .bool x82 :: .bool x84 :: .bool x86 :: .bool x88 :: .string x90 :: .int .i64 x92 :: .string x94 :: .int .i64 x96 :: .slice x98 x98n x98c :: .bool x100 :: .int .u8 x102 :: .int .u8 x104 :: .int .u8 x106 :: .int .u8 x108 :: .int .i64 x110 :: .int .i64 x112 :: .int .i32 x114 :: []) (fun _ => by kernel_rfl) (by kernel_rfl) hM ?_)
 clear hM
 intro h116 hM
 refine oE (cwp_seq ?_)
 refine cwp_draw (by kernel_rfl) ?_
 refine k_pure (i := 0) [11, 12, 13] (.pointer (some p2)) (by kernel_rfl) rfl rfl (by kernel_rfl) (fun h' => by kernel_rfl) (by kernel_rfl) ?_
 refine k_pure (i := 1) [2, 3, 4, 10, 11, 12, 13] (.pointer (some p2)) (by kernel_rfl) rfl rfl (by kernel_rfl) (fun h' => by kernel_rfl) (by kernel_rfl) ?_
 refine k_pure (i := 2) [3, 4, 10, 11, 12, 13] (.pointer (some p2)) (by kernel_rfl) rfl rfl (by kernel_rfl) (fun h' => by kernel_rfl) (by kernel_rfl) ?_
 refine k_pure (i := 3) [4, 10, 11, 12, 13] (.pointer (some p2)) (by kernel_rfl) rfl rfl (by kernel_rfl) (fun h' => by kernel_rfl) (by kernel_rfl) ?_
 obtain ⟨x117, hc118, hM⟩ := hM
 refine k_load (i := 4) (.int .i64 x117) (fun h' => cellH h' p2 = some (.int .i64 x117) ∧ True) [10, 11, 12, 13] [10, 13] (by kernel_rfl) (by kernel_rfl) rfl rfl (by kernel_rfl) (fun h' hS => Eq.trans (b := (cellH h' p2).bind fun v120 => some (.value v120)) (by kernel_rfl) (bindE hS.1 _)) ⟨hc118, trivial⟩ (by kernel_rfl) ?_
 refine k_pure (i := 5) [6, 7, 8, 10, 11, 12, 13] (.pointer (some p2)) (by kernel_rfl) rfl rfl (by kernel_rfl) (fun h' => by kernel_rfl) (by kernel_rfl) ?_
 refine k_pure (i := 6) [7, 8, 10, 11, 12, 13] (.pointer (some p2)) (by kernel_rfl) rfl rfl (by kernel_rfl) (fun h' => by kernel_rfl) (by kernel_rfl) ?_
 refine k_pure (i := 7) [8, 10, 11, 12, 13] (.pointer (some (p2.add 1))) (by kernel_rfl) rfl rfl (by kernel_rfl) (fun h' => by kernel_rfl) (by kernel_rfl) ?_
 obtain ⟨x121, hc122, hM⟩ := hM
 refine k_load (i := 8) (.int .i64 x121) (fun h' => cellH h' (p2.add 1) = some (.int .i64 x121) ∧ True) [10, 11, 12, 13] [10, 13] (by kernel_rfl) (by kernel_rfl) rfl rfl (by kernel_rfl) (fun h' hS => Eq.trans (b := (cellH h' (p2.add 1)).bind fun v124 => some (.value v124)) (by kernel_rfl) (bindE hS.1 _)) ⟨hc122, trivial⟩ (by kernel_rfl) ?_
 refine k_pure (i := 9) [10, 11, 12, 13] (.agg #[.int .i64 0, .int .i64 0, .int .i64 0]) (by kernel_rfl) rfl rfl (by kernel_rfl) (fun h' => by kernel_rfl) (by kernel_rfl) ?_
 refine k_eff (j := 10) (by kernel_rfl) rfl rfl (by kernel_rfl) (hpCallE 32 #[.int .i64 x117, .int .i64 x121, .agg #[.int .i64 0, .int .i64 0, .int .i64 0]] (by kernel_rfl) (vt_sheetOf_ok x117 x121 0 0 0 _ h116 hM) ?_)
 clear hM
 rintro _ h125 ⟨x126, x126n, x126c, x127, rfl, hM⟩
 refine ⟨trivial, ?_⟩
 refine k_pure (i := 11) [12, 13] (.pointer (some p2)) (by kernel_rfl) rfl rfl (by kernel_rfl) (fun h' => by kernel_rfl) (by kernel_rfl) ?_
 refine k_pure (i := 12) [13] (.pointer (some (p2.add 3))) (by kernel_rfl) rfl rfl (by kernel_rfl) (fun h' => by kernel_rfl) (by kernel_rfl) ?_
 refine k_effD (j := 13) (by kernel_rfl) rfl rfl (by kernel_rfl) (hpSt (p2.add 3) [.slice x126 x126n x126c, .pointer x127] (fun _ => by kernel_rfl) (by kernel_rfl) hM ?_)
 clear hM
 intro h128 hM
 refine ⟨trivial, ?_⟩
 refine k_done (by kernel_rfl) ?_
 refine thenE_n (cwp_region ?_)
 refine oS [(52, .pointer (some p2))] rfl ?_
 refine owp_hpG rfl (by kernel_rfl) (hpCallE 33 #[.pointer (some p2)] (by kernel_rfl) (vt_Screen_stops_ok (some p2) _ h128 hM) ?_)
 clear hM
 rintro _ h129 ⟨rfl, hM⟩
 refine owp_nil ?_
 exact end_ (.tuple #[]) (by kernel_rfl) ⟨rfl, hM⟩
/- mullion/vt.New -/
def vt_New_j0 (Kn : Int → Int → Int → Heap → Prop) (Kr : Option Addr → Int → Heap → Prop) (y7 : Int) (y8 : Int) (y9 : Int) (y10 : Bool) (h : Heap) : Prop :=
 if y10 = true then
  Kr none 41 h
 else
 if y9 < 0 then
  Kr none 1 h
 else
 if 2000 < y9 then
  Kr none 1 h
 else
 Kn y7 y8 y9 h
theorem vt_New_j0_ok {Q : Exit → Env → Heap → Prop} (Kn : Int → Int → Int → Heap → Prop) (hKn : ∀ (z22 : Int) (z23 : Int) (z24 : Int) (b : Env) (h : Heap), Kn z22 z23 z24 h → Q .normal (upd (upd (upd b 0 (.int .i64 z22)) 1 (.int .i64 z23)) 2 (.int .i64 z24)) h) (Kr : Option Addr → Int → Heap → Prop) (hKr : ∀ (z27 : Option Addr) (z28 : Int) (b : Env) (h : Heap), Kr z27 z28 h → Q .ret (upd (upd b 6 (.pointer z27)) 7 (.int .i64 z28)) h) (y7 : Int) (y8 : Int) (y9 : Int) (y10 : Bool) (b : Env) (h : Heap) (hM : vt_New_j0 Kn Kr y7 y8 y9 y10 h) : cwp Tryd.prog (partC Tryd.f17 [1, 0, 0, 1]) 29 Q (upd (upd (upd (upd b 0 (.int .i64 y7)) 1 (.int .i64 y8)) 2 (.int .i64 y9)) 9 (.bool y10)) h := by
  unfold vt_New_j0 at hM
  refine cwp_part rfl ?_
  refine cwp_condB y10 (by kernel_rfl) (fun hc11 => ?_) (fun hc11 => ?_)
  · replace hM := ifT hc11 hM
    refine cR ?_
    refine oS [(6, .pointer none), (7, .int .i64 41)] rfl ?_
    refine oE (cwp_ret ?_)
    exact q_at (Q := Q .ret) 6 (.pointer none) (by kernel_rfl) (q_at (Q := Q .ret) 7 (.int .i64 41) (by kernel_rfl) (hKr none 41 _ _ hM))
  replace hM := ifF hc11 hM
  refine cwp_seq (cR ?_)
  refine oS [(17, .int .i64 y9), (18, .bool (decide (y9 < 0))), (16, .bool (decide (y9 < 0)))] rfl ?_
  refine oE ?_
  refine cwp_condD (y9 < 0) (by kernel_rfl) (fun hc14 => ?_) (fun hc14 => ?_)
  · replace hM := ifT hc14 hM
    refine cwp_skip (thenE_n ?_)
    refine cwp_condD (y9 < 0) (by kernel_rfl) (fun _ => ?_) (fun hn_ => absurd hc14 hn_)
    refine cR ?_
    refine oS [(6, .pointer none), (7, .int .i64 1)] rfl ?_
    refine oE (cwp_ret ?_)
    exact q_at (Q := Q .ret) 6 (.pointer none) (by kernel_rfl) (q_at (Q := Q .ret) 7 (.int .i64 1) (by kernel_rfl) (hKr none 1 _ _ hM))
  replace hM := ifF hc14 hM
  refine cwp_region ?_
  refine oS [(19, .int .i64 y9), (20, .bool (decide (2000 < y9))), (16, .bool (decide (2000 < y9)))] rfl ?_
  refine oE ?_
  refine cwp_condD (2000 < y9) (by kernel_rfl) (fun hc15 => ?_) (fun hc15 => ?_)
  · replace hM := ifT hc15 hM
    refine cR ?_
    refine oS [(6, .pointer none), (7, .int .i64 1)] rfl ?_
    refine oE (cwp_ret ?_)
    exact q_at (Q := Q .ret) 6 (.pointer none) (by kernel_rfl) (q_at (Q := Q .ret) 7 (.int .i64 1) (by kernel_rfl) (hKr none 1 _ _ hM))
  replace hM := ifF hc15 hM
  refine cwp_skip ?_
  exact q_at (Q := Q .normal) 0 (.int .i64 y7) (by kernel_rfl) (q_at (Q := Q .normal) 1 (.int .i64 y8) (by kernel_rfl) (q_at (Q := Q .normal) 2 (.int .i64 y9) (by kernel_rfl) (hKn y7 y8 y9 _ _ hM)))
def vt_New_j1 (Kr : Nat → Int → Heap → Prop) (y33 : Int) (y34 : Int) (y35 : Int) (h : Heap) : Prop :=
 newB h #[.int .i64 y33, .int .i64 y34, .int .i64 y35, .slice none 0 0, .pointer none, .slice none 0 0, .pointer none, .bool false, .slice none 0 0, .int .i64 0, .int .i64 0, .int .i64 0, .int .i64 0, .int .i64 0, .bool false, .bool false, .bool false, .bool false, .bool false, .int .i64 0, .int .i64 0, .slice none 0 0, .bool false, .bool false, .bool false, .bool false, .bool false, .bool false, .string (⟨#[]⟩ : ByteArray), .int .i64 0, .string (⟨#[]⟩ : ByteArray), .int .i64 0, .slice none 0 0, .bool false, .int .u8 0, .int .u8 0, .int .u8 0, .int .u8 0, .int .i64 0, .int .i64 0, .int .i32 0] 69 fun b36 h37 =>
 vt_Screen_reset (some ⟨b36, 0, none⟩) (fun  h39 =>
   Kr b36 0 h39) h37
theorem vt_New_j1_ok {Q : Exit → Env → Heap → Prop} (Kr : Nat → Int → Heap → Prop) (hKr : ∀ (z44 : Nat) (z45 : Int) (b : Env) (h : Heap), Kr z44 z45 h → Q .ret (upd (upd b 6 (.pointer (some ⟨z44, 0, none⟩))) 7 (.int .i64 z45)) h) (y33 : Int) (y34 : Int) (y35 : Int) (b : Env) (h : Heap) (hM : vt_New_j1 Kr y33 y34 y35 h) : cwp Tryd.prog (partC Tryd.f17 [1, 1]) 29 Q (upd (upd (upd b 0 (.int .i64 y33)) 1 (.int .i64 y34)) 2 (.int .i64 y35)) h := by
  unfold vt_New_j1 at hM
  refine cwp_part rfl ?_
  refine cR ?_
  refine oS [(21, .int .i64 y33), (22, .int .i64 y34), (23, .int .i64 y35), (24, .agg #[.int .i64 y33, .int .i64 y34, .int .i64 y35, .slice none 0 0, .pointer none, .slice none 0 0, .pointer none, .bool false, .slice none 0 0, .int .i64 0, .int .i64 0, .int .i64 0, .int .i64 0, .int .i64 0, .bool false, .bool false, .bool false, .bool false, .bool false, .int .i64 0, .int .i64 0, .slice none 0 0, .bool false, .bool false, .bool false, .bool false, .bool false, .bool false, .string (⟨#[]⟩ : ByteArray), .int .i64 0, .string (⟨#[]⟩ : ByteArray), .int .i64 0, .slice none 0 0, .bool false, .int .u8 0, .int .u8 0, .int .u8 0, .int .u8 0, .int .i64 0, .int .i64 0, .int .i32 0])] rfl ?_
  refine owp_hpG rfl (by kernel_rfl) (hpNew #[.int .i64 y33, .int .i64 y34, .int .i64 y35, .slice none 0 0, .pointer none, .slice none 0 0, .pointer none, .bool false, .slice none 0 0, .int .i64 0, .int .i64 0, .int .i64 0, .int .i64 0, .int .i64 0, .bool false, .bool false, .bool false, .bool false, .bool false, .int .i64 0, .int .i64 0, .slice none 0 0, .bool false, .bool false, .bool false, .bool false, .bool false, .bool false, .string (⟨#[]⟩ : ByteArray), .int .i64 0, .string (⟨#[]⟩ : ByteArray), .int .i64 0, .slice none 0 0, .bool false, .int .u8 0, .int .u8 0, .int .u8 0, .int .u8 0, .int .i64 0, .int .i64 0, .int .i32 0] 69 (fun _ => by kernel_rfl) ?_)
  intro b36 h37 hN38
  replace hM := newB_of hN38 hM
  refine oS [(8, .pointer (some ⟨b36, 0, none⟩))] rfl ?_
  refine oE (cR ?_)
  refine oS [(26, .pointer (some ⟨b36, 0, none⟩))] rfl ?_
  refine owp_hpG rfl (by kernel_rfl) (hpCallE 24 #[.pointer (some ⟨b36, 0, none⟩)] (by kernel_rfl) (vt_Screen_reset_ok (some ⟨b36, 0, none⟩) _ h37 hM) ?_)
  clear hM
  rintro _ h39 ⟨rfl, hM⟩
  refine oE (cR ?_)
  refine oS [(28, .pointer (some ⟨b36, 0, none⟩)), (6, .pointer (some ⟨b36, 0, none⟩)), (7, .int .i64 0)] rfl ?_
  refine oE (cwp_ret ?_)
  exact q_at (Q := Q .ret) 6 (.pointer (some ⟨b36, 0, none⟩)) (by kernel_rfl) (q_at (Q := Q .ret) 7 (.int .i64 0) (by kernel_rfl) (hKr b36 0 _ _ hM))
def vt_New (a1 : Int) (a2 : Int) (a3 : Int) (K : Option Addr → Int → Heap → Prop) (h : Heap) : Prop :=
 if (!(vt_fits a1)) = true then
  gap h fun h4 =>
  vt_New_j0
   (fun z29 z30 z31 h32 =>
     vt_New_j1
      (fun z46 z47 h48 =>
            K (some ⟨z46, 0, none⟩) z47 h48) z29 z30 z31 h32)
   (fun z52 z53 h54 =>
       K z52 z53 h54) a1 a2 a3 (!(vt_fits a1)) h4
 else
 gap h fun h57 =>
 vt_New_j0
  (fun z59 z60 z61 h62 =>
    vt_New_j1
     (fun z63 z64 h65 =>
           K (some ⟨z63, 0, none⟩) z64 h65) z59 z60 z61 h62)
  (fun z69 z70 h71 =>
      K z69 z70 h71) a1 a2 a3 (!(vt_fits a2)) h57
theorem vt_New_ok (a1 : Int) (a2 : Int) (a3 : Int) (K : Option Addr → Int → Heap → Prop) (h : Heap) (hM : vt_New a1 a2 a3 K h) : CallsH Tryd.prog 17 #[.int .i64 a1, .int .i64 a2, .int .i64 a3] (fun v h' => ∃ (r74 : Option Addr) (r75 : Int), v = .tuple #[.pointer r74, .int .i64 r75] ∧ K r74 r75 h') h := by
 unfold vt_New at hM
 refine callsH_intro (n := 29) Tryd.func17 rfl rfl (by kernel_rfl) ?_
 refine cR ?_
 refine oS [(6, .pointer none), (7, .int .i64 0)] rfl ?_
 refine oE (cwp_seq (cwp_block (cwp_seq (cR ?_))))
 refine oS [(10, .int .i64 a1)] rfl ?_
 refine owp_hpG rfl (by kernel_rfl) (hpCallP 23 #[.int .i64 a1] (.bool (vt_fits a1)) (by kernel_rfl) (vt_fits_ok a1 _ h rfl) ?_)
 intro h4 hx5
 refine oS [(12, .bool (!(vt_fits a1))), (9, .bool (!(vt_fits a1)))] rfl ?_
 refine oE ?_
 refine cwp_condB (!(vt_fits a1)) (by kernel_rfl) (fun hc6 => ?_) (fun hc6 => ?_)
 · replace hM := ifT hc6 hM
   refine cwp_skip (thenE_n ?_)
   replace hM := hM _ hx5
   refine cwp_of_part (fn := Tryd.f17) (p := [1, 0, 0, 1]) (by kernel_rfl) (cwp_at 0 (.int .i64 a1) (by kernel_rfl) (cwp_at 1 (.int .i64 a2) (by kernel_rfl) (cwp_at 2 (.int .i64 a3) (by kernel_rfl) (cwp_at 9 (.bool (!(vt_fits a1))) (by kernel_rfl) (vt_New_j0_ok _ ?_ _ ?_ a1 a2 a3 (!(vt_fits a1)) _ _ hM)))))
   · intro z29 z30 z31 b51 h32 hM
     refine blockE_n (thenE_n ?_)
     refine cwp_of_part (fn := Tryd.f17) (p := [1, 1]) (by kernel_rfl) (cwp_at 0 (.int .i64 z29) (by kernel_rfl) (cwp_at 1 (.int .i64 z30) (by kernel_rfl) (cwp_at 2 (.int .i64 z31) (by kernel_rfl) (vt_New_j1_ok _ ?_ z29 z30 z31 _ _ hM))))
     · intro z46 z47 b49 h48 hM
       exact ret_ (.tuple #[.pointer (some ⟨z46, 0, none⟩), .int .i64 z47]) (by kernel_rfl) ⟨_, _, rfl, hM⟩
   · intro z52 z53 b55 h54 hM
     refine blockE_r (thenE_r ?_)
     exact ret_ (.tuple #[.pointer z52, .int .i64 z53]) (by kernel_rfl) ⟨_, _, rfl, hM⟩
 replace hM := ifF hc6 hM
 refine cwp_region ?_
 refine oS [(13, .int .i64 a2)] rfl ?_
 refine owp_hpG rfl (by kernel_rfl) (hpCallP 23 #[.int .i64 a2] (.bool (vt_fits a2)) (by kernel_rfl) (vt_fits_ok a2 _ h4 rfl) ?_)
 intro h57 hx58
 refine oS [(15, .bool (!(vt_fits a2))), (9, .bool (!(vt_fits a2)))] rfl ?_
 refine oE ?_
 replace hM := hM _ (Ext.trans hx5 hx58)
 refine cwp_of_part (fn := Tryd.f17) (p := [1, 0, 0, 1]) (by kernel_rfl) (cwp_at 0 (.int .i64 a1) (by kernel_rfl) (cwp_at 1 (.int .i64 a2) (by kernel_rfl) (cwp_at 2 (.int .i64 a3) (by kernel_rfl) (cwp_at 9 (.bool (!(vt_fits a2))) (by kernel_rfl) (vt_New_j0_ok _ ?_ _ ?_ a1 a2 a3 (!(vt_fits a2)) _ _ hM)))))
 · intro z59 z60 z61 b68 h62 hM
   refine blockE_n (thenE_n ?_)
   refine cwp_of_part (fn := Tryd.f17) (p := [1, 1]) (by kernel_rfl) (cwp_at 0 (.int .i64 z59) (by kernel_rfl) (cwp_at 1 (.int .i64 z60) (by kernel_rfl) (cwp_at 2 (.int .i64 z61) (by kernel_rfl) (vt_New_j1_ok _ ?_ z59 z60 z61 _ _ hM))))
   · intro z63 z64 b66 h65 hM
     exact ret_ (.tuple #[.pointer (some ⟨z63, 0, none⟩), .int .i64 z64]) (by kernel_rfl) ⟨_, _, rfl, hM⟩
 · intro z69 z70 b72 h71 hM
   refine blockE_r (thenE_r ?_)
   exact ret_ (.tuple #[.pointer z69, .int .i64 z70]) (by kernel_rfl) ⟨_, _, rfl, hM⟩
theorem eq_T41 (d : Nat) {h : Heap} {x0 y0 : Int} {x1 y1 : Int} {x2 y2 : Int} : rd Tryd.prog (Op.equalIn (d + 2) 41 (.agg #[.int .i64 x0, .int .i64 x1, .int .i64 x2]) (.agg #[.int .i64 y0, .int .i64 y1, .int .i64 y2])) h = some ((x0 == y0) && ((x1 == y1) && (x2 == y2))) := by
 refine (rd_eqStruct Tryd.underlying41 (by kernel_rfl)).trans ?_
 refine rd_eqCons (a := .int .i64 x0) (b := .int .i64 y0) rfl (by kernel_rfl) (by kernel_rfl) (by kernel_rfl) ?_
 refine rd_eqCons (a := .int .i64 x1) (b := .int .i64 y1) rfl (by kernel_rfl) (by kernel_rfl) (by kernel_rfl) ?_
 exact rd_eqLast (a := .int .i64 x2) (b := .int .i64 y2) rfl (by kernel_rfl) (by kernel_rfl) (by kernel_rfl)
theorem eq_T43 (d : Nat) {h : Heap} {x0 y0 : ByteArray} {x1 y1 : Int} {x2 y2 : Int} {x3 y3 : Int} {x4 y4 : Int} : rd Tryd.prog (Op.equalIn (d + 3) 43 (.agg #[.string x0, .int .i64 x1, .int .i64 x2, .int .i64 x3, .int .i64 x4]) (.agg #[.string y0, .int .i64 y1, .int .i64 y2, .int .i64 y3, .int .i64 y4])) h = some ((x0 == y0) && ((x1 == y1) && ((x2 == y2) && ((x3 == y3) && (x4 == y4))))) := by
 refine (rd_eqStruct Tryd.underlying43 (by kernel_rfl)).trans ?_
 refine rd_eqCons (a := .string x0) (b := .string y0) rfl (by kernel_rfl) (by kernel_rfl) (by kernel_rfl) ?_
 refine rd_eqCons (a := .int .i64 x1) (b := .int .i64 y1) rfl (by kernel_rfl) (by kernel_rfl) (by kernel_rfl) ?_
 exact rd_eqLast (a := .agg #[.int .i64 x2, .int .i64 x3, .int .i64 x4]) (b := .agg #[.int .i64 y2, .int .i64 y3, .int .i64 y4]) rfl (by kernel_rfl) (by kernel_rfl) (eq_T41 (d + 0))
/- mullion/mullionlaw19.works -/
def law19_works  (K : Bool → Heap → Prop) (h : Heap) : Prop :=
 vt_New 3 2 0 (fun x2 x3 h1 =>
  if (x2.isNone || (!decide (x3 = 0))) = true then
   K false h1
  else
  vt_Screen_Feed x2 (⟨#[97, 98, 13, 10, 27, 91, 51, 49]⟩ : ByteArray) (fun  h9 =>
   vt_Screen_Feed x2 (⟨#[109, 99]⟩ : ByteArray) (fun  h10 =>
    vt_Screen_Picture x2 (fun x12 x13 x14 x14n x14c x15 x16 x17 x18 h11 =>
     if (((((decide (x12 = 3)) && (decide (x13 = 2))) && (decide ((x14n : Int) = 6))) && (decide (x15 = 1))) && (decide (x16 = 1))) = true then
      nz x14 fun p54 =>
      0 ≤ (1 : Int) ∧
      (1 : Int) < (x14n : Int) ∧
      gap h11 fun h22 =>
      ldS h22 (p54.add (((1 : Int)).toNat * 5)) fun x55 =>
      ldI h22 .i64 ((p54.add (((1 : Int)).toNat * 5)).add 1) fun x57 =>
      ldI h22 .i64 ((p54.add (((1 : Int)).toNat * 5)).add 2) fun x59 =>
      ldI h22 .i64 ((p54.add (((1 : Int)).toNat * 5)).add 3) fun x61 =>
      ldI h22 .i64 ((p54.add (((1 : Int)).toNat * 5)).add 4) fun x63 =>
      if ((x55 == (⟨#[98]⟩ : ByteArray)) && ((x57 == 1) && ((x59 == 0) && ((x61 == 0) && (x63 == 0))))) = true then
       0 ≤ (3 : Int) ∧
       (3 : Int) < (x14n : Int) ∧
       ldS h22 (p54.add (((3 : Int)).toNat * 5)) fun x92 =>
       ldI h22 .i64 ((p54.add (((3 : Int)).toNat * 5)).add 1) fun x94 =>
       ldI h22 .i64 ((p54.add (((3 : Int)).toNat * 5)).add 2) fun x96 =>
       ldI h22 .i64 ((p54.add (((3 : Int)).toNat * 5)).add 3) fun x98 =>
       ldI h22 .i64 ((p54.add (((3 : Int)).toNat * 5)).add 4) fun x100 =>
       if ((x92 == (⟨#[99]⟩ : ByteArray)) && ((x94 == 1) && ((x96 == 2) && ((x98 == 0) && (x100 == 0))))) = true then
        0 ≤ (5 : Int) ∧
        (5 : Int) < (x14n : Int) ∧
        ldS h22 (p54.add (((5 : Int)).toNat * 5)) fun x129 =>
        ldI h22 .i64 ((p54.add (((5 : Int)).toNat * 5)).add 1) fun x131 =>
        ldI h22 .i64 ((p54.add (((5 : Int)).toNat * 5)).add 2) fun x133 =>
        ldI h22 .i64 ((p54.add (((5 : Int)).toNat * 5)).add 3) fun x135 =>
        ldI h22 .i64 ((p54.add (((5 : Int)).toNat * 5)).add 4) fun x137 =>
        K ((x129 == (⟨#[32]⟩ : ByteArray)) && ((x131 == 1) && ((x133 == 0) && ((x135 == 0) && (x137 == 0))))) h22
       else
       K false h22
      else
      K false h22
     else
     gap h11 fun h22 =>
         K false h22) h10) h9) h1) h
theorem law19_works_ok  (K : Bool → Heap → Prop) (h : Heap) (hM : law19_works  K h) : CallsH Tryd.prog 5 #[] (fun v h' => ∃ (r144 : Bool), v = .bool r144 ∧ K r144 h') h := by
 unfold law19_works at hM
 refine callsH_intro (n := 69) Tryd.func5 rfl rfl (by kernel_rfl) ?_
 refine cR ?_
 refine oS [(0, .bool false)] rfl ?_
 refine oE (cR ?_)
 refine owp_hpG rfl (by kernel_rfl) (hpCallE 17 #[.int .i64 3, .int .i64 2, .int .i64 0] (by kernel_rfl) (vt_New_ok 3 2 0 _ h hM) ?_)
 clear hM
 rintro _ h1 ⟨x2, x3, rfl, hM⟩
 refine oS [(4, .tuple #[.pointer x2, .int .i64 x3]), (6, .pointer x2), (7, .int .i64 x3), (1, .pointer x2), (2, .int .i64 x3)] rfl ?_
 refine oE (cwp_seq (cR ?_))
 refine oS [(8, .pointer x2)] rfl ?_
 refine owp_rdG (.bool x2.isNone) rfl (by kernel_rfl) (rd_eqNil (P := Tryd.prog) (h := h1) (t := 27) (el := 69) (by kernel_rfl) (by kernel_rfl)) ?_
 refine oS [(10, .bool x2.isNone)] rfl ?_
 refine oB (x2.isNone) 3 [9, 10] (fun b_ => [(11, iteV b_ undef (.int .i64 x3 : Value)), (12, iteV b_ undef (.bool (!decide (x3 = 0)) : Value)), (13, .bool (b_ || (!decide (x3 = 0))))]) rfl (fun hb4 hq5 => oS [(11, undef), (12, undef), (13, .bool true)] rfl (hq5)) (fun hb6 hq7 => oS [(11, .int .i64 x3), (12, .bool (!decide (x3 = 0))), (13, .bool (!decide (x3 = 0)))] rfl (hq7)) ?_
 refine oE ?_
 refine cwp_condB (x2.isNone || (!decide (x3 = 0))) (by kernel_rfl) (fun hc8 => ?_) (fun hc8 => ?_)
 · replace hM := ifT hc8 hM
   refine cR ?_
   refine oS [(0, .bool false)] rfl ?_
   refine oE (cwp_ret (thenE_r ?_))
   exact ret_ (.bool false) (by kernel_rfl) ⟨_, rfl, hM⟩
 replace hM := ifF hc8 hM
 refine cwp_skip (thenE_n (cR ?_))
 refine oS [(14, .pointer x2)] rfl ?_
 refine owp_hpG rfl (by kernel_rfl) (hpCallE 9 #[.pointer x2, .string (⟨#[97, 98, 13, 10, 27, 91, 51, 49]⟩ : ByteArray)] (by kernel_rfl) (vt_Screen_Feed_ok x2 (⟨#[97, 98, 13, 10, 27, 91, 51, 49]⟩ : ByteArray) _ h1 hM) ?_)
 clear hM
 rintro _ h9 ⟨rfl, hM⟩
 refine oE (cR ?_)
 refine oS [(16, .pointer x2)] rfl ?_
 refine owp_hpG rfl (by kernel_rfl) (hpCallE 9 #[.pointer x2, .string (⟨#[109, 99]⟩ : ByteArray)] (by kernel_rfl) (vt_Screen_Feed_ok x2 (⟨#[109, 99]⟩ : ByteArray) _ h9 hM) ?_)
 clear hM
 rintro _ h10 ⟨rfl, hM⟩
 refine oE (cR ?_)
 refine oS [(18, .pointer x2)] rfl ?_
 refine owp_hpG rfl (by kernel_rfl) (hpCallE 12 #[.pointer x2] (by kernel_rfl) (vt_Screen_Picture_ok x2 _ h10 hM) ?_)
 clear hM
 rintro _ h11 ⟨x12, x13, x14, x14n, x14c, x15, x16, x17, x18, rfl, hM⟩
 refine owp_hpG rfl (by kernel_rfl) (hpNew #[.int .i64 0, .int .i64 0, .slice none 0 0, .int .i64 0, .int .i64 0, .bool false, .string (⟨#[]⟩ : ByteArray)] 35 (fun _ => by kernel_rfl) ?_)
 intro b19 h20 hN21
 refine owp_hpD rfl (by kernel_rfl) (hpStB b19 0 [.int .i64 x12, .int .i64 x13, .slice x14 x14n x14c, .int .i64 x15, .int .i64 x16, .bool x17, .string x18] (New.blk hN21) (fun _ => by kernel_rfl) rfl rfl ?_)
 intro h22 hP23
 have f24 : Blk h22 b19 #[.int .i64 x12, .int .i64 x13, .slice x14 x14n x14c, .int .i64 x15, .int .i64 x16, .bool x17, .string x18] 35 := hP23.blk
 refine oE (cR ?_)
 refine oS [(20, .pointer (some ⟨b19, 0, none⟩))] rfl ?_
 refine owp_rdG (.int .i64 x12) rfl (by kernel_rfl) (Eq.trans (b := (cellH h22 ⟨b19, 0, none⟩).bind fun v25 => some (.value v25)) (by kernel_rfl) (bindE (Blk.cell f24 0 (by kernel_rfl)) _)) ?_
 refine oS [(22, .bool (decide (x12 = 3))), (23, .bool (decide (x12 = 3)))] rfl ?_
 refine oB (decide (x12 = 3)) 4 [22, 23] (fun b_ => [(24, iteV b_ (.pointer (some ⟨b19, 1, none⟩) : Value) undef), (25, iteV b_ (.int .i64 x13 : Value) undef), (26, iteV b_ (.bool (decide (x13 = 2)) : Value) undef), (27, .bool (b_ && (decide (x13 = 2))))]) rfl (fun hb27 hq28 => oS [(24, .pointer (some ⟨b19, 1, none⟩))] rfl (owp_rdG (.int .i64 x13) rfl (by kernel_rfl) (Eq.trans (b := (cellH h22 ⟨b19, 1, none⟩).bind fun v26 => some (.value v26)) (by kernel_rfl) (bindE (Blk.cell f24 1 (by kernel_rfl)) _)) (oS [(26, .bool (decide (x13 = 2))), (27, .bool (decide (x13 = 2)))] rfl (hq28)))) (fun hb29 hq30 => oS [(24, undef), (25, undef), (26, undef), (27, .bool false)] rfl (hq30)) ?_
 refine oS [(28, .bool ((decide (x12 = 3)) && (decide (x13 = 2))))] rfl ?_
 refine oB ((decide (x12 = 3)) && (decide (x13 = 2))) 5 [27, 28] (fun b_ => [(29, iteV b_ (.pointer (some ⟨b19, 2, none⟩) : Value) undef), (30, iteV b_ (.slice x14 x14n x14c : Value) undef), (31, iteV b_ (.int .i64 (x14n : Int) : Value) undef), (32, iteV b_ (.bool (decide ((x14n : Int) = 6)) : Value) undef), (33, .bool (b_ && (decide ((x14n : Int) = 6))))]) rfl (fun hb32 hq33 => oS [(29, .pointer (some ⟨b19, 2, none⟩))] rfl (owp_rdG (.slice x14 x14n x14c) rfl (by kernel_rfl) (Eq.trans (b := (cellH h22 ⟨b19, 2, none⟩).bind fun v31 => some (.value v31)) (by kernel_rfl) (bindE (Blk.cell f24 2 (by kernel_rfl)) _)) (oS [(31, .int .i64 (x14n : Int)), (32, .bool (decide ((x14n : Int) = 6))), (33, .bool (decide ((x14n : Int) = 6)))] rfl (hq33)))) (fun hb34 hq35 => oS [(29, undef), (30, undef), (31, undef), (32, undef), (33, .bool false)] rfl (hq35)) ?_
 refine oS [(34, .bool (((decide (x12 = 3)) && (decide (x13 = 2))) && (decide ((x14n : Int) = 6))))] rfl ?_
 refine oB (((decide (x12 = 3)) && (decide (x13 = 2))) && (decide ((x14n : Int) = 6))) 4 [33, 34] (fun b_ => [(35, iteV b_ (.pointer (some ⟨b19, 3, none⟩) : Value) undef), (36, iteV b_ (.int .i64 x15 : Value) undef), (37, iteV b_ (.bool (decide (x15 = 1)) : Value) undef), (38, .bool (b_ && (decide (x15 = 1))))]) rfl (fun hb37 hq38 => oS [(35, .pointer (some ⟨b19, 3, none⟩))] rfl (owp_rdG (.int .i64 x15) rfl (by kernel_rfl) (Eq.trans (b := (cellH h22 ⟨b19, 3, none⟩).bind fun v36 => some (.value v36)) (by kernel_rfl) (bindE (Blk.cell f24 3 (by kernel_rfl)) _)) (oS [(37, .bool (decide (x15 = 1))), (38, .bool (decide (x15 = 1)))] rfl (hq38)))) (fun hb39 hq40 => oS [(35, undef), (36, undef), (37, undef), (38, .bool false)] rfl (hq40)) ?_
 refine oS [(39, .bool ((((decide (x12 = 3)) && (decide (x13 = 2))) && (decide ((x14n : Int) = 6))) && (decide (x15 = 1))))] rfl ?_
 refine oB ((((decide (x12 = 3)) && (decide (x13 = 2))) && (decide ((x14n : Int) = 6))) && (decide (x15 = 1))) 4 [38, 39] (fun b_ => [(40, iteV b_ (.pointer (some ⟨b19, 4, none⟩) : Value) undef), (41, iteV b_ (.int .i64 x16 : Value) undef), (42, iteV b_ (.bool (decide (x16 = 1)) : Value) undef), (43, .bool (b_ && (decide (x16 = 1))))]) rfl (fun hb42 hq43 => oS [(40, .pointer (some ⟨b19, 4, none⟩))] rfl (owp_rdG (.int .i64 x16) rfl (by kernel_rfl) (Eq.trans (b := (cellH h22 ⟨b19, 4, none⟩).bind fun v41 => some (.value v41)) (by kernel_rfl) (bindE (Blk.cell f24 4 (by kernel_rfl)) _)) (oS [(42, .bool (decide (x16 = 1))), (43, .bool (decide (x16 = 1)))] rfl (hq43)))) (fun hb44 hq45 => oS [(40, undef), (41, undef), (42, undef), (43, .bool false)] rfl (hq45)) ?_
 refine oS [(44, .bool (((((decide (x12 = 3)) && (decide (x13 = 2))) && (decide ((x14n : Int) = 6))) && (decide (x15 = 1))) && (decide (x16 = 1))))] rfl ?_
 by_cases hc50 : (((((decide (x12 = 3)) && (decide (x13 = 2))) && (decide ((x14n : Int) = 6))) && (decide (x15 = 1))) && (decide (x16 = 1))) = true
 · refine owp_at 43 (.bool true) (Eq.trans (b := .bool (((((decide (x12 = 3)) && (decide (x13 = 2))) && (decide ((x14n : Int) = 6))) && (decide (x15 = 1))) && (decide (x16 = 1)))) (by kernel_rfl) (by rw [hc50])) ?_
   refine owp_at 44 (.bool true) (Eq.trans (b := .bool (((((decide (x12 = 3)) && (decide (x13 = 2))) && (decide ((x14n : Int) = 6))) && (decide (x15 = 1))) && (decide (x16 = 1)))) (by kernel_rfl) (by rw [hc50])) ?_
   replace hM := ifT hc50 hM
   refine oS [(45, .pointer (some ⟨b19, 2, none⟩))] rfl ?_
   refine owp_rdG (.slice x14 x14n x14c) rfl (by kernel_rfl) (Eq.trans (b := (cellH h22 ⟨b19, 2, none⟩).bind fun v51 => some (.value v51)) (by kernel_rfl) (bindE (Blk.cell f24 2 (by kernel_rfl)) _)) ?_
   obtain ⟨p54, rfl, hM⟩ := hM
   obtain ⟨hc52, hM⟩ := hM
   obtain ⟨hc53, hM⟩ := hM
   refine owp_rdG (.pointer (some (p54.add (((1 : Int)).toNat * 5)))) rfl (by kernel_rfl) (rd_ixS (P := Tryd.prog) (h := h22) (t := 33) (el := 43) (sz := 5) (ad := p54) (len := x14n) (c := x14c) (k := .i64) (i := 1) (by kernel_rfl) (by kernel_rfl) hc52 hc53 (by kernel_rfl)) ?_
   replace hM := hM _ (Put.ext hP23 (New.ext hN21) (New.ge hN21 (Ext.refl _)))
   obtain ⟨x55, hc56, hM⟩ := hM
   obtain ⟨x57, hc58, hM⟩ := hM
   obtain ⟨x59, hc60, hM⟩ := hM
   obtain ⟨x61, hc62, hM⟩ := hM
   obtain ⟨x63, hc64, hM⟩ := hM
   refine owp_rdG (.agg #[.string x55, .int .i64 x57, .int .i64 x59, .int .i64 x61, .int .i64 x63]) rfl (by kernel_rfl) (Eq.trans (b := (cellH h22 (p54.add (((1 : Int)).toNat * 5))).bind fun v65 => (cellH h22 ((p54.add (((1 : Int)).toNat * 5)).add 1)).bind fun v66 => (cellH h22 ((p54.add (((1 : Int)).toNat * 5)).add 2)).bind fun v67 => (cellH h22 ((p54.add (((1 : Int)).toNat * 5)).add 3)).bind fun v68 => (cellH h22 ((p54.add (((1 : Int)).toNat * 5)).add 4)).bind fun v69 => some (.value (.agg #[v65, v66, v67, v68, v69]))) (by kernel_rfl) ((bindE hc56 _).trans ((bindE hc58 _).trans ((bindE hc60 _).trans ((bindE hc62 _).trans (bindE hc64 _)))))) ?_
   refine oS [(49, .agg #[.string (⟨#[98]⟩ : ByteArray), .int .i64 1, .int .i64 0, .int .i64 0, .int .i64 0])] rfl ?_
   refine owp_rdG (.bool ((x55 == (⟨#[98]⟩ : ByteArray)) && ((x57 == 1) && ((x59 == 0) && ((x61 == 0) && (x63 == 0)))))) rfl (by kernel_rfl) ((by kernel_rfl : _ = rd Tryd.prog (toVal ((Op.equal 43 (.agg #[.string x55, .int .i64 x57, .int .i64 x59, .int .i64 x61, .int .i64 x63]) (.agg #[.string (⟨#[98]⟩ : ByteArray), .int .i64 1, .int .i64 0, .int .i64 0, .int .i64 0])).bind fun v_ => Sem.pure (.bool v_))) h22).trans (rd_eqB (eq_T43 9997))) ?_
   refine oS [(51, .bool ((x55 == (⟨#[98]⟩ : ByteArray)) && ((x57 == 1) && ((x59 == 0) && ((x61 == 0) && (x63 == 0)))))), (52, .bool ((x55 == (⟨#[98]⟩ : ByteArray)) && ((x57 == 1) && ((x59 == 0) && ((x61 == 0) && (x63 == 0))))))] rfl ?_
   by_cases hc88 : ((x55 == (⟨#[98]⟩ : ByteArray)) && ((x57 == 1) && ((x59 == 0) && ((x61 == 0) && (x63 == 0))))) = true
   · refine owp_at 50 (.bool true) (Eq.trans (b := .bool ((x55 == (⟨#[98]⟩ : ByteArray)) && ((x57 == 1) && ((x59 == 0) && ((x61 == 0) && (x63 == 0)))))) (by kernel_rfl) (by rw [hc88])) ?_
     refine owp_at 51 (.bool true) (Eq.trans (b := .bool ((x55 == (⟨#[98]⟩ : ByteArray)) && ((x57 == 1) && ((x59 == 0) && ((x61 == 0) && (x63 == 0)))))) (by kernel_rfl) (by rw [hc88])) ?_
     refine owp_at 52 (.bool true) (Eq.trans (b := .bool ((x55 == (⟨#[98]⟩ : ByteArray)) && ((x57 == 1) && ((x59 == 0) && ((x61 == 0) && (x63 == 0)))))) (by kernel_rfl) (by rw [hc88])) ?_
     replace hM := ifT hc88 hM
     refine oS [(53, .pointer (some ⟨b19, 2, none⟩))] rfl ?_
     refine owp_rdG (.slice (some p54) x14n x14c) rfl (by kernel_rfl) (Eq.trans (b := (cellH h22 ⟨b19, 2, none⟩).bind fun v89 => some (.value v89)) (by kernel_rfl) (bindE (Blk.cell f24 2 (by kernel_rfl)) _)) ?_
     obtain ⟨hc90, hM⟩ := hM
     obtain ⟨hc91, hM⟩ := hM
     refine owp_rdG (.pointer (some (p54.add (((3 : Int)).toNat * 5)))) rfl (by kernel_rfl) (rd_ixS (P := Tryd.prog) (h := h22) (t := 33) (el := 43) (sz := 5) (ad := p54) (len := x14n) (c := x14c) (k := .i64) (i := 3) (by kernel_rfl) (by kernel_rfl) hc90 hc91 (by kernel_rfl)) ?_
     obtain ⟨x92, hc93, hM⟩ := hM
     obtain ⟨x94, hc95, hM⟩ := hM
     obtain ⟨x96, hc97, hM⟩ := hM
     obtain ⟨x98, hc99, hM⟩ := hM
     obtain ⟨x100, hc101, hM⟩ := hM
     refine owp_rdG (.agg #[.string x92, .int .i64 x94, .int .i64 x96, .int .i64 x98, .int .i64 x100]) rfl (by kernel_rfl) (Eq.trans (b := (cellH h22 (p54.add (((3 : Int)).toNat * 5))).bind fun v102 => (cellH h22 ((p54.add (((3 : Int)).toNat * 5)).add 1)).bind fun v103 => (cellH h22 ((p54.add (((3 : Int)).toNat * 5)).add 2)).bind fun v104 => (cellH h22 ((p54.add (((3 : Int)).toNat * 5)).add 3)).bind fun v105 => (cellH h22 ((p54.add (((3 : Int)).toNat * 5)).add 4)).bind fun v106 => some (.value (.agg #[v102, v103, v104, v105, v106]))) (by kernel_rfl) ((bindE hc93 _).trans ((bindE hc95 _).trans ((bindE hc97 _).trans ((bindE hc99 _).trans (bindE hc101 _)))))) ?_
     refine oS [(57, .agg #[.int .i64 2, .int .i64 0, .int .i64 0]), (58, .agg #[.string (⟨#[99]⟩ : ByteArray), .int .i64 1, .int .i64 2, .int .i64 0, .int .i64 0])] rfl ?_
     refine owp_rdG (.bool ((x92 == (⟨#[99]⟩ : ByteArray)) && ((x94 == 1) && ((x96 == 2) && ((x98 == 0) && (x100 == 0)))))) rfl (by kernel_rfl) ((by kernel_rfl : _ = rd Tryd.prog (toVal ((Op.equal 43 (.agg #[.string x92, .int .i64 x94, .int .i64 x96, .int .i64 x98, .int .i64 x100]) (.agg #[.string (⟨#[99]⟩ : ByteArray), .int .i64 1, .int .i64 2, .int .i64 0, .int .i64 0])).bind fun v_ => Sem.pure (.bool v_))) h22).trans (rd_eqB (eq_T43 9997))) ?_
     refine oS [(60, .bool ((x92 == (⟨#[99]⟩ : ByteArray)) && ((x94 == 1) && ((x96 == 2) && ((x98 == 0) && (x100 == 0)))))), (61, .bool ((x92 == (⟨#[99]⟩ : ByteArray)) && ((x94 == 1) && ((x96 == 2) && ((x98 == 0) && (x100 == 0))))))] rfl ?_
     by_cases hc125 : ((x92 == (⟨#[99]⟩ : ByteArray)) && ((x94 == 1) && ((x96 == 2) && ((x98 == 0) && (x100 == 0))))) = true
     · refine owp_at 59 (.bool true) (Eq.trans (b := .bool ((x92 == (⟨#[99]⟩ : ByteArray)) && ((x94 == 1) && ((x96 == 2) && ((x98 == 0) && (x100 == 0)))))) (by kernel_rfl) (by rw [hc125])) ?_
       refine owp_at 60 (.bool true) (Eq.trans (b := .bool ((x92 == (⟨#[99]⟩ : ByteArray)) && ((x94 == 1) && ((x96 == 2) && ((x98 == 0) && (x100 == 0)))))) (by kernel_rfl) (by rw [hc125])) ?_
       refine owp_at 61 (.bool true) (Eq.trans (b := .bool ((x92 == (⟨#[99]⟩ : ByteArray)) && ((x94 == 1) && ((x96 == 2) && ((x98 == 0) && (x100 == 0)))))) (by kernel_rfl) (by rw [hc125])) ?_
       replace hM := ifT hc125 hM
       refine oS [(62, .pointer (some ⟨b19, 2, none⟩))] rfl ?_
       refine owp_rdG (.slice (some p54) x14n x14c) rfl (by kernel_rfl) (Eq.trans (b := (cellH h22 ⟨b19, 2, none⟩).bind fun v126 => some (.value v126)) (by kernel_rfl) (bindE (Blk.cell f24 2 (by kernel_rfl)) _)) ?_
       obtain ⟨hc127, hM⟩ := hM
       obtain ⟨hc128, hM⟩ := hM
       refine owp_rdG (.pointer (some (p54.add (((5 : Int)).toNat * 5)))) rfl (by kernel_rfl) (rd_ixS (P := Tryd.prog) (h := h22) (t := 33) (el := 43) (sz := 5) (ad := p54) (len := x14n) (c := x14c) (k := .i64) (i := 5) (by kernel_rfl) (by kernel_rfl) hc127 hc128 (by kernel_rfl)) ?_
       obtain ⟨x129, hc130, hM⟩ := hM
       obtain ⟨x131, hc132, hM⟩ := hM
       obtain ⟨x133, hc134, hM⟩ := hM
       obtain ⟨x135, hc136, hM⟩ := hM
       obtain ⟨x137, hc138, hM⟩ := hM
       refine owp_rdG (.agg #[.string x129, .int .i64 x131, .int .i64 x133, .int .i64 x135, .int .i64 x137]) rfl (by kernel_rfl) (Eq.trans (b := (cellH h22 (p54.add (((5 : Int)).toNat * 5))).bind fun v139 => (cellH h22 ((p54.add (((5 : Int)).toNat * 5)).add 1)).bind fun v140 => (cellH h22 ((p54.add (((5 : Int)).toNat * 5)).add 2)).bind fun v141 => (cellH h22 ((p54.add (((5 : Int)).toNat * 5)).add 3)).bind fun v142 => (cellH h22 ((p54.add (((5 : Int)).toNat * 5)).add 4)).bind fun v143 => some (.value (.agg #[v139, v140, v141, v142, v143]))) (by kernel_rfl) ((bindE hc130 _).trans ((bindE hc132 _).trans ((bindE hc134 _).trans ((bindE hc136 _).trans (bindE hc138 _)))))) ?_
       refine oS [(66, .agg #[.string (⟨#[32]⟩ : ByteArray), .int .i64 1, .int .i64 0, .int .i64 0, .int .i64 0])] rfl ?_
       refine owp_rdG (.bool ((x129 == (⟨#[32]⟩ : ByteArray)) && ((x131 == 1) && ((x133 == 0) && ((x135 == 0) && (x137 == 0)))))) rfl (by kernel_rfl) ((by kernel_rfl : _ = rd Tryd.prog (toVal ((Op.equal 43 (.agg #[.string x129, .int .i64 x131, .int .i64 x133, .int .i64 x135, .int .i64 x137]) (.agg #[.string (⟨#[32]⟩ : ByteArray), .int .i64 1, .int .i64 0, .int .i64 0, .int .i64 0])).bind fun v_ => Sem.pure (.bool v_))) h22).trans (rd_eqB (eq_T43 9997))) ?_
       refine oS [(68, .bool ((x129 == (⟨#[32]⟩ : ByteArray)) && ((x131 == 1) && ((x133 == 0) && ((x135 == 0) && (x137 == 0)))))), (0, .bool ((x129 == (⟨#[32]⟩ : ByteArray)) && ((x131 == 1) && ((x133 == 0) && ((x135 == 0) && (x137 == 0))))))] rfl ?_
       refine oE (cwp_ret ?_)
       exact ret_ (.bool ((x129 == (⟨#[32]⟩ : ByteArray)) && ((x131 == 1) && ((x133 == 0) && ((x135 == 0) && (x137 == 0)))))) (by kernel_rfl) ⟨_, rfl, hM⟩
     refine owp_at 59 (.bool false) (Eq.trans (b := .bool ((x92 == (⟨#[99]⟩ : ByteArray)) && ((x94 == 1) && ((x96 == 2) && ((x98 == 0) && (x100 == 0)))))) (by kernel_rfl) (by rw [Bool.eq_false_iff.2 hc125])) ?_
     refine owp_at 60 (.bool false) (Eq.trans (b := .bool ((x92 == (⟨#[99]⟩ : ByteArray)) && ((x94 == 1) && ((x96 == 2) && ((x98 == 0) && (x100 == 0)))))) (by kernel_rfl) (by rw [Bool.eq_false_iff.2 hc125])) ?_
     refine owp_at 61 (.bool false) (Eq.trans (b := .bool ((x92 == (⟨#[99]⟩ : ByteArray)) && ((x94 == 1) && ((x96 == 2) && ((x98 == 0) && (x100 == 0)))))) (by kernel_rfl) (by rw [Bool.eq_false_iff.2 hc125])) ?_
     replace hM := ifF hc125 hM
     refine oS [(62, undef), (63, undef), (64, undef), (65, undef), (66, undef), (67, undef), (68, .bool false), (0, .bool false)] rfl ?_
     refine oE (cwp_ret ?_)
     exact ret_ (.bool false) (by kernel_rfl) ⟨_, rfl, hM⟩
   refine owp_at 50 (.bool false) (Eq.trans (b := .bool ((x55 == (⟨#[98]⟩ : ByteArray)) && ((x57 == 1) && ((x59 == 0) && ((x61 == 0) && (x63 == 0)))))) (by kernel_rfl) (by rw [Bool.eq_false_iff.2 hc88])) ?_
   refine owp_at 51 (.bool false) (Eq.trans (b := .bool ((x55 == (⟨#[98]⟩ : ByteArray)) && ((x57 == 1) && ((x59 == 0) && ((x61 == 0) && (x63 == 0)))))) (by kernel_rfl) (by rw [Bool.eq_false_iff.2 hc88])) ?_
   refine owp_at 52 (.bool false) (Eq.trans (b := .bool ((x55 == (⟨#[98]⟩ : ByteArray)) && ((x57 == 1) && ((x59 == 0) && ((x61 == 0) && (x63 == 0)))))) (by kernel_rfl) (by rw [Bool.eq_false_iff.2 hc88])) ?_
   replace hM := ifF hc88 hM
   refine oS [(53, undef), (54, undef), (55, undef), (56, undef), (57, undef), (58, undef), (59, undef), (60, .bool false), (61, .bool false), (62, undef), (63, undef), (64, undef), (65, undef), (66, undef), (67, undef), (68, .bool false), (0, .bool false)] rfl ?_
   refine oE (cwp_ret ?_)
   exact ret_ (.bool false) (by kernel_rfl) ⟨_, rfl, hM⟩
 refine owp_at 43 (.bool false) (Eq.trans (b := .bool (((((decide (x12 = 3)) && (decide (x13 = 2))) && (decide ((x14n : Int) = 6))) && (decide (x15 = 1))) && (decide (x16 = 1)))) (by kernel_rfl) (by rw [Bool.eq_false_iff.2 hc50])) ?_
 refine owp_at 44 (.bool false) (Eq.trans (b := .bool (((((decide (x12 = 3)) && (decide (x13 = 2))) && (decide ((x14n : Int) = 6))) && (decide (x15 = 1))) && (decide (x16 = 1)))) (by kernel_rfl) (by rw [Bool.eq_false_iff.2 hc50])) ?_
 replace hM := ifF hc50 hM
 refine oS [(45, undef), (46, undef), (47, undef), (48, undef), (49, undef), (50, undef), (51, .bool false), (52, .bool false), (53, undef), (54, undef), (55, undef), (56, undef), (57, undef), (58, undef), (59, undef), (60, .bool false), (61, .bool false), (62, undef), (63, undef), (64, undef), (65, undef), (66, undef), (67, undef), (68, .bool false), (0, .bool false)] rfl ?_
 refine oE (cwp_ret ?_)
 replace hM := hM _ (Put.ext hP23 (New.ext hN21) (New.ge hN21 (Ext.refl _)))
 exact ret_ (.bool false) (by kernel_rfl) ⟨_, rfl, hM⟩
/- mullion/mullionref19.within -/
def ref19_within_l0 (K0 : Heap → Prop) (Kr : Bool → Heap → Prop) : Nat → Int → Option Addr → Nat → Nat → Int → Heap → Prop
  | 0, _, _, _, _, _, _ => False
  | k + 1, y3, y4, y4n, y4c, y5, h =>
  if (IntKind.wrap .i64 (y5 + 1)) < (y4n : Int) then
   nz y4 fun p9 =>
   0 ≤ y5 ∧
   y5 < (y4n : Int) ∧
   ldI h .i32 (p9.add ((y5).toNat * 1)) fun x10 =>
   if x10 ≤ y3 then
    0 ≤ (IntKind.wrap .i64 (y5 + 1)) ∧
    (IntKind.wrap .i64 (y5 + 1)) < (y4n : Int) ∧
    ldI h .i32 (p9.add ((IntKind.wrap .i64 (y5 + 1)).toNat * 1)) fun x21 =>
    if y3 ≤ x21 then
     Kr true h
    else
    ref19_within_l0 K0 Kr k y3 (some p9) y4n y4c (IntKind.wrap .i64 (y5 + 2)) h
   else
   ref19_within_l0 K0 Kr k y3 (some p9) y4n y4c (IntKind.wrap .i64 (y5 + 2)) h
  else
  K0  h
theorem ref19_within_l0_ok {Q : Exit → Env → Heap → Prop} (K0 : Heap → Prop) (hK0 : ∀  (b : Env) (h : Heap), K0  h → Q (.exit 0) b h) (Kr : Bool → Heap → Prop) (hKr : ∀ (z27 : Bool) (b : Env) (h : Heap), Kr z27 h → Q .ret (upd b 4 (.bool z27)) h) : ∀ (k : Nat) (y3 : Int) (y4 : Option Addr) (y4n : Nat) (y4c : Nat) (y5 : Int) (b : Env) (h : Heap) (hM : ref19_within_l0 K0 Kr k y3 y4 y4n y4c y5 h), lwp Tryd.prog (partC Tryd.f19 [1, 0, 1, 0, 0]) 28 Q k (upd (upd (upd b 0 (.int .i32 y3)) 1 (.slice y4 y4n y4c)) 5 (.int .i64 y5)) h := by
  intro k
  induction k with
  | zero => intro y3 y4 y4n y4c y5 b h hM; exact (show False from hM).elim
  | succ k ih =>
    intro y3 y4 y4n y4c y5 b h hM
    unfold ref19_within_l0 at hM
    refine lwp_succ (cwp_part rfl ?_)
    refine cwp_seq (cR ?_)
    refine oS [(6, .int .i64 y5), (7, .int .i64 (IntKind.wrap .i64 (y5 + 1))), (8, .slice y4 y4n y4c), (9, .int .i64 (y4n : Int)), (10, .bool (decide ((IntKind.wrap .i64 (y5 + 1)) < (y4n : Int))))] rfl ?_
    refine oE ?_
    refine cwp_condD ((IntKind.wrap .i64 (y5 + 1)) < (y4n : Int)) (by kernel_rfl) (fun hc6 => ?_) (fun hc6 => ?_)
    · replace hM := ifT hc6 hM
      refine cwp_skip (thenE_n (cwp_seq (cwp_block (cR ?_))))
      refine oS [(13, .int .i32 y3), (14, .slice y4 y4n y4c), (15, .int .i64 y5)] rfl ?_
      obtain ⟨p9, rfl, hM⟩ := hM
      obtain ⟨hc7, hM⟩ := hM
      obtain ⟨hc8, hM⟩ := hM
      refine owp_rdG (.pointer (some (p9.add ((y5).toNat * 1)))) rfl (by kernel_rfl) (rd_ixS (P := Tryd.prog) (h := h) (t := 53) (el := 21) (sz := 1) (ad := p9) (len := y4n) (c := y4c) (k := .i64) (i := y5) (by kernel_rfl) (by kernel_rfl) hc7 hc8 (by kernel_rfl)) ?_
      obtain ⟨x10, hc11, hM⟩ := hM
      refine owp_rdG (.int .i32 x10) rfl (by kernel_rfl) (Eq.trans (b := (cellH h (p9.add ((y5).toNat * 1))).bind fun v12 => some (.value v12)) (by kernel_rfl) (bindE hc11 _)) ?_
      refine oS [(18, .bool (decide (x10 ≤ y3))), (19, .bool (decide (x10 ≤ y3)))] rfl ?_
      by_cases hc18 : x10 ≤ y3
      · refine owp_at 18 (.bool true) (Eq.trans (b := .bool (decide (x10 ≤ y3))) (by kernel_rfl) (by rw [decide_eq_true hc18])) ?_
        refine owp_at 19 (.bool true) (Eq.trans (b := .bool (decide (x10 ≤ y3))) (by kernel_rfl) (by rw [decide_eq_true hc18])) ?_
        replace hM := ifT hc18 hM
        refine oS [(20, .int .i32 y3), (21, .slice (some p9) y4n y4c), (22, .int .i64 y5), (23, .int .i64 (IntKind.wrap .i64 (y5 + 1)))] rfl ?_
        obtain ⟨hc19, hM⟩ := hM
        obtain ⟨hc20, hM⟩ := hM
        refine owp_rdG (.pointer (some (p9.add ((IntKind.wrap .i64 (y5 + 1)).toNat * 1)))) rfl (by kernel_rfl) (rd_ixS (P := Tryd.prog) (h := h) (t := 53) (el := 21) (sz := 1) (ad := p9) (len := y4n) (c := y4c) (k := .i64) (i := (IntKind.wrap .i64 (y5 + 1))) (by kernel_rfl) (by kernel_rfl) hc19 hc20 (by kernel_rfl)) ?_
        obtain ⟨x21, hc22, hM⟩ := hM
        refine owp_rdG (.int .i32 x21) rfl (by kernel_rfl) (Eq.trans (b := (cellH h (p9.add ((IntKind.wrap .i64 (y5 + 1)).toNat * 1))).bind fun v23 => some (.value v23)) (by kernel_rfl) (bindE hc22 _)) ?_
        refine oS [(26, .bool (decide (y3 ≤ x21))), (27, .bool (decide (y3 ≤ x21)))] rfl ?_
        refine oE ?_
        refine cwp_condD (y3 ≤ x21) (by kernel_rfl) (fun hc24 => ?_) (fun hc24 => ?_)
        · replace hM := ifT hc24 hM
          refine cR ?_
          refine oS [(4, .bool true)] rfl ?_
          refine oE (cwp_ret (blockE_r (thenE_r ?_)))
          exact q_at (Q := Q .ret) 4 (.bool true) (by kernel_rfl) (hKr true _ _ hM)
        replace hM := ifF hc24 hM
        refine cwp_skip (blockE_n (thenE_n (cwp_region ?_)))
        refine oS [(11, .int .i64 y5), (12, .int .i64 (IntKind.wrap .i64 (y5 + 2))), (5, .int .i64 (IntKind.wrap .i64 (y5 + 2)))] rfl ?_
        refine owp_nil ?_
        exact lwp_at 0 (.int .i32 y3) (by kernel_rfl) (lwp_at 1 (.slice (some p9) y4n y4c) (by kernel_rfl) (lwp_at 5 (.int .i64 (IntKind.wrap .i64 (y5 + 2))) (by kernel_rfl) (ih y3 (some p9) y4n y4c (IntKind.wrap .i64 (y5 + 2)) _ _ hM)))
      refine owp_at 18 (.bool false) (Eq.trans (b := .bool (decide (x10 ≤ y3))) (by kernel_rfl) (by rw [decide_eq_false hc18])) ?_
      refine owp_at 19 (.bool false) (Eq.trans (b := .bool (decide (x10 ≤ y3))) (by kernel_rfl) (by rw [decide_eq_false hc18])) ?_
      replace hM := ifF hc18 hM
      refine oS [(20, undef), (21, undef), (22, undef), (23, undef), (24, undef), (25, undef), (26, undef), (27, .bool false)] rfl ?_
      refine oE ?_
      refine cwp_cond (t := false) (by kernel_rfl) (fun hx_ => ?_) (fun hx_ => ?_)
      all_goals first | (cases hx_; done) | skip
      refine cwp_skip (blockE_n (thenE_n (cwp_region ?_)))
      refine oS [(11, .int .i64 y5), (12, .int .i64 (IntKind.wrap .i64 (y5 + 2))), (5, .int .i64 (IntKind.wrap .i64 (y5 + 2)))] rfl ?_
      refine owp_nil ?_
      exact lwp_at 0 (.int .i32 y3) (by kernel_rfl) (lwp_at 1 (.slice (some p9) y4n y4c) (by kernel_rfl) (lwp_at 5 (.int .i64 (IntKind.wrap .i64 (y5 + 2))) (by kernel_rfl) (ih y3 (some p9) y4n y4c (IntKind.wrap .i64 (y5 + 2)) _ _ hM)))
    replace hM := ifF hc6 hM
    refine cwp_exit (thenE_x ?_)
    exact hK0  _ _ hM
def ref19_within (a1 : Int) (a2 : Option Addr) (a2n : Nat) (a2c : Nat) (K : Bool → Heap → Prop) (h : Heap) : Prop :=
 ∃ k33, ref19_within_l0
  (fun  h28 =>
      K false h28)
  (fun z30 h31 =>
      K z30 h31) k33 a1 a2 a2n a2c 0 h
theorem ref19_within_ok (a1 : Int) (a2 : Option Addr) (a2n : Nat) (a2c : Nat) (K : Bool → Heap → Prop) (h : Heap) (hM : ref19_within a1 a2 a2n a2c K h) : CallsH Tryd.prog 19 #[.int .i32 a1, .slice a2 a2n a2c] (fun v h' => ∃ (r34 : Bool), v = .bool r34 ∧ K r34 h') h := by
 unfold ref19_within at hM
 refine callsH_intro (n := 28) Tryd.func19 rfl rfl (by kernel_rfl) ?_
 refine cR ?_
 refine oS [(4, .bool false)] rfl ?_
 refine oE (cwp_seq (cR ?_))
 refine oS [(5, .int .i64 0)] rfl ?_
 refine oE (cwp_block ?_)
 obtain ⟨k_, hM⟩ := hM
 refine cwp_loop k_ (lwp_of_part (fn := Tryd.f19) (p := [1, 0, 1, 0, 0]) (by kernel_rfl) (lwp_at 0 (.int .i32 a1) (by kernel_rfl) (lwp_at 1 (.slice a2 a2n a2c) (by kernel_rfl) (lwp_at 5 (.int .i64 0) (by kernel_rfl) (ref19_within_l0_ok _ ?_ _ ?_ k_ a1 a2 a2n a2c 0 _ _ hM)))))
 · intro  b29 h28 hM
   refine blockE_h (thenE_n (cR ?_))
   refine oS [(4, .bool false)] rfl ?_
   refine oE (cwp_ret ?_)
   exact ret_ (.bool false) (by kernel_rfl) ⟨_, rfl, hM⟩
 · intro z30 b32 h31 hM
   refine blockE_r (thenE_r ?_)
   exact ret_ (.bool z30) (by kernel_rfl) ⟨_, rfl, hM⟩
/- mullion/mullionref19.Width -/
def ref19_Width (a1 : Int) (K : Int → Heap → Prop) (h : Heap) : Prop :=
 if ((((decide (a1 < 32)) || ((decide (127 ≤ a1)) && (decide (a1 ≤ 159)))) || ((decide (55296 ≤ a1)) && (decide (a1 ≤ 57343)))) || (decide (1114111 < a1))) = true then
  K (-1) h
 else
 newB h #[.int .i32 768, .int .i32 879, .int .i32 8203, .int .i32 8207, .int .i32 8232, .int .i32 8238, .int .i32 8400, .int .i32 8447, .int .i32 65024, .int .i32 65039, .int .i32 65279, .int .i32 65279] 21 fun b23 h24 =>
 ref19_within a1 (some ⟨b23, 0, none⟩) 12 12 (fun x27 h26 =>
  if x27 = true then
   K 0 h26
  else
  newB h26 #[.int .i32 4352, .int .i32 4447, .int .i32 11904, .int .i32 12350, .int .i32 12353, .int .i32 13311, .int .i32 13312, .int .i32 19903, .int .i32 19968, .int .i32 40959, .int .i32 40960, .int .i32 42191, .int .i32 44032, .int .i32 55203, .int .i32 63744, .int .i32 64255, .int .i32 65072, .int .i32 65135, .int .i32 65280, .int .i32 65376, .int .i32 65504, .int .i32 65510, .int .i32 127744, .int .i32 128591, .int .i32 129280, .int .i32 129535, .int .i32 131072, .int .i32 262141] 21 fun b29 h30 =>
  ref19_within a1 (some ⟨b29, 0, none⟩) 28 28 (fun x33 h32 =>
   if x33 = true then
    K 2 h32
   else
     K 1 h32) h30) h24
theorem ref19_Width_ok (a1 : Int) (K : Int → Heap → Prop) (h : Heap) (hM : ref19_Width a1 K h) : CallsH Tryd.prog 7 #[.int .i32 a1] (fun v h' => ∃ (r35 : Int), v = .int .i64 r35 ∧ K r35 h') h := by
 unfold ref19_Width at hM
 refine callsH_intro (n := 31) Tryd.func7 rfl rfl (by kernel_rfl) ?_
 refine cR ?_
 refine oS [(2, .int .i64 0)] rfl ?_
 refine oE (cwp_seq (cR ?_))
 refine oS [(3, .int .i32 a1), (4, .bool (decide (a1 < 32))), (5, .bool (decide (a1 < 32)))] rfl ?_
 refine oB (decide (a1 < 32)) 7 [4, 5] (fun b_ => [(6, iteV b_ undef (.int .i32 a1 : Value)), (7, iteV b_ undef (.bool (decide (127 ≤ a1)) : Value)), (8, iteV b_ undef (.bool (decide (127 ≤ a1)) : Value)), (9, iteV b_ undef (iteV (decide (127 ≤ a1)) (.int .i32 a1 : Value) undef)), (10, iteV b_ undef (iteV (decide (127 ≤ a1)) (.bool (decide (a1 ≤ 159)) : Value) undef)), (11, iteV b_ undef (.bool ((decide (127 ≤ a1)) && (decide (a1 ≤ 159))) : Value)), (12, .bool (b_ || ((decide (127 ≤ a1)) && (decide (a1 ≤ 159)))))]) rfl (fun hb6 hq7 => oS [(6, undef), (7, undef), (8, undef), (9, undef), (10, undef), (11, undef), (12, .bool true)] rfl (hq7)) (fun hb8 hq9 => oS [(6, .int .i32 a1), (7, .bool (decide (127 ≤ a1))), (8, .bool (decide (127 ≤ a1)))] rfl (oB (decide (127 ≤ a1)) 3 [7, 8] (fun b_ => [(9, iteV b_ (.int .i32 a1 : Value) undef), (10, iteV b_ (.bool (decide (a1 ≤ 159)) : Value) undef), (11, .bool (b_ && (decide (a1 ≤ 159))))]) rfl (fun hb2 hq3 => oS [(9, .int .i32 a1), (10, .bool (decide (a1 ≤ 159))), (11, .bool (decide (a1 ≤ 159)))] rfl (hq3)) (fun hb4 hq5 => oS [(9, undef), (10, undef), (11, .bool false)] rfl (hq5)) (oS [(12, .bool ((decide (127 ≤ a1)) && (decide (a1 ≤ 159))))] rfl (hq9)))) ?_
 refine oS [(13, .bool ((decide (a1 < 32)) || ((decide (127 ≤ a1)) && (decide (a1 ≤ 159)))))] rfl ?_
 refine oB ((decide (a1 < 32)) || ((decide (127 ≤ a1)) && (decide (a1 ≤ 159)))) 7 [12, 13] (fun b_ => [(14, iteV b_ undef (.int .i32 a1 : Value)), (15, iteV b_ undef (.bool (decide (55296 ≤ a1)) : Value)), (16, iteV b_ undef (.bool (decide (55296 ≤ a1)) : Value)), (17, iteV b_ undef (iteV (decide (55296 ≤ a1)) (.int .i32 a1 : Value) undef)), (18, iteV b_ undef (iteV (decide (55296 ≤ a1)) (.bool (decide (a1 ≤ 57343)) : Value) undef)), (19, iteV b_ undef (.bool ((decide (55296 ≤ a1)) && (decide (a1 ≤ 57343))) : Value)), (20, .bool (b_ || ((decide (55296 ≤ a1)) && (decide (a1 ≤ 57343)))))]) rfl (fun hb14 hq15 => oS [(14, undef), (15, undef), (16, undef), (17, undef), (18, undef), (19, undef), (20, .bool true)] rfl (hq15)) (fun hb16 hq17 => oS [(14, .int .i32 a1), (15, .bool (decide (55296 ≤ a1))), (16, .bool (decide (55296 ≤ a1)))] rfl (oB (decide (55296 ≤ a1)) 3 [15, 16] (fun b_ => [(17, iteV b_ (.int .i32 a1 : Value) undef), (18, iteV b_ (.bool (decide (a1 ≤ 57343)) : Value) undef), (19, .bool (b_ && (decide (a1 ≤ 57343))))]) rfl (fun hb10 hq11 => oS [(17, .int .i32 a1), (18, .bool (decide (a1 ≤ 57343))), (19, .bool (decide (a1 ≤ 57343)))] rfl (hq11)) (fun hb12 hq13 => oS [(17, undef), (18, undef), (19, .bool false)] rfl (hq13)) (oS [(20, .bool ((decide (55296 ≤ a1)) && (decide (a1 ≤ 57343))))] rfl (hq17)))) ?_
 refine oS [(21, .bool (((decide (a1 < 32)) || ((decide (127 ≤ a1)) && (decide (a1 ≤ 159)))) || ((decide (55296 ≤ a1)) && (decide (a1 ≤ 57343)))))] rfl ?_
 refine oB (((decide (a1 < 32)) || ((decide (127 ≤ a1)) && (decide (a1 ≤ 159)))) || ((decide (55296 ≤ a1)) && (decide (a1 ≤ 57343)))) 3 [20, 21] (fun b_ => [(22, iteV b_ undef (.int .i32 a1 : Value)), (23, iteV b_ undef (.bool (decide (1114111 < a1)) : Value)), (24, .bool (b_ || (decide (1114111 < a1))))]) rfl (fun hb18 hq19 => oS [(22, undef), (23, undef), (24, .bool true)] rfl (hq19)) (fun hb20 hq21 => oS [(22, .int .i32 a1), (23, .bool (decide (1114111 < a1))), (24, .bool (decide (1114111 < a1)))] rfl (hq21)) ?_
 refine oE ?_
 refine cwp_condB ((((decide (a1 < 32)) || ((decide (127 ≤ a1)) && (decide (a1 ≤ 159)))) || ((decide (55296 ≤ a1)) && (decide (a1 ≤ 57343)))) || (decide (1114111 < a1))) (by kernel_rfl) (fun hc22 => ?_) (fun hc22 => ?_)
 · replace hM := ifT hc22 hM
   refine cR ?_
   refine oS [(2, .int .i64 (-1))] rfl ?_
   refine oE (cwp_ret (thenE_r ?_))
   exact ret_ (.int .i64 (-1)) (by kernel_rfl) ⟨_, rfl, hM⟩
 replace hM := ifF hc22 hM
 refine cwp_skip (thenE_n (cwp_seq (cR ?_)))
 refine oS [(25, .int .i32 a1)] rfl ?_
 refine owp_hpG rfl (by kernel_rfl) (hpNewS #[.int .i32 768, .int .i32 879, .int .i32 8203, .int .i32 8207, .int .i32 8232, .int .i32 8238, .int .i32 8400, .int .i32 8447, .int .i32 65024, .int .i32 65039, .int .i32 65279, .int .i32 65279] 21 12 (fun _ => by kernel_rfl) ?_)
 intro b23 h24 hN25
 replace hM := newB_of hN25 hM
 refine owp_hpG rfl (by kernel_rfl) (hpCallE 19 #[.int .i32 a1, .slice (some ⟨b23, 0, none⟩) 12 12] (by kernel_rfl) (ref19_within_ok a1 (some ⟨b23, 0, none⟩) 12 12 _ h24 hM) ?_)
 clear hM
 rintro _ h26 ⟨x27, rfl, hM⟩
 refine oE ?_
 refine cwp_condB x27 (by kernel_rfl) (fun hc28 => ?_) (fun hc28 => ?_)
 · replace hM := ifT hc28 hM
   refine cR ?_
   refine oS [(2, .int .i64 0)] rfl ?_
   refine oE (cwp_ret (thenE_r ?_))
   exact ret_ (.int .i64 0) (by kernel_rfl) ⟨_, rfl, hM⟩
 replace hM := ifF hc28 hM
 refine cwp_skip (thenE_n (cwp_seq (cR ?_)))
 refine oS [(28, .int .i32 a1)] rfl ?_
 refine owp_hpG rfl (by kernel_rfl) (hpNewS #[.int .i32 4352, .int .i32 4447, .int .i32 11904, .int .i32 12350, .int .i32 12353, .int .i32 13311, .int .i32 13312, .int .i32 19903, .int .i32 19968, .int .i32 40959, .int .i32 40960, .int .i32 42191, .int .i32 44032, .int .i32 55203, .int .i32 63744, .int .i32 64255, .int .i32 65072, .int .i32 65135, .int .i32 65280, .int .i32 65376, .int .i32 65504, .int .i32 65510, .int .i32 127744, .int .i32 128591, .int .i32 129280, .int .i32 129535, .int .i32 131072, .int .i32 262141] 21 28 (fun _ => by kernel_rfl) ?_)
 intro b29 h30 hN31
 replace hM := newB_of hN31 hM
 refine owp_hpG rfl (by kernel_rfl) (hpCallE 19 #[.int .i32 a1, .slice (some ⟨b29, 0, none⟩) 28 28] (by kernel_rfl) (ref19_within_ok a1 (some ⟨b29, 0, none⟩) 28 28 _ h30 hM) ?_)
 clear hM
 rintro _ h32 ⟨x33, rfl, hM⟩
 refine oE ?_
 refine cwp_condB x33 (by kernel_rfl) (fun hc34 => ?_) (fun hc34 => ?_)
 · replace hM := ifT hc34 hM
   refine cR ?_
   refine oS [(2, .int .i64 2)] rfl ?_
   refine oE (cwp_ret (thenE_r ?_))
   exact ret_ (.int .i64 2) (by kernel_rfl) ⟨_, rfl, hM⟩
 replace hM := ifF hc34 hM
 refine cwp_skip (thenE_n (cR ?_))
 refine oS [(2, .int .i64 1)] rfl ?_
 refine oE (cwp_ret ?_)
 exact ret_ (.int .i64 1) (by kernel_rfl) ⟨_, rfl, hM⟩
/- mullion/mullionlaw19.VtWidths -/
def law19_VtWidths (a1 : Int) (K : Bool → Heap → Prop) (h : Heap) : Prop :=
 law19_works  (fun x3 h2 =>
  if x3 = true then
   vt_Width a1 (fun x8 h7 =>
    ref19_Width a1 (fun x10 h9 =>
       K (decide (x8 = x10)) h9) h7) h2
  else
   K false h2) h
theorem law19_VtWidths_ok (a1 : Int) (K : Bool → Heap → Prop) (h : Heap) (hM : law19_VtWidths a1 K h) : CallsH Tryd.prog 3 #[.int .i32 a1] (fun v h' => ∃ (r11 : Bool), v = .bool r11 ∧ K r11 h') h := by
 unfold law19_VtWidths at hM
 refine callsH_intro (n := 11) Tryd.func3 rfl rfl (by kernel_rfl) ?_
 refine cR ?_
 refine oS [(2, .bool false)] rfl ?_
 refine oE (cR ?_)
 refine owp_hpG rfl (by kernel_rfl) (hpCallE 5 #[] (by kernel_rfl) (law19_works_ok  _ h hM) ?_)
 clear hM
 rintro _ h2 ⟨x3, rfl, hM⟩
 refine oS [(4, .bool x3)] rfl ?_
 by_cases hc6 : x3 = true
 · refine owp_at 3 (.bool true) (Eq.trans (b := .bool x3) (by kernel_rfl) (by rw [hc6])) ?_
   refine owp_at 4 (.bool true) (Eq.trans (b := .bool x3) (by kernel_rfl) (by rw [hc6])) ?_
   replace hM := ifT hc6 hM
   refine oS [(5, .int .i32 a1)] rfl ?_
   refine owp_hpG rfl (by kernel_rfl) (hpCallE 6 #[.int .i32 a1] (by kernel_rfl) (vt_Width_ok a1 _ h2 hM) ?_)
   clear hM
   rintro _ h7 ⟨x8, rfl, hM⟩
   refine oS [(7, .int .i32 a1)] rfl ?_
   refine owp_hpG rfl (by kernel_rfl) (hpCallE 7 #[.int .i32 a1] (by kernel_rfl) (ref19_Width_ok a1 _ h7 hM) ?_)
   clear hM
   rintro _ h9 ⟨x10, rfl, hM⟩
   refine oS [(9, .bool (decide (x8 = x10))), (10, .bool (decide (x8 = x10))), (2, .bool (decide (x8 = x10)))] rfl ?_
   refine oE (cwp_ret ?_)
   exact ret_ (.bool (decide (x8 = x10))) (by kernel_rfl) ⟨_, rfl, hM⟩
 refine owp_at 3 (.bool false) (Eq.trans (b := .bool x3) (by kernel_rfl) (by rw [Bool.eq_false_iff.2 hc6])) ?_
 refine owp_at 4 (.bool false) (Eq.trans (b := .bool x3) (by kernel_rfl) (by rw [Bool.eq_false_iff.2 hc6])) ?_
 replace hM := ifF hc6 hM
 refine oS [(5, undef), (6, undef), (7, undef), (8, undef), (9, undef), (10, .bool false), (2, .bool false)] rfl ?_
 refine oE (cwp_ret ?_)
 exact ret_ (.bool false) (by kernel_rfl) ⟨_, rfl, hM⟩
end Go.Proofs.YthjdnhhifjpidaaDoor.M
