/-
  PRINTED BY A PROGRAM OF THIS CLAIM'S (gen.py): for each Go function a Lean function over memory, and the proof that the code comes to what it says.
-/
import Derived.Test.YtkbpnmgkdodcmaaDoorK2
import Derived.Test.YtkbpnmgkdodcmaaDoorProg
set_option linter.unusedVariables false
set_option linter.unusedSimpArgs false
set_option maxRecDepth 100000
namespace Go.Proofs.YtkbpnmgkdodcmaaDoor.M
open Go Go.Hp
/- mullion/mullionlaw21.same -/
def law21_same_l0 (K0 : Heap → Prop) (Kr : Bool → Heap → Prop) : Nat → Option Addr → Nat → Nat → Option Addr → Nat → Nat → Int → Heap → Prop
  | 0, _, _, _, _, _, _, _, _ => False
  | k + 1, y4, y4n, y4c, y5, y5n, y5c, y6, h =>
  if y6 < (y4n : Int) then
   nz y4 fun p10 =>
   0 ≤ y6 ∧
   y6 < (y4n : Int) ∧
   ldI h .i64 (p10.add ((y6).toNat * 2)) fun x11 =>
   ldI h .i64 ((p10.add ((y6).toNat * 2)).add 1) fun x13 =>
   nz y5 fun p21 =>
   0 ≤ y6 ∧
   y6 < (y5n : Int) ∧
   ldI h .i64 (p21.add ((y6).toNat * 2)) fun x22 =>
   ldI h .i64 ((p21.add ((y6).toNat * 2)).add 1) fun x24 =>
   if (!((x11 == x22) && (x13 == x24))) = true then
    Kr false h
   else
   law21_same_l0 K0 Kr k (some p10) y4n y4c (some p21) y5n y5c (IntKind.wrap .i64 (y6 + 1)) h
  else
  K0  h
theorem law21_same_l0_ok {Q : Exit → Env → Heap → Prop} (K0 : Heap → Prop) (hK0 : ∀  (b : Env) (h : Heap), K0  h → Q (.exit 0) b h) (Kr : Bool → Heap → Prop) (hKr : ∀ (z33 : Bool) (b : Env) (h : Heap), Kr z33 h → Q .ret (upd b 4 (.bool z33)) h) : ∀ (k : Nat) (y4 : Option Addr) (y4n : Nat) (y4c : Nat) (y5 : Option Addr) (y5n : Nat) (y5c : Nat) (y6 : Int) (b : Env) (h : Heap) (hM : law21_same_l0 K0 Kr k y4 y4n y4c y5 y5n y5c y6 h), lwp Tryd.prog (partC Tryd.f14 [1, 1, 0, 1, 0, 0]) 26 Q k (upd (upd (upd b 0 (.slice y4 y4n y4c)) 1 (.slice y5 y5n y5c)) 5 (.int .i64 y6)) h := by
  intro k
  induction k with
  | zero => intro y4 y4n y4c y5 y5n y5c y6 b h hM; exact (show False from hM).elim
  | succ k ih =>
    intro y4 y4n y4c y5 y5n y5c y6 b h hM
    unfold law21_same_l0 at hM
    refine lwp_succ (cwp_part rfl ?_)
    refine cwp_seq (cR ?_)
    refine oS [(11, .int .i64 y6), (12, .slice y4 y4n y4c), (13, .int .i64 (y4n : Int)), (14, .bool (decide (y6 < (y4n : Int))))] rfl ?_
    refine oE ?_
    refine cwp_condD (y6 < (y4n : Int)) (by kernel_rfl) (fun hc7 => ?_) (fun hc7 => ?_)
    · replace hM := ifT hc7 hM
      refine cwp_skip (thenE_n (cwp_seq (cwp_block (cwp_seq ?_))))
      refine cwp_draw (by kernel_rfl) ?_
      refine k_pure (i := 0) [2, 3, 8] (.slice y4 y4n y4c) (by kernel_rfl) rfl rfl (by kernel_rfl) (fun h' => by kernel_rfl) (by kernel_rfl) ?_
      refine k_pure (i := 1) [2, 3, 8] (.int .i64 y6) (by kernel_rfl) rfl rfl (by kernel_rfl) (fun h' => by kernel_rfl) (by kernel_rfl) ?_
      obtain ⟨p10, rfl, hM⟩ := hM
      obtain ⟨hc8, hM⟩ := hM
      obtain ⟨hc9, hM⟩ := hM
      refine k_pure (i := 2) [3, 8] (.pointer (some (p10.add ((y6).toNat * 2)))) (by kernel_rfl) rfl rfl (by kernel_rfl) (fun h' => rd_ixS (P := Tryd.prog) (h := h') (t := 27) (el := 36) (sz := 2) (ad := p10) (len := y4n) (c := y4c) (k := .i64) (i := y6) (by kernel_rfl) (by kernel_rfl) hc8 hc9 (by kernel_rfl)) (by kernel_rfl) ?_
      obtain ⟨x11, hc12, hM⟩ := hM
      obtain ⟨x13, hc14, hM⟩ := hM
      refine k_load (i := 3) (.agg #[.int .i64 x11, .int .i64 x13]) (fun h' => cellH h' (p10.add ((y6).toNat * 2)) = some (.int .i64 x11) ∧ cellH h' ((p10.add ((y6).toNat * 2)).add 1) = some (.int .i64 x13) ∧ True) [8] [] (by kernel_rfl) (by kernel_rfl) rfl rfl (by kernel_rfl) (fun h' hS => Eq.trans (b := (cellH h' (p10.add ((y6).toNat * 2))).bind fun v17 => (cellH h' ((p10.add ((y6).toNat * 2)).add 1)).bind fun v18 => some (.value (.agg #[v17, v18]))) (by kernel_rfl) ((bindE hS.1 _).trans (bindE hS.2.1 _))) ⟨hc12, hc14, trivial⟩ (by kernel_rfl) ?_
      refine k_pure (i := 4) [6, 7, 8] (.slice y5 y5n y5c) (by kernel_rfl) rfl rfl (by kernel_rfl) (fun h' => by kernel_rfl) (by kernel_rfl) ?_
      refine k_pure (i := 5) [6, 7, 8] (.int .i64 y6) (by kernel_rfl) rfl rfl (by kernel_rfl) (fun h' => by kernel_rfl) (by kernel_rfl) ?_
      obtain ⟨p21, rfl, hM⟩ := hM
      obtain ⟨hc19, hM⟩ := hM
      obtain ⟨hc20, hM⟩ := hM
      refine k_pure (i := 6) [7, 8] (.pointer (some (p21.add ((y6).toNat * 2)))) (by kernel_rfl) rfl rfl (by kernel_rfl) (fun h' => rd_ixS (P := Tryd.prog) (h := h') (t := 27) (el := 36) (sz := 2) (ad := p21) (len := y5n) (c := y5c) (k := .i64) (i := y6) (by kernel_rfl) (by kernel_rfl) hc19 hc20 (by kernel_rfl)) (by kernel_rfl) ?_
      obtain ⟨x22, hc23, hM⟩ := hM
      obtain ⟨x24, hc25, hM⟩ := hM
      refine k_load (i := 7) (.agg #[.int .i64 x22, .int .i64 x24]) (fun h' => cellH h' (p21.add ((y6).toNat * 2)) = some (.int .i64 x22) ∧ cellH h' ((p21.add ((y6).toNat * 2)).add 1) = some (.int .i64 x24) ∧ True) [8] [] (by kernel_rfl) (by kernel_rfl) rfl rfl (by kernel_rfl) (fun h' hS => Eq.trans (b := (cellH h' (p21.add ((y6).toNat * 2))).bind fun v28 => (cellH h' ((p21.add ((y6).toNat * 2)).add 1)).bind fun v29 => some (.value (.agg #[v28, v29]))) (by kernel_rfl) ((bindE hS.1 _).trans (bindE hS.2.1 _))) ⟨hc23, hc25, trivial⟩ (by kernel_rfl) ?_
      refine k_pure (i := 8) [] (.bool (!((x11 == x22) && (x13 == x24)))) (by kernel_rfl) rfl rfl (by kernel_rfl) (fun h' => (by kernel_rfl : _ = rd Tryd.prog (toVal ((Op.equal 36 (.agg #[.int .i64 x11, .int .i64 x13]) (.agg #[.int .i64 x22, .int .i64 x24])).bind fun v_ => Sem.pure (.bool (!v_)))) h').trans (rd_neB (eq_T36 9998))) (by kernel_rfl) ?_
      refine k_done (by kernel_rfl) ?_
      refine thenE_n ?_
      refine cwp_condB (!((x11 == x22) && (x13 == x24))) (by kernel_rfl) (fun hc30 => ?_) (fun hc30 => ?_)
      · replace hM := ifT hc30 hM
        refine cR ?_
        refine oS [(4, .bool false)] rfl ?_
        refine oE (cwp_ret (blockE_r (thenE_r ?_)))
        exact q_at (Q := Q .ret) 4 (.bool false) (by kernel_rfl) (hKr false _ _ hM)
      replace hM := ifF hc30 hM
      refine cwp_skip (blockE_n (thenE_n (cwp_region ?_)))
      refine oS [(15, .int .i64 y6), (16, .int .i64 (IntKind.wrap .i64 (y6 + 1))), (5, .int .i64 (IntKind.wrap .i64 (y6 + 1)))] rfl ?_
      refine owp_nil ?_
      exact lwp_at 0 (.slice (some p10) y4n y4c) (by kernel_rfl) (lwp_at 1 (.slice (some p21) y5n y5c) (by kernel_rfl) (lwp_at 5 (.int .i64 (IntKind.wrap .i64 (y6 + 1))) (by kernel_rfl) (ih (some p10) y4n y4c (some p21) y5n y5c (IntKind.wrap .i64 (y6 + 1)) _ _ hM)))
    replace hM := ifF hc7 hM
    refine cwp_exit (thenE_x ?_)
    exact hK0  _ _ hM
def law21_same (a1 : Option Addr) (a1n : Nat) (a1c : Nat) (a2 : Option Addr) (a2n : Nat) (a2c : Nat) (K : Bool → Heap → Prop) (h : Heap) : Prop :=
 if (a1n : Int) = (a2n : Int) then
  ∃ k39, law21_same_l0
   (fun  h34 =>
       K true h34)
   (fun z36 h37 =>
       K z36 h37) k39 a1 a1n a1c a2 a2n a2c 0 h
 else
 K false h
theorem law21_same_ok (a1 : Option Addr) (a1n : Nat) (a1c : Nat) (a2 : Option Addr) (a2n : Nat) (a2c : Nat) (K : Bool → Heap → Prop) (h : Heap) (hM : law21_same a1 a1n a1c a2 a2n a2c K h) : CallsH Tryd.prog 14 #[.slice a1 a1n a1c, .slice a2 a2n a2c] (fun v h' => ∃ (r40 : Bool), v = .bool r40 ∧ K r40 h') h := by
 unfold law21_same at hM
 refine callsH_intro (n := 26) Tryd.func14 rfl rfl (by kernel_rfl) ?_
 refine cR ?_
 refine oS [(4, .bool false)] rfl ?_
 refine oE (cwp_seq (cR ?_))
 refine oS [(6, .slice a1 a1n a1c), (7, .int .i64 (a1n : Int)), (8, .slice a2 a2n a2c), (9, .int .i64 (a2n : Int)), (10, .bool (!decide ((a1n : Int) = (a2n : Int))))] rfl ?_
 refine oE ?_
 refine cwp_condN ((a1n : Int) = (a2n : Int)) (by kernel_rfl) (fun hc3 => ?_) (fun hc3 => ?_)
 · replace hM := ifT hc3 hM
   refine cwp_skip (thenE_n (cwp_seq (cR ?_)))
   refine oS [(5, .int .i64 0)] rfl ?_
   refine oE (cwp_block ?_)
   obtain ⟨k_, hM⟩ := hM
   refine cwp_loop k_ (lwp_of_part (fn := Tryd.f14) (p := [1, 1, 0, 1, 0, 0]) (by kernel_rfl) (lwp_at 0 (.slice a1 a1n a1c) (by kernel_rfl) (lwp_at 1 (.slice a2 a2n a2c) (by kernel_rfl) (lwp_at 5 (.int .i64 0) (by kernel_rfl) (law21_same_l0_ok _ ?_ _ ?_ k_ a1 a1n a1c a2 a2n a2c 0 _ _ hM)))))
   · intro  b35 h34 hM
     refine blockE_h (thenE_n (cR ?_))
     refine oS [(4, .bool true)] rfl ?_
     refine oE (cwp_ret ?_)
     exact ret_ (.bool true) (by kernel_rfl) ⟨_, rfl, hM⟩
   · intro z36 b38 h37 hM
     refine blockE_r (thenE_r ?_)
     exact ret_ (.bool z36) (by kernel_rfl) ⟨_, rfl, hM⟩
 replace hM := ifF hc3 hM
 refine cR ?_
 refine oS [(4, .bool false)] rfl ?_
 refine oE (cwp_ret (thenE_r ?_))
 exact ret_ (.bool false) (by kernel_rfl) ⟨_, rfl, hM⟩
/- (*mullion/keys.Decoder).Held -/
def keys_Decoder_Held (a1 : Option Addr) (K : ByteArray → Heap → Prop) (h : Heap) : Prop :=
 nz a1 fun p2 =>
 ldS h p2 fun x3 =>
 K x3 h
theorem keys_Decoder_Held_ok (a1 : Option Addr) (K : ByteArray → Heap → Prop) (h : Heap) (hM : keys_Decoder_Held a1 K h) : CallsH Tryd.prog 15 #[.pointer a1] (fun v h' => ∃ (r6 : ByteArray), v = .string r6 ∧ K r6 h') h := by
 unfold keys_Decoder_Held at hM
 refine callsH_intro (n := 7) Tryd.func15 rfl rfl (by kernel_rfl) ?_
 refine cR ?_
 refine oS [(2, .string (⟨#[]⟩ : ByteArray))] rfl ?_
 refine oE (cR ?_)
 refine oS [(3, .pointer a1)] rfl ?_
 obtain ⟨p2, rfl, hM⟩ := hM
 refine owp_rdG (.pointer (some p2)) rfl (by kernel_rfl) (by kernel_rfl) ?_
 refine oS [(5, .pointer (some p2))] rfl ?_
 obtain ⟨x3, hc4, hM⟩ := hM
 refine owp_rdG (.string x3) rfl (by kernel_rfl) (Eq.trans (b := (cellH h p2).bind fun v5 => some (.value v5)) (by kernel_rfl) (bindE hc4 _)) ?_
 refine oS [(2, .string x3)] rfl ?_
 refine oE (cwp_ret ?_)
 exact ret_ (.string x3) (by kernel_rfl) ⟨_, rfl, hM⟩
/- mullion/keys.special -/
def keys_special (a1 : Int) : Bool :=
 ((decide (16777217 ≤ a1)) && (decide (a1 ≤ 16777238)))
theorem keys_special_ok (a1 : Int) (r : Bool) (h : Heap) (hM : keys_special a1 = r) : CallsH Tryd.prog 30 #[.int .i64 a1] (fun v h' => v = .bool r ∧ Ext h h') h := by
 unfold keys_special at hM
 refine callsH_intro (n := 9) Tryd.func30 rfl rfl (by kernel_rfl) ?_
 refine cR ?_
 refine oS [(2, .bool false)] rfl ?_
 refine oE (cR ?_)
 refine oS [(3, .int .i64 a1), (4, .bool (decide (16777217 ≤ a1))), (5, .bool (decide (16777217 ≤ a1)))] rfl ?_
 refine oB (decide (16777217 ≤ a1)) 3 [4, 5] (fun b_ => [(6, iteV b_ (.int .i64 a1 : Value) undef), (7, iteV b_ (.bool (decide (a1 ≤ 16777238)) : Value) undef), (8, .bool (b_ && (decide (a1 ≤ 16777238))))]) rfl (fun hb2 hq3 => oS [(6, .int .i64 a1), (7, .bool (decide (a1 ≤ 16777238))), (8, .bool (decide (a1 ≤ 16777238)))] rfl (hq3)) (fun hb4 hq5 => oS [(6, undef), (7, undef), (8, .bool false)] rfl (hq5)) ?_
 refine oS [(2, .bool ((decide (16777217 ≤ a1)) && (decide (a1 ≤ 16777238))))] rfl ?_
 refine oE (cwp_ret ?_)
 subst hM
 exact ret_ (.bool ((decide (16777217 ≤ a1)) && (decide (a1 ≤ 16777238)))) (by kernel_rfl) ⟨rfl, Ext.refl _⟩
/- mullion/keys.character -/
def keys_character (a1 : Int) : Bool :=
 (((decide (33 ≤ a1)) && (decide (a1 ≤ 126))) || (((decide (160 ≤ a1)) && (decide (a1 ≤ 1114111))) && ((decide (a1 < 55296)) || (decide (57343 < a1)))))
theorem keys_character_ok (a1 : Int) (r : Bool) (h : Heap) (hM : keys_character a1 = r) : CallsH Tryd.prog 31 #[.int .i64 a1] (fun v h' => v = .bool r ∧ Ext h h') h := by
 unfold keys_character at hM
 refine callsH_intro (n := 25) Tryd.func31 rfl rfl (by kernel_rfl) ?_
 refine cR ?_
 refine oS [(2, .bool false)] rfl ?_
 refine oE (cR ?_)
 refine oS [(3, .int .i64 a1), (4, .bool (decide (33 ≤ a1))), (5, .bool (decide (33 ≤ a1)))] rfl ?_
 refine oB (decide (33 ≤ a1)) 3 [4, 5] (fun b_ => [(6, iteV b_ (.int .i64 a1 : Value) undef), (7, iteV b_ (.bool (decide (a1 ≤ 126)) : Value) undef), (8, .bool (b_ && (decide (a1 ≤ 126))))]) rfl (fun hb2 hq3 => oS [(6, .int .i64 a1), (7, .bool (decide (a1 ≤ 126))), (8, .bool (decide (a1 ≤ 126)))] rfl (hq3)) (fun hb4 hq5 => oS [(6, undef), (7, undef), (8, .bool false)] rfl (hq5)) ?_
 refine oS [(9, .bool ((decide (33 ≤ a1)) && (decide (a1 ≤ 126))))] rfl ?_
 refine oB ((decide (33 ≤ a1)) && (decide (a1 ≤ 126))) 15 [8, 9] (fun b_ => [(10, iteV b_ undef (.int .i64 a1 : Value)), (11, iteV b_ undef (.bool (decide (160 ≤ a1)) : Value)), (12, iteV b_ undef (.bool (decide (160 ≤ a1)) : Value)), (13, iteV b_ undef (iteV (decide (160 ≤ a1)) (.int .i64 a1 : Value) undef)), (14, iteV b_ undef (iteV (decide (160 ≤ a1)) (.bool (decide (a1 ≤ 1114111)) : Value) undef)), (15, iteV b_ undef (.bool ((decide (160 ≤ a1)) && (decide (a1 ≤ 1114111))) : Value)), (16, iteV b_ undef (.bool ((decide (160 ≤ a1)) && (decide (a1 ≤ 1114111))) : Value)), (17, iteV b_ undef (iteV ((decide (160 ≤ a1)) && (decide (a1 ≤ 1114111))) (.int .i64 a1 : Value) undef)), (18, iteV b_ undef (iteV ((decide (160 ≤ a1)) && (decide (a1 ≤ 1114111))) (.bool (decide (a1 < 55296)) : Value) undef)), (19, iteV b_ undef (iteV ((decide (160 ≤ a1)) && (decide (a1 ≤ 1114111))) (.bool (decide (a1 < 55296)) : Value) undef)), (20, iteV b_ undef (iteV ((decide (160 ≤ a1)) && (decide (a1 ≤ 1114111))) (iteV (decide (a1 < 55296)) undef (.int .i64 a1 : Value)) undef)), (21, iteV b_ undef (iteV ((decide (160 ≤ a1)) && (decide (a1 ≤ 1114111))) (iteV (decide (a1 < 55296)) undef (.bool (decide (57343 < a1)) : Value)) undef)), (22, iteV b_ undef (iteV ((decide (160 ≤ a1)) && (decide (a1 ≤ 1114111))) (.bool ((decide (a1 < 55296)) || (decide (57343 < a1))) : Value) undef)), (23, iteV b_ undef (.bool (((decide (160 ≤ a1)) && (decide (a1 ≤ 1114111))) && ((decide (a1 < 55296)) || (decide (57343 < a1)))) : Value)), (24, .bool (b_ || (((decide (160 ≤ a1)) && (decide (a1 ≤ 1114111))) && ((decide (a1 < 55296)) || (decide (57343 < a1))))))]) rfl (fun hb18 hq19 => oS [(10, undef), (11, undef), (12, undef), (13, undef), (14, undef), (15, undef), (16, undef), (17, undef), (18, undef), (19, undef), (20, undef), (21, undef), (22, undef), (23, undef), (24, .bool true)] rfl (hq19)) (fun hb20 hq21 => oS [(10, .int .i64 a1), (11, .bool (decide (160 ≤ a1))), (12, .bool (decide (160 ≤ a1)))] rfl (oB (decide (160 ≤ a1)) 3 [11, 12] (fun b_ => [(13, iteV b_ (.int .i64 a1 : Value) undef), (14, iteV b_ (.bool (decide (a1 ≤ 1114111)) : Value) undef), (15, .bool (b_ && (decide (a1 ≤ 1114111))))]) rfl (fun hb6 hq7 => oS [(13, .int .i64 a1), (14, .bool (decide (a1 ≤ 1114111))), (15, .bool (decide (a1 ≤ 1114111)))] rfl (hq7)) (fun hb8 hq9 => oS [(13, undef), (14, undef), (15, .bool false)] rfl (hq9)) (oS [(16, .bool ((decide (160 ≤ a1)) && (decide (a1 ≤ 1114111))))] rfl (oB ((decide (160 ≤ a1)) && (decide (a1 ≤ 1114111))) 7 [15, 16] (fun b_ => [(17, iteV b_ (.int .i64 a1 : Value) undef), (18, iteV b_ (.bool (decide (a1 < 55296)) : Value) undef), (19, iteV b_ (.bool (decide (a1 < 55296)) : Value) undef), (20, iteV b_ (iteV (decide (a1 < 55296)) undef (.int .i64 a1 : Value)) undef), (21, iteV b_ (iteV (decide (a1 < 55296)) undef (.bool (decide (57343 < a1)) : Value)) undef), (22, iteV b_ (.bool ((decide (a1 < 55296)) || (decide (57343 < a1))) : Value) undef), (23, .bool (b_ && ((decide (a1 < 55296)) || (decide (57343 < a1)))))]) rfl (fun hb14 hq15 => oS [(17, .int .i64 a1), (18, .bool (decide (a1 < 55296))), (19, .bool (decide (a1 < 55296)))] rfl (oB (decide (a1 < 55296)) 3 [18, 19] (fun b_ => [(20, iteV b_ undef (.int .i64 a1 : Value)), (21, iteV b_ undef (.bool (decide (57343 < a1)) : Value)), (22, .bool (b_ || (decide (57343 < a1))))]) rfl (fun hb10 hq11 => oS [(20, undef), (21, undef), (22, .bool true)] rfl (hq11)) (fun hb12 hq13 => oS [(20, .int .i64 a1), (21, .bool (decide (57343 < a1))), (22, .bool (decide (57343 < a1)))] rfl (hq13)) (oS [(23, .bool ((decide (a1 < 55296)) || (decide (57343 < a1))))] rfl (hq15)))) (fun hb16 hq17 => oS [(17, undef), (18, undef), (19, undef), (20, undef), (21, undef), (22, undef), (23, .bool false)] rfl (hq17)) (oS [(24, .bool (((decide (160 ≤ a1)) && (decide (a1 ≤ 1114111))) && ((decide (a1 < 55296)) || (decide (57343 < a1)))))] rfl (hq21)))))) ?_
 refine oS [(2, .bool (((decide (33 ≤ a1)) && (decide (a1 ≤ 126))) || (((decide (160 ≤ a1)) && (decide (a1 ≤ 1114111))) && ((decide (a1 < 55296)) || (decide (57343 < a1))))))] rfl ?_
 refine oE (cwp_ret ?_)
 subst hM
 exact ret_ (.bool (((decide (33 ≤ a1)) && (decide (a1 ≤ 126))) || (((decide (160 ≤ a1)) && (decide (a1 ≤ 1114111))) && ((decide (a1 < 55296)) || (decide (57343 < a1)))))) (by kernel_rfl) ⟨rfl, Ext.refl _⟩
/- mullion/keys.control -/
def keys_control (a1 : Int) : Bool :=
 (((((decide (97 ≤ a1)) && (decide (a1 ≤ 122))) && (!decide (a1 = 105))) && (!decide (a1 = 109))) || ((decide (92 ≤ a1)) && (decide (a1 ≤ 95))))
theorem keys_control_ok (a1 : Int) (r : Bool) (h : Heap) (hM : keys_control a1 = r) : CallsH Tryd.prog 32 #[.int .i64 a1] (fun v h' => v = .bool r ∧ Ext h h') h := by
 unfold keys_control at hM
 refine callsH_intro (n := 25) Tryd.func32 rfl rfl (by kernel_rfl) ?_
 refine cR ?_
 refine oS [(2, .bool false)] rfl ?_
 refine oE (cR ?_)
 refine oS [(3, .int .i64 a1), (4, .bool (decide (97 ≤ a1))), (5, .bool (decide (97 ≤ a1)))] rfl ?_
 refine oB (decide (97 ≤ a1)) 3 [4, 5] (fun b_ => [(6, iteV b_ (.int .i64 a1 : Value) undef), (7, iteV b_ (.bool (decide (a1 ≤ 122)) : Value) undef), (8, .bool (b_ && (decide (a1 ≤ 122))))]) rfl (fun hb2 hq3 => oS [(6, .int .i64 a1), (7, .bool (decide (a1 ≤ 122))), (8, .bool (decide (a1 ≤ 122)))] rfl (hq3)) (fun hb4 hq5 => oS [(6, undef), (7, undef), (8, .bool false)] rfl (hq5)) ?_
 refine oS [(9, .bool ((decide (97 ≤ a1)) && (decide (a1 ≤ 122))))] rfl ?_
 refine oB ((decide (97 ≤ a1)) && (decide (a1 ≤ 122))) 3 [8, 9] (fun b_ => [(10, iteV b_ (.int .i64 a1 : Value) undef), (11, iteV b_ (.bool (!decide (a1 = 105)) : Value) undef), (12, .bool (b_ && (!decide (a1 = 105))))]) rfl (fun hb6 hq7 => oS [(10, .int .i64 a1), (11, .bool (!decide (a1 = 105))), (12, .bool (!decide (a1 = 105)))] rfl (hq7)) (fun hb8 hq9 => oS [(10, undef), (11, undef), (12, .bool false)] rfl (hq9)) ?_
 refine oS [(13, .bool (((decide (97 ≤ a1)) && (decide (a1 ≤ 122))) && (!decide (a1 = 105))))] rfl ?_
 refine oB (((decide (97 ≤ a1)) && (decide (a1 ≤ 122))) && (!decide (a1 = 105))) 3 [12, 13] (fun b_ => [(14, iteV b_ (.int .i64 a1 : Value) undef), (15, iteV b_ (.bool (!decide (a1 = 109)) : Value) undef), (16, .bool (b_ && (!decide (a1 = 109))))]) rfl (fun hb10 hq11 => oS [(14, .int .i64 a1), (15, .bool (!decide (a1 = 109))), (16, .bool (!decide (a1 = 109)))] rfl (hq11)) (fun hb12 hq13 => oS [(14, undef), (15, undef), (16, .bool false)] rfl (hq13)) ?_
 refine oS [(17, .bool ((((decide (97 ≤ a1)) && (decide (a1 ≤ 122))) && (!decide (a1 = 105))) && (!decide (a1 = 109))))] rfl ?_
 refine oB ((((decide (97 ≤ a1)) && (decide (a1 ≤ 122))) && (!decide (a1 = 105))) && (!decide (a1 = 109))) 7 [16, 17] (fun b_ => [(18, iteV b_ undef (.int .i64 a1 : Value)), (19, iteV b_ undef (.bool (decide (92 ≤ a1)) : Value)), (20, iteV b_ undef (.bool (decide (92 ≤ a1)) : Value)), (21, iteV b_ undef (iteV (decide (92 ≤ a1)) (.int .i64 a1 : Value) undef)), (22, iteV b_ undef (iteV (decide (92 ≤ a1)) (.bool (decide (a1 ≤ 95)) : Value) undef)), (23, iteV b_ undef (.bool ((decide (92 ≤ a1)) && (decide (a1 ≤ 95))) : Value)), (24, .bool (b_ || ((decide (92 ≤ a1)) && (decide (a1 ≤ 95)))))]) rfl (fun hb18 hq19 => oS [(18, undef), (19, undef), (20, undef), (21, undef), (22, undef), (23, undef), (24, .bool true)] rfl (hq19)) (fun hb20 hq21 => oS [(18, .int .i64 a1), (19, .bool (decide (92 ≤ a1))), (20, .bool (decide (92 ≤ a1)))] rfl (oB (decide (92 ≤ a1)) 3 [19, 20] (fun b_ => [(21, iteV b_ (.int .i64 a1 : Value) undef), (22, iteV b_ (.bool (decide (a1 ≤ 95)) : Value) undef), (23, .bool (b_ && (decide (a1 ≤ 95))))]) rfl (fun hb14 hq15 => oS [(21, .int .i64 a1), (22, .bool (decide (a1 ≤ 95))), (23, .bool (decide (a1 ≤ 95)))] rfl (hq15)) (fun hb16 hq17 => oS [(21, undef), (22, undef), (23, .bool false)] rfl (hq17)) (oS [(24, .bool ((decide (92 ≤ a1)) && (decide (a1 ≤ 95))))] rfl (hq21)))) ?_
 refine oS [(2, .bool (((((decide (97 ≤ a1)) && (decide (a1 ≤ 122))) && (!decide (a1 = 105))) && (!decide (a1 = 109))) || ((decide (92 ≤ a1)) && (decide (a1 ≤ 95)))))] rfl ?_
 refine oE (cwp_ret ?_)
 subst hM
 exact ret_ (.bool (((((decide (97 ≤ a1)) && (decide (a1 ≤ 122))) && (!decide (a1 = 105))) && (!decide (a1 = 109))) || ((decide (92 ≤ a1)) && (decide (a1 ≤ 95))))) (by kernel_rfl) ⟨rfl, Ext.refl _⟩
/- mullion/keys.Valid -/
def keys_Valid (a1 : Int) (a2 : Int) : Bool :=
 if ((decide (a2 < 0)) || (decide (7 < a2))) = true then
  (false)
 else
 if (keys_special a1) = true then
  (true)
 else
 if a1 = 16777239 then
  (decide (a2 = 0))
 else
 if a1 = 32 then
  (decide ((iAnd .i64 a2 1) = 0))
 else
 if ((((decide (a1 = 13)) || (decide (a1 = 9))) || (decide (a1 = 27))) || (decide (a1 = 127))) = true then
  (decide ((iAndNot .i64 a2 2) = 0))
 else
 if (iAndNot .i64 a2 2) = 0 then
  ((keys_character a1))
 else
 if (iAnd .i64 a2 1) = 0 then
  ((keys_control a1))
 else
 (false)
theorem keys_Valid_ok (a1 : Int) (a2 : Int) (r : Bool) (h : Heap) (hM : keys_Valid a1 a2 = r) : CallsH Tryd.prog 17 #[.agg #[.int .i64 a1, .int .i64 a2]] (fun v h' => v = .bool r ∧ Ext h h') h := by
 unfold keys_Valid at hM
 refine callsH_intro (n := 70) Tryd.func17 rfl rfl (by kernel_rfl) ?_
 refine cR ?_
 refine owp_hpG rfl (by kernel_rfl) (hpNew #[.int .i64 a1, .int .i64 a2] 36 (fun _ => by kernel_rfl) ?_)
 intro b3 h4 hN5
 refine oS [(2, .bool false)] rfl ?_
 refine oE (cR ?_)
 refine oS [(4, .pointer (some ⟨b3, 1, none⟩))] rfl ?_
 refine owp_rdG (.int .i64 a2) rfl (by kernel_rfl) (Eq.trans (b := (cellH h4 ⟨b3, 1, none⟩).bind fun v6 => some (.value v6)) (by kernel_rfl) (bindE (Blk.cell (New.blk hN5) 1 (by kernel_rfl)) _)) ?_
 refine oS [(6, .int .i64 (iAndNot .i64 a2 2)), (7, .bool (decide ((iAndNot .i64 a2 2) = 0))), (3, .bool (decide ((iAndNot .i64 a2 2) = 0)))] rfl ?_
 refine oE (cwp_seq (cwp_block (cR ?_)))
 refine oS [(9, .pointer (some ⟨b3, 1, none⟩))] rfl ?_
 refine owp_rdG (.int .i64 a2) rfl (by kernel_rfl) (Eq.trans (b := (cellH h4 ⟨b3, 1, none⟩).bind fun v7 => some (.value v7)) (by kernel_rfl) (bindE (Blk.cell (New.blk hN5) 1 (by kernel_rfl)) _)) ?_
 refine oS [(11, .bool (decide (a2 < 0))), (12, .bool (decide (a2 < 0)))] rfl ?_
 refine oB (decide (a2 < 0)) 4 [11, 12] (fun b_ => [(13, iteV b_ undef (.pointer (some ⟨b3, 1, none⟩) : Value)), (14, iteV b_ undef (.int .i64 a2 : Value)), (15, iteV b_ undef (.bool (decide (7 < a2)) : Value)), (16, .bool (b_ || (decide (7 < a2))))]) rfl (fun hb9 hq10 => oS [(13, undef), (14, undef), (15, undef), (16, .bool true)] rfl (hq10)) (fun hb11 hq12 => oS [(13, .pointer (some ⟨b3, 1, none⟩))] rfl (owp_rdG (.int .i64 a2) rfl (by kernel_rfl) (Eq.trans (b := (cellH h4 ⟨b3, 1, none⟩).bind fun v8 => some (.value v8)) (by kernel_rfl) (bindE (Blk.cell (New.blk hN5) 1 (by kernel_rfl)) _)) (oS [(15, .bool (decide (7 < a2))), (16, .bool (decide (7 < a2)))] rfl (hq12)))) ?_
 refine oS [(8, .bool ((decide (a2 < 0)) || (decide (7 < a2))))] rfl ?_
 refine oE ?_
 refine cwp_condB ((decide (a2 < 0)) || (decide (7 < a2))) (by kernel_rfl) (fun hc13 => ?_) (fun hc13 => ?_)
 · replace hM := ifTo hc13 hM
   refine cR ?_
   refine oS [(2, .bool false)] rfl ?_
   refine oE (cwp_ret (blockE_r (thenE_r ?_)))
   subst hM
   exact ret_ (.bool false) (by kernel_rfl) ⟨rfl, (New.ext hN5)⟩
 replace hM := ifFo hc13 hM
 refine cR ?_
 refine oS [(18, .pointer (some ⟨b3, 0, none⟩))] rfl ?_
 refine owp_rdG (.int .i64 a1) rfl (by kernel_rfl) (Eq.trans (b := (cellH h4 ⟨b3, 0, none⟩).bind fun v14 => some (.value v14)) (by kernel_rfl) (bindE (Blk.cell (New.blk hN5) 0 (by kernel_rfl)) _)) ?_
 refine owp_hpG rfl (by kernel_rfl) (hpCallP 30 #[.int .i64 a1] (.bool (keys_special a1)) (by kernel_rfl) (keys_special_ok a1 _ h4 rfl) ?_)
 intro h15 hx16
 have f17 := Blk.ext (New.blk hN5) hx16
 refine oS [(17, .bool (keys_special a1))] rfl ?_
 refine oE ?_
 refine cwp_condB (keys_special a1) (by kernel_rfl) (fun hc18 => ?_) (fun hc18 => ?_)
 · replace hM := ifTo hc18 hM
   refine cR ?_
   refine oS [(2, .bool true)] rfl ?_
   refine oE (cwp_ret (blockE_r (thenE_r ?_)))
   subst hM
   exact ret_ (.bool true) (by kernel_rfl) ⟨rfl, (Ext.trans (New.ext hN5) hx16)⟩
 replace hM := ifFo hc18 hM
 refine cR ?_
 refine oS [(22, .pointer (some ⟨b3, 0, none⟩))] rfl ?_
 refine owp_rdG (.int .i64 a1) rfl (by kernel_rfl) (Eq.trans (b := (cellH h15 ⟨b3, 0, none⟩).bind fun v19 => some (.value v19)) (by kernel_rfl) (bindE (Blk.cell f17 0 (by kernel_rfl)) _)) ?_
 refine oS [(24, .bool (decide (a1 = 16777239))), (21, .bool (decide (a1 = 16777239)))] rfl ?_
 refine oE ?_
 refine cwp_condD (a1 = 16777239) (by kernel_rfl) (fun hc20 => ?_) (fun hc20 => ?_)
 · replace hM := ifTo hc20 hM
   refine cR ?_
   refine oS [(25, .pointer (some ⟨b3, 1, none⟩))] rfl ?_
   refine owp_rdG (.int .i64 a2) rfl (by kernel_rfl) (Eq.trans (b := (cellH h15 ⟨b3, 1, none⟩).bind fun v21 => some (.value v21)) (by kernel_rfl) (bindE (Blk.cell f17 1 (by kernel_rfl)) _)) ?_
   refine oS [(27, .bool (decide (a2 = 0))), (2, .bool (decide (a2 = 0)))] rfl ?_
   refine oE (cwp_ret (blockE_r (thenE_r ?_)))
   subst hM
   exact ret_ (.bool (decide (a2 = 0))) (by kernel_rfl) ⟨rfl, (Ext.trans (New.ext hN5) hx16)⟩
 replace hM := ifFo hc20 hM
 refine cR ?_
 refine oS [(29, .pointer (some ⟨b3, 0, none⟩))] rfl ?_
 refine owp_rdG (.int .i64 a1) rfl (by kernel_rfl) (Eq.trans (b := (cellH h15 ⟨b3, 0, none⟩).bind fun v22 => some (.value v22)) (by kernel_rfl) (bindE (Blk.cell f17 0 (by kernel_rfl)) _)) ?_
 refine oS [(31, .bool (decide (a1 = 32))), (28, .bool (decide (a1 = 32)))] rfl ?_
 refine oE ?_
 refine cwp_condD (a1 = 32) (by kernel_rfl) (fun hc23 => ?_) (fun hc23 => ?_)
 · replace hM := ifTo hc23 hM
   refine cR ?_
   refine oS [(32, .pointer (some ⟨b3, 1, none⟩))] rfl ?_
   refine owp_rdG (.int .i64 a2) rfl (by kernel_rfl) (Eq.trans (b := (cellH h15 ⟨b3, 1, none⟩).bind fun v24 => some (.value v24)) (by kernel_rfl) (bindE (Blk.cell f17 1 (by kernel_rfl)) _)) ?_
   refine oS [(34, .int .i64 (iAnd .i64 a2 1)), (35, .bool (decide ((iAnd .i64 a2 1) = 0))), (2, .bool (decide ((iAnd .i64 a2 1) = 0)))] rfl ?_
   refine oE (cwp_ret (blockE_r (thenE_r ?_)))
   subst hM
   exact ret_ (.bool (decide ((iAnd .i64 a2 1) = 0))) (by kernel_rfl) ⟨rfl, (Ext.trans (New.ext hN5) hx16)⟩
 replace hM := ifFo hc23 hM
 refine cR ?_
 refine oS [(37, .pointer (some ⟨b3, 0, none⟩))] rfl ?_
 refine owp_rdG (.int .i64 a1) rfl (by kernel_rfl) (Eq.trans (b := (cellH h15 ⟨b3, 0, none⟩).bind fun v25 => some (.value v25)) (by kernel_rfl) (bindE (Blk.cell f17 0 (by kernel_rfl)) _)) ?_
 refine oS [(39, .bool (decide (a1 = 13))), (40, .bool (decide (a1 = 13)))] rfl ?_
 refine oB (decide (a1 = 13)) 4 [39, 40] (fun b_ => [(41, iteV b_ undef (.pointer (some ⟨b3, 0, none⟩) : Value)), (42, iteV b_ undef (.int .i64 a1 : Value)), (43, iteV b_ undef (.bool (decide (a1 = 9)) : Value)), (44, .bool (b_ || (decide (a1 = 9))))]) rfl (fun hb27 hq28 => oS [(41, undef), (42, undef), (43, undef), (44, .bool true)] rfl (hq28)) (fun hb29 hq30 => oS [(41, .pointer (some ⟨b3, 0, none⟩))] rfl (owp_rdG (.int .i64 a1) rfl (by kernel_rfl) (Eq.trans (b := (cellH h15 ⟨b3, 0, none⟩).bind fun v26 => some (.value v26)) (by kernel_rfl) (bindE (Blk.cell f17 0 (by kernel_rfl)) _)) (oS [(43, .bool (decide (a1 = 9))), (44, .bool (decide (a1 = 9)))] rfl (hq30)))) ?_
 refine oS [(45, .bool ((decide (a1 = 13)) || (decide (a1 = 9))))] rfl ?_
 refine oB ((decide (a1 = 13)) || (decide (a1 = 9))) 4 [44, 45] (fun b_ => [(46, iteV b_ undef (.pointer (some ⟨b3, 0, none⟩) : Value)), (47, iteV b_ undef (.int .i64 a1 : Value)), (48, iteV b_ undef (.bool (decide (a1 = 27)) : Value)), (49, .bool (b_ || (decide (a1 = 27))))]) rfl (fun hb32 hq33 => oS [(46, undef), (47, undef), (48, undef), (49, .bool true)] rfl (hq33)) (fun hb34 hq35 => oS [(46, .pointer (some ⟨b3, 0, none⟩))] rfl (owp_rdG (.int .i64 a1) rfl (by kernel_rfl) (Eq.trans (b := (cellH h15 ⟨b3, 0, none⟩).bind fun v31 => some (.value v31)) (by kernel_rfl) (bindE (Blk.cell f17 0 (by kernel_rfl)) _)) (oS [(48, .bool (decide (a1 = 27))), (49, .bool (decide (a1 = 27)))] rfl (hq35)))) ?_
 refine oS [(50, .bool (((decide (a1 = 13)) || (decide (a1 = 9))) || (decide (a1 = 27))))] rfl ?_
 refine oB (((decide (a1 = 13)) || (decide (a1 = 9))) || (decide (a1 = 27))) 4 [49, 50] (fun b_ => [(51, iteV b_ undef (.pointer (some ⟨b3, 0, none⟩) : Value)), (52, iteV b_ undef (.int .i64 a1 : Value)), (53, iteV b_ undef (.bool (decide (a1 = 127)) : Value)), (54, .bool (b_ || (decide (a1 = 127))))]) rfl (fun hb37 hq38 => oS [(51, undef), (52, undef), (53, undef), (54, .bool true)] rfl (hq38)) (fun hb39 hq40 => oS [(51, .pointer (some ⟨b3, 0, none⟩))] rfl (owp_rdG (.int .i64 a1) rfl (by kernel_rfl) (Eq.trans (b := (cellH h15 ⟨b3, 0, none⟩).bind fun v36 => some (.value v36)) (by kernel_rfl) (bindE (Blk.cell f17 0 (by kernel_rfl)) _)) (oS [(53, .bool (decide (a1 = 127))), (54, .bool (decide (a1 = 127)))] rfl (hq40)))) ?_
 refine oS [(36, .bool ((((decide (a1 = 13)) || (decide (a1 = 9))) || (decide (a1 = 27))) || (decide (a1 = 127))))] rfl ?_
 refine oE ?_
 refine cwp_condB ((((decide (a1 = 13)) || (decide (a1 = 9))) || (decide (a1 = 27))) || (decide (a1 = 127))) (by kernel_rfl) (fun hc41 => ?_) (fun hc41 => ?_)
 · replace hM := ifTo hc41 hM
   refine cR ?_
   refine oS [(55, .bool (decide ((iAndNot .i64 a2 2) = 0))), (2, .bool (decide ((iAndNot .i64 a2 2) = 0)))] rfl ?_
   refine oE (cwp_ret (blockE_r (thenE_r ?_)))
   subst hM
   exact ret_ (.bool (decide ((iAndNot .i64 a2 2) = 0))) (by kernel_rfl) ⟨rfl, (Ext.trans (New.ext hN5) hx16)⟩
 replace hM := ifFo hc41 hM
 refine cR ?_
 refine oS [(57, .bool (decide ((iAndNot .i64 a2 2) = 0))), (56, .bool (decide ((iAndNot .i64 a2 2) = 0)))] rfl ?_
 refine oE ?_
 refine cwp_condD ((iAndNot .i64 a2 2) = 0) (by kernel_rfl) (fun hc42 => ?_) (fun hc42 => ?_)
 · replace hM := ifTo hc42 hM
   refine cR ?_
   refine oS [(58, .pointer (some ⟨b3, 0, none⟩))] rfl ?_
   refine owp_rdG (.int .i64 a1) rfl (by kernel_rfl) (Eq.trans (b := (cellH h15 ⟨b3, 0, none⟩).bind fun v43 => some (.value v43)) (by kernel_rfl) (bindE (Blk.cell f17 0 (by kernel_rfl)) _)) ?_
   refine owp_hpG rfl (by kernel_rfl) (hpCallP 31 #[.int .i64 a1] (.bool (keys_character a1)) (by kernel_rfl) (keys_character_ok a1 _ h15 rfl) ?_)
   intro h44 hx45
   have f46 := Blk.ext f17 hx45
   refine oS [(2, .bool (keys_character a1))] rfl ?_
   refine oE (cwp_ret (blockE_r (thenE_r ?_)))
   subst hM
   exact ret_ (.bool (keys_character a1)) (by kernel_rfl) ⟨rfl, (Ext.trans (Ext.trans (New.ext hN5) hx16) hx45)⟩
 replace hM := ifFo hc42 hM
 refine cwp_skip (blockE_n (thenE_n (cR ?_)))
 refine oS [(61, .pointer (some ⟨b3, 1, none⟩))] rfl ?_
 refine owp_rdG (.int .i64 a2) rfl (by kernel_rfl) (Eq.trans (b := (cellH h15 ⟨b3, 1, none⟩).bind fun v47 => some (.value v47)) (by kernel_rfl) (bindE (Blk.cell f17 1 (by kernel_rfl)) _)) ?_
 refine oS [(63, .int .i64 (iAnd .i64 a2 1)), (64, .bool (decide ((iAnd .i64 a2 1) = 0))), (65, .bool (decide ((iAnd .i64 a2 1) = 0)))] rfl ?_
 by_cases hc51 : (iAnd .i64 a2 1) = 0
 · refine owp_at 64 (.bool true) (Eq.trans (b := .bool (decide ((iAnd .i64 a2 1) = 0))) (by kernel_rfl) (by rw [decide_eq_true hc51])) ?_
   refine owp_at 65 (.bool true) (Eq.trans (b := .bool (decide ((iAnd .i64 a2 1) = 0))) (by kernel_rfl) (by rw [decide_eq_true hc51])) ?_
   replace hM := ifTo hc51 hM
   refine oS [(66, .pointer (some ⟨b3, 0, none⟩))] rfl ?_
   refine owp_rdG (.int .i64 a1) rfl (by kernel_rfl) (Eq.trans (b := (cellH h15 ⟨b3, 0, none⟩).bind fun v52 => some (.value v52)) (by kernel_rfl) (bindE (Blk.cell f17 0 (by kernel_rfl)) _)) ?_
   refine owp_hpG rfl (by kernel_rfl) (hpCallP 32 #[.int .i64 a1] (.bool (keys_control a1)) (by kernel_rfl) (keys_control_ok a1 _ h15 rfl) ?_)
   intro h53 hx54
   have f55 := Blk.ext f17 hx54
   refine oS [(69, .bool (keys_control a1)), (2, .bool (keys_control a1))] rfl ?_
   refine oE (cwp_ret ?_)
   subst hM
   exact ret_ (.bool (keys_control a1)) (by kernel_rfl) ⟨rfl, (Ext.trans (Ext.trans (New.ext hN5) hx16) hx54)⟩
 refine owp_at 64 (.bool false) (Eq.trans (b := .bool (decide ((iAnd .i64 a2 1) = 0))) (by kernel_rfl) (by rw [decide_eq_false hc51])) ?_
 refine owp_at 65 (.bool false) (Eq.trans (b := .bool (decide ((iAnd .i64 a2 1) = 0))) (by kernel_rfl) (by rw [decide_eq_false hc51])) ?_
 replace hM := ifFo hc51 hM
 refine oS [(66, undef), (67, undef), (68, undef), (69, .bool false), (2, .bool false)] rfl ?_
 refine oE (cwp_ret ?_)
 subst hM
 exact ret_ (.bool false) (by kernel_rfl) ⟨rfl, (Ext.trans (New.ext hN5) hx16)⟩
/- mullion/keys.named -/
def keys_named (a1 : Int) (K : ByteArray → Heap → Prop) (h : Heap) : Prop :=
 if a1 = 32 then
  K (⟨#[83, 112, 97, 99, 101]⟩ : ByteArray) h
 else
 if a1 = 13 then
  K (⟨#[69, 110, 116, 101, 114]⟩ : ByteArray) h
 else
 if a1 = 9 then
  K (⟨#[84, 97, 98]⟩ : ByteArray) h
 else
 if a1 = 27 then
  K (⟨#[69, 115, 99, 97, 112, 101]⟩ : ByteArray) h
 else
 if a1 = 127 then
  K (⟨#[66, 83, 112, 97, 99, 101]⟩ : ByteArray) h
 else
 if a1 = 16777239 then
  K (⟨#[66, 84, 97, 98]⟩ : ByteArray) h
 else
 if (keys_special a1) = true then
  0 ≤ (IntKind.wrap .i64 (a1 - 16777217)) ∧
  (IntKind.wrap .i64 (a1 - 16777217)) < (22 : Int) ∧
  gap h fun h8 =>
  cellsAt h8 ⟨0, 0, none⟩ 0 (tab0.flatMap tab0f) ∧
  K ((tab0.getD ((IntKind.wrap .i64 (a1 - 16777217))).toNat tab0d).1) h8
 else
 gap h fun h8 =>
 K (⟨#[]⟩ : ByteArray) h8
theorem keys_named_ok (a1 : Int) (K : ByteArray → Heap → Prop) (h : Heap) (hM : keys_named a1 K h) : CallsH Tryd.prog 36 #[.int .i64 a1] (fun v h' => ∃ (r15 : ByteArray), v = .string r15 ∧ K r15 h') h := by
 unfold keys_named at hM
 refine callsH_intro (n := 23) Tryd.func36 rfl rfl (by kernel_rfl) ?_
 refine cR ?_
 refine oS [(2, .string (⟨#[]⟩ : ByteArray))] rfl ?_
 refine oE (cwp_seq (cR ?_))
 refine oS [(3, .int .i64 a1)] rfl ?_
 refine oE (cwp_block (cR ?_))
 refine oS [(5, .bool (decide (a1 = 32))), (4, .bool (decide (a1 = 32)))] rfl ?_
 refine oE ?_
 refine cwp_condD (a1 = 32) (by kernel_rfl) (fun hc2 => ?_) (fun hc2 => ?_)
 · replace hM := ifT hc2 hM
   refine cR ?_
   refine oS [(2, .string (⟨#[83, 112, 97, 99, 101]⟩ : ByteArray))] rfl ?_
   refine oE (cwp_ret (blockE_r (thenE_r ?_)))
   exact ret_ (.string (⟨#[83, 112, 97, 99, 101]⟩ : ByteArray)) (by kernel_rfl) ⟨_, rfl, hM⟩
 replace hM := ifF hc2 hM
 refine cR ?_
 refine oS [(7, .bool (decide (a1 = 13))), (6, .bool (decide (a1 = 13)))] rfl ?_
 refine oE ?_
 refine cwp_condD (a1 = 13) (by kernel_rfl) (fun hc3 => ?_) (fun hc3 => ?_)
 · replace hM := ifT hc3 hM
   refine cR ?_
   refine oS [(2, .string (⟨#[69, 110, 116, 101, 114]⟩ : ByteArray))] rfl ?_
   refine oE (cwp_ret (blockE_r (thenE_r ?_)))
   exact ret_ (.string (⟨#[69, 110, 116, 101, 114]⟩ : ByteArray)) (by kernel_rfl) ⟨_, rfl, hM⟩
 replace hM := ifF hc3 hM
 refine cR ?_
 refine oS [(9, .bool (decide (a1 = 9))), (8, .bool (decide (a1 = 9)))] rfl ?_
 refine oE ?_
 refine cwp_condD (a1 = 9) (by kernel_rfl) (fun hc4 => ?_) (fun hc4 => ?_)
 · replace hM := ifT hc4 hM
   refine cR ?_
   refine oS [(2, .string (⟨#[84, 97, 98]⟩ : ByteArray))] rfl ?_
   refine oE (cwp_ret (blockE_r (thenE_r ?_)))
   exact ret_ (.string (⟨#[84, 97, 98]⟩ : ByteArray)) (by kernel_rfl) ⟨_, rfl, hM⟩
 replace hM := ifF hc4 hM
 refine cR ?_
 refine oS [(11, .bool (decide (a1 = 27))), (10, .bool (decide (a1 = 27)))] rfl ?_
 refine oE ?_
 refine cwp_condD (a1 = 27) (by kernel_rfl) (fun hc5 => ?_) (fun hc5 => ?_)
 · replace hM := ifT hc5 hM
   refine cR ?_
   refine oS [(2, .string (⟨#[69, 115, 99, 97, 112, 101]⟩ : ByteArray))] rfl ?_
   refine oE (cwp_ret (blockE_r (thenE_r ?_)))
   exact ret_ (.string (⟨#[69, 115, 99, 97, 112, 101]⟩ : ByteArray)) (by kernel_rfl) ⟨_, rfl, hM⟩
 replace hM := ifF hc5 hM
 refine cR ?_
 refine oS [(13, .bool (decide (a1 = 127))), (12, .bool (decide (a1 = 127)))] rfl ?_
 refine oE ?_
 refine cwp_condD (a1 = 127) (by kernel_rfl) (fun hc6 => ?_) (fun hc6 => ?_)
 · replace hM := ifT hc6 hM
   refine cR ?_
   refine oS [(2, .string (⟨#[66, 83, 112, 97, 99, 101]⟩ : ByteArray))] rfl ?_
   refine oE (cwp_ret (blockE_r (thenE_r ?_)))
   exact ret_ (.string (⟨#[66, 83, 112, 97, 99, 101]⟩ : ByteArray)) (by kernel_rfl) ⟨_, rfl, hM⟩
 replace hM := ifF hc6 hM
 refine cR ?_
 refine oS [(15, .bool (decide (a1 = 16777239))), (14, .bool (decide (a1 = 16777239)))] rfl ?_
 refine oE ?_
 refine cwp_condD (a1 = 16777239) (by kernel_rfl) (fun hc7 => ?_) (fun hc7 => ?_)
 · replace hM := ifT hc7 hM
   refine cR ?_
   refine oS [(2, .string (⟨#[66, 84, 97, 98]⟩ : ByteArray))] rfl ?_
   refine oE (cwp_ret (blockE_r (thenE_r ?_)))
   exact ret_ (.string (⟨#[66, 84, 97, 98]⟩ : ByteArray)) (by kernel_rfl) ⟨_, rfl, hM⟩
 replace hM := ifF hc7 hM
 refine cwp_skip (blockE_n (thenE_n (cwp_seq (cR ?_))))
 refine oS [(16, .int .i64 a1)] rfl ?_
 refine owp_hpG rfl (by kernel_rfl) (hpCallP 30 #[.int .i64 a1] (.bool (keys_special a1)) (by kernel_rfl) (keys_special_ok a1 _ h rfl) ?_)
 intro h8 hx9
 refine oE ?_
 refine cwp_condB (keys_special a1) (by kernel_rfl) (fun hc10 => ?_) (fun hc10 => ?_)
 · replace hM := ifT hc10 hM
   refine cR ?_
   refine oS [(18, .int .i64 a1), (19, .int .i64 (IntKind.wrap .i64 (a1 - 16777217)))] rfl ?_
   obtain ⟨hc11, hM⟩ := hM
   obtain ⟨hc12, hM⟩ := hM
   refine owp_rdG (.pointer (some ((⟨0, 0, none⟩ : Addr).add (((IntKind.wrap .i64 (a1 - 16777217))).toNat * 4)))) rfl (by kernel_rfl) (rd_ixA (P := Tryd.prog) (h := h8) (t := 69) (el := 68) (sz := 4) (len := 22) (ad := ⟨0, 0, none⟩) (k := .i64) (i := (IntKind.wrap .i64 (a1 - 16777217))) (by kernel_rfl) (by kernel_rfl) hc11 hc12 (by kernel_rfl)) ?_
   refine oS [(21, .pointer (some ((⟨0, 0, none⟩ : Addr).add (((IntKind.wrap .i64 (a1 - 16777217))).toNat * 4))))] rfl ?_
   replace hM := hM _ hx9
   obtain ⟨hc13, hM⟩ := hM
   refine owp_rdG (.string ((tab0.getD ((IntKind.wrap .i64 (a1 - 16777217))).toNat tab0d).1)) rfl (by kernel_rfl) (Eq.trans (b := (cellH h8 ((⟨0, 0, none⟩ : Addr).add (((IntKind.wrap .i64 (a1 - 16777217))).toNat * 4))).bind fun v14 => some (.value v14)) (by kernel_rfl) (bindE (cell_tab0 tab0f tab0 tab0d hc13 (fun _ => rfl) (ltTab hc11 hc12 (by kernel_rfl)) rfl) _)) ?_
   refine oS [(2, .string ((tab0.getD ((IntKind.wrap .i64 (a1 - 16777217))).toNat tab0d).1))] rfl ?_
   refine oE (cwp_ret (thenE_r ?_))
   exact ret_ (.string ((tab0.getD ((IntKind.wrap .i64 (a1 - 16777217))).toNat tab0d).1)) (by kernel_rfl) ⟨_, rfl, hM⟩
 replace hM := ifF hc10 hM
 refine cwp_skip (thenE_n (cR ?_))
 refine oS [(2, .string (⟨#[]⟩ : ByteArray))] rfl ?_
 refine oE (cwp_ret ?_)
 replace hM := hM _ hx9
 exact ret_ (.string (⟨#[]⟩ : ByteArray)) (by kernel_rfl) ⟨_, rfl, hM⟩
/- mullion/keys.marks -/
def keys_marks (a1 : Int) : ByteArray :=
 if (iAnd .i64 a1 4) = 0 then
  if (iAnd .i64 a1 2) = 0 then
   if (iAnd .i64 a1 1) = 0 then
    ((⟨#[]⟩ : ByteArray))
   else
   (⟨#[83, 45]⟩)
  else
  if (iAnd .i64 a1 1) = 0 then
   (⟨#[77, 45]⟩)
  else
  (⟨#[77, 45, 83, 45]⟩)
 else
 if (iAnd .i64 a1 2) = 0 then
  if (iAnd .i64 a1 1) = 0 then
   (⟨#[67, 45]⟩)
  else
  (⟨#[67, 45, 83, 45]⟩)
 else
 if (iAnd .i64 a1 1) = 0 then
  (⟨#[67, 45, 77, 45]⟩)
 else
 (⟨#[67, 45, 77, 45, 83, 45]⟩)
theorem keys_marks_ok (a1 : Int) (r : ByteArray) (h : Heap) (hM : keys_marks a1 = r) : CallsH Tryd.prog 37 #[.int .i64 a1] (fun v h' => v = .string r ∧ Ext h h') h := by
 unfold keys_marks at hM
 refine callsH_intro (n := 20) Tryd.func37 rfl rfl (by kernel_rfl) ?_
 refine cR ?_
 refine oS [(2, .string (⟨#[]⟩ : ByteArray))] rfl ?_
 refine oE (cR ?_)
 refine oS [(3, .string (⟨#[]⟩ : ByteArray))] rfl ?_
 refine oE (cwp_seq (cR ?_))
 refine oS [(4, .int .i64 a1), (5, .int .i64 (iAnd .i64 a1 4)), (6, .bool (!decide ((iAnd .i64 a1 4) = 0)))] rfl ?_
 refine oE ?_
 refine cwp_condN ((iAnd .i64 a1 4) = 0) (by kernel_rfl) (fun hc2 => ?_) (fun hc2 => ?_)
 · replace hM := ifTo hc2 hM
   refine cwp_skip (thenE_n (cwp_seq (cR ?_)))
   refine oS [(9, .int .i64 a1), (10, .int .i64 (iAnd .i64 a1 2)), (11, .bool (!decide ((iAnd .i64 a1 2) = 0)))] rfl ?_
   refine oE ?_
   refine cwp_condN ((iAnd .i64 a1 2) = 0) (by kernel_rfl) (fun hc3 => ?_) (fun hc3 => ?_)
   · replace hM := ifTo hc3 hM
     refine cwp_skip (thenE_n (cwp_seq (cR ?_)))
     refine oS [(14, .int .i64 a1), (15, .int .i64 (iAnd .i64 a1 1)), (16, .bool (!decide ((iAnd .i64 a1 1) = 0)))] rfl ?_
     refine oE ?_
     refine cwp_condN ((iAnd .i64 a1 1) = 0) (by kernel_rfl) (fun hc4 => ?_) (fun hc4 => ?_)
     · replace hM := ifTo hc4 hM
       refine cwp_skip (thenE_n (cR ?_))
       refine oS [(19, .string (⟨#[]⟩ : ByteArray)), (2, .string (⟨#[]⟩ : ByteArray))] rfl ?_
       refine oE (cwp_ret ?_)
       subst hM
       exact ret_ (.string (⟨#[]⟩ : ByteArray)) (by kernel_rfl) ⟨rfl, Ext.refl _⟩
     replace hM := ifFo hc4 hM
     refine cwp_region ?_
     refine oS [(17, .string (⟨#[]⟩ : ByteArray)), (18, .string ⟨#[83, 45]⟩), (3, .string ⟨#[83, 45]⟩)] rfl ?_
     refine oE (cR ?_)
     refine oS [(19, .string ⟨#[83, 45]⟩), (2, .string ⟨#[83, 45]⟩)] rfl ?_
     refine oE (cwp_ret ?_)
     subst hM
     exact ret_ (.string ⟨#[83, 45]⟩) (by kernel_rfl) ⟨rfl, Ext.refl _⟩
   replace hM := ifFo hc3 hM
   refine cwp_region ?_
   refine oS [(12, .string (⟨#[]⟩ : ByteArray)), (13, .string ⟨#[77, 45]⟩), (3, .string ⟨#[77, 45]⟩)] rfl ?_
   refine oE (cwp_seq (cR ?_))
   refine oS [(14, .int .i64 a1), (15, .int .i64 (iAnd .i64 a1 1)), (16, .bool (!decide ((iAnd .i64 a1 1) = 0)))] rfl ?_
   refine oE ?_
   refine cwp_condN ((iAnd .i64 a1 1) = 0) (by kernel_rfl) (fun hc5 => ?_) (fun hc5 => ?_)
   · replace hM := ifTo hc5 hM
     refine cwp_skip (thenE_n (cR ?_))
     refine oS [(19, .string ⟨#[77, 45]⟩), (2, .string ⟨#[77, 45]⟩)] rfl ?_
     refine oE (cwp_ret ?_)
     subst hM
     exact ret_ (.string ⟨#[77, 45]⟩) (by kernel_rfl) ⟨rfl, Ext.refl _⟩
   replace hM := ifFo hc5 hM
   refine cwp_region ?_
   refine oS [(17, .string ⟨#[77, 45]⟩), (18, .string ⟨#[77, 45, 83, 45]⟩), (3, .string ⟨#[77, 45, 83, 45]⟩)] rfl ?_
   refine oE (cR ?_)
   refine oS [(19, .string ⟨#[77, 45, 83, 45]⟩), (2, .string ⟨#[77, 45, 83, 45]⟩)] rfl ?_
   refine oE (cwp_ret ?_)
   subst hM
   exact ret_ (.string ⟨#[77, 45, 83, 45]⟩) (by kernel_rfl) ⟨rfl, Ext.refl _⟩
 replace hM := ifFo hc2 hM
 refine cwp_region ?_
 refine oS [(7, .string (⟨#[]⟩ : ByteArray)), (8, .string ⟨#[67, 45]⟩), (3, .string ⟨#[67, 45]⟩)] rfl ?_
 refine oE (cwp_seq (cR ?_))
 refine oS [(9, .int .i64 a1), (10, .int .i64 (iAnd .i64 a1 2)), (11, .bool (!decide ((iAnd .i64 a1 2) = 0)))] rfl ?_
 refine oE ?_
 refine cwp_condN ((iAnd .i64 a1 2) = 0) (by kernel_rfl) (fun hc6 => ?_) (fun hc6 => ?_)
 · replace hM := ifTo hc6 hM
   refine cwp_skip (thenE_n (cwp_seq (cR ?_)))
   refine oS [(14, .int .i64 a1), (15, .int .i64 (iAnd .i64 a1 1)), (16, .bool (!decide ((iAnd .i64 a1 1) = 0)))] rfl ?_
   refine oE ?_
   refine cwp_condN ((iAnd .i64 a1 1) = 0) (by kernel_rfl) (fun hc7 => ?_) (fun hc7 => ?_)
   · replace hM := ifTo hc7 hM
     refine cwp_skip (thenE_n (cR ?_))
     refine oS [(19, .string ⟨#[67, 45]⟩), (2, .string ⟨#[67, 45]⟩)] rfl ?_
     refine oE (cwp_ret ?_)
     subst hM
     exact ret_ (.string ⟨#[67, 45]⟩) (by kernel_rfl) ⟨rfl, Ext.refl _⟩
   replace hM := ifFo hc7 hM
   refine cwp_region ?_
   refine oS [(17, .string ⟨#[67, 45]⟩), (18, .string ⟨#[67, 45, 83, 45]⟩), (3, .string ⟨#[67, 45, 83, 45]⟩)] rfl ?_
   refine oE (cR ?_)
   refine oS [(19, .string ⟨#[67, 45, 83, 45]⟩), (2, .string ⟨#[67, 45, 83, 45]⟩)] rfl ?_
   refine oE (cwp_ret ?_)
   subst hM
   exact ret_ (.string ⟨#[67, 45, 83, 45]⟩) (by kernel_rfl) ⟨rfl, Ext.refl _⟩
 replace hM := ifFo hc6 hM
 refine cwp_region ?_
 refine oS [(12, .string ⟨#[67, 45]⟩), (13, .string ⟨#[67, 45, 77, 45]⟩), (3, .string ⟨#[67, 45, 77, 45]⟩)] rfl ?_
 refine oE (cwp_seq (cR ?_))
 refine oS [(14, .int .i64 a1), (15, .int .i64 (iAnd .i64 a1 1)), (16, .bool (!decide ((iAnd .i64 a1 1) = 0)))] rfl ?_
 refine oE ?_
 refine cwp_condN ((iAnd .i64 a1 1) = 0) (by kernel_rfl) (fun hc8 => ?_) (fun hc8 => ?_)
 · replace hM := ifTo hc8 hM
   refine cwp_skip (thenE_n (cR ?_))
   refine oS [(19, .string ⟨#[67, 45, 77, 45]⟩), (2, .string ⟨#[67, 45, 77, 45]⟩)] rfl ?_
   refine oE (cwp_ret ?_)
   subst hM
   exact ret_ (.string ⟨#[67, 45, 77, 45]⟩) (by kernel_rfl) ⟨rfl, Ext.refl _⟩
 replace hM := ifFo hc8 hM
 refine cwp_region ?_
 refine oS [(17, .string ⟨#[67, 45, 77, 45]⟩), (18, .string ⟨#[67, 45, 77, 45, 83, 45]⟩), (3, .string ⟨#[67, 45, 77, 45, 83, 45]⟩)] rfl ?_
 refine oE (cR ?_)
 refine oS [(19, .string ⟨#[67, 45, 77, 45, 83, 45]⟩), (2, .string ⟨#[67, 45, 77, 45, 83, 45]⟩)] rfl ?_
 refine oE (cwp_ret ?_)
 subst hM
 exact ret_ (.string ⟨#[67, 45, 77, 45, 83, 45]⟩) (by kernel_rfl) ⟨rfl, Ext.refl _⟩
/- mullion/keys.Name -/
def keys_Name (a1 : Int) (a2 : Int) (K : ByteArray → Heap → Prop) (h : Heap) : Prop :=
 newB h #[.int .i64 a1, .int .i64 a2] 36 fun b3 h4 =>
 ldI h4 .i64 ⟨b3, 0, none⟩ fun x6 =>
 ldI h4 .i64 ⟨b3, 1, none⟩ fun x8 =>
 if (!(keys_Valid x6 x8)) = true then
  gap h4 fun h12 =>
  K (⟨#[]⟩ : ByteArray) h12
 else
 gap h4 fun h12 =>
 ldI h12 .i64 ⟨b3, 0, none⟩ fun x15 =>
 keys_named x15 (fun x19 h18 =>
  if (!(x19.toList == (⟨#[]⟩ : ByteArray).toList)) = true then
   ldI h18 .i64 ⟨b3, 1, none⟩ fun x21 =>
   (keys_marks x21).size + x19.size ≤ 9223372036854775807 ∧
   gap h18 fun h24 =>
   K ((keys_marks x21) ++ x19) h24
  else
  ldI h18 .i64 ⟨b3, 1, none⟩ fun x27 =>
  ldI h18 .i64 ⟨b3, 0, none⟩ fun x31 =>
  gap h18 fun h35 =>
  (cellH h35 ⟨b3, 0, none⟩ = some (.int .i64 x31)) ∧
  (keys_marks x27).size + (Utf8.encode (IntKind.wrap .i32 (x31))).size ≤ 9223372036854775807 ∧
   K ((keys_marks x27) ++ (Utf8.encode (IntKind.wrap .i32 (x31)))) h35) h12
theorem keys_Name_ok (a1 : Int) (a2 : Int) (K : ByteArray → Heap → Prop) (h : Heap) (hM : keys_Name a1 a2 K h) : CallsH Tryd.prog 19 #[.agg #[.int .i64 a1, .int .i64 a2]] (fun v h' => ∃ (r39 : ByteArray), v = .string r39 ∧ K r39 h') h := by
 unfold keys_Name at hM
 refine callsH_intro (n := 25) Tryd.func19 rfl rfl (by kernel_rfl) ?_
 refine cR ?_
 refine owp_hpG rfl (by kernel_rfl) (hpNew #[.int .i64 a1, .int .i64 a2] 36 (fun _ => by kernel_rfl) ?_)
 intro b3 h4 hN5
 replace hM := newB_of hN5 hM
 refine oS [(2, .string (⟨#[]⟩ : ByteArray))] rfl ?_
 refine oE (cwp_seq (cR ?_))
 obtain ⟨x6, hc7, hM⟩ := hM
 obtain ⟨x8, hc9, hM⟩ := hM
 refine owp_rdG (.agg #[.int .i64 x6, .int .i64 x8]) rfl (by kernel_rfl) (Eq.trans (b := (cellH h4 ⟨b3, 0, none⟩).bind fun v10 => (cellH h4 ⟨b3, 1, none⟩).bind fun v11 => some (.value (.agg #[v10, v11]))) (by kernel_rfl) ((bindE hc7 _).trans (bindE hc9 _))) ?_
 refine owp_hpG rfl (by kernel_rfl) (hpCallP 17 #[.agg #[.int .i64 x6, .int .i64 x8]] (.bool (keys_Valid x6 x8)) (by kernel_rfl) (keys_Valid_ok x6 x8 _ h4 rfl) ?_)
 intro h12 hx13
 refine oS [(6, .bool (!(keys_Valid x6 x8)))] rfl ?_
 refine oE ?_
 refine cwp_condB (!(keys_Valid x6 x8)) (by kernel_rfl) (fun hc14 => ?_) (fun hc14 => ?_)
 · replace hM := ifT hc14 hM
   refine cR ?_
   refine oS [(2, .string (⟨#[]⟩ : ByteArray))] rfl ?_
   refine oE (cwp_ret (thenE_r ?_))
   replace hM := hM _ hx13
   exact ret_ (.string (⟨#[]⟩ : ByteArray)) (by kernel_rfl) ⟨_, rfl, hM⟩
 replace hM := ifF hc14 hM
 refine cwp_skip (thenE_n (cwp_seq (cR ?_)))
 refine oS [(7, .pointer (some ⟨b3, 0, none⟩))] rfl ?_
 replace hM := hM _ hx13
 obtain ⟨x15, hc16, hM⟩ := hM
 refine owp_rdG (.int .i64 x15) rfl (by kernel_rfl) (Eq.trans (b := (cellH h12 ⟨b3, 0, none⟩).bind fun v17 => some (.value v17)) (by kernel_rfl) (bindE hc16 _)) ?_
 refine owp_hpG rfl (by kernel_rfl) (hpCallE 36 #[.int .i64 x15] (by kernel_rfl) (keys_named_ok x15 _ h12 hM) ?_)
 rintro _ h18 ⟨x19, rfl, hM⟩
 refine oS [(3, .string x19)] rfl ?_
 refine oE (cR ?_)
 refine oS [(10, .string x19), (11, .bool (!(x19.toList == (⟨#[]⟩ : ByteArray).toList)))] rfl ?_
 refine oE ?_
 refine cwp_condB (!(x19.toList == (⟨#[]⟩ : ByteArray).toList)) (by kernel_rfl) (fun hc20 => ?_) (fun hc20 => ?_)
 · replace hM := ifT hc20 hM
   refine cR ?_
   refine oS [(12, .pointer (some ⟨b3, 1, none⟩))] rfl ?_
   obtain ⟨x21, hc22, hM⟩ := hM
   refine owp_rdG (.int .i64 x21) rfl (by kernel_rfl) (Eq.trans (b := (cellH h18 ⟨b3, 1, none⟩).bind fun v23 => some (.value v23)) (by kernel_rfl) (bindE hc22 _)) ?_
   refine owp_hpG rfl (by kernel_rfl) (hpCallP 37 #[.int .i64 x21] (.string (keys_marks x21)) (by kernel_rfl) (keys_marks_ok x21 _ h18 rfl) ?_)
   intro h24 hx25
   refine oS [(15, .string x19)] rfl ?_
   obtain ⟨hc26, hM⟩ := hM
   refine owp_rdG (.string ((keys_marks x21) ++ x19)) rfl (by kernel_rfl) (rd_cat (P := Tryd.prog) (h := h24) (x := (keys_marks x21)) (y := x19) hc26 (by kernel_rfl)) ?_
   refine oS [(2, .string ((keys_marks x21) ++ x19))] rfl ?_
   refine oE (cwp_ret (thenE_r ?_))
   replace hM := hM _ hx25
   exact ret_ (.string ((keys_marks x21) ++ x19)) (by kernel_rfl) ⟨_, rfl, hM⟩
 replace hM := ifF hc20 hM
 refine cwp_skip (thenE_n (cwp_seq ?_))
 refine cwp_draw (by kernel_rfl) ?_
 refine k_pure (i := 0) [1, 2, 7, 8] (.pointer (some ⟨b3, 1, none⟩)) (by kernel_rfl) rfl rfl (by kernel_rfl) (fun h' => by kernel_rfl) (by kernel_rfl) ?_
 obtain ⟨x27, hc28, hM⟩ := hM
 refine k_load (i := 1) (.int .i64 x27) (fun h' => cellH h' ⟨b3, 1, none⟩ = some (.int .i64 x27) ∧ True) [2, 7, 8] [2] (by kernel_rfl) (by kernel_rfl) rfl rfl (by kernel_rfl) (fun h' hS => Eq.trans (b := (cellH h' ⟨b3, 1, none⟩).bind fun v30 => some (.value v30)) (by kernel_rfl) (bindE hS.1 _)) ⟨hc28, trivial⟩ (by kernel_rfl) ?_
 refine k_pure (i := 3) [4, 5, 6, 7, 8] (.pointer (some ⟨b3, 0, none⟩)) (by kernel_rfl) rfl rfl (by kernel_rfl) (fun h' => by kernel_rfl) (by kernel_rfl) ?_
 obtain ⟨x31, hc32, hM⟩ := hM
 refine k_load (i := 4) (.int .i64 x31) (fun h' => cellH h' ⟨b3, 0, none⟩ = some (.int .i64 x31) ∧ True) [5, 6, 7, 8] [] (by kernel_rfl) (by kernel_rfl) rfl rfl (by kernel_rfl) (fun h' hS => Eq.trans (b := (cellH h' ⟨b3, 0, none⟩).bind fun v34 => some (.value v34)) (by kernel_rfl) (bindE hS.1 _)) ⟨hc32, trivial⟩ (by kernel_rfl) ?_
 refine k_pure (i := 5) [6, 7, 8] (.int .i32 (IntKind.wrap .i32 (x31))) (by kernel_rfl) rfl rfl (by kernel_rfl) (fun h' => by kernel_rfl) (by kernel_rfl) ?_
 refine k_pure (i := 6) [7, 8] (.string (Utf8.encode (IntKind.wrap .i32 (x31)))) (by kernel_rfl) rfl rfl (by kernel_rfl) (fun h' => by kernel_rfl) (by kernel_rfl) ?_
 refine k_eff (j := 2) (by kernel_rfl) rfl rfl (by kernel_rfl) (hpCallP 37 #[.int .i64 x27] (.string (keys_marks x27)) (by kernel_rfl) (keys_marks_ok x27 _ h18 rfl) ?_)
 intro h35 hx36
 replace hM := hM _ hx36
 obtain ⟨hk37, hM⟩ := hM
 refine ⟨⟨⟨hk37, trivial⟩, trivial⟩, ?_⟩
 obtain ⟨hc38, hM⟩ := hM
 refine k_pure (i := 7) [8] (.string ((keys_marks x27) ++ (Utf8.encode (IntKind.wrap .i32 (x31))))) (by kernel_rfl) rfl rfl (by kernel_rfl) (fun h' => rd_cat (P := Tryd.prog) (h := h') (x := (keys_marks x27)) (y := (Utf8.encode (IntKind.wrap .i32 (x31)))) hc38 (by kernel_rfl)) (by kernel_rfl) ?_
 refine k_pure (i := 8) [] (.string ((keys_marks x27) ++ (Utf8.encode (IntKind.wrap .i32 (x31))))) (by kernel_rfl) rfl rfl (by kernel_rfl) (fun h' => by kernel_rfl) (by kernel_rfl) ?_
 refine k_done (by kernel_rfl) ?_
 refine thenE_n (cwp_ret ?_)
 exact ret_ (.string ((keys_marks x27) ++ (Utf8.encode (IntKind.wrap .i32 (x31))))) (by kernel_rfl) ⟨_, rfl, hM⟩
/- mullion/mullionlaw21.sure -/
def law21_sure  (K : Bool → Heap → Prop) (h : Heap) : Prop :=
 keys_New  (fun x2 h1 =>
  if x2.isNone = true then
   K false h1
  else
  keys_Name 98 4 (fun x7 h6 =>
   if (!(x7.toList == (⟨#[67, 45, 98]⟩ : ByteArray).toList)) = true then
    K false h6
   else
   keys_Decoder_Feed x2 (⟨#[97, 27, 91, 65, 27]⟩ : ByteArray) (fun x10 x10n x10c h9 =>
    keys_Decoder_Flush x2 (fun x12 x12n x12c h11 =>
     newB h11 #[.int .i64 97, .int .i64 0, .int .i64 16777217, .int .i64 0] 36 fun b13 h14 =>
     law21_same x10 x10n x10c (some ⟨b13, 0, none⟩) 2 2 (fun x17 h16 =>
      if x17 = true then
       newB h16 #[.int .i64 27, .int .i64 0] 36 fun b22 h23 =>
       law21_same x12 x12n x12c (some ⟨b22, 0, none⟩) 1 1 (fun x26 h25 =>
         K x26 h25) h23
      else
           K false h16) h14) h9) h6) h1) h
theorem law21_sure_ok  (K : Bool → Heap → Prop) (h : Heap) (hM : law21_sure  K h) : CallsH Tryd.prog 16 #[] (fun v h' => ∃ (r27 : Bool), v = .bool r27 ∧ K r27 h') h := by
 unfold law21_sure at hM
 refine callsH_intro (n := 27) Tryd.func16 rfl rfl (by kernel_rfl) ?_
 refine cR ?_
 refine oS [(0, .bool false)] rfl ?_
 refine oE (cR ?_)
 refine owp_hpG rfl (by kernel_rfl) (hpCallE 9 #[] (by kernel_rfl) (keys_New_ok  _ h hM) ?_)
 rintro _ h1 ⟨x2, rfl, hM⟩
 refine oS [(1, .pointer x2)] rfl ?_
 refine oE (cwp_seq (cR ?_))
 refine oS [(5, .pointer x2)] rfl ?_
 refine owp_rdG (.bool x2.isNone) rfl (by kernel_rfl) (rd_eqNil (P := Tryd.prog) (h := h1) (t := 23) (el := 53) (by kernel_rfl) (by kernel_rfl)) ?_
 refine oS [(7, .bool x2.isNone)] rfl ?_
 by_cases hc5 : x2.isNone = true
 · refine owp_at 6 (.bool true) (Eq.trans (b := .bool x2.isNone) (by kernel_rfl) (by rw [hc5])) ?_
   refine owp_at 7 (.bool true) (Eq.trans (b := .bool x2.isNone) (by kernel_rfl) (by rw [hc5])) ?_
   replace hM := ifT hc5 hM
   refine oS [(8, undef), (9, undef), (10, undef), (11, .bool true)] rfl ?_
   refine oE ?_
   refine cwp_cond (t := true) (by kernel_rfl) (fun hx_ => ?_) (fun hx_ => ?_)
   all_goals first | (cases hx_; done) | skip
   refine cR ?_
   refine oS [(0, .bool false)] rfl ?_
   refine oE (cwp_ret (thenE_r ?_))
   exact ret_ (.bool false) (by kernel_rfl) ⟨_, rfl, hM⟩
 refine owp_at 6 (.bool false) (Eq.trans (b := .bool x2.isNone) (by kernel_rfl) (by rw [Bool.eq_false_iff.2 hc5])) ?_
 refine owp_at 7 (.bool false) (Eq.trans (b := .bool x2.isNone) (by kernel_rfl) (by rw [Bool.eq_false_iff.2 hc5])) ?_
 replace hM := ifF hc5 hM
 refine oS [(8, .agg #[.int .i64 98, .int .i64 4])] rfl ?_
 refine owp_hpG rfl (by kernel_rfl) (hpCallE 19 #[.agg #[.int .i64 98, .int .i64 4]] (by kernel_rfl) (keys_Name_ok 98 4 _ h1 hM) ?_)
 rintro _ h6 ⟨x7, rfl, hM⟩
 refine oS [(10, .bool (!(x7.toList == (⟨#[67, 45, 98]⟩ : ByteArray).toList))), (11, .bool (!(x7.toList == (⟨#[67, 45, 98]⟩ : ByteArray).toList)))] rfl ?_
 refine oE ?_
 refine cwp_condB (!(x7.toList == (⟨#[67, 45, 98]⟩ : ByteArray).toList)) (by kernel_rfl) (fun hc8 => ?_) (fun hc8 => ?_)
 · replace hM := ifT hc8 hM
   refine cR ?_
   refine oS [(0, .bool false)] rfl ?_
   refine oE (cwp_ret (thenE_r ?_))
   exact ret_ (.bool false) (by kernel_rfl) ⟨_, rfl, hM⟩
 replace hM := ifF hc8 hM
 refine cwp_skip (thenE_n (cR ?_))
 refine oS [(12, .pointer x2)] rfl ?_
 refine owp_hpG rfl (by kernel_rfl) (hpCallE 12 #[.pointer x2, .string (⟨#[97, 27, 91, 65, 27]⟩ : ByteArray)] (by kernel_rfl) (keys_Decoder_Feed_ok x2 (⟨#[97, 27, 91, 65, 27]⟩ : ByteArray) _ h6 hM) ?_)
 rintro _ h9 ⟨x10, x10n, x10c, rfl, hM⟩
 refine oS [(2, .slice x10 x10n x10c)] rfl ?_
 refine oE (cR ?_)
 refine oS [(14, .pointer x2)] rfl ?_
 refine owp_hpG rfl (by kernel_rfl) (hpCallE 10 #[.pointer x2] (by kernel_rfl) (keys_Decoder_Flush_ok x2 _ h9 hM) ?_)
 rintro _ h11 ⟨x12, x12n, x12c, rfl, hM⟩
 refine oS [(3, .slice x12 x12n x12c)] rfl ?_
 refine oE (cR ?_)
 refine oS [(16, .slice x10 x10n x10c), (17, .agg #[.int .i64 97, .int .i64 0]), (18, .agg #[.int .i64 16777217, .int .i64 0])] rfl ?_
 refine owp_hpG rfl (by kernel_rfl) (hpNewS #[.int .i64 97, .int .i64 0, .int .i64 16777217, .int .i64 0] 36 2 (fun _ => by kernel_rfl) ?_)
 intro b13 h14 hN15
 replace hM := newB_of hN15 hM
 refine owp_hpG rfl (by kernel_rfl) (hpCallE 14 #[.slice x10 x10n x10c, .slice (some ⟨b13, 0, none⟩) 2 2] (by kernel_rfl) (law21_same_ok x10 x10n x10c (some ⟨b13, 0, none⟩) 2 2 _ h14 hM) ?_)
 rintro _ h16 ⟨x17, rfl, hM⟩
 refine oS [(21, .bool x17)] rfl ?_
 by_cases hc21 : x17 = true
 · refine owp_at 20 (.bool true) (Eq.trans (b := .bool x17) (by kernel_rfl) (by rw [hc21])) ?_
   refine owp_at 21 (.bool true) (Eq.trans (b := .bool x17) (by kernel_rfl) (by rw [hc21])) ?_
   replace hM := ifT hc21 hM
   refine oS [(22, .slice x12 x12n x12c), (23, .agg #[.int .i64 27, .int .i64 0])] rfl ?_
   refine owp_hpG rfl (by kernel_rfl) (hpNewS #[.int .i64 27, .int .i64 0] 36 1 (fun _ => by kernel_rfl) ?_)
   intro b22 h23 hN24
   replace hM := newB_of hN24 hM
   refine owp_hpG rfl (by kernel_rfl) (hpCallE 14 #[.slice x12 x12n x12c, .slice (some ⟨b22, 0, none⟩) 1 1] (by kernel_rfl) (law21_same_ok x12 x12n x12c (some ⟨b22, 0, none⟩) 1 1 _ h23 hM) ?_)
   rintro _ h25 ⟨x26, rfl, hM⟩
   refine oS [(26, .bool x26), (0, .bool x26)] rfl ?_
   refine oE (cwp_ret ?_)
   exact ret_ (.bool x26) (by kernel_rfl) ⟨_, rfl, hM⟩
 refine owp_at 20 (.bool false) (Eq.trans (b := .bool x17) (by kernel_rfl) (by rw [Bool.eq_false_iff.2 hc21])) ?_
 refine owp_at 21 (.bool false) (Eq.trans (b := .bool x17) (by kernel_rfl) (by rw [Bool.eq_false_iff.2 hc21])) ?_
 replace hM := ifF hc21 hM
 refine oS [(22, undef), (23, undef), (24, undef), (25, undef), (26, .bool false), (0, .bool false)] rfl ?_
 refine oE (cwp_ret ?_)
 exact ret_ (.bool false) (by kernel_rfl) ⟨_, rfl, hM⟩
/- mullion/mullionlaw21.KeysFeeds -/
def law21_KeysFeeds_l2 (K2 : Option Addr → Nat → Nat → Option Addr → Nat → Int → Heap → Prop) : Nat → Option Addr → Nat → Nat → Option Addr → Nat → Int → Option Addr → Nat → Nat → Int → Heap → Prop
  | 0, _, _, _, _, _, _, _, _, _, _, _ => False
  | k + 1, y48, y48n, y48c, y49, y50, y51, y52, y52n, y52c, y53, h =>
  if y53 < (y52n : Int) then
   nz y52 fun p57 =>
   0 ≤ y53 ∧
   y53 < (y52n : Int) ∧
   stN (p57.add ((y53).toNat * 2)) [.int .i64 (-1), .int .i64 0] 0 h fun h58 =>
   law21_KeysFeeds_l2 K2 k y48 y48n y48c y49 y50 y51 (some p57) y52n y52c (IntKind.wrap .i64 (y53 + 1)) h58
  else
  K2 y48 y48n y48c y49 y50 y51 h
theorem law21_KeysFeeds_l2_ok {Q : Exit → Env → Heap → Prop} (K2 : Option Addr → Nat → Nat → Option Addr → Nat → Int → Heap → Prop) (hK2 : ∀ (z67 : Option Addr) (z67n : Nat) (z67c : Nat) (z68 : Option Addr) (z69 : Nat) (z70 : Int) (b : Env) (h : Heap), K2 z67 z67n z67c z68 z69 z70 h → Q (.exit 2) (upd (upd (upd (upd b 0 (.slice z67 z67n z67c)) 3 (.pointer z68)) 4 (.pointer (some ⟨z69, 0, none⟩))) 5 (.int .i64 z70)) h) : ∀ (k : Nat) (y48 : Option Addr) (y48n : Nat) (y48c : Nat) (y49 : Option Addr) (y50 : Nat) (y51 : Int) (y52 : Option Addr) (y52n : Nat) (y52c : Nat) (y53 : Int) (b : Env) (h : Heap) (hM : law21_KeysFeeds_l2 K2 k y48 y48n y48c y49 y50 y51 y52 y52n y52c y53 h), lwp Tryd.prog (partC Tryd.f3 [1, 1, 1, 1, 0, 1, 0, 0, 1, 0, 0, 1, 1, 1, 1, 0, 0]) 68 Q k (upd (upd (upd (upd (upd (upd b 0 (.slice y48 y48n y48c)) 3 (.pointer y49)) 4 (.pointer (some ⟨y50, 0, none⟩))) 5 (.int .i64 y51)) 6 (.slice y52 y52n y52c)) 8 (.int .i64 y53)) h := by
  intro k
  induction k with
  | zero => intro y48 y48n y48c y49 y50 y51 y52 y52n y52c y53 b h hM; exact (show False from hM).elim
  | succ k ih =>
    intro y48 y48n y48c y49 y50 y51 y52 y52n y52c y53 b h hM
    unfold law21_KeysFeeds_l2 at hM
    refine lwp_succ (cwp_part rfl ?_)
    refine cwp_seq (cR ?_)
    refine oS [(57, .int .i64 y53), (58, .slice y52 y52n y52c), (59, .int .i64 (y52n : Int)), (60, .bool (decide (y53 < (y52n : Int))))] rfl ?_
    refine oE ?_
    refine cwp_condD (y53 < (y52n : Int)) (by kernel_rfl) (fun hc54 => ?_) (fun hc54 => ?_)
    · replace hM := ifT hc54 hM
      refine cwp_skip (thenE_n (cwp_seq (cwp_block (cwp_region ?_))))
      refine oS [(63, .slice y52 y52n y52c), (64, .int .i64 y53), (65, .agg #[.int .i64 (-1), .int .i64 0])] rfl ?_
      obtain ⟨p57, rfl, hM⟩ := hM
      obtain ⟨hc55, hM⟩ := hM
      obtain ⟨hc56, hM⟩ := hM
      refine owp_rdG (.pointer (some (p57.add ((y53).toNat * 2)))) rfl (by kernel_rfl) (rd_ixS (P := Tryd.prog) (h := h) (t := 27) (el := 36) (sz := 2) (ad := p57) (len := y52n) (c := y52c) (k := .i64) (i := y53) (by kernel_rfl) (by kernel_rfl) hc55 hc56 (by kernel_rfl)) ?_
      refine owp_hpD rfl (by kernel_rfl) (hpSt (p57.add ((y53).toNat * 2)) [.int .i64 (-1), .int .i64 0] (fun _ => by kernel_rfl) rfl hM ?_)
      intro h58 hM
      refine owp_nil (blockE_n (thenE_n (cwp_region ?_)))
      refine oS [(61, .int .i64 y53), (62, .int .i64 (IntKind.wrap .i64 (y53 + 1))), (8, .int .i64 (IntKind.wrap .i64 (y53 + 1)))] rfl ?_
      refine owp_nil ?_
      exact lwp_at 0 (.slice y48 y48n y48c) (by kernel_rfl) (lwp_at 3 (.pointer y49) (by kernel_rfl) (lwp_at 4 (.pointer (some ⟨y50, 0, none⟩)) (by kernel_rfl) (lwp_at 5 (.int .i64 y51) (by kernel_rfl) (lwp_at 6 (.slice (some p57) y52n y52c) (by kernel_rfl) (lwp_at 8 (.int .i64 (IntKind.wrap .i64 (y53 + 1))) (by kernel_rfl) (ih y48 y48n y48c y49 y50 y51 (some p57) y52n y52c (IntKind.wrap .i64 (y53 + 1)) _ _ hM))))))
    replace hM := ifF hc54 hM
    refine cwp_exit (thenE_x ?_)
    exact q_at (Q := Q (.exit 2)) 0 (.slice y48 y48n y48c) (by kernel_rfl) (q_at (Q := Q (.exit 2)) 3 (.pointer y49) (by kernel_rfl) (q_at (Q := Q (.exit 2)) 4 (.pointer (some ⟨y50, 0, none⟩)) (by kernel_rfl) (q_at (Q := Q (.exit 2)) 5 (.int .i64 y51) (by kernel_rfl) (hK2 y48 y48n y48c y49 y50 y51 _ _ hM))))
def law21_KeysFeeds_j1 (Kn : Option Addr → Nat → Nat → Option Addr → Nat → Int → Heap → Prop) (Kr : Bool → Heap → Prop) (y30 : Option Addr) (y30n : Nat) (y30c : Nat) (y31 : Option Addr) (y32 : Nat) (y33 : Int) (y34 : Option Addr) (y34n : Nat) (y34c : Nat) (y35 : Option Addr) (y35n : Nat) (y35c : Nat) (h : Heap) : Prop :=
 law21_same y34 y34n y34c y35 y35n y35c (fun x37 h36 =>
  if (!x37) = true then
   Kr false h36
  else
  ldS h36 ⟨y32, 0, none⟩ fun x40 =>
  keys_Decoder_Held y31 (fun x45 h44 =>
   (cellH h44 ⟨y32, 0, none⟩ = some (.string x40)) ∧
   if (!(x45.toList == x40.toList)) = true then
    Kr false h44
   else
   ∃ k81, law21_KeysFeeds_l2
    (fun z71 z71n z71c z72 z73 z74 h75 =>
          Kn z71 z71n z71c z72 z73 z74 h75) k81 y30 y30n y30c y31 y32 y33 y34 y34n y34c 0 h44) h36) h
theorem law21_KeysFeeds_j1_ok {Q : Exit → Env → Heap → Prop} (Kn : Option Addr → Nat → Nat → Option Addr → Nat → Int → Heap → Prop) (hKn : ∀ (z86 : Option Addr) (z86n : Nat) (z86c : Nat) (z87 : Option Addr) (z88 : Nat) (z89 : Int) (b : Env) (h : Heap), Kn z86 z86n z86c z87 z88 z89 h → Q .normal (upd (upd (upd (upd b 0 (.slice z86 z86n z86c)) 3 (.pointer z87)) 4 (.pointer (some ⟨z88, 0, none⟩))) 5 (.int .i64 z89)) h) (Kr : Bool → Heap → Prop) (hKr : ∀ (z91 : Bool) (b : Env) (h : Heap), Kr z91 h → Q .ret (upd b 2 (.bool z91)) h) (y30 : Option Addr) (y30n : Nat) (y30c : Nat) (y31 : Option Addr) (y32 : Nat) (y33 : Int) (y34 : Option Addr) (y34n : Nat) (y34c : Nat) (y35 : Option Addr) (y35n : Nat) (y35c : Nat) (b : Env) (h : Heap) (hM : law21_KeysFeeds_j1 Kn Kr y30 y30n y30c y31 y32 y33 y34 y34n y34c y35 y35n y35c h) : cwp Tryd.prog (partC Tryd.f3 [1, 1, 1, 1, 0, 1, 0, 0, 1, 0, 0, 1, 1]) 68 Q (upd (upd (upd (upd (upd (upd b 0 (.slice y30 y30n y30c)) 3 (.pointer y31)) 4 (.pointer (some ⟨y32, 0, none⟩))) 5 (.int .i64 y33)) 6 (.slice y34 y34n y34c)) 7 (.slice y35 y35n y35c)) h := by
  unfold law21_KeysFeeds_j1 at hM
  refine cwp_part rfl ?_
  refine cwp_seq (cwp_seq ?_)
  refine cwp_draw (by kernel_rfl) ?_
  refine k_pure (i := 0) [2, 3, 4, 5, 6, 7, 8, 9, 10] (.slice y34 y34n y34c) (by kernel_rfl) rfl rfl (by kernel_rfl) (fun h' => by kernel_rfl) (by kernel_rfl) ?_
  refine k_pure (i := 1) [2, 3, 4, 5, 6, 7, 8, 9, 10] (.slice y35 y35n y35c) (by kernel_rfl) rfl rfl (by kernel_rfl) (fun h' => by kernel_rfl) (by kernel_rfl) ?_
  refine k_eff (j := 2) (by kernel_rfl) rfl rfl (by kernel_rfl) (hpCallE 14 #[.slice y34 y34n y34c, .slice y35 y35n y35c] (by kernel_rfl) (law21_same_ok y34 y34n y34c y35 y35n y35c _ h hM) ?_)
  rintro _ h36 ⟨x37, rfl, hM⟩
  refine ⟨trivial, ?_⟩
  refine k_pure (i := 3) [4, 5, 6, 7, 8, 9, 10] (.bool (!x37)) (by kernel_rfl) rfl rfl (by kernel_rfl) (fun h' => by kernel_rfl) (by kernel_rfl) ?_
  refine k_pure (i := 4) [5, 6, 7, 8, 9, 10] (.bool (!x37)) (by kernel_rfl) rfl rfl (by kernel_rfl) (fun h' => by kernel_rfl) (by kernel_rfl) ?_
  by_cases hc38 : (!x37) = true
  · refine kwp_at 49 (.bool true) (Eq.trans (b := .bool (!x37)) (by kernel_rfl) (by rw [hc38])) ?_
    refine kwp_at 50 (.bool true) (Eq.trans (b := .bool (!x37)) (by kernel_rfl) (by rw [hc38])) ?_
    replace hM := ifT hc38 hM
    refine k_not (i := 5) [6, 9, 10] (by kernel_rfl) rfl rfl (by kernel_rfl) (by kernel_rfl) ?_
    refine k_not (i := 6) [9, 10] (by kernel_rfl) rfl rfl (by kernel_rfl) (by kernel_rfl) ?_
    refine k_not (i := 7) [8, 9, 10] (by kernel_rfl) rfl rfl (by kernel_rfl) (by kernel_rfl) ?_
    refine k_not (i := 8) [9, 10] (by kernel_rfl) rfl rfl (by kernel_rfl) (by kernel_rfl) ?_
    refine k_not (i := 9) [10] (by kernel_rfl) rfl rfl (by kernel_rfl) (by kernel_rfl) ?_
    refine k_pure (i := 10) [] (.bool true) (by kernel_rfl) rfl rfl (by kernel_rfl) (fun h' => by kernel_rfl) (by kernel_rfl) ?_
    refine k_done (by kernel_rfl) ?_
    refine thenE_n ?_
    refine cwp_cond (t := true) (by kernel_rfl) (fun hx_ => ?_) (fun hx_ => ?_)
    all_goals first | (cases hx_; done) | skip
    refine cR ?_
    refine oS [(2, .bool false)] rfl ?_
    refine oE (cwp_ret (thenE_r ?_))
    exact q_at (Q := Q .ret) 2 (.bool false) (by kernel_rfl) (hKr false _ _ hM)
  refine kwp_at 49 (.bool false) (Eq.trans (b := .bool (!x37)) (by kernel_rfl) (by rw [Bool.eq_false_iff.2 hc38])) ?_
  refine kwp_at 50 (.bool false) (Eq.trans (b := .bool (!x37)) (by kernel_rfl) (by rw [Bool.eq_false_iff.2 hc38])) ?_
  replace hM := ifF hc38 hM
  refine k_pure (i := 5) [6, 9, 10] (.pointer y31) (by kernel_rfl) rfl rfl (by kernel_rfl) (fun h' => by kernel_rfl) (by kernel_rfl) ?_
  refine k_pure (i := 7) [8, 9, 10] (.pointer (some ⟨y32, 0, none⟩)) (by kernel_rfl) rfl rfl (by kernel_rfl) (fun h' => by kernel_rfl) (by kernel_rfl) ?_
  obtain ⟨x40, hc41, hM⟩ := hM
  refine k_load (i := 8) (.string x40) (fun h' => cellH h' ⟨y32, 0, none⟩ = some (.string x40) ∧ True) [9, 10] [] (by kernel_rfl) (by kernel_rfl) rfl rfl (by kernel_rfl) (fun h' hS => Eq.trans (b := (cellH h' ⟨y32, 0, none⟩).bind fun v43 => some (.value v43)) (by kernel_rfl) (bindE hS.1 _)) ⟨hc41, trivial⟩ (by kernel_rfl) ?_
  refine k_eff (j := 6) (by kernel_rfl) rfl rfl (by kernel_rfl) (hpCallE 15 #[.pointer y31] (by kernel_rfl) (keys_Decoder_Held_ok y31 _ h36 hM) ?_)
  rintro _ h44 ⟨x45, rfl, hM⟩
  obtain ⟨hk46, hM⟩ := hM
  refine ⟨⟨⟨hk46, trivial⟩, trivial⟩, ?_⟩
  refine k_pure (i := 9) [10] (.bool (!(x45.toList == x40.toList))) (by kernel_rfl) rfl rfl (by kernel_rfl) (fun h' => by kernel_rfl) (by kernel_rfl) ?_
  refine k_pure (i := 10) [] (.bool (!(x45.toList == x40.toList))) (by kernel_rfl) rfl rfl (by kernel_rfl) (fun h' => by kernel_rfl) (by kernel_rfl) ?_
  refine k_done (by kernel_rfl) ?_
  refine thenE_n ?_
  refine cwp_condB (!(x45.toList == x40.toList)) (by kernel_rfl) (fun hc47 => ?_) (fun hc47 => ?_)
  · replace hM := ifT hc47 hM
    refine cR ?_
    refine oS [(2, .bool false)] rfl ?_
    refine oE (cwp_ret (thenE_r ?_))
    exact q_at (Q := Q .ret) 2 (.bool false) (by kernel_rfl) (hKr false _ _ hM)
  replace hM := ifF hc47 hM
  refine cwp_skip (thenE_n (cR ?_))
  refine oS [(8, .int .i64 0)] rfl ?_
  refine oE (cwp_block ?_)
  obtain ⟨k_, hM⟩ := hM
  refine cwp_loop k_ (lwp_of_part (fn := Tryd.f3) (p := [1, 1, 1, 1, 0, 1, 0, 0, 1, 0, 0, 1, 1, 1, 1, 0, 0]) (by kernel_rfl) (lwp_at 0 (.slice y30 y30n y30c) (by kernel_rfl) (lwp_at 3 (.pointer y31) (by kernel_rfl) (lwp_at 4 (.pointer (some ⟨y32, 0, none⟩)) (by kernel_rfl) (lwp_at 5 (.int .i64 y33) (by kernel_rfl) (lwp_at 6 (.slice y34 y34n y34c) (by kernel_rfl) (lwp_at 8 (.int .i64 0) (by kernel_rfl) (law21_KeysFeeds_l2_ok _ ?_ k_ y30 y30n y30c y31 y32 y33 y34 y34n y34c 0 _ _ hM))))))))
  · intro z71 z71n z71c z72 z73 z74 b80 h75 hM
    refine blockE_h ?_
    exact q_at (Q := Q .normal) 0 (.slice z71 z71n z71c) (by kernel_rfl) (q_at (Q := Q .normal) 3 (.pointer z72) (by kernel_rfl) (q_at (Q := Q .normal) 4 (.pointer (some ⟨z73, 0, none⟩)) (by kernel_rfl) (q_at (Q := Q .normal) 5 (.int .i64 z74) (by kernel_rfl) (hKn z71 z71n z71c z72 z73 z74 _ _ hM))))
def law21_KeysFeeds_l0 (K0 : Heap → Prop) (Kr : Bool → Heap → Prop) : Nat → Option Addr → Nat → Nat → Option Addr → Nat → Int → Heap → Prop
  | 0, _, _, _, _, _, _, _ => False
  | k + 1, y9, y9n, y9c, y10, y11, y12, h =>
  if y12 < (y9n : Int) then
   nz y9 fun p16 =>
   0 ≤ y12 ∧
   y12 < (y9n : Int) ∧
   ldS h (p16.add ((y12).toNat * 1)) fun x17 =>
   if (x17.toList == (⟨#[]⟩ : ByteArray).toList) = true then
    keys_Decoder_Flush y10 (fun x22 x22n x22c h21 =>
     ldS h21 ⟨y11, 0, none⟩ fun x23 =>
     ref21_Flush x23 (fun x27 x28 x28n x28c h26 =>
      stN ⟨y11, 0, none⟩ [.string x27] 0 h26 fun h29 =>
      law21_KeysFeeds_j1
       (fun z92 z92n z92c z93 z94 z95 h96 =>
           law21_KeysFeeds_l0 K0 Kr k z92 z92n z92c z93 z94 (IntKind.wrap .i64 (z95 + 1)) h96)
       (fun z98 h99 =>
             Kr z98 h99) (some p16) y9n y9c y10 y11 y12 x22 x22n x22c x28 x28n x28c h29) h21) h
   else
   0 ≤ y12 ∧
   y12 < (y9n : Int) ∧
   ldS h (p16.add ((y12).toNat * 1)) fun x105 =>
   keys_Decoder_Feed y10 x105 (fun x109 x109n x109c h108 =>
    ldS h108 ⟨y11, 0, none⟩ fun x110 =>
    0 ≤ y12 ∧
    y12 < (y9n : Int) ∧
    ldS h108 (p16.add ((y12).toNat * 1)) fun x116 =>
    ref21_Feed x110 x116 (fun x121 x122 x122n x122c h120 =>
     stN ⟨y11, 0, none⟩ [.string x121] 0 h120 fun h123 =>
     law21_KeysFeeds_j1
      (fun z124 z124n z124c z125 z126 z127 h128 =>
          law21_KeysFeeds_l0 K0 Kr k z124 z124n z124c z125 z126 (IntKind.wrap .i64 (z127 + 1)) h128)
      (fun z130 h131 =>
            Kr z130 h131) (some p16) y9n y9c y10 y11 y12 x109 x109n x109c x122 x122n x122c h123) h108) h
  else
  K0  h
theorem law21_KeysFeeds_l0_ok {Q : Exit → Env → Heap → Prop} (K0 : Heap → Prop) (hK0 : ∀  (b : Env) (h : Heap), K0  h → Q (.exit 0) b h) (Kr : Bool → Heap → Prop) (hKr : ∀ (z135 : Bool) (b : Env) (h : Heap), Kr z135 h → Q .ret (upd b 2 (.bool z135)) h) : ∀ (k : Nat) (y9 : Option Addr) (y9n : Nat) (y9c : Nat) (y10 : Option Addr) (y11 : Nat) (y12 : Int) (b : Env) (h : Heap) (hM : law21_KeysFeeds_l0 K0 Kr k y9 y9n y9c y10 y11 y12 h), lwp Tryd.prog (partC Tryd.f3 [1, 1, 1, 1, 0, 1, 0, 0]) 68 Q k (upd (upd (upd (upd b 0 (.slice y9 y9n y9c)) 3 (.pointer y10)) 4 (.pointer (some ⟨y11, 0, none⟩))) 5 (.int .i64 y12)) h := by
  intro k
  induction k with
  | zero => intro y9 y9n y9c y10 y11 y12 b h hM; exact (show False from hM).elim
  | succ k ih =>
    intro y9 y9n y9c y10 y11 y12 b h hM
    unfold law21_KeysFeeds_l0 at hM
    refine lwp_succ (cwp_part rfl ?_)
    refine cwp_seq (cR ?_)
    refine oS [(13, .int .i64 y12), (14, .slice y9 y9n y9c), (15, .int .i64 (y9n : Int)), (16, .bool (decide (y12 < (y9n : Int))))] rfl ?_
    refine oE ?_
    refine cwp_condD (y12 < (y9n : Int)) (by kernel_rfl) (fun hc13 => ?_) (fun hc13 => ?_)
    · replace hM := ifT hc13 hM
      refine cwp_skip (thenE_n (cwp_seq (cwp_block (cR ?_))))
      refine oS [(6, .slice none 0 0), (7, .slice none 0 0)] rfl ?_
      refine oE (cwp_seq (cR ?_))
      refine oS [(19, .slice y9 y9n y9c), (20, .int .i64 y12)] rfl ?_
      obtain ⟨p16, rfl, hM⟩ := hM
      obtain ⟨hc14, hM⟩ := hM
      obtain ⟨hc15, hM⟩ := hM
      refine owp_rdG (.pointer (some (p16.add ((y12).toNat * 1)))) rfl (by kernel_rfl) (rd_ixS (P := Tryd.prog) (h := h) (t := 22) (el := 9) (sz := 1) (ad := p16) (len := y9n) (c := y9c) (k := .i64) (i := y12) (by kernel_rfl) (by kernel_rfl) hc14 hc15 (by kernel_rfl)) ?_
      obtain ⟨x17, hc18, hM⟩ := hM
      refine owp_rdG (.string x17) rfl (by kernel_rfl) (Eq.trans (b := (cellH h (p16.add ((y12).toNat * 1))).bind fun v19 => some (.value v19)) (by kernel_rfl) (bindE hc18 _)) ?_
      refine oS [(23, .bool (x17.toList == (⟨#[]⟩ : ByteArray).toList))] rfl ?_
      refine oE ?_
      refine cwp_condB (x17.toList == (⟨#[]⟩ : ByteArray).toList) (by kernel_rfl) (fun hc20 => ?_) (fun hc20 => ?_)
      · replace hM := ifT hc20 hM
        refine cR ?_
        refine oS [(24, .pointer y10)] rfl ?_
        refine owp_hpG rfl (by kernel_rfl) (hpCallE 10 #[.pointer y10] (by kernel_rfl) (keys_Decoder_Flush_ok y10 _ h hM) ?_)
        rintro _ h21 ⟨x22, x22n, x22c, rfl, hM⟩
        refine oS [(6, .slice x22 x22n x22c)] rfl ?_
        refine oE (cwp_region ?_)
        obtain ⟨x23, hc24, hM⟩ := hM
        refine owp_rdG (.agg #[.string x23]) rfl (by kernel_rfl) (Eq.trans (b := (cellH h21 ⟨y11, 0, none⟩).bind fun v25 => some (.value (.agg #[v25]))) (by kernel_rfl) (bindE hc24 _)) ?_
        refine owp_hpG rfl (by kernel_rfl) (hpCallE 11 #[.agg #[.string x23]] (by kernel_rfl) (ref21_Flush_ok x23 _ h21 hM) ?_)
        rintro _ h26 ⟨x27, x28, x28n, x28c, rfl, hM⟩
        refine oS [(26, .tuple #[.agg #[.string x27], .slice x28 x28n x28c]), (29, .agg #[.string x27]), (30, .slice x28 x28n x28c)] rfl ?_
        refine owp_hpD rfl (by kernel_rfl) (hpSt ⟨y11, 0, none⟩ [.string x27] (fun _ => by kernel_rfl) rfl hM ?_)
        intro h29 hM
        refine oS [(7, .slice x28 x28n x28c)] rfl ?_
        refine oE ?_
        refine cwp_of_part (fn := Tryd.f3) (p := [1, 1, 1, 1, 0, 1, 0, 0, 1, 0, 0, 1, 1]) (by kernel_rfl) (cwp_at 0 (.slice (some p16) y9n y9c) (by kernel_rfl) (cwp_at 3 (.pointer y10) (by kernel_rfl) (cwp_at 4 (.pointer (some ⟨y11, 0, none⟩)) (by kernel_rfl) (cwp_at 5 (.int .i64 y12) (by kernel_rfl) (cwp_at 6 (.slice x22 x22n x22c) (by kernel_rfl) (cwp_at 7 (.slice x28 x28n x28c) (by kernel_rfl) (law21_KeysFeeds_j1_ok _ ?_ _ ?_ (some p16) y9n y9c y10 y11 y12 x22 x22n x22c x28 x28n x28c _ _ hM)))))))
        · intro z92 z92n z92c z93 z94 z95 b97 h96 hM
          refine blockE_n (thenE_n (cwp_region ?_))
          refine oS [(17, .int .i64 z95), (18, .int .i64 (IntKind.wrap .i64 (z95 + 1))), (5, .int .i64 (IntKind.wrap .i64 (z95 + 1)))] rfl ?_
          refine owp_nil ?_
          exact lwp_at 0 (.slice z92 z92n z92c) (by kernel_rfl) (lwp_at 3 (.pointer z93) (by kernel_rfl) (lwp_at 4 (.pointer (some ⟨z94, 0, none⟩)) (by kernel_rfl) (lwp_at 5 (.int .i64 (IntKind.wrap .i64 (z95 + 1))) (by kernel_rfl) (ih z92 z92n z92c z93 z94 (IntKind.wrap .i64 (z95 + 1)) _ _ hM))))
        · intro z98 b101 h99 hM
          refine blockE_r (thenE_r ?_)
          exact q_at (Q := Q .ret) 2 (.bool z98) (by kernel_rfl) (hKr z98 _ _ hM)
      replace hM := ifF hc20 hM
      refine cR ?_
      refine oS [(31, .pointer y10), (32, .slice (some p16) y9n y9c), (33, .int .i64 y12)] rfl ?_
      obtain ⟨hc103, hM⟩ := hM
      obtain ⟨hc104, hM⟩ := hM
      refine owp_rdG (.pointer (some (p16.add ((y12).toNat * 1)))) rfl (by kernel_rfl) (rd_ixS (P := Tryd.prog) (h := h) (t := 22) (el := 9) (sz := 1) (ad := p16) (len := y9n) (c := y9c) (k := .i64) (i := y12) (by kernel_rfl) (by kernel_rfl) hc103 hc104 (by kernel_rfl)) ?_
      obtain ⟨x105, hc106, hM⟩ := hM
      refine owp_rdG (.string x105) rfl (by kernel_rfl) (Eq.trans (b := (cellH h (p16.add ((y12).toNat * 1))).bind fun v107 => some (.value v107)) (by kernel_rfl) (bindE hc106 _)) ?_
      refine owp_hpG rfl (by kernel_rfl) (hpCallE 12 #[.pointer y10, .string x105] (by kernel_rfl) (keys_Decoder_Feed_ok y10 x105 _ h hM) ?_)
      rintro _ h108 ⟨x109, x109n, x109c, rfl, hM⟩
      refine oS [(6, .slice x109 x109n x109c)] rfl ?_
      refine oE ?_
      refine cwp_draw (by kernel_rfl) ?_
      obtain ⟨x110, hc111, hM⟩ := hM
      refine k_load (i := 0) (.agg #[.string x110]) (fun h' => cellH h' ⟨y11, 0, none⟩ = some (.string x110) ∧ True) [5, 6, 7, 8, 9, 10] [5, 9] (by kernel_rfl) (by kernel_rfl) rfl rfl (by kernel_rfl) (fun h' hS => Eq.trans (b := (cellH h' ⟨y11, 0, none⟩).bind fun v113 => some (.value (.agg #[v113]))) (by kernel_rfl) (bindE hS.1 _)) ⟨hc111, trivial⟩ (by kernel_rfl) ?_
      refine k_pure (i := 1) [3, 4, 5, 6, 7, 8, 9, 10] (.slice (some p16) y9n y9c) (by kernel_rfl) rfl rfl (by kernel_rfl) (fun h' => by kernel_rfl) (by kernel_rfl) ?_
      refine k_pure (i := 2) [3, 4, 5, 6, 7, 8, 9, 10] (.int .i64 y12) (by kernel_rfl) rfl rfl (by kernel_rfl) (fun h' => by kernel_rfl) (by kernel_rfl) ?_
      obtain ⟨hc114, hM⟩ := hM
      obtain ⟨hc115, hM⟩ := hM
      refine k_pure (i := 3) [4, 5, 6, 7, 8, 9, 10] (.pointer (some (p16.add ((y12).toNat * 1)))) (by kernel_rfl) rfl rfl (by kernel_rfl) (fun h' => rd_ixS (P := Tryd.prog) (h := h') (t := 22) (el := 9) (sz := 1) (ad := p16) (len := y9n) (c := y9c) (k := .i64) (i := y12) (by kernel_rfl) (by kernel_rfl) hc114 hc115 (by kernel_rfl)) (by kernel_rfl) ?_
      obtain ⟨x116, hc117, hM⟩ := hM
      refine k_load (i := 4) (.string x116) (fun h' => cellH h' (p16.add ((y12).toNat * 1)) = some (.string x116) ∧ True) [5, 6, 7, 8, 9, 10] [5, 9] (by kernel_rfl) (by kernel_rfl) rfl rfl (by kernel_rfl) (fun h' hS => Eq.trans (b := (cellH h' (p16.add ((y12).toNat * 1))).bind fun v119 => some (.value v119)) (by kernel_rfl) (bindE hS.1 _)) ⟨hc117, trivial⟩ (by kernel_rfl) ?_
      refine k_eff (j := 5) (by kernel_rfl) rfl rfl (by kernel_rfl) (hpCallE 13 #[.agg #[.string x110], .string x116] (by kernel_rfl) (ref21_Feed_ok x110 x116 _ h108 hM) ?_)
      rintro _ h120 ⟨x121, x122, x122n, x122c, rfl, hM⟩
      refine ⟨trivial, ?_⟩
      refine k_pure (i := 6) [7, 8, 9, 10] (.tuple #[.agg #[.string x121], .slice x122 x122n x122c]) (by kernel_rfl) rfl rfl (by kernel_rfl) (fun h' => by kernel_rfl) (by kernel_rfl) ?_
      refine k_pure (i := 7) [9, 10] (.agg #[.string x121]) (by kernel_rfl) rfl rfl (by kernel_rfl) (fun h' => by kernel_rfl) (by kernel_rfl) ?_
      refine k_pure (i := 8) [10] (.slice x122 x122n x122c) (by kernel_rfl) rfl rfl (by kernel_rfl) (fun h' => by kernel_rfl) (by kernel_rfl) ?_
      refine k_effD (j := 9) (by kernel_rfl) rfl rfl (by kernel_rfl) (hpSt ⟨y11, 0, none⟩ [.string x121] (fun _ => by kernel_rfl) rfl hM ?_)
      intro h123 hM
      refine ⟨trivial, ?_⟩
      refine k_pure (i := 10) [] (.slice x122 x122n x122c) (by kernel_rfl) rfl rfl (by kernel_rfl) (fun h' => by kernel_rfl) (by kernel_rfl) ?_
      refine k_done (by kernel_rfl) ?_
      refine thenE_n ?_
      refine cwp_of_part (fn := Tryd.f3) (p := [1, 1, 1, 1, 0, 1, 0, 0, 1, 0, 0, 1, 1]) (by kernel_rfl) (cwp_at 0 (.slice (some p16) y9n y9c) (by kernel_rfl) (cwp_at 3 (.pointer y10) (by kernel_rfl) (cwp_at 4 (.pointer (some ⟨y11, 0, none⟩)) (by kernel_rfl) (cwp_at 5 (.int .i64 y12) (by kernel_rfl) (cwp_at 6 (.slice x109 x109n x109c) (by kernel_rfl) (cwp_at 7 (.slice x122 x122n x122c) (by kernel_rfl) (law21_KeysFeeds_j1_ok _ ?_ _ ?_ (some p16) y9n y9c y10 y11 y12 x109 x109n x109c x122 x122n x122c _ _ hM)))))))
      · intro z124 z124n z124c z125 z126 z127 b129 h128 hM
        refine blockE_n (thenE_n (cwp_region ?_))
        refine oS [(17, .int .i64 z127), (18, .int .i64 (IntKind.wrap .i64 (z127 + 1))), (5, .int .i64 (IntKind.wrap .i64 (z127 + 1)))] rfl ?_
        refine owp_nil ?_
        exact lwp_at 0 (.slice z124 z124n z124c) (by kernel_rfl) (lwp_at 3 (.pointer z125) (by kernel_rfl) (lwp_at 4 (.pointer (some ⟨z126, 0, none⟩)) (by kernel_rfl) (lwp_at 5 (.int .i64 (IntKind.wrap .i64 (z127 + 1))) (by kernel_rfl) (ih z124 z124n z124c z125 z126 (IntKind.wrap .i64 (z127 + 1)) _ _ hM))))
      · intro z130 b132 h131 hM
        refine blockE_r (thenE_r ?_)
        exact q_at (Q := Q .ret) 2 (.bool z130) (by kernel_rfl) (hKr z130 _ _ hM)
    replace hM := ifF hc13 hM
    refine cwp_exit (thenE_x ?_)
    exact hK0  _ _ hM
def law21_KeysFeeds (a1 : Option Addr) (a1n : Nat) (a1c : Nat) (K : Bool → Heap → Prop) (h : Heap) : Prop :=
 keys_New  (fun x3 h2 =>
  newB h2 #[.string (⟨#[]⟩ : ByteArray)] 26 fun b4 h5 =>
  stN ⟨b4, 0, none⟩ [.string (⟨#[]⟩ : ByteArray)] 0 h5 fun h7 =>
  if x3.isNone = true then
   K false h7
  else
  ∃ k143, law21_KeysFeeds_l0
   (fun  h136 =>
     law21_sure  (fun x138 h137 =>
         K x138 h137) h136)
   (fun z140 h141 =>
        K z140 h141) k143 a1 a1n a1c x3 b4 0 h7) h
theorem law21_KeysFeeds_ok (a1 : Option Addr) (a1n : Nat) (a1c : Nat) (K : Bool → Heap → Prop) (h : Heap) (hM : law21_KeysFeeds a1 a1n a1c K h) : CallsH Tryd.prog 3 #[.slice a1 a1n a1c] (fun v h' => ∃ (r144 : Bool), v = .bool r144 ∧ K r144 h') h := by
 unfold law21_KeysFeeds at hM
 refine callsH_intro (n := 68) Tryd.func3 rfl rfl (by kernel_rfl) ?_
 refine cR ?_
 refine oS [(2, .bool false)] rfl ?_
 refine oE (cR ?_)
 refine owp_hpG rfl (by kernel_rfl) (hpCallE 9 #[] (by kernel_rfl) (keys_New_ok  _ h hM) ?_)
 rintro _ h2 ⟨x3, rfl, hM⟩
 refine oS [(3, .pointer x3)] rfl ?_
 refine oE (cR ?_)
 refine oS [(10, .agg #[.string (⟨#[]⟩ : ByteArray)])] rfl ?_
 refine owp_hpG rfl (by kernel_rfl) (hpNew #[.string (⟨#[]⟩ : ByteArray)] 26 (fun _ => by kernel_rfl) ?_)
 intro b4 h5 hN6
 replace hM := newB_of hN6 hM
 refine owp_hpD rfl (by kernel_rfl) (hpSt ⟨b4, 0, none⟩ [.string (⟨#[]⟩ : ByteArray)] (fun _ => by kernel_rfl) rfl hM ?_)
 intro h7 hM
 refine oE (cwp_seq (cR ?_))
 refine oS [(11, .pointer x3)] rfl ?_
 refine owp_rdG (.bool x3.isNone) rfl (by kernel_rfl) (rd_eqNil (P := Tryd.prog) (h := h7) (t := 23) (el := 53) (by kernel_rfl) (by kernel_rfl)) ?_
 refine oE ?_
 refine cwp_condB x3.isNone (by kernel_rfl) (fun hc8 => ?_) (fun hc8 => ?_)
 · replace hM := ifT hc8 hM
   refine cR ?_
   refine oS [(2, .bool false)] rfl ?_
   refine oE (cwp_ret (thenE_r ?_))
   exact ret_ (.bool false) (by kernel_rfl) ⟨_, rfl, hM⟩
 replace hM := ifF hc8 hM
 refine cwp_skip (thenE_n (cwp_seq (cR ?_)))
 refine oS [(5, .int .i64 0)] rfl ?_
 refine oE (cwp_block ?_)
 obtain ⟨k_, hM⟩ := hM
 refine cwp_loop k_ (lwp_of_part (fn := Tryd.f3) (p := [1, 1, 1, 1, 0, 1, 0, 0]) (by kernel_rfl) (lwp_at 0 (.slice a1 a1n a1c) (by kernel_rfl) (lwp_at 3 (.pointer x3) (by kernel_rfl) (lwp_at 4 (.pointer (some ⟨b4, 0, none⟩)) (by kernel_rfl) (lwp_at 5 (.int .i64 0) (by kernel_rfl) (law21_KeysFeeds_l0_ok _ ?_ _ ?_ k_ a1 a1n a1c x3 b4 0 _ _ hM))))))
 · intro  b139 h136 hM
   refine blockE_h (thenE_n (cR ?_))
   refine owp_hpG rfl (by kernel_rfl) (hpCallE 16 #[] (by kernel_rfl) (law21_sure_ok  _ h136 hM) ?_)
   rintro _ h137 ⟨x138, rfl, hM⟩
   refine oS [(2, .bool x138)] rfl ?_
   refine oE (cwp_ret ?_)
   exact ret_ (.bool x138) (by kernel_rfl) ⟨_, rfl, hM⟩
 · intro z140 b142 h141 hM
   refine blockE_r (thenE_r ?_)
   exact ret_ (.bool z140) (by kernel_rfl) ⟨_, rfl, hM⟩
/- mullion/mullionlaw21.KeysPieces -/
def law21_KeysPieces_l2 (K0 : Heap → Prop) (Kr : Bool → Heap → Prop) : Nat → Option Addr → Nat → Nat → Int → Heap → Prop
  | 0, _, _, _, _, _ => False
  | k + 1, y67, y67n, y67c, y68, h =>
  if y68 < (y67n : Int) then
   nz y67 fun p72 =>
   0 ≤ y68 ∧
   y68 < (y67n : Int) ∧
   ldI h .i64 (p72.add ((y68).toNat * 2)) fun x73 =>
   ldI h .i64 ((p72.add ((y68).toNat * 2)).add 1) fun x75 =>
   if (!(keys_Valid x73 x75)) = true then
    gap h fun h79 =>
    Kr false h79
   else
   gap h fun h79 =>
   law21_KeysPieces_l2 K0 Kr k (some p72) y67n y67c (IntKind.wrap .i64 (y68 + 1)) h79
  else
  K0  h
theorem law21_KeysPieces_l2_ok {Q : Exit → Env → Heap → Prop} (K0 : Heap → Prop) (hK0 : ∀  (b : Env) (h : Heap), K0  h → Q (.exit 0) b h) (Kr : Bool → Heap → Prop) (hKr : ∀ (z84 : Bool) (b : Env) (h : Heap), Kr z84 h → Q .ret (upd b 4 (.bool z84)) h) : ∀ (k : Nat) (y67 : Option Addr) (y67n : Nat) (y67c : Nat) (y68 : Int) (b : Env) (h : Heap) (hM : law21_KeysPieces_l2 K0 Kr k y67 y67n y67c y68 h), lwp Tryd.prog (partC Tryd.f4 [1, 1, 1, 1, 1, 1, 1, 1, 1, 0, 1, 0, 0]) 89 Q k (upd (upd b 7 (.slice y67 y67n y67c)) 10 (.int .i64 y68)) h := by
  intro k
  induction k with
  | zero => intro y67 y67n y67c y68 b h hM; exact (show False from hM).elim
  | succ k ih =>
    intro y67 y67n y67c y68 b h hM
    unfold law21_KeysPieces_l2 at hM
    refine lwp_succ (cwp_part rfl ?_)
    refine cwp_seq (cR ?_)
    refine oS [(76, .int .i64 y68), (77, .slice y67 y67n y67c), (78, .int .i64 (y67n : Int)), (79, .bool (decide (y68 < (y67n : Int))))] rfl ?_
    refine oE ?_
    refine cwp_condD (y68 < (y67n : Int)) (by kernel_rfl) (fun hc69 => ?_) (fun hc69 => ?_)
    · replace hM := ifT hc69 hM
      refine cwp_skip (thenE_n (cwp_seq (cwp_block (cR ?_))))
      refine oS [(82, .slice y67 y67n y67c), (83, .int .i64 y68)] rfl ?_
      obtain ⟨p72, rfl, hM⟩ := hM
      obtain ⟨hc70, hM⟩ := hM
      obtain ⟨hc71, hM⟩ := hM
      refine owp_rdG (.pointer (some (p72.add ((y68).toNat * 2)))) rfl (by kernel_rfl) (rd_ixS (P := Tryd.prog) (h := h) (t := 27) (el := 36) (sz := 2) (ad := p72) (len := y67n) (c := y67c) (k := .i64) (i := y68) (by kernel_rfl) (by kernel_rfl) hc70 hc71 (by kernel_rfl)) ?_
      obtain ⟨x73, hc74, hM⟩ := hM
      obtain ⟨x75, hc76, hM⟩ := hM
      refine owp_rdG (.agg #[.int .i64 x73, .int .i64 x75]) rfl (by kernel_rfl) (Eq.trans (b := (cellH h (p72.add ((y68).toNat * 2))).bind fun v77 => (cellH h ((p72.add ((y68).toNat * 2)).add 1)).bind fun v78 => some (.value (.agg #[v77, v78]))) (by kernel_rfl) ((bindE hc74 _).trans (bindE hc76 _))) ?_
      refine owp_hpG rfl (by kernel_rfl) (hpCallP 17 #[.agg #[.int .i64 x73, .int .i64 x75]] (.bool (keys_Valid x73 x75)) (by kernel_rfl) (keys_Valid_ok x73 x75 _ h rfl) ?_)
      intro h79 hx80
      refine oS [(87, .bool (!(keys_Valid x73 x75)))] rfl ?_
      refine oE ?_
      refine cwp_condB (!(keys_Valid x73 x75)) (by kernel_rfl) (fun hc81 => ?_) (fun hc81 => ?_)
      · replace hM := ifT hc81 hM
        refine cR ?_
        refine oS [(4, .bool false)] rfl ?_
        refine oE (cwp_ret (blockE_r (thenE_r ?_)))
        replace hM := hM _ hx80
        exact q_at (Q := Q .ret) 4 (.bool false) (by kernel_rfl) (hKr false _ _ hM)
      replace hM := ifF hc81 hM
      refine cwp_skip (blockE_n (thenE_n (cwp_region ?_)))
      refine oS [(80, .int .i64 y68), (81, .int .i64 (IntKind.wrap .i64 (y68 + 1))), (10, .int .i64 (IntKind.wrap .i64 (y68 + 1)))] rfl ?_
      refine owp_nil ?_
      replace hM := hM _ hx80
      exact lwp_at 7 (.slice (some p72) y67n y67c) (by kernel_rfl) (lwp_at 10 (.int .i64 (IntKind.wrap .i64 (y68 + 1))) (by kernel_rfl) (ih (some p72) y67n y67c (IntKind.wrap .i64 (y68 + 1)) _ _ hM))
    replace hM := ifF hc69 hM
    refine cwp_exit (thenE_x ?_)
    exact hK0  _ _ hM
def law21_KeysPieces_j1 (Kr : Bool → Heap → Prop) (y39 : ByteArray) (y40 : Option Addr) (y41 : Option Addr) (y42 : Option Addr) (y42n : Nat) (y42c : Nat) (y43 : Option Addr) (y43n : Nat) (y43c : Nat) (h : Heap) : Prop :=
 keys_Decoder_Held y40 (fun x45 h44 =>
  law21_same y42 y42n y42c y43 y43n y43c (fun x47 h46 =>
   if (!x47) = true then
    Kr false h46
   else
   keys_Decoder_Held y41 (fun x53 h52 =>
    (((!(x45.toList == x53.toList)) || (decide ((y39.size : Int) < (x45.size : Int)))) = false → 0 ≤ (IntKind.wrap .i64 ((y39.size : Int) - (x45.size : Int)))) ∧
    (((!(x45.toList == x53.toList)) || (decide ((y39.size : Int) < (x45.size : Int)))) = false → (IntKind.wrap .i64 ((y39.size : Int) - (x45.size : Int))) ≤ (y39.size : Int)) ∧
    if (((!(x45.toList == x53.toList)) || (decide ((y39.size : Int) < (x45.size : Int)))) || (!((y39.extract ((IntKind.wrap .i64 ((y39.size : Int) - (x45.size : Int))).toNat) y39.size).toList == x45.toList))) = true then
     Kr false h52
    else
    ∃ k92, law21_KeysPieces_l2
     (fun  h85 =>
       law21_sure  (fun x87 h86 =>
           Kr x87 h86) h85)
     (fun z89 h90 =>
            Kr z89 h90) k92 y42 y42n y42c 0 h52) h46) h44) h
theorem law21_KeysPieces_j1_ok {Q : Exit → Env → Heap → Prop} (Kr : Bool → Heap → Prop) (hKr : ∀ (z94 : Bool) (b : Env) (h : Heap), Kr z94 h → Q .ret (upd b 4 (.bool z94)) h) (y39 : ByteArray) (y40 : Option Addr) (y41 : Option Addr) (y42 : Option Addr) (y42n : Nat) (y42c : Nat) (y43 : Option Addr) (y43n : Nat) (y43c : Nat) (b : Env) (h : Heap) (hM : law21_KeysPieces_j1 Kr y39 y40 y41 y42 y42n y42c y43 y43n y43c h) : cwp Tryd.prog (partC Tryd.f4 [1, 1, 1, 1, 1, 1, 1]) 89 Q (upd (upd (upd (upd (upd b 0 (.string y39)) 5 (.pointer y40)) 6 (.pointer y41)) 7 (.slice y42 y42n y42c)) 8 (.slice y43 y43n y43c)) h := by
  unfold law21_KeysPieces_j1 at hM
  refine cwp_part rfl ?_
  refine cR ?_
  refine oS [(46, .pointer y40)] rfl ?_
  refine owp_hpG rfl (by kernel_rfl) (hpCallE 15 #[.pointer y40] (by kernel_rfl) (keys_Decoder_Held_ok y40 _ h hM) ?_)
  rintro _ h44 ⟨x45, rfl, hM⟩
  refine oS [(9, .string x45)] rfl ?_
  refine oE (cwp_seq (cR ?_))
  refine oS [(48, .slice y42 y42n y42c), (49, .slice y43 y43n y43c)] rfl ?_
  refine owp_hpG rfl (by kernel_rfl) (hpCallE 14 #[.slice y42 y42n y42c, .slice y43 y43n y43c] (by kernel_rfl) (law21_same_ok y42 y42n y42c y43 y43n y43c _ h44 hM) ?_)
  rintro _ h46 ⟨x47, rfl, hM⟩
  refine oS [(51, .bool (!x47)), (52, .bool (!x47))] rfl ?_
  by_cases hc50 : (!x47) = true
  · refine owp_at 51 (.bool true) (Eq.trans (b := .bool (!x47)) (by kernel_rfl) (by rw [hc50])) ?_
    refine owp_at 52 (.bool true) (Eq.trans (b := .bool (!x47)) (by kernel_rfl) (by rw [hc50])) ?_
    replace hM := ifT hc50 hM
    refine oS [(53, undef), (54, undef), (55, undef), (56, undef), (57, .bool true), (58, .bool true), (59, undef), (60, undef), (61, undef), (62, undef), (63, undef), (64, .bool true), (65, .bool true), (66, undef), (67, undef), (68, undef), (69, undef), (70, undef), (71, undef), (72, undef), (73, undef), (74, undef), (75, .bool true)] rfl ?_
    refine oE ?_
    refine cwp_cond (t := true) (by kernel_rfl) (fun hx_ => ?_) (fun hx_ => ?_)
    all_goals first | (cases hx_; done) | skip
    refine cR ?_
    refine oS [(4, .bool false)] rfl ?_
    refine oE (cwp_ret (thenE_r ?_))
    exact q_at (Q := Q .ret) 4 (.bool false) (by kernel_rfl) (hKr false _ _ hM)
  refine owp_at 51 (.bool false) (Eq.trans (b := .bool (!x47)) (by kernel_rfl) (by rw [Bool.eq_false_iff.2 hc50])) ?_
  refine owp_at 52 (.bool false) (Eq.trans (b := .bool (!x47)) (by kernel_rfl) (by rw [Bool.eq_false_iff.2 hc50])) ?_
  replace hM := ifF hc50 hM
  refine oS [(53, .string x45), (54, .pointer y41)] rfl ?_
  refine owp_hpG rfl (by kernel_rfl) (hpCallE 15 #[.pointer y41] (by kernel_rfl) (keys_Decoder_Held_ok y41 _ h46 hM) ?_)
  rintro _ h52 ⟨x53, rfl, hM⟩
  refine oS [(56, .bool (!(x45.toList == x53.toList))), (57, .bool (!(x45.toList == x53.toList))), (58, .bool (!(x45.toList == x53.toList)))] rfl ?_
  refine oB (!(x45.toList == x53.toList)) 6 [56, 57, 58] (fun b_ => [(59, iteV b_ undef (.string x45 : Value)), (60, iteV b_ undef (.int .i64 (x45.size : Int) : Value)), (61, iteV b_ undef (.string y39 : Value)), (62, iteV b_ undef (.int .i64 (y39.size : Int) : Value)), (63, iteV b_ undef (.bool (decide ((y39.size : Int) < (x45.size : Int))) : Value)), (64, .bool (b_ || (decide ((y39.size : Int) < (x45.size : Int)))))]) rfl (fun hb54 hq55 => oS [(59, undef), (60, undef), (61, undef), (62, undef), (63, undef), (64, .bool true)] rfl (hq55)) (fun hb56 hq57 => oS [(59, .string x45), (60, .int .i64 (x45.size : Int)), (61, .string y39), (62, .int .i64 (y39.size : Int)), (63, .bool (decide ((y39.size : Int) < (x45.size : Int)))), (64, .bool (decide ((y39.size : Int) < (x45.size : Int))))] rfl (hq57)) ?_
  refine oS [(65, .bool ((!(x45.toList == x53.toList)) || (decide ((y39.size : Int) < (x45.size : Int)))))] rfl ?_
  obtain ⟨hc64, hM⟩ := hM
  obtain ⟨hc65, hM⟩ := hM
  refine oB ((!(x45.toList == x53.toList)) || (decide ((y39.size : Int) < (x45.size : Int)))) 10 [64, 65] (fun b_ => [(66, iteV b_ undef (.string y39 : Value)), (67, iteV b_ undef (.string y39 : Value)), (68, iteV b_ undef (.int .i64 (y39.size : Int) : Value)), (69, iteV b_ undef (.string x45 : Value)), (70, iteV b_ undef (.int .i64 (x45.size : Int) : Value)), (71, iteV b_ undef (.int .i64 (IntKind.wrap .i64 ((y39.size : Int) - (x45.size : Int))) : Value)), (72, iteV b_ undef (.string (y39.extract ((IntKind.wrap .i64 ((y39.size : Int) - (x45.size : Int))).toNat) y39.size) : Value)), (73, iteV b_ undef (.string x45 : Value)), (74, iteV b_ undef (.bool (!((y39.extract ((IntKind.wrap .i64 ((y39.size : Int) - (x45.size : Int))).toNat) y39.size).toList == x45.toList)) : Value)), (75, .bool (b_ || (!((y39.extract ((IntKind.wrap .i64 ((y39.size : Int) - (x45.size : Int))).toNat) y39.size).toList == x45.toList))))]) rfl (fun hb60 hq61 => oS [(66, undef), (67, undef), (68, undef), (69, undef), (70, undef), (71, undef), (72, undef), (73, undef), (74, undef), (75, .bool true)] rfl (hq61)) (fun hb62 hq63 => have hc58 := hc64 hb62; have hc59 := hc65 hb62; oS [(66, .string y39), (67, .string y39), (68, .int .i64 (y39.size : Int)), (69, .string x45), (70, .int .i64 (x45.size : Int)), (71, .int .i64 (IntKind.wrap .i64 ((y39.size : Int) - (x45.size : Int))))] rfl (owp_rdG (.string (y39.extract ((IntKind.wrap .i64 ((y39.size : Int) - (x45.size : Int))).toNat) y39.size)) rfl (by kernel_rfl) (rd_slLo (P := Tryd.prog) (h := h52) (t := 9) (s := y39) (k := .i64) (i := (IntKind.wrap .i64 ((y39.size : Int) - (x45.size : Int)))) (by kernel_rfl) hc58 hc59 (by kernel_rfl)) (oS [(73, .string x45), (74, .bool (!((y39.extract ((IntKind.wrap .i64 ((y39.size : Int) - (x45.size : Int))).toNat) y39.size).toList == x45.toList))), (75, .bool (!((y39.extract ((IntKind.wrap .i64 ((y39.size : Int) - (x45.size : Int))).toNat) y39.size).toList == x45.toList)))] rfl (hq63)))) ?_
  refine oE ?_
  refine cwp_condB (((!(x45.toList == x53.toList)) || (decide ((y39.size : Int) < (x45.size : Int)))) || (!((y39.extract ((IntKind.wrap .i64 ((y39.size : Int) - (x45.size : Int))).toNat) y39.size).toList == x45.toList))) (by kernel_rfl) (fun hc66 => ?_) (fun hc66 => ?_)
  · replace hM := ifT hc66 hM
    refine cR ?_
    refine oS [(4, .bool false)] rfl ?_
    refine oE (cwp_ret (thenE_r ?_))
    exact q_at (Q := Q .ret) 4 (.bool false) (by kernel_rfl) (hKr false _ _ hM)
  replace hM := ifF hc66 hM
  refine cwp_skip (thenE_n (cwp_seq (cR ?_)))
  refine oS [(10, .int .i64 0)] rfl ?_
  refine oE (cwp_block ?_)
  obtain ⟨k_, hM⟩ := hM
  refine cwp_loop k_ (lwp_of_part (fn := Tryd.f4) (p := [1, 1, 1, 1, 1, 1, 1, 1, 1, 0, 1, 0, 0]) (by kernel_rfl) (lwp_at 7 (.slice y42 y42n y42c) (by kernel_rfl) (lwp_at 10 (.int .i64 0) (by kernel_rfl) (law21_KeysPieces_l2_ok _ ?_ _ ?_ k_ y42 y42n y42c 0 _ _ hM))))
  · intro  b88 h85 hM
    refine blockE_h (thenE_n (cR ?_))
    refine owp_hpG rfl (by kernel_rfl) (hpCallE 16 #[] (by kernel_rfl) (law21_sure_ok  _ h85 hM) ?_)
    rintro _ h86 ⟨x87, rfl, hM⟩
    refine oS [(4, .bool x87)] rfl ?_
    refine oE (cwp_ret ?_)
    exact q_at (Q := Q .ret) 4 (.bool x87) (by kernel_rfl) (hKr x87 _ _ hM)
  · intro z89 b91 h90 hM
    refine blockE_r (thenE_r ?_)
    exact q_at (Q := Q .ret) 4 (.bool z89) (by kernel_rfl) (hKr z89 _ _ hM)
def law21_KeysPieces_j0 (Kr : Bool → Heap → Prop) (y8 : ByteArray) (y9 : Int) (h : Heap) : Prop :=
 keys_New  (fun x11 h10 =>
  keys_New  (fun x13 h12 =>
   if (x11.isNone || x13.isNone) = true then
    Kr false h12
   else
   keys_Decoder_Feed x11 y8 (fun x21 x21n x21c h20 =>
    0 ≤ y9 ∧
    y9 ≤ (y8.size : Int) ∧
    0 ≤ y9 ∧
    y9 ≤ (y8.size : Int) ∧
    (newB h20 #[] 36 fun b26 h27 =>
    keys_Decoder_Feed x13 (y8.extract 0 y9.toNat) (fun x30 x30n x30c h29 =>
     appS h29 36 16 [.int .i64 0, .int .i64 0] (some ⟨b26, 0, none⟩) 0 0 x30 x30n fun s32 s32c h31 =>
     keys_Decoder_Feed x13 (y8.extract y9.toNat y8.size) (fun x35 x35n x35c h34 =>
      appS h34 36 16 [.int .i64 0, .int .i64 0] s32 (0 + x30n) s32c x35 x35n fun s37 s37c h36 =>
      law21_KeysPieces_j1
       (fun z95 h96 =>
             Kr z95 h96) y8 x11 x13 x21 x21n x21c s37 ((0 + x30n) + x35n) s37c h36) h31) h27) ∧
    keys_Decoder_Feed x13 (y8.extract 0 y9.toNat) (fun x100 x100n x100c h99 =>
     newB h99 #[] 36 fun b101 h102 =>
     appS h102 36 16 [.int .i64 0, .int .i64 0] (some ⟨b101, 0, none⟩) 0 0 x100 x100n fun s105 s105c h104 =>
     keys_Decoder_Feed x13 (y8.extract y9.toNat y8.size) (fun x108 x108n x108c h107 =>
      appS h107 36 16 [.int .i64 0, .int .i64 0] s105 (0 + x100n) s105c x108 x108n fun s110 s110c h109 =>
      law21_KeysPieces_j1
       (fun z112 h113 =>
                Kr z112 h113) y8 x11 x13 x21 x21n x21c s110 ((0 + x100n) + x108n) s110c h109) h104) h20) h12) h10) h
theorem law21_KeysPieces_j0_ok {Q : Exit → Env → Heap → Prop} (Kr : Bool → Heap → Prop) (hKr : ∀ (z117 : Bool) (b : Env) (h : Heap), Kr z117 h → Q .ret (upd b 4 (.bool z117)) h) (y8 : ByteArray) (y9 : Int) (b : Env) (h : Heap) (hM : law21_KeysPieces_j0 Kr y8 y9 h) : cwp Tryd.prog (partC Tryd.f4 [1, 1]) 89 Q (upd (upd b 0 (.string y8)) 1 (.int .i64 y9)) h := by
  unfold law21_KeysPieces_j0 at hM
  refine cwp_part rfl ?_
  refine cR ?_
  refine owp_hpG rfl (by kernel_rfl) (hpCallE 9 #[] (by kernel_rfl) (keys_New_ok  _ h hM) ?_)
  rintro _ h10 ⟨x11, rfl, hM⟩
  refine oS [(5, .pointer x11)] rfl ?_
  refine oE (cR ?_)
  refine owp_hpG rfl (by kernel_rfl) (hpCallE 9 #[] (by kernel_rfl) (keys_New_ok  _ h10 hM) ?_)
  rintro _ h12 ⟨x13, rfl, hM⟩
  refine oS [(6, .pointer x13)] rfl ?_
  refine oE (cwp_seq (cR ?_))
  refine oS [(24, .pointer x11)] rfl ?_
  refine owp_rdG (.bool x11.isNone) rfl (by kernel_rfl) (rd_eqNil (P := Tryd.prog) (h := h12) (t := 23) (el := 53) (by kernel_rfl) (by kernel_rfl)) ?_
  refine oS [(26, .bool x11.isNone)] rfl ?_
  refine oB (x11.isNone) 3 [25, 26] (fun b_ => [(27, iteV b_ undef (.pointer x13 : Value)), (28, iteV b_ undef (.bool x13.isNone : Value)), (29, .bool (b_ || x13.isNone))]) rfl (fun hb14 hq15 => oS [(27, undef), (28, undef), (29, .bool true)] rfl (hq15)) (fun hb16 hq17 => oS [(27, .pointer x13)] rfl (owp_rdG (.bool x13.isNone) rfl (by kernel_rfl) (rd_eqNil (P := Tryd.prog) (h := h12) (t := 23) (el := 53) (by kernel_rfl) (by kernel_rfl)) (oS [(29, .bool x13.isNone)] rfl (hq17)))) ?_
  refine oE ?_
  refine cwp_condB (x11.isNone || x13.isNone) (by kernel_rfl) (fun hc18 => ?_) (fun hc18 => ?_)
  · replace hM := ifT hc18 hM
    refine cR ?_
    refine oS [(4, .bool false)] rfl ?_
    refine oE (cwp_ret (thenE_r ?_))
    exact q_at (Q := Q .ret) 4 (.bool false) (by kernel_rfl) (hKr false _ _ hM)
  replace hM := ifF hc18 hM
  refine cwp_skip (thenE_n (cR ?_))
  refine oS [(30, .pointer x11), (31, .string y8)] rfl ?_
  refine owp_hpG rfl (by kernel_rfl) (hpCallE 12 #[.pointer x11, .string y8] (by kernel_rfl) (keys_Decoder_Feed_ok x11 y8 _ h12 hM) ?_)
  rintro _ h20 ⟨x21, x21n, x21c, rfl, hM⟩
  refine oS [(7, .slice x21 x21n x21c)] rfl ?_
  refine oE (cwp_seq ?_)
  refine cwp_draw (by kernel_rfl) ?_
  refine k_pure (i := 1) [5, 6, 11, 12, 13] (.pointer x13) (by kernel_rfl) rfl rfl (by kernel_rfl) (fun h' => by kernel_rfl) (by kernel_rfl) ?_
  refine k_pure (i := 2) [4, 5, 6, 11, 12, 13] (.string y8) (by kernel_rfl) rfl rfl (by kernel_rfl) (fun h' => by kernel_rfl) (by kernel_rfl) ?_
  refine k_pure (i := 3) [4, 5, 6, 11, 12, 13] (.int .i64 y9) (by kernel_rfl) rfl rfl (by kernel_rfl) (fun h' => by kernel_rfl) (by kernel_rfl) ?_
  obtain ⟨hc22, hM⟩ := hM
  obtain ⟨hc23, hM⟩ := hM
  refine k_pure (i := 4) [5, 6, 11, 12, 13] (.string (y8.extract 0 y9.toNat)) (by kernel_rfl) rfl rfl (by kernel_rfl) (fun h' => rd_slHi (P := Tryd.prog) (h := h') (t := 9) (s := y8) (k := .i64) (i := y9) (by kernel_rfl) hc22 hc23 (by kernel_rfl)) (by kernel_rfl) ?_
  refine k_pure (i := 7) [11, 12, 13] (.pointer x13) (by kernel_rfl) rfl rfl (by kernel_rfl) (fun h' => by kernel_rfl) (by kernel_rfl) ?_
  refine k_pure (i := 8) [10, 11, 12, 13] (.string y8) (by kernel_rfl) rfl rfl (by kernel_rfl) (fun h' => by kernel_rfl) (by kernel_rfl) ?_
  refine k_pure (i := 9) [10, 11, 12, 13] (.int .i64 y9) (by kernel_rfl) rfl rfl (by kernel_rfl) (fun h' => by kernel_rfl) (by kernel_rfl) ?_
  obtain ⟨hc24, hM⟩ := hM
  obtain ⟨hc25, hM⟩ := hM
  refine k_pure (i := 10) [11, 12, 13] (.string (y8.extract y9.toNat y8.size)) (by kernel_rfl) rfl rfl (by kernel_rfl) (fun h' => rd_slLo (P := Tryd.prog) (h := h') (t := 9) (s := y8) (k := .i64) (i := y9) (by kernel_rfl) hc24 hc25 (by kernel_rfl)) (by kernel_rfl) ?_
  refine k_step2 (j := 0) (k := 5) (by kernel_rfl) ?_ ?_
  · replace hM := hM.1
    refine step_val (j := 0) rfl rfl (by kernel_rfl) (hpNewS #[] 36 0 (fun _ => by kernel_rfl) ?_)
    intro b26 h27 hN28
    replace hM := newB_of hN28 hM
    refine ⟨trivial, ?_⟩
    refine k_eff (j := 5) (by kernel_rfl) rfl rfl (by kernel_rfl) (hpCallE 12 #[.pointer x13, .string (y8.extract 0 y9.toNat)] (by kernel_rfl) (keys_Decoder_Feed_ok x13 (y8.extract 0 y9.toNat) _ h27 hM) ?_)
    rintro _ h29 ⟨x30, x30n, x30c, rfl, hM⟩
    refine ⟨trivial, ?_⟩
    obtain ⟨nw33, nw331, nw332, nw333, hM⟩ := hM
    refine k_eff (j := 6) (by kernel_rfl) rfl rfl (by kernel_rfl) (hpApp (t := 27) (ty := 27) (et := 36) (zv := .agg #[.int .i64 0, .int .i64 0]) (sz := 2) (by_ := 16) (base := (some ⟨b26, 0, none⟩)) (n' := 0) (c := 0) (xb := x30) (m := x30n) (xc := x30c) (new := nw33) (fun _ => by kernel_rfl) (by kernel_rfl) (by kernel_rfl) [.int .i64 0, .int .i64 0] rfl rfl (by decide) nw331 nw332 nw333 hM ?_)
    intro s32 s32c h31 hM
    refine ⟨trivial, ?_⟩
    refine k_eff (j := 11) (by kernel_rfl) rfl rfl (by kernel_rfl) (hpCallE 12 #[.pointer x13, .string (y8.extract y9.toNat y8.size)] (by kernel_rfl) (keys_Decoder_Feed_ok x13 (y8.extract y9.toNat y8.size) _ h31 hM) ?_)
    rintro _ h34 ⟨x35, x35n, x35c, rfl, hM⟩
    refine ⟨trivial, ?_⟩
    obtain ⟨nw38, nw381, nw382, nw383, hM⟩ := hM
    refine k_eff (j := 12) (by kernel_rfl) rfl rfl (by kernel_rfl) (hpApp (t := 27) (ty := 27) (et := 36) (zv := .agg #[.int .i64 0, .int .i64 0]) (sz := 2) (by_ := 16) (base := s32) (n' := (0 + x30n)) (c := s32c) (xb := x35) (m := x35n) (xc := x35c) (new := nw38) (fun _ => by kernel_rfl) (by kernel_rfl) (by kernel_rfl) [.int .i64 0, .int .i64 0] rfl rfl (by decide) nw381 nw382 nw383 hM ?_)
    intro s37 s37c h36 hM
    refine ⟨trivial, ?_⟩
    refine k_pure (i := 13) [] (.slice s37 ((0 + x30n) + x35n) s37c) (by kernel_rfl) rfl rfl (by kernel_rfl) (fun h' => by kernel_rfl) (by kernel_rfl) ?_
    refine k_done (by kernel_rfl) ?_
    refine thenE_n ?_
    refine cwp_of_part (fn := Tryd.f4) (p := [1, 1, 1, 1, 1, 1, 1]) (by kernel_rfl) (cwp_at 0 (.string y8) (by kernel_rfl) (cwp_at 5 (.pointer x11) (by kernel_rfl) (cwp_at 6 (.pointer x13) (by kernel_rfl) (cwp_at 7 (.slice x21 x21n x21c) (by kernel_rfl) (cwp_at 8 (.slice s37 ((0 + x30n) + x35n) s37c) (by kernel_rfl) (law21_KeysPieces_j1_ok _ ?_ y8 x11 x13 x21 x21n x21c s37 ((0 + x30n) + x35n) s37c _ _ hM))))))
    · intro z95 b97 h96 hM
      exact q_at (Q := Q .ret) 4 (.bool z95) (by kernel_rfl) (hKr z95 _ _ hM)
  · replace hM := hM.2
    refine step_val (j := 5) rfl rfl (by kernel_rfl) (hpCallE 12 #[.pointer x13, .string (y8.extract 0 y9.toNat)] (by kernel_rfl) (keys_Decoder_Feed_ok x13 (y8.extract 0 y9.toNat) _ h20 hM) ?_)
    rintro _ h99 ⟨x100, x100n, x100c, rfl, hM⟩
    refine ⟨trivial, ?_⟩
    refine k_eff (j := 0) (by kernel_rfl) rfl rfl (by kernel_rfl) (hpNewS #[] 36 0 (fun _ => by kernel_rfl) ?_)
    intro b101 h102 hN103
    replace hM := newB_of hN103 hM
    refine ⟨trivial, ?_⟩
    obtain ⟨nw106, nw1061, nw1062, nw1063, hM⟩ := hM
    refine k_eff (j := 6) (by kernel_rfl) rfl rfl (by kernel_rfl) (hpApp (t := 27) (ty := 27) (et := 36) (zv := .agg #[.int .i64 0, .int .i64 0]) (sz := 2) (by_ := 16) (base := (some ⟨b101, 0, none⟩)) (n' := 0) (c := 0) (xb := x100) (m := x100n) (xc := x100c) (new := nw106) (fun _ => by kernel_rfl) (by kernel_rfl) (by kernel_rfl) [.int .i64 0, .int .i64 0] rfl rfl (by decide) nw1061 nw1062 nw1063 hM ?_)
    intro s105 s105c h104 hM
    refine ⟨trivial, ?_⟩
    refine k_eff (j := 11) (by kernel_rfl) rfl rfl (by kernel_rfl) (hpCallE 12 #[.pointer x13, .string (y8.extract y9.toNat y8.size)] (by kernel_rfl) (keys_Decoder_Feed_ok x13 (y8.extract y9.toNat y8.size) _ h104 hM) ?_)
    rintro _ h107 ⟨x108, x108n, x108c, rfl, hM⟩
    refine ⟨trivial, ?_⟩
    obtain ⟨nw111, nw1111, nw1112, nw1113, hM⟩ := hM
    refine k_eff (j := 12) (by kernel_rfl) rfl rfl (by kernel_rfl) (hpApp (t := 27) (ty := 27) (et := 36) (zv := .agg #[.int .i64 0, .int .i64 0]) (sz := 2) (by_ := 16) (base := s105) (n' := (0 + x100n)) (c := s105c) (xb := x108) (m := x108n) (xc := x108c) (new := nw111) (fun _ => by kernel_rfl) (by kernel_rfl) (by kernel_rfl) [.int .i64 0, .int .i64 0] rfl rfl (by decide) nw1111 nw1112 nw1113 hM ?_)
    intro s110 s110c h109 hM
    refine ⟨trivial, ?_⟩
    refine k_pure (i := 13) [] (.slice s110 ((0 + x100n) + x108n) s110c) (by kernel_rfl) rfl rfl (by kernel_rfl) (fun h' => by kernel_rfl) (by kernel_rfl) ?_
    refine k_done (by kernel_rfl) ?_
    refine thenE_n ?_
    refine cwp_of_part (fn := Tryd.f4) (p := [1, 1, 1, 1, 1, 1, 1]) (by kernel_rfl) (cwp_at 0 (.string y8) (by kernel_rfl) (cwp_at 5 (.pointer x11) (by kernel_rfl) (cwp_at 6 (.pointer x13) (by kernel_rfl) (cwp_at 7 (.slice x21 x21n x21c) (by kernel_rfl) (cwp_at 8 (.slice s110 ((0 + x100n) + x108n) s110c) (by kernel_rfl) (law21_KeysPieces_j1_ok _ ?_ y8 x11 x13 x21 x21n x21c s110 ((0 + x100n) + x108n) s110c _ _ hM))))))
    · intro z112 b114 h113 hM
      exact q_at (Q := Q .ret) 4 (.bool z112) (by kernel_rfl) (hKr z112 _ _ hM)
def law21_KeysPieces (a1 : ByteArray) (a2 : Int) (K : Bool → Heap → Prop) (h : Heap) : Prop :=
 if ((decide (a2 < 0)) || (decide ((a1.size : Int) < a2))) = true then
  law21_KeysPieces_j0
   (fun z118 h119 =>
       K z118 h119) a1 (IntKind.wrap .i64 (Int.tdiv (a1.size : Int) 2)) h
 else
 law21_KeysPieces_j0
  (fun z122 h123 =>
      K z122 h123) a1 a2 h
theorem law21_KeysPieces_ok (a1 : ByteArray) (a2 : Int) (K : Bool → Heap → Prop) (h : Heap) (hM : law21_KeysPieces a1 a2 K h) : CallsH Tryd.prog 4 #[.string a1, .int .i64 a2] (fun v h' => ∃ (r126 : Bool), v = .bool r126 ∧ K r126 h') h := by
 unfold law21_KeysPieces at hM
 refine callsH_intro (n := 89) Tryd.func4 rfl rfl (by kernel_rfl) ?_
 refine cR ?_
 refine oS [(4, .bool false)] rfl ?_
 refine oE (cwp_seq (cR ?_))
 refine oS [(11, .int .i64 a2), (12, .bool (decide (a2 < 0))), (13, .bool (decide (a2 < 0)))] rfl ?_
 refine oB (decide (a2 < 0)) 5 [12, 13] (fun b_ => [(14, iteV b_ undef (.int .i64 a2 : Value)), (15, iteV b_ undef (.string a1 : Value)), (16, iteV b_ undef (.int .i64 (a1.size : Int) : Value)), (17, iteV b_ undef (.bool (decide ((a1.size : Int) < a2)) : Value)), (18, .bool (b_ || (decide ((a1.size : Int) < a2))))]) rfl (fun hb3 hq4 => oS [(14, undef), (15, undef), (16, undef), (17, undef), (18, .bool true)] rfl (hq4)) (fun hb5 hq6 => oS [(14, .int .i64 a2), (15, .string a1), (16, .int .i64 (a1.size : Int)), (17, .bool (decide ((a1.size : Int) < a2))), (18, .bool (decide ((a1.size : Int) < a2)))] rfl (hq6)) ?_
 refine oE ?_
 refine cwp_condB ((decide (a2 < 0)) || (decide ((a1.size : Int) < a2))) (by kernel_rfl) (fun hc7 => ?_) (fun hc7 => ?_)
 · replace hM := ifT hc7 hM
   refine cwp_region ?_
   refine oS [(19, .string a1), (20, .int .i64 (a1.size : Int)), (21, .int .i64 (IntKind.wrap .i64 (Int.tdiv (a1.size : Int) 2))), (1, .int .i64 (IntKind.wrap .i64 (Int.tdiv (a1.size : Int) 2)))] rfl ?_
   refine oE ?_
   refine cwp_of_part (fn := Tryd.f4) (p := [1, 1]) (by kernel_rfl) (cwp_at 0 (.string a1) (by kernel_rfl) (cwp_at 1 (.int .i64 (IntKind.wrap .i64 (Int.tdiv (a1.size : Int) 2))) (by kernel_rfl) (law21_KeysPieces_j0_ok _ ?_ a1 (IntKind.wrap .i64 (Int.tdiv (a1.size : Int) 2)) _ _ hM)))
   · intro z118 b120 h119 hM
     exact ret_ (.bool z118) (by kernel_rfl) ⟨_, rfl, hM⟩
 replace hM := ifF hc7 hM
 refine cwp_skip (thenE_n ?_)
 refine cwp_of_part (fn := Tryd.f4) (p := [1, 1]) (by kernel_rfl) (cwp_at 0 (.string a1) (by kernel_rfl) (cwp_at 1 (.int .i64 a2) (by kernel_rfl) (law21_KeysPieces_j0_ok _ ?_ a1 a2 _ _ hM)))
 · intro z122 b124 h123 hM
   exact ret_ (.bool z122) (by kernel_rfl) ⟨_, rfl, hM⟩
/- mullion/mullionref21.words -/
def ref21_words  (K : Option Addr → Nat → Nat → Heap → Prop) (h : Heap) : Prop :=
 newB h #[.string (⟨#[85, 112]⟩ : ByteArray), .string (⟨#[68, 111, 119, 110]⟩ : ByteArray), .string (⟨#[82, 105, 103, 104, 116]⟩ : ByteArray), .string (⟨#[76, 101, 102, 116]⟩ : ByteArray), .string (⟨#[72, 111, 109, 101]⟩ : ByteArray), .string (⟨#[69, 110, 100]⟩ : ByteArray), .string (⟨#[73, 110, 115, 101, 114, 116]⟩ : ByteArray), .string (⟨#[68, 101, 108, 101, 116, 101]⟩ : ByteArray), .string (⟨#[80, 97, 103, 101, 85, 112]⟩ : ByteArray), .string (⟨#[80, 97, 103, 101, 68, 111, 119, 110]⟩ : ByteArray), .string (⟨#[70, 49]⟩ : ByteArray), .string (⟨#[70, 50]⟩ : ByteArray), .string (⟨#[70, 51]⟩ : ByteArray), .string (⟨#[70, 52]⟩ : ByteArray), .string (⟨#[70, 53]⟩ : ByteArray), .string (⟨#[70, 54]⟩ : ByteArray), .string (⟨#[70, 55]⟩ : ByteArray), .string (⟨#[70, 56]⟩ : ByteArray), .string (⟨#[70, 57]⟩ : ByteArray), .string (⟨#[70, 49, 48]⟩ : ByteArray), .string (⟨#[70, 49, 49]⟩ : ByteArray), .string (⟨#[70, 49, 50]⟩ : ByteArray), .string (⟨#[66, 84, 97, 98]⟩ : ByteArray)] 9 fun b1 h2 =>
 K (some ⟨b1, 0, none⟩) 23 23 h2
theorem ref21_words_ok  (K : Option Addr → Nat → Nat → Heap → Prop) (h : Heap) (hM : ref21_words  K h) : CallsH Tryd.prog 38 #[] (fun v h' => ∃ (r4 : Option Addr) (r4n : Nat) (r4c : Nat), v = .slice r4 r4n r4c ∧ K r4 r4n r4c h') h := by
 unfold ref21_words at hM
 refine callsH_intro (n := 2) Tryd.func38 rfl rfl (by kernel_rfl) ?_
 refine cR ?_
 refine oS [(0, .slice none 0 0)] rfl ?_
 refine oE (cR ?_)
 refine owp_hpG rfl (by kernel_rfl) (hpNewS #[.string (⟨#[85, 112]⟩ : ByteArray), .string (⟨#[68, 111, 119, 110]⟩ : ByteArray), .string (⟨#[82, 105, 103, 104, 116]⟩ : ByteArray), .string (⟨#[76, 101, 102, 116]⟩ : ByteArray), .string (⟨#[72, 111, 109, 101]⟩ : ByteArray), .string (⟨#[69, 110, 100]⟩ : ByteArray), .string (⟨#[73, 110, 115, 101, 114, 116]⟩ : ByteArray), .string (⟨#[68, 101, 108, 101, 116, 101]⟩ : ByteArray), .string (⟨#[80, 97, 103, 101, 85, 112]⟩ : ByteArray), .string (⟨#[80, 97, 103, 101, 68, 111, 119, 110]⟩ : ByteArray), .string (⟨#[70, 49]⟩ : ByteArray), .string (⟨#[70, 50]⟩ : ByteArray), .string (⟨#[70, 51]⟩ : ByteArray), .string (⟨#[70, 52]⟩ : ByteArray), .string (⟨#[70, 53]⟩ : ByteArray), .string (⟨#[70, 54]⟩ : ByteArray), .string (⟨#[70, 55]⟩ : ByteArray), .string (⟨#[70, 56]⟩ : ByteArray), .string (⟨#[70, 57]⟩ : ByteArray), .string (⟨#[70, 49, 48]⟩ : ByteArray), .string (⟨#[70, 49, 49]⟩ : ByteArray), .string (⟨#[70, 49, 50]⟩ : ByteArray), .string (⟨#[66, 84, 97, 98]⟩ : ByteArray)] 9 23 (fun _ => by kernel_rfl) ?_)
 intro b1 h2 hN3
 replace hM := newB_of hN3 hM
 refine oS [(0, .slice (some ⟨b1, 0, none⟩) 23 23)] rfl ?_
 refine oE (cwp_ret ?_)
 exact ret_ (.slice (some ⟨b1, 0, none⟩) 23 23) (by kernel_rfl) ⟨_, _, _, rfl, hM⟩
/- mullion/mullionref21.Name -/
def ref21_Name_j2 (Kr : ByteArray → Heap → Prop) (y33 : Nat) (y34 : ByteArray) (h : Heap) : Prop :=
 ldI h .i64 ⟨y33, 0, none⟩ fun x35 =>
 if x35 = 32 then
  y34.size + (⟨#[83, 112, 97, 99, 101]⟩ : ByteArray).size ≤ 9223372036854775807 ∧
  Kr (y34 ++ (⟨#[83, 112, 97, 99, 101]⟩ : ByteArray)) h
 else
 if x35 = 13 then
  y34.size + (⟨#[69, 110, 116, 101, 114]⟩ : ByteArray).size ≤ 9223372036854775807 ∧
  Kr (y34 ++ (⟨#[69, 110, 116, 101, 114]⟩ : ByteArray)) h
 else
 if x35 = 9 then
  y34.size + (⟨#[84, 97, 98]⟩ : ByteArray).size ≤ 9223372036854775807 ∧
  Kr (y34 ++ (⟨#[84, 97, 98]⟩ : ByteArray)) h
 else
 if x35 = 27 then
  y34.size + (⟨#[69, 115, 99, 97, 112, 101]⟩ : ByteArray).size ≤ 9223372036854775807 ∧
  Kr (y34 ++ (⟨#[69, 115, 99, 97, 112, 101]⟩ : ByteArray)) h
 else
 if x35 = 127 then
  y34.size + (⟨#[66, 83, 112, 97, 99, 101]⟩ : ByteArray).size ≤ 9223372036854775807 ∧
  Kr (y34 ++ (⟨#[66, 83, 112, 97, 99, 101]⟩ : ByteArray)) h
 else
 ldI h .i64 ⟨y33, 0, none⟩ fun x49 =>
 if 16777217 ≤ x49 then
  ldI h .i64 ⟨y33, 0, none⟩ fun x53 =>
  ref21_words  (fun x58 x58n x58c h57 =>
   (cellH h57 ⟨y33, 0, none⟩ = some (.int .i64 x53)) ∧
   nz x58 fun p62 =>
   0 ≤ (IntKind.wrap .i64 (x53 - 16777217)) ∧
   (IntKind.wrap .i64 (x53 - 16777217)) < (x58n : Int) ∧
   ldS h57 (p62.add ((IntKind.wrap .i64 (x53 - 16777217)).toNat * 1)) fun x63 =>
   y34.size + x63.size ≤ 9223372036854775807 ∧
    Kr (y34 ++ x63) h57) h
 else
 ldI h .i64 ⟨y33, 0, none⟩ fun x68 =>
 y34.size + (ref21_utf8 x68).size ≤ 9223372036854775807 ∧
 gap h fun h71 =>
 Kr (y34 ++ (ref21_utf8 x68)) h71
theorem ref21_Name_j2_ok {Q : Exit → Env → Heap → Prop} (Kr : ByteArray → Heap → Prop) (hKr : ∀ (z75 : ByteArray) (b : Env) (h : Heap), Kr z75 h → Q .ret (upd b 2 (.string z75)) h) (y33 : Nat) (y34 : ByteArray) (b : Env) (h : Heap) (hM : ref21_Name_j2 Kr y33 y34 h) : cwp Tryd.prog (partC Tryd.f20 [1, 1, 1, 1, 1, 1]) 65 Q (upd (upd b 1 (.pointer (some ⟨y33, 0, none⟩))) 3 (.string y34)) h := by
  unfold ref21_Name_j2 at hM
  refine cwp_part rfl ?_
  refine cwp_seq (cR ?_)
  refine oS [(27, .pointer (some ⟨y33, 0, none⟩))] rfl ?_
  obtain ⟨x35, hc36, hM⟩ := hM
  refine owp_rdG (.int .i64 x35) rfl (by kernel_rfl) (Eq.trans (b := (cellH h ⟨y33, 0, none⟩).bind fun v37 => some (.value v37)) (by kernel_rfl) (bindE hc36 _)) ?_
  refine oE (cwp_block (cR ?_))
  refine oS [(30, .bool (decide (x35 = 32))), (29, .bool (decide (x35 = 32)))] rfl ?_
  refine oE ?_
  refine cwp_condD (x35 = 32) (by kernel_rfl) (fun hc38 => ?_) (fun hc38 => ?_)
  · replace hM := ifT hc38 hM
    refine cR ?_
    refine oS [(31, .string y34)] rfl ?_
    obtain ⟨hc39, hM⟩ := hM
    refine owp_rdG (.string (y34 ++ (⟨#[83, 112, 97, 99, 101]⟩ : ByteArray))) rfl (by kernel_rfl) (rd_cat (P := Tryd.prog) (h := h) (x := y34) (y := (⟨#[83, 112, 97, 99, 101]⟩ : ByteArray)) hc39 (by kernel_rfl)) ?_
    refine oS [(2, .string (y34 ++ (⟨#[83, 112, 97, 99, 101]⟩ : ByteArray)))] rfl ?_
    refine oE (cwp_ret (blockE_r (thenE_r ?_)))
    exact q_at (Q := Q .ret) 2 (.string (y34 ++ (⟨#[83, 112, 97, 99, 101]⟩ : ByteArray))) (by kernel_rfl) (hKr (y34 ++ (⟨#[83, 112, 97, 99, 101]⟩ : ByteArray)) _ _ hM)
  replace hM := ifF hc38 hM
  refine cR ?_
  refine oS [(34, .bool (decide (x35 = 13))), (33, .bool (decide (x35 = 13)))] rfl ?_
  refine oE ?_
  refine cwp_condD (x35 = 13) (by kernel_rfl) (fun hc41 => ?_) (fun hc41 => ?_)
  · replace hM := ifT hc41 hM
    refine cR ?_
    refine oS [(35, .string y34)] rfl ?_
    obtain ⟨hc42, hM⟩ := hM
    refine owp_rdG (.string (y34 ++ (⟨#[69, 110, 116, 101, 114]⟩ : ByteArray))) rfl (by kernel_rfl) (rd_cat (P := Tryd.prog) (h := h) (x := y34) (y := (⟨#[69, 110, 116, 101, 114]⟩ : ByteArray)) hc42 (by kernel_rfl)) ?_
    refine oS [(2, .string (y34 ++ (⟨#[69, 110, 116, 101, 114]⟩ : ByteArray)))] rfl ?_
    refine oE (cwp_ret (blockE_r (thenE_r ?_)))
    exact q_at (Q := Q .ret) 2 (.string (y34 ++ (⟨#[69, 110, 116, 101, 114]⟩ : ByteArray))) (by kernel_rfl) (hKr (y34 ++ (⟨#[69, 110, 116, 101, 114]⟩ : ByteArray)) _ _ hM)
  replace hM := ifF hc41 hM
  refine cR ?_
  refine oS [(38, .bool (decide (x35 = 9))), (37, .bool (decide (x35 = 9)))] rfl ?_
  refine oE ?_
  refine cwp_condD (x35 = 9) (by kernel_rfl) (fun hc43 => ?_) (fun hc43 => ?_)
  · replace hM := ifT hc43 hM
    refine cR ?_
    refine oS [(39, .string y34)] rfl ?_
    obtain ⟨hc44, hM⟩ := hM
    refine owp_rdG (.string (y34 ++ (⟨#[84, 97, 98]⟩ : ByteArray))) rfl (by kernel_rfl) (rd_cat (P := Tryd.prog) (h := h) (x := y34) (y := (⟨#[84, 97, 98]⟩ : ByteArray)) hc44 (by kernel_rfl)) ?_
    refine oS [(2, .string (y34 ++ (⟨#[84, 97, 98]⟩ : ByteArray)))] rfl ?_
    refine oE (cwp_ret (blockE_r (thenE_r ?_)))
    exact q_at (Q := Q .ret) 2 (.string (y34 ++ (⟨#[84, 97, 98]⟩ : ByteArray))) (by kernel_rfl) (hKr (y34 ++ (⟨#[84, 97, 98]⟩ : ByteArray)) _ _ hM)
  replace hM := ifF hc43 hM
  refine cR ?_
  refine oS [(42, .bool (decide (x35 = 27))), (41, .bool (decide (x35 = 27)))] rfl ?_
  refine oE ?_
  refine cwp_condD (x35 = 27) (by kernel_rfl) (fun hc45 => ?_) (fun hc45 => ?_)
  · replace hM := ifT hc45 hM
    refine cR ?_
    refine oS [(43, .string y34)] rfl ?_
    obtain ⟨hc46, hM⟩ := hM
    refine owp_rdG (.string (y34 ++ (⟨#[69, 115, 99, 97, 112, 101]⟩ : ByteArray))) rfl (by kernel_rfl) (rd_cat (P := Tryd.prog) (h := h) (x := y34) (y := (⟨#[69, 115, 99, 97, 112, 101]⟩ : ByteArray)) hc46 (by kernel_rfl)) ?_
    refine oS [(2, .string (y34 ++ (⟨#[69, 115, 99, 97, 112, 101]⟩ : ByteArray)))] rfl ?_
    refine oE (cwp_ret (blockE_r (thenE_r ?_)))
    exact q_at (Q := Q .ret) 2 (.string (y34 ++ (⟨#[69, 115, 99, 97, 112, 101]⟩ : ByteArray))) (by kernel_rfl) (hKr (y34 ++ (⟨#[69, 115, 99, 97, 112, 101]⟩ : ByteArray)) _ _ hM)
  replace hM := ifF hc45 hM
  refine cR ?_
  refine oS [(46, .bool (decide (x35 = 127))), (45, .bool (decide (x35 = 127)))] rfl ?_
  refine oE ?_
  refine cwp_condD (x35 = 127) (by kernel_rfl) (fun hc47 => ?_) (fun hc47 => ?_)
  · replace hM := ifT hc47 hM
    refine cR ?_
    refine oS [(47, .string y34)] rfl ?_
    obtain ⟨hc48, hM⟩ := hM
    refine owp_rdG (.string (y34 ++ (⟨#[66, 83, 112, 97, 99, 101]⟩ : ByteArray))) rfl (by kernel_rfl) (rd_cat (P := Tryd.prog) (h := h) (x := y34) (y := (⟨#[66, 83, 112, 97, 99, 101]⟩ : ByteArray)) hc48 (by kernel_rfl)) ?_
    refine oS [(2, .string (y34 ++ (⟨#[66, 83, 112, 97, 99, 101]⟩ : ByteArray)))] rfl ?_
    refine oE (cwp_ret (blockE_r (thenE_r ?_)))
    exact q_at (Q := Q .ret) 2 (.string (y34 ++ (⟨#[66, 83, 112, 97, 99, 101]⟩ : ByteArray))) (by kernel_rfl) (hKr (y34 ++ (⟨#[66, 83, 112, 97, 99, 101]⟩ : ByteArray)) _ _ hM)
  replace hM := ifF hc47 hM
  refine cwp_skip (blockE_n (thenE_n (cwp_seq (cR ?_))))
  refine oS [(49, .pointer (some ⟨y33, 0, none⟩))] rfl ?_
  obtain ⟨x49, hc50, hM⟩ := hM
  refine owp_rdG (.int .i64 x49) rfl (by kernel_rfl) (Eq.trans (b := (cellH h ⟨y33, 0, none⟩).bind fun v51 => some (.value v51)) (by kernel_rfl) (bindE hc50 _)) ?_
  refine oS [(51, .bool (decide (16777217 ≤ x49)))] rfl ?_
  refine oE ?_
  refine cwp_condD (16777217 ≤ x49) (by kernel_rfl) (fun hc52 => ?_) (fun hc52 => ?_)
  · replace hM := ifT hc52 hM
    refine cwp_seq ?_
    refine cwp_draw (by kernel_rfl) ?_
    refine k_pure (i := 0) [7, 8] (.string y34) (by kernel_rfl) rfl rfl (by kernel_rfl) (fun h' => by kernel_rfl) (by kernel_rfl) ?_
    refine k_pure (i := 2) [3, 4, 5, 6, 7, 8] (.pointer (some ⟨y33, 0, none⟩)) (by kernel_rfl) rfl rfl (by kernel_rfl) (fun h' => by kernel_rfl) (by kernel_rfl) ?_
    obtain ⟨x53, hc54, hM⟩ := hM
    refine k_load (i := 3) (.int .i64 x53) (fun h' => cellH h' ⟨y33, 0, none⟩ = some (.int .i64 x53) ∧ True) [4, 5, 6, 7, 8] [] (by kernel_rfl) (by kernel_rfl) rfl rfl (by kernel_rfl) (fun h' hS => Eq.trans (b := (cellH h' ⟨y33, 0, none⟩).bind fun v56 => some (.value v56)) (by kernel_rfl) (bindE hS.1 _)) ⟨hc54, trivial⟩ (by kernel_rfl) ?_
    refine k_pure (i := 4) [5, 6, 7, 8] (.int .i64 (IntKind.wrap .i64 (x53 - 16777217))) (by kernel_rfl) rfl rfl (by kernel_rfl) (fun h' => by kernel_rfl) (by kernel_rfl) ?_
    refine k_eff (j := 1) (by kernel_rfl) rfl rfl (by kernel_rfl) (hpCallE 38 #[] (by kernel_rfl) (ref21_words_ok  _ h hM) ?_)
    rintro _ h57 ⟨x58, x58n, x58c, rfl, hM⟩
    obtain ⟨hk59, hM⟩ := hM
    refine ⟨⟨⟨hk59, trivial⟩, trivial⟩, ?_⟩
    obtain ⟨p62, rfl, hM⟩ := hM
    obtain ⟨hc60, hM⟩ := hM
    obtain ⟨hc61, hM⟩ := hM
    refine k_pure (i := 5) [6, 7, 8] (.pointer (some (p62.add ((IntKind.wrap .i64 (x53 - 16777217)).toNat * 1)))) (by kernel_rfl) rfl rfl (by kernel_rfl) (fun h' => rd_ixS (P := Tryd.prog) (h := h') (t := 22) (el := 9) (sz := 1) (ad := p62) (len := x58n) (c := x58c) (k := .i64) (i := (IntKind.wrap .i64 (x53 - 16777217))) (by kernel_rfl) (by kernel_rfl) hc60 hc61 (by kernel_rfl)) (by kernel_rfl) ?_
    obtain ⟨x63, hc64, hM⟩ := hM
    refine k_load (i := 6) (.string x63) (fun h' => cellH h' (p62.add ((IntKind.wrap .i64 (x53 - 16777217)).toNat * 1)) = some (.string x63) ∧ True) [7, 8] [] (by kernel_rfl) (by kernel_rfl) rfl rfl (by kernel_rfl) (fun h' hS => Eq.trans (b := (cellH h' (p62.add ((IntKind.wrap .i64 (x53 - 16777217)).toNat * 1))).bind fun v66 => some (.value v66)) (by kernel_rfl) (bindE hS.1 _)) ⟨hc64, trivial⟩ (by kernel_rfl) ?_
    obtain ⟨hc67, hM⟩ := hM
    refine k_pure (i := 7) [8] (.string (y34 ++ x63)) (by kernel_rfl) rfl rfl (by kernel_rfl) (fun h' => rd_cat (P := Tryd.prog) (h := h') (x := y34) (y := x63) hc67 (by kernel_rfl)) (by kernel_rfl) ?_
    refine k_pure (i := 8) [] (.string (y34 ++ x63)) (by kernel_rfl) rfl rfl (by kernel_rfl) (fun h' => by kernel_rfl) (by kernel_rfl) ?_
    refine k_done (by kernel_rfl) ?_
    refine thenE_n (cwp_ret (thenE_r ?_))
    exact q_at (Q := Q .ret) 2 (.string (y34 ++ x63)) (by kernel_rfl) (hKr (y34 ++ x63) _ _ hM)
  replace hM := ifF hc52 hM
  refine cwp_skip (thenE_n (cR ?_))
  refine oS [(60, .string y34), (61, .pointer (some ⟨y33, 0, none⟩))] rfl ?_
  obtain ⟨x68, hc69, hM⟩ := hM
  refine owp_rdG (.int .i64 x68) rfl (by kernel_rfl) (Eq.trans (b := (cellH h ⟨y33, 0, none⟩).bind fun v70 => some (.value v70)) (by kernel_rfl) (bindE hc69 _)) ?_
  refine owp_hpG rfl (by kernel_rfl) (hpCallP 39 #[.int .i64 x68] (.string (ref21_utf8 x68)) (by kernel_rfl) (ref21_utf8_ok x68 _ h rfl) ?_)
  intro h71 hx72
  obtain ⟨hc73, hM⟩ := hM
  refine owp_rdG (.string (y34 ++ (ref21_utf8 x68))) rfl (by kernel_rfl) (rd_cat (P := Tryd.prog) (h := h71) (x := y34) (y := (ref21_utf8 x68)) hc73 (by kernel_rfl)) ?_
  refine oS [(2, .string (y34 ++ (ref21_utf8 x68)))] rfl ?_
  refine oE (cwp_ret ?_)
  replace hM := hM _ hx72
  exact q_at (Q := Q .ret) 2 (.string (y34 ++ (ref21_utf8 x68))) (by kernel_rfl) (hKr (y34 ++ (ref21_utf8 x68)) _ _ hM)
def ref21_Name_j1 (Kr : ByteArray → Heap → Prop) (y26 : Nat) (y27 : ByteArray) (h : Heap) : Prop :=
 ldI h .i64 ⟨y26, 1, none⟩ fun x28 =>
 if (Int.tmod x28 2) = 1 then
  y27.size + (⟨#[83, 45]⟩ : ByteArray).size ≤ 9223372036854775807 ∧
  ref21_Name_j2
   (fun z76 h77 =>
       Kr z76 h77) y26 (y27 ++ (⟨#[83, 45]⟩ : ByteArray)) h
 else
 ref21_Name_j2
  (fun z81 h82 =>
      Kr z81 h82) y26 y27 h
theorem ref21_Name_j1_ok {Q : Exit → Env → Heap → Prop} (Kr : ByteArray → Heap → Prop) (hKr : ∀ (z86 : ByteArray) (b : Env) (h : Heap), Kr z86 h → Q .ret (upd b 2 (.string z86)) h) (y26 : Nat) (y27 : ByteArray) (b : Env) (h : Heap) (hM : ref21_Name_j1 Kr y26 y27 h) : cwp Tryd.prog (partC Tryd.f20 [1, 1, 1, 1, 1]) 65 Q (upd (upd b 1 (.pointer (some ⟨y26, 0, none⟩))) 3 (.string y27)) h := by
  unfold ref21_Name_j1 at hM
  refine cwp_part rfl ?_
  refine cwp_seq (cR ?_)
  refine oS [(21, .pointer (some ⟨y26, 1, none⟩))] rfl ?_
  obtain ⟨x28, hc29, hM⟩ := hM
  refine owp_rdG (.int .i64 x28) rfl (by kernel_rfl) (Eq.trans (b := (cellH h ⟨y26, 1, none⟩).bind fun v30 => some (.value v30)) (by kernel_rfl) (bindE hc29 _)) ?_
  refine oS [(23, .int .i64 (Int.tmod x28 2)), (24, .bool (decide ((Int.tmod x28 2) = 1)))] rfl ?_
  refine oE ?_
  refine cwp_condD ((Int.tmod x28 2) = 1) (by kernel_rfl) (fun hc31 => ?_) (fun hc31 => ?_)
  · replace hM := ifT hc31 hM
    refine cwp_region ?_
    refine oS [(25, .string y27)] rfl ?_
    obtain ⟨hc32, hM⟩ := hM
    refine owp_rdG (.string (y27 ++ (⟨#[83, 45]⟩ : ByteArray))) rfl (by kernel_rfl) (rd_cat (P := Tryd.prog) (h := h) (x := y27) (y := (⟨#[83, 45]⟩ : ByteArray)) hc32 (by kernel_rfl)) ?_
    refine oS [(3, .string (y27 ++ (⟨#[83, 45]⟩ : ByteArray)))] rfl ?_
    refine oE ?_
    refine cwp_of_part (fn := Tryd.f20) (p := [1, 1, 1, 1, 1, 1]) (by kernel_rfl) (cwp_at 1 (.pointer (some ⟨y26, 0, none⟩)) (by kernel_rfl) (cwp_at 3 (.string (y27 ++ (⟨#[83, 45]⟩ : ByteArray))) (by kernel_rfl) (ref21_Name_j2_ok _ ?_ y26 (y27 ++ (⟨#[83, 45]⟩ : ByteArray)) _ _ hM)))
    · intro z76 b79 h77 hM
      exact q_at (Q := Q .ret) 2 (.string z76) (by kernel_rfl) (hKr z76 _ _ hM)
  replace hM := ifF hc31 hM
  refine cwp_skip (thenE_n ?_)
  refine cwp_of_part (fn := Tryd.f20) (p := [1, 1, 1, 1, 1, 1]) (by kernel_rfl) (cwp_at 1 (.pointer (some ⟨y26, 0, none⟩)) (by kernel_rfl) (cwp_at 3 (.string y27) (by kernel_rfl) (ref21_Name_j2_ok _ ?_ y26 y27 _ _ hM)))
  · intro z81 b83 h82 hM
    exact q_at (Q := Q .ret) 2 (.string z81) (by kernel_rfl) (hKr z81 _ _ hM)
def ref21_Name_j0 (Kr : ByteArray → Heap → Prop) (y19 : Nat) (y20 : ByteArray) (h : Heap) : Prop :=
 ldI h .i64 ⟨y19, 1, none⟩ fun x21 =>
 if (Int.tmod (IntKind.wrap .i64 (Int.tdiv x21 2)) 2) = 1 then
  y20.size + (⟨#[77, 45]⟩ : ByteArray).size ≤ 9223372036854775807 ∧
  ref21_Name_j1
   (fun z87 h88 =>
       Kr z87 h88) y19 (y20 ++ (⟨#[77, 45]⟩ : ByteArray)) h
 else
 ref21_Name_j1
  (fun z92 h93 =>
      Kr z92 h93) y19 y20 h
theorem ref21_Name_j0_ok {Q : Exit → Env → Heap → Prop} (Kr : ByteArray → Heap → Prop) (hKr : ∀ (z97 : ByteArray) (b : Env) (h : Heap), Kr z97 h → Q .ret (upd b 2 (.string z97)) h) (y19 : Nat) (y20 : ByteArray) (b : Env) (h : Heap) (hM : ref21_Name_j0 Kr y19 y20 h) : cwp Tryd.prog (partC Tryd.f20 [1, 1, 1, 1]) 65 Q (upd (upd b 1 (.pointer (some ⟨y19, 0, none⟩))) 3 (.string y20)) h := by
  unfold ref21_Name_j0 at hM
  refine cwp_part rfl ?_
  refine cwp_seq (cR ?_)
  refine oS [(14, .pointer (some ⟨y19, 1, none⟩))] rfl ?_
  obtain ⟨x21, hc22, hM⟩ := hM
  refine owp_rdG (.int .i64 x21) rfl (by kernel_rfl) (Eq.trans (b := (cellH h ⟨y19, 1, none⟩).bind fun v23 => some (.value v23)) (by kernel_rfl) (bindE hc22 _)) ?_
  refine oS [(16, .int .i64 (IntKind.wrap .i64 (Int.tdiv x21 2))), (17, .int .i64 (Int.tmod (IntKind.wrap .i64 (Int.tdiv x21 2)) 2)), (18, .bool (decide ((Int.tmod (IntKind.wrap .i64 (Int.tdiv x21 2)) 2) = 1)))] rfl ?_
  refine oE ?_
  refine cwp_condD ((Int.tmod (IntKind.wrap .i64 (Int.tdiv x21 2)) 2) = 1) (by kernel_rfl) (fun hc24 => ?_) (fun hc24 => ?_)
  · replace hM := ifT hc24 hM
    refine cwp_region ?_
    refine oS [(19, .string y20)] rfl ?_
    obtain ⟨hc25, hM⟩ := hM
    refine owp_rdG (.string (y20 ++ (⟨#[77, 45]⟩ : ByteArray))) rfl (by kernel_rfl) (rd_cat (P := Tryd.prog) (h := h) (x := y20) (y := (⟨#[77, 45]⟩ : ByteArray)) hc25 (by kernel_rfl)) ?_
    refine oS [(3, .string (y20 ++ (⟨#[77, 45]⟩ : ByteArray)))] rfl ?_
    refine oE ?_
    refine cwp_of_part (fn := Tryd.f20) (p := [1, 1, 1, 1, 1]) (by kernel_rfl) (cwp_at 1 (.pointer (some ⟨y19, 0, none⟩)) (by kernel_rfl) (cwp_at 3 (.string (y20 ++ (⟨#[77, 45]⟩ : ByteArray))) (by kernel_rfl) (ref21_Name_j1_ok _ ?_ y19 (y20 ++ (⟨#[77, 45]⟩ : ByteArray)) _ _ hM)))
    · intro z87 b90 h88 hM
      exact q_at (Q := Q .ret) 2 (.string z87) (by kernel_rfl) (hKr z87 _ _ hM)
  replace hM := ifF hc24 hM
  refine cwp_skip (thenE_n ?_)
  refine cwp_of_part (fn := Tryd.f20) (p := [1, 1, 1, 1, 1]) (by kernel_rfl) (cwp_at 1 (.pointer (some ⟨y19, 0, none⟩)) (by kernel_rfl) (cwp_at 3 (.string y20) (by kernel_rfl) (ref21_Name_j1_ok _ ?_ y19 y20 _ _ hM)))
  · intro z92 b94 h93 hM
    exact q_at (Q := Q .ret) 2 (.string z92) (by kernel_rfl) (hKr z92 _ _ hM)
def ref21_Name (a1 : Int) (a2 : Int) (K : ByteArray → Heap → Prop) (h : Heap) : Prop :=
 newB h #[.int .i64 a1, .int .i64 a2] 36 fun b3 h4 =>
 ldI h4 .i64 ⟨b3, 0, none⟩ fun x6 =>
 ldI h4 .i64 ⟨b3, 1, none⟩ fun x8 =>
 if (!(ref21_Valid x6 x8)) = true then
  gap h4 fun h12 =>
  K (⟨#[]⟩ : ByteArray) h12
 else
 gap h4 fun h12 =>
 ldI h12 .i64 ⟨b3, 1, none⟩ fun x15 =>
 if (Int.tmod (IntKind.wrap .i64 (Int.tdiv x15 4)) 2) = 1 then
  ref21_Name_j0
   (fun z98 h99 =>
       K z98 h99) b3 ⟨#[67, 45]⟩ h12
 else
 ref21_Name_j0
  (fun z102 h103 =>
      K z102 h103) b3 (⟨#[]⟩ : ByteArray) h12
theorem ref21_Name_ok (a1 : Int) (a2 : Int) (K : ByteArray → Heap → Prop) (h : Heap) (hM : ref21_Name a1 a2 K h) : CallsH Tryd.prog 20 #[.agg #[.int .i64 a1, .int .i64 a2]] (fun v h' => ∃ (r106 : ByteArray), v = .string r106 ∧ K r106 h') h := by
 unfold ref21_Name at hM
 refine callsH_intro (n := 65) Tryd.func20 rfl rfl (by kernel_rfl) ?_
 refine cR ?_
 refine owp_hpG rfl (by kernel_rfl) (hpNew #[.int .i64 a1, .int .i64 a2] 36 (fun _ => by kernel_rfl) ?_)
 intro b3 h4 hN5
 replace hM := newB_of hN5 hM
 refine oS [(2, .string (⟨#[]⟩ : ByteArray))] rfl ?_
 refine oE (cwp_seq (cR ?_))
 obtain ⟨x6, hc7, hM⟩ := hM
 obtain ⟨x8, hc9, hM⟩ := hM
 refine owp_rdG (.agg #[.int .i64 x6, .int .i64 x8]) rfl (by kernel_rfl) (Eq.trans (b := (cellH h4 ⟨b3, 0, none⟩).bind fun v10 => (cellH h4 ⟨b3, 1, none⟩).bind fun v11 => some (.value (.agg #[v10, v11]))) (by kernel_rfl) ((bindE hc7 _).trans (bindE hc9 _))) ?_
 refine owp_hpG rfl (by kernel_rfl) (hpCallP 18 #[.agg #[.int .i64 x6, .int .i64 x8]] (.bool (ref21_Valid x6 x8)) (by kernel_rfl) (ref21_Valid_ok x6 x8 _ h4 rfl) ?_)
 intro h12 hx13
 refine oS [(6, .bool (!(ref21_Valid x6 x8)))] rfl ?_
 refine oE ?_
 refine cwp_condB (!(ref21_Valid x6 x8)) (by kernel_rfl) (fun hc14 => ?_) (fun hc14 => ?_)
 · replace hM := ifT hc14 hM
   refine cR ?_
   refine oS [(2, .string (⟨#[]⟩ : ByteArray))] rfl ?_
   refine oE (cwp_ret (thenE_r ?_))
   replace hM := hM _ hx13
   exact ret_ (.string (⟨#[]⟩ : ByteArray)) (by kernel_rfl) ⟨_, rfl, hM⟩
 replace hM := ifF hc14 hM
 refine cwp_skip (thenE_n (cR ?_))
 refine oS [(3, .string (⟨#[]⟩ : ByteArray))] rfl ?_
 refine oE (cwp_seq (cR ?_))
 refine oS [(7, .pointer (some ⟨b3, 1, none⟩))] rfl ?_
 replace hM := hM _ hx13
 obtain ⟨x15, hc16, hM⟩ := hM
 refine owp_rdG (.int .i64 x15) rfl (by kernel_rfl) (Eq.trans (b := (cellH h12 ⟨b3, 1, none⟩).bind fun v17 => some (.value v17)) (by kernel_rfl) (bindE hc16 _)) ?_
 refine oS [(9, .int .i64 (IntKind.wrap .i64 (Int.tdiv x15 4))), (10, .int .i64 (Int.tmod (IntKind.wrap .i64 (Int.tdiv x15 4)) 2)), (11, .bool (decide ((Int.tmod (IntKind.wrap .i64 (Int.tdiv x15 4)) 2) = 1)))] rfl ?_
 refine oE ?_
 refine cwp_condD ((Int.tmod (IntKind.wrap .i64 (Int.tdiv x15 4)) 2) = 1) (by kernel_rfl) (fun hc18 => ?_) (fun hc18 => ?_)
 · replace hM := ifT hc18 hM
   refine cwp_region ?_
   refine oS [(12, .string (⟨#[]⟩ : ByteArray)), (13, .string ⟨#[67, 45]⟩), (3, .string ⟨#[67, 45]⟩)] rfl ?_
   refine oE ?_
   refine cwp_of_part (fn := Tryd.f20) (p := [1, 1, 1, 1]) (by kernel_rfl) (cwp_at 1 (.pointer (some ⟨b3, 0, none⟩)) (by kernel_rfl) (cwp_at 3 (.string ⟨#[67, 45]⟩) (by kernel_rfl) (ref21_Name_j0_ok _ ?_ b3 ⟨#[67, 45]⟩ _ _ hM)))
   · intro z98 b100 h99 hM
     exact ret_ (.string z98) (by kernel_rfl) ⟨_, rfl, hM⟩
 replace hM := ifF hc18 hM
 refine cwp_skip (thenE_n ?_)
 refine cwp_of_part (fn := Tryd.f20) (p := [1, 1, 1, 1]) (by kernel_rfl) (cwp_at 1 (.pointer (some ⟨b3, 0, none⟩)) (by kernel_rfl) (cwp_at 3 (.string (⟨#[]⟩ : ByteArray)) (by kernel_rfl) (ref21_Name_j0_ok _ ?_ b3 (⟨#[]⟩ : ByteArray) _ _ hM)))
 · intro z102 b104 h103 hM
   exact ret_ (.string z102) (by kernel_rfl) ⟨_, rfl, hM⟩
/- mullion/keys.Bytes -/
def keys_Bytes_j0 (Kr : ByteArray → Heap → Prop) (y38 : Nat) (y39 : ByteArray) (h : Heap) : Prop :=
 ldI h .i64 ⟨y38, 1, none⟩ fun x40 =>
 if (iAnd .i64 x40 4) = 0 then
  ldI h .i64 ⟨y38, 0, none⟩ fun x44 =>
  y39.size + (Utf8.encode (IntKind.wrap .i32 (x44))).size ≤ 9223372036854775807 ∧
  Kr (y39 ++ (Utf8.encode (IntKind.wrap .i32 (x44)))) h
 else
 ldI h .i64 ⟨y38, 0, none⟩ fun x49 =>
 y39.size + (bytesOf [iAnd .u8 (IntKind.wrap .u8 (x49)) 31]).size ≤ 9223372036854775807 ∧
 gap h fun h53 =>
 Kr (y39 ++ (bytesOf [iAnd .u8 (IntKind.wrap .u8 (x49)) 31])) h53
theorem keys_Bytes_j0_ok {Q : Exit → Env → Heap → Prop} (Kr : ByteArray → Heap → Prop) (hKr : ∀ (z57 : ByteArray) (b : Env) (h : Heap), Kr z57 h → Q .ret (upd b 4 (.string z57)) h) (y38 : Nat) (y39 : ByteArray) (b : Env) (h : Heap) (hM : keys_Bytes_j0 Kr y38 y39 h) : cwp Tryd.prog (partC Tryd.f21 [1, 1, 1, 1]) 43 Q (upd (upd b 2 (.pointer (some ⟨y38, 0, none⟩))) 5 (.string y39)) h := by
  unfold keys_Bytes_j0 at hM
  refine cwp_part rfl ?_
  refine cwp_seq (cR ?_)
  refine oS [(25, .pointer (some ⟨y38, 1, none⟩))] rfl ?_
  obtain ⟨x40, hc41, hM⟩ := hM
  refine owp_rdG (.int .i64 x40) rfl (by kernel_rfl) (Eq.trans (b := (cellH h ⟨y38, 1, none⟩).bind fun v42 => some (.value v42)) (by kernel_rfl) (bindE hc41 _)) ?_
  refine oS [(27, .int .i64 (iAnd .i64 x40 4)), (28, .bool (decide ((iAnd .i64 x40 4) = 0)))] rfl ?_
  refine oE ?_
  refine cwp_condD ((iAnd .i64 x40 4) = 0) (by kernel_rfl) (fun hc43 => ?_) (fun hc43 => ?_)
  · replace hM := ifT hc43 hM
    refine cR ?_
    refine oS [(29, .string y39), (30, .pointer (some ⟨y38, 0, none⟩))] rfl ?_
    obtain ⟨x44, hc45, hM⟩ := hM
    refine owp_rdG (.int .i64 x44) rfl (by kernel_rfl) (Eq.trans (b := (cellH h ⟨y38, 0, none⟩).bind fun v46 => some (.value v46)) (by kernel_rfl) (bindE hc45 _)) ?_
    refine oS [(32, .int .i32 (IntKind.wrap .i32 (x44))), (33, .string (Utf8.encode (IntKind.wrap .i32 (x44))))] rfl ?_
    obtain ⟨hc47, hM⟩ := hM
    refine owp_rdG (.string (y39 ++ (Utf8.encode (IntKind.wrap .i32 (x44))))) rfl (by kernel_rfl) (rd_cat (P := Tryd.prog) (h := h) (x := y39) (y := (Utf8.encode (IntKind.wrap .i32 (x44)))) hc47 (by kernel_rfl)) ?_
    refine oS [(4, .string (y39 ++ (Utf8.encode (IntKind.wrap .i32 (x44)))))] rfl ?_
    refine oE (cwp_ret (thenE_r ?_))
    exact q_at (Q := Q .ret) 4 (.string (y39 ++ (Utf8.encode (IntKind.wrap .i32 (x44))))) (by kernel_rfl) (hKr (y39 ++ (Utf8.encode (IntKind.wrap .i32 (x44)))) _ _ hM)
  replace hM := ifF hc43 hM
  refine cwp_skip (thenE_n (cR ?_))
  refine oS [(35, .string y39), (36, .pointer (some ⟨y38, 0, none⟩))] rfl ?_
  obtain ⟨x49, hc50, hM⟩ := hM
  refine owp_rdG (.int .i64 x49) rfl (by kernel_rfl) (Eq.trans (b := (cellH h ⟨y38, 0, none⟩).bind fun v51 => some (.value v51)) (by kernel_rfl) (bindE hc50 _)) ?_
  refine oS [(38, .int .u8 (IntKind.wrap .u8 (x49))), (39, .int .u8 (iAnd .u8 (IntKind.wrap .u8 (x49)) 31))] rfl ?_
  refine owp_hpG rfl (by kernel_rfl) (hpNewS #[.int .u8 (iAnd .u8 (IntKind.wrap .u8 (x49)) 31)] 5 1 (fun _ => by kernel_rfl) ?_)
  intro b52 h53 hN54
  refine owp_rdG (.string (bytesOf [iAnd .u8 (IntKind.wrap .u8 (x49)) 31])) rfl (by kernel_rfl) (rd_bytes (P := Tryd.prog) (h := h53) (c := 1) [iAnd .u8 (IntKind.wrap .u8 (x49)) 31] ⟨Blk.cell (New.blk hN54) 0 (by kernel_rfl), trivial⟩ (by kernel_rfl)) ?_
  obtain ⟨hc55, hM⟩ := hM
  refine owp_rdG (.string (y39 ++ (bytesOf [iAnd .u8 (IntKind.wrap .u8 (x49)) 31]))) rfl (by kernel_rfl) (rd_cat (P := Tryd.prog) (h := h53) (x := y39) (y := (bytesOf [iAnd .u8 (IntKind.wrap .u8 (x49)) 31])) hc55 (by kernel_rfl)) ?_
  refine oS [(4, .string (y39 ++ (bytesOf [iAnd .u8 (IntKind.wrap .u8 (x49)) 31])))] rfl ?_
  refine oE (cwp_ret ?_)
  replace hM := hM _ (New.ext hN54)
  exact q_at (Q := Q .ret) 4 (.string (y39 ++ (bytesOf [iAnd .u8 (IntKind.wrap .u8 (x49)) 31]))) (by kernel_rfl) (hKr (y39 ++ (bytesOf [iAnd .u8 (IntKind.wrap .u8 (x49)) 31])) _ _ hM)
def keys_Bytes (a1 : Int) (a2 : Int) (a3 : Bool) (K : ByteArray → Heap → Prop) (h : Heap) : Prop :=
 newB h #[.int .i64 a1, .int .i64 a2] 36 fun b4 h5 =>
 ldI h5 .i64 ⟨b4, 0, none⟩ fun x7 =>
 ldI h5 .i64 ⟨b4, 1, none⟩ fun x9 =>
 if (!(keys_Valid x7 x9)) = true then
  gap h5 fun h13 =>
  K (⟨#[]⟩ : ByteArray) h13
 else
 gap h5 fun h13 =>
 ldI h13 .i64 ⟨b4, 0, none⟩ fun x16 =>
 if (keys_special x16) = true then
  gap h13 fun h19 =>
  ldI h19 .i64 ⟨b4, 0, none⟩ fun x22 =>
  ldI h19 .i64 ⟨b4, 1, none⟩ fun x24 =>
  keys_specialBytes x22 x24 a3 (fun x29 h28 =>
    K x29 h28) h19
 else
 gap h13 fun h19 =>
 ldI h19 .i64 ⟨b4, 0, none⟩ fun x30 =>
 if x30 = 16777239 then
  K (⟨#[27, 91, 90]⟩ : ByteArray) h19
 else
 ldI h19 .i64 ⟨b4, 1, none⟩ fun x34 =>
 if (iAnd .i64 x34 2) = 0 then
  keys_Bytes_j0
   (fun z58 h59 =>
       K z58 h59) b4 (⟨#[]⟩ : ByteArray) h19
 else
 keys_Bytes_j0
  (fun z62 h63 =>
      K z62 h63) b4 (⟨#[27]⟩ : ByteArray) h19
theorem keys_Bytes_ok (a1 : Int) (a2 : Int) (a3 : Bool) (K : ByteArray → Heap → Prop) (h : Heap) (hM : keys_Bytes a1 a2 a3 K h) : CallsH Tryd.prog 21 #[.agg #[.int .i64 a1, .int .i64 a2], .bool a3] (fun v h' => ∃ (r66 : ByteArray), v = .string r66 ∧ K r66 h') h := by
 unfold keys_Bytes at hM
 refine callsH_intro (n := 43) Tryd.func21 rfl rfl (by kernel_rfl) ?_
 refine cR ?_
 refine owp_hpG rfl (by kernel_rfl) (hpNew #[.int .i64 a1, .int .i64 a2] 36 (fun _ => by kernel_rfl) ?_)
 intro b4 h5 hN6
 replace hM := newB_of hN6 hM
 refine oS [(4, .string (⟨#[]⟩ : ByteArray))] rfl ?_
 refine oE (cwp_seq (cwp_block (cR ?_)))
 obtain ⟨x7, hc8, hM⟩ := hM
 obtain ⟨x9, hc10, hM⟩ := hM
 refine owp_rdG (.agg #[.int .i64 x7, .int .i64 x9]) rfl (by kernel_rfl) (Eq.trans (b := (cellH h5 ⟨b4, 0, none⟩).bind fun v11 => (cellH h5 ⟨b4, 1, none⟩).bind fun v12 => some (.value (.agg #[v11, v12]))) (by kernel_rfl) ((bindE hc8 _).trans (bindE hc10 _))) ?_
 refine owp_hpG rfl (by kernel_rfl) (hpCallP 17 #[.agg #[.int .i64 x7, .int .i64 x9]] (.bool (keys_Valid x7 x9)) (by kernel_rfl) (keys_Valid_ok x7 x9 _ h5 rfl) ?_)
 intro h13 hx14
 refine oS [(9, .bool (!(keys_Valid x7 x9))), (6, .bool (!(keys_Valid x7 x9)))] rfl ?_
 refine oE ?_
 refine cwp_condB (!(keys_Valid x7 x9)) (by kernel_rfl) (fun hc15 => ?_) (fun hc15 => ?_)
 · replace hM := ifT hc15 hM
   refine cR ?_
   refine oS [(4, .string (⟨#[]⟩ : ByteArray))] rfl ?_
   refine oE (cwp_ret (blockE_r (thenE_r ?_)))
   replace hM := hM _ hx14
   exact ret_ (.string (⟨#[]⟩ : ByteArray)) (by kernel_rfl) ⟨_, rfl, hM⟩
 replace hM := ifF hc15 hM
 refine cR ?_
 refine oS [(11, .pointer (some ⟨b4, 0, none⟩))] rfl ?_
 replace hM := hM _ hx14
 obtain ⟨x16, hc17, hM⟩ := hM
 refine owp_rdG (.int .i64 x16) rfl (by kernel_rfl) (Eq.trans (b := (cellH h13 ⟨b4, 0, none⟩).bind fun v18 => some (.value v18)) (by kernel_rfl) (bindE hc17 _)) ?_
 refine owp_hpG rfl (by kernel_rfl) (hpCallP 30 #[.int .i64 x16] (.bool (keys_special x16)) (by kernel_rfl) (keys_special_ok x16 _ h13 rfl) ?_)
 intro h19 hx20
 refine oS [(10, .bool (keys_special x16))] rfl ?_
 refine oE ?_
 refine cwp_condB (keys_special x16) (by kernel_rfl) (fun hc21 => ?_) (fun hc21 => ?_)
 · replace hM := ifT hc21 hM
   refine cR ?_
   replace hM := hM _ hx20
   obtain ⟨x22, hc23, hM⟩ := hM
   obtain ⟨x24, hc25, hM⟩ := hM
   refine owp_rdG (.agg #[.int .i64 x22, .int .i64 x24]) rfl (by kernel_rfl) (Eq.trans (b := (cellH h19 ⟨b4, 0, none⟩).bind fun v26 => (cellH h19 ⟨b4, 1, none⟩).bind fun v27 => some (.value (.agg #[v26, v27]))) (by kernel_rfl) ((bindE hc23 _).trans (bindE hc25 _))) ?_
   refine oS [(15, .bool a3)] rfl ?_
   refine owp_hpG rfl (by kernel_rfl) (hpCallE 40 #[.agg #[.int .i64 x22, .int .i64 x24], .bool a3] (by kernel_rfl) (keys_specialBytes_ok x22 x24 a3 _ h19 hM) ?_)
   rintro _ h28 ⟨x29, rfl, hM⟩
   refine oS [(4, .string x29)] rfl ?_
   refine oE (cwp_ret (blockE_r (thenE_r ?_)))
   exact ret_ (.string x29) (by kernel_rfl) ⟨_, rfl, hM⟩
 replace hM := ifF hc21 hM
 refine cR ?_
 refine oS [(18, .pointer (some ⟨b4, 0, none⟩))] rfl ?_
 replace hM := hM _ hx20
 obtain ⟨x30, hc31, hM⟩ := hM
 refine owp_rdG (.int .i64 x30) rfl (by kernel_rfl) (Eq.trans (b := (cellH h19 ⟨b4, 0, none⟩).bind fun v32 => some (.value v32)) (by kernel_rfl) (bindE hc31 _)) ?_
 refine oS [(20, .bool (decide (x30 = 16777239))), (17, .bool (decide (x30 = 16777239)))] rfl ?_
 refine oE ?_
 refine cwp_condD (x30 = 16777239) (by kernel_rfl) (fun hc33 => ?_) (fun hc33 => ?_)
 · replace hM := ifT hc33 hM
   refine cR ?_
   refine oS [(4, .string (⟨#[27, 91, 90]⟩ : ByteArray))] rfl ?_
   refine oE (cwp_ret (blockE_r (thenE_r ?_)))
   exact ret_ (.string (⟨#[27, 91, 90]⟩ : ByteArray)) (by kernel_rfl) ⟨_, rfl, hM⟩
 replace hM := ifF hc33 hM
 refine cwp_skip (blockE_n (thenE_n (cR ?_)))
 refine oS [(5, .string (⟨#[]⟩ : ByteArray))] rfl ?_
 refine oE (cwp_seq (cR ?_))
 refine oS [(21, .pointer (some ⟨b4, 1, none⟩))] rfl ?_
 obtain ⟨x34, hc35, hM⟩ := hM
 refine owp_rdG (.int .i64 x34) rfl (by kernel_rfl) (Eq.trans (b := (cellH h19 ⟨b4, 1, none⟩).bind fun v36 => some (.value v36)) (by kernel_rfl) (bindE hc35 _)) ?_
 refine oS [(23, .int .i64 (iAnd .i64 x34 2)), (24, .bool (!decide ((iAnd .i64 x34 2) = 0)))] rfl ?_
 refine oE ?_
 refine cwp_condN ((iAnd .i64 x34 2) = 0) (by kernel_rfl) (fun hc37 => ?_) (fun hc37 => ?_)
 · replace hM := ifT hc37 hM
   refine cwp_skip (thenE_n ?_)
   refine cwp_of_part (fn := Tryd.f21) (p := [1, 1, 1, 1]) (by kernel_rfl) (cwp_at 2 (.pointer (some ⟨b4, 0, none⟩)) (by kernel_rfl) (cwp_at 5 (.string (⟨#[]⟩ : ByteArray)) (by kernel_rfl) (keys_Bytes_j0_ok _ ?_ b4 (⟨#[]⟩ : ByteArray) _ _ hM)))
   · intro z58 b60 h59 hM
     exact ret_ (.string z58) (by kernel_rfl) ⟨_, rfl, hM⟩
 replace hM := ifF hc37 hM
 refine cwp_region ?_
 refine oS [(5, .string (⟨#[27]⟩ : ByteArray))] rfl ?_
 refine oE ?_
 refine cwp_of_part (fn := Tryd.f21) (p := [1, 1, 1, 1]) (by kernel_rfl) (cwp_at 2 (.pointer (some ⟨b4, 0, none⟩)) (by kernel_rfl) (cwp_at 5 (.string (⟨#[27]⟩ : ByteArray)) (by kernel_rfl) (keys_Bytes_j0_ok _ ?_ b4 (⟨#[27]⟩ : ByteArray) _ _ hM)))
 · intro z62 b64 h63 hM
   exact ret_ (.string z62) (by kernel_rfl) ⟨_, rfl, hM⟩
/- mullion/mullionlaw21.KeysNames -/
def law21_KeysNames (a1 : Int) (a2 : Int) (a3 : Bool) (K : Bool → Heap → Prop) (h : Heap) : Prop :=
 newB h #[.int .i64 a1, .int .i64 a2] 36 fun b4 h5 =>
 ldI h5 .i64 ⟨b4, 0, none⟩ fun x7 =>
 ldI h5 .i64 ⟨b4, 1, none⟩ fun x9 =>
 ldI h5 .i64 ⟨b4, 0, none⟩ fun x15 =>
 ldI h5 .i64 ⟨b4, 1, none⟩ fun x17 =>
 gap h5 fun h23 =>
 (cellH h23 ⟨b4, 0, none⟩ = some (.int .i64 x15) ∧ cellH h23 ⟨b4, 1, none⟩ = some (.int .i64 x17)) ∧
 if ((keys_Valid x7 x9) == (ref21_Valid x15 x17)) = true then
  gap h23 fun h27 =>
  ldI h27 .i64 ⟨b4, 0, none⟩ fun x30 =>
  ldI h27 .i64 ⟨b4, 1, none⟩ fun x32 =>
  ldI h27 .i64 ⟨b4, 0, none⟩ fun x38 =>
  ldI h27 .i64 ⟨b4, 1, none⟩ fun x40 =>
  keys_Name x30 x32 (fun x47 h46 =>
   (cellH h46 ⟨b4, 0, none⟩ = some (.int .i64 x38) ∧ cellH h46 ⟨b4, 1, none⟩ = some (.int .i64 x40)) ∧
   ref21_Name x38 x40 (fun x51 h50 =>
    if (x47.toList == x51.toList) = true then
     ldI h50 .i64 ⟨b4, 0, none⟩ fun x53 =>
     ldI h50 .i64 ⟨b4, 1, none⟩ fun x55 =>
     ldI h50 .i64 ⟨b4, 0, none⟩ fun x61 =>
     ldI h50 .i64 ⟨b4, 1, none⟩ fun x63 =>
     keys_Bytes x53 x55 a3 (fun x70 h69 =>
      (cellH h69 ⟨b4, 0, none⟩ = some (.int .i64 x61) ∧ cellH h69 ⟨b4, 1, none⟩ = some (.int .i64 x63)) ∧
      ref21_Bytes x61 x63 a3 (fun x74 h73 =>
       if (x70.toList == x74.toList) = true then
        law21_sure  (fun x77 h76 =>
          K x77 h76) h73
       else
         K false h73) h69) h50
    else
      K false h50) h46) h27
 else
 gap h23 fun h27 =>
 K false h27
theorem law21_KeysNames_ok (a1 : Int) (a2 : Int) (a3 : Bool) (K : Bool → Heap → Prop) (h : Heap) (hM : law21_KeysNames a1 a2 a3 K h) : CallsH Tryd.prog 5 #[.agg #[.int .i64 a1, .int .i64 a2], .bool a3] (fun v h' => ∃ (r78 : Bool), v = .bool r78 ∧ K r78 h') h := by
 unfold law21_KeysNames at hM
 refine callsH_intro (n := 29) Tryd.func5 rfl rfl (by kernel_rfl) ?_
 refine cR ?_
 refine owp_hpG rfl (by kernel_rfl) (hpNew #[.int .i64 a1, .int .i64 a2] 36 (fun _ => by kernel_rfl) ?_)
 intro b4 h5 hN6
 replace hM := newB_of hN6 hM
 refine oS [(4, .bool false)] rfl ?_
 refine oE (cwp_seq ?_)
 refine cwp_draw (by kernel_rfl) ?_
 obtain ⟨x7, hc8, hM⟩ := hM
 obtain ⟨x9, hc10, hM⟩ := hM
 refine k_load (i := 0) (.agg #[.int .i64 x7, .int .i64 x9]) (fun h' => cellH h' ⟨b4, 0, none⟩ = some (.int .i64 x7) ∧ cellH h' ⟨b4, 1, none⟩ = some (.int .i64 x9) ∧ True) [1, 3, 4, 5, 6, 7, 8, 9, 10, 11, 12, 13, 14, 15, 16, 17, 18, 19, 20, 21, 22, 23, 24] [1, 3, 7, 9, 15, 18, 22] (by kernel_rfl) (by kernel_rfl) rfl rfl (by kernel_rfl) (fun h' hS => Eq.trans (b := (cellH h' ⟨b4, 0, none⟩).bind fun v13 => (cellH h' ⟨b4, 1, none⟩).bind fun v14 => some (.value (.agg #[v13, v14]))) (by kernel_rfl) ((bindE hS.1 _).trans (bindE hS.2.1 _))) ⟨hc8, hc10, trivial⟩ (by kernel_rfl) ?_
 obtain ⟨x15, hc16, hM⟩ := hM
 obtain ⟨x17, hc18, hM⟩ := hM
 refine k_load (i := 2) (.agg #[.int .i64 x15, .int .i64 x17]) (fun h' => cellH h' ⟨b4, 0, none⟩ = some (.int .i64 x15) ∧ cellH h' ⟨b4, 1, none⟩ = some (.int .i64 x17) ∧ True) [3, 4, 5, 6, 7, 8, 9, 10, 11, 12, 13, 14, 15, 16, 17, 18, 19, 20, 21, 22, 23, 24] [3, 7, 9, 15, 18, 22] (by kernel_rfl) (by kernel_rfl) rfl rfl (by kernel_rfl) (fun h' hS => Eq.trans (b := (cellH h' ⟨b4, 0, none⟩).bind fun v21 => (cellH h' ⟨b4, 1, none⟩).bind fun v22 => some (.value (.agg #[v21, v22]))) (by kernel_rfl) ((bindE hS.1 _).trans (bindE hS.2.1 _))) ⟨hc16, hc18, trivial⟩ (by kernel_rfl) ?_
 refine k_eff (j := 1) (by kernel_rfl) rfl rfl (by kernel_rfl) (hpCallP 17 #[.agg #[.int .i64 x7, .int .i64 x9]] (.bool (keys_Valid x7 x9)) (by kernel_rfl) (keys_Valid_ok x7 x9 _ h5 rfl) ?_)
 intro h23 hx24
 replace hM := hM _ hx24
 obtain ⟨⟨hk25, hk26⟩, hM⟩ := hM
 refine ⟨⟨⟨hk25, hk26, trivial⟩, trivial⟩, ?_⟩
 refine k_eff (j := 3) (by kernel_rfl) rfl rfl (by kernel_rfl) (hpCallP 18 #[.agg #[.int .i64 x15, .int .i64 x17]] (.bool (ref21_Valid x15 x17)) (by kernel_rfl) (ref21_Valid_ok x15 x17 _ h23 rfl) ?_)
 intro h27 hx28
 refine ⟨trivial, ?_⟩
 refine k_pure (i := 4) [5, 6, 7, 8, 9, 10, 11, 12, 13, 14, 15, 16, 17, 18, 19, 20, 21, 22, 23, 24] (.bool ((keys_Valid x7 x9) == (ref21_Valid x15 x17))) (by kernel_rfl) rfl rfl (by kernel_rfl) (fun h' => by kernel_rfl) (by kernel_rfl) ?_
 refine k_pure (i := 5) [6, 7, 8, 9, 10, 11, 12, 13, 14, 15, 16, 17, 18, 19, 20, 21, 22, 23, 24] (.bool ((keys_Valid x7 x9) == (ref21_Valid x15 x17))) (by kernel_rfl) rfl rfl (by kernel_rfl) (fun h' => by kernel_rfl) (by kernel_rfl) ?_
 by_cases hc29 : ((keys_Valid x7 x9) == (ref21_Valid x15 x17)) = true
 · refine kwp_at 9 (.bool true) (Eq.trans (b := .bool ((keys_Valid x7 x9) == (ref21_Valid x15 x17))) (by kernel_rfl) (by rw [hc29])) ?_
   refine kwp_at 10 (.bool true) (Eq.trans (b := .bool ((keys_Valid x7 x9) == (ref21_Valid x15 x17))) (by kernel_rfl) (by rw [hc29])) ?_
   replace hM := ifT hc29 hM
   replace hM := hM _ hx28
   obtain ⟨x30, hc31, hM⟩ := hM
   obtain ⟨x32, hc33, hM⟩ := hM
   refine k_load (i := 6) (.agg #[.int .i64 x30, .int .i64 x32]) (fun h' => cellH h' ⟨b4, 0, none⟩ = some (.int .i64 x30) ∧ cellH h' ⟨b4, 1, none⟩ = some (.int .i64 x32) ∧ True) [7, 9, 10, 11, 12, 13, 14, 15, 16, 17, 18, 19, 20, 21, 22, 23, 24] [7, 9, 15, 18, 22] (by kernel_rfl) (by kernel_rfl) rfl rfl (by kernel_rfl) (fun h' hS => Eq.trans (b := (cellH h' ⟨b4, 0, none⟩).bind fun v36 => (cellH h' ⟨b4, 1, none⟩).bind fun v37 => some (.value (.agg #[v36, v37]))) (by kernel_rfl) ((bindE hS.1 _).trans (bindE hS.2.1 _))) ⟨hc31, hc33, trivial⟩ (by kernel_rfl) ?_
   obtain ⟨x38, hc39, hM⟩ := hM
   obtain ⟨x40, hc41, hM⟩ := hM
   refine k_load (i := 8) (.agg #[.int .i64 x38, .int .i64 x40]) (fun h' => cellH h' ⟨b4, 0, none⟩ = some (.int .i64 x38) ∧ cellH h' ⟨b4, 1, none⟩ = some (.int .i64 x40) ∧ True) [9, 10, 11, 12, 13, 14, 15, 16, 17, 18, 19, 20, 21, 22, 23, 24] [9, 15, 18, 22] (by kernel_rfl) (by kernel_rfl) rfl rfl (by kernel_rfl) (fun h' hS => Eq.trans (b := (cellH h' ⟨b4, 0, none⟩).bind fun v44 => (cellH h' ⟨b4, 1, none⟩).bind fun v45 => some (.value (.agg #[v44, v45]))) (by kernel_rfl) ((bindE hS.1 _).trans (bindE hS.2.1 _))) ⟨hc39, hc41, trivial⟩ (by kernel_rfl) ?_
   refine k_eff (j := 7) (by kernel_rfl) rfl rfl (by kernel_rfl) (hpCallE 19 #[.agg #[.int .i64 x30, .int .i64 x32]] (by kernel_rfl) (keys_Name_ok x30 x32 _ h27 hM) ?_)
   rintro _ h46 ⟨x47, rfl, hM⟩
   obtain ⟨⟨hk48, hk49⟩, hM⟩ := hM
   refine ⟨⟨⟨hk48, hk49, trivial⟩, trivial⟩, ?_⟩
   refine k_eff (j := 9) (by kernel_rfl) rfl rfl (by kernel_rfl) (hpCallE 20 #[.agg #[.int .i64 x38, .int .i64 x40]] (by kernel_rfl) (ref21_Name_ok x38 x40 _ h46 hM) ?_)
   rintro _ h50 ⟨x51, rfl, hM⟩
   refine ⟨trivial, ?_⟩
   refine k_pure (i := 10) [11, 12, 13, 14, 15, 16, 17, 18, 19, 20, 21, 22, 23, 24] (.bool (x47.toList == x51.toList)) (by kernel_rfl) rfl rfl (by kernel_rfl) (fun h' => by kernel_rfl) (by kernel_rfl) ?_
   refine k_pure (i := 11) [12, 13, 14, 15, 16, 17, 18, 19, 20, 21, 22, 23, 24] (.bool (x47.toList == x51.toList)) (by kernel_rfl) rfl rfl (by kernel_rfl) (fun h' => by kernel_rfl) (by kernel_rfl) ?_
   refine k_pure (i := 12) [13, 14, 15, 16, 17, 18, 19, 20, 21, 22, 23, 24] (.bool (x47.toList == x51.toList)) (by kernel_rfl) rfl rfl (by kernel_rfl) (fun h' => by kernel_rfl) (by kernel_rfl) ?_
   by_cases hc52 : (x47.toList == x51.toList) = true
   · refine kwp_at 15 (.bool true) (Eq.trans (b := .bool (x47.toList == x51.toList)) (by kernel_rfl) (by rw [hc52])) ?_
     refine kwp_at 16 (.bool true) (Eq.trans (b := .bool (x47.toList == x51.toList)) (by kernel_rfl) (by rw [hc52])) ?_
     refine kwp_at 17 (.bool true) (Eq.trans (b := .bool (x47.toList == x51.toList)) (by kernel_rfl) (by rw [hc52])) ?_
     replace hM := ifT hc52 hM
     obtain ⟨x53, hc54, hM⟩ := hM
     obtain ⟨x55, hc56, hM⟩ := hM
     refine k_load (i := 13) (.agg #[.int .i64 x53, .int .i64 x55]) (fun h' => cellH h' ⟨b4, 0, none⟩ = some (.int .i64 x53) ∧ cellH h' ⟨b4, 1, none⟩ = some (.int .i64 x55) ∧ True) [15, 18, 19, 20, 21, 22, 23, 24] [15, 18, 22] (by kernel_rfl) (by kernel_rfl) rfl rfl (by kernel_rfl) (fun h' hS => Eq.trans (b := (cellH h' ⟨b4, 0, none⟩).bind fun v59 => (cellH h' ⟨b4, 1, none⟩).bind fun v60 => some (.value (.agg #[v59, v60]))) (by kernel_rfl) ((bindE hS.1 _).trans (bindE hS.2.1 _))) ⟨hc54, hc56, trivial⟩ (by kernel_rfl) ?_
     refine k_pure (i := 14) [15, 18, 19, 20, 21, 22, 23, 24] (.bool a3) (by kernel_rfl) rfl rfl (by kernel_rfl) (fun h' => by kernel_rfl) (by kernel_rfl) ?_
     obtain ⟨x61, hc62, hM⟩ := hM
     obtain ⟨x63, hc64, hM⟩ := hM
     refine k_load (i := 16) (.agg #[.int .i64 x61, .int .i64 x63]) (fun h' => cellH h' ⟨b4, 0, none⟩ = some (.int .i64 x61) ∧ cellH h' ⟨b4, 1, none⟩ = some (.int .i64 x63) ∧ True) [18, 19, 20, 21, 22, 23, 24] [18, 22] (by kernel_rfl) (by kernel_rfl) rfl rfl (by kernel_rfl) (fun h' hS => Eq.trans (b := (cellH h' ⟨b4, 0, none⟩).bind fun v67 => (cellH h' ⟨b4, 1, none⟩).bind fun v68 => some (.value (.agg #[v67, v68]))) (by kernel_rfl) ((bindE hS.1 _).trans (bindE hS.2.1 _))) ⟨hc62, hc64, trivial⟩ (by kernel_rfl) ?_
     refine k_pure (i := 17) [18, 19, 20, 21, 22, 23, 24] (.bool a3) (by kernel_rfl) rfl rfl (by kernel_rfl) (fun h' => by kernel_rfl) (by kernel_rfl) ?_
     refine k_eff (j := 15) (by kernel_rfl) rfl rfl (by kernel_rfl) (hpCallE 21 #[.agg #[.int .i64 x53, .int .i64 x55], .bool a3] (by kernel_rfl) (keys_Bytes_ok x53 x55 a3 _ h50 hM) ?_)
     rintro _ h69 ⟨x70, rfl, hM⟩
     obtain ⟨⟨hk71, hk72⟩, hM⟩ := hM
     refine ⟨⟨⟨hk71, hk72, trivial⟩, trivial⟩, ?_⟩
     refine k_eff (j := 18) (by kernel_rfl) rfl rfl (by kernel_rfl) (hpCallE 22 #[.agg #[.int .i64 x61, .int .i64 x63], .bool a3] (by kernel_rfl) (ref21_Bytes_ok x61 x63 a3 _ h69 hM) ?_)
     rintro _ h73 ⟨x74, rfl, hM⟩
     refine ⟨trivial, ?_⟩
     refine k_pure (i := 19) [20, 21, 22, 23, 24] (.bool (x70.toList == x74.toList)) (by kernel_rfl) rfl rfl (by kernel_rfl) (fun h' => by kernel_rfl) (by kernel_rfl) ?_
     refine k_pure (i := 20) [21, 22, 23, 24] (.bool (x70.toList == x74.toList)) (by kernel_rfl) rfl rfl (by kernel_rfl) (fun h' => by kernel_rfl) (by kernel_rfl) ?_
     refine k_pure (i := 21) [22, 23, 24] (.bool (x70.toList == x74.toList)) (by kernel_rfl) rfl rfl (by kernel_rfl) (fun h' => by kernel_rfl) (by kernel_rfl) ?_
     by_cases hc75 : (x70.toList == x74.toList) = true
     · refine kwp_at 24 (.bool true) (Eq.trans (b := .bool (x70.toList == x74.toList)) (by kernel_rfl) (by rw [hc75])) ?_
       refine kwp_at 25 (.bool true) (Eq.trans (b := .bool (x70.toList == x74.toList)) (by kernel_rfl) (by rw [hc75])) ?_
       refine kwp_at 26 (.bool true) (Eq.trans (b := .bool (x70.toList == x74.toList)) (by kernel_rfl) (by rw [hc75])) ?_
       replace hM := ifT hc75 hM
       refine k_eff (j := 22) (by kernel_rfl) rfl rfl (by kernel_rfl) (hpCallE 16 #[] (by kernel_rfl) (law21_sure_ok  _ h73 hM) ?_)
       rintro _ h76 ⟨x77, rfl, hM⟩
       refine ⟨trivial, ?_⟩
       refine k_pure (i := 23) [24] (.bool x77) (by kernel_rfl) rfl rfl (by kernel_rfl) (fun h' => by kernel_rfl) (by kernel_rfl) ?_
       refine k_pure (i := 24) [] (.bool x77) (by kernel_rfl) rfl rfl (by kernel_rfl) (fun h' => by kernel_rfl) (by kernel_rfl) ?_
       refine k_done (by kernel_rfl) ?_
       refine thenE_n (cwp_ret ?_)
       exact ret_ (.bool x77) (by kernel_rfl) ⟨_, rfl, hM⟩
     refine kwp_at 24 (.bool false) (Eq.trans (b := .bool (x70.toList == x74.toList)) (by kernel_rfl) (by rw [Bool.eq_false_iff.2 hc75])) ?_
     refine kwp_at 25 (.bool false) (Eq.trans (b := .bool (x70.toList == x74.toList)) (by kernel_rfl) (by rw [Bool.eq_false_iff.2 hc75])) ?_
     refine kwp_at 26 (.bool false) (Eq.trans (b := .bool (x70.toList == x74.toList)) (by kernel_rfl) (by rw [Bool.eq_false_iff.2 hc75])) ?_
     replace hM := ifF hc75 hM
     refine k_not (i := 22) [23, 24] (by kernel_rfl) rfl rfl (by kernel_rfl) (by kernel_rfl) ?_
     refine k_pure (i := 23) [24] (.bool false) (by kernel_rfl) rfl rfl (by kernel_rfl) (fun h' => by kernel_rfl) (by kernel_rfl) ?_
     refine k_pure (i := 24) [] (.bool false) (by kernel_rfl) rfl rfl (by kernel_rfl) (fun h' => by kernel_rfl) (by kernel_rfl) ?_
     refine k_done (by kernel_rfl) ?_
     refine thenE_n (cwp_ret ?_)
     exact ret_ (.bool false) (by kernel_rfl) ⟨_, rfl, hM⟩
   refine kwp_at 15 (.bool false) (Eq.trans (b := .bool (x47.toList == x51.toList)) (by kernel_rfl) (by rw [Bool.eq_false_iff.2 hc52])) ?_
   refine kwp_at 16 (.bool false) (Eq.trans (b := .bool (x47.toList == x51.toList)) (by kernel_rfl) (by rw [Bool.eq_false_iff.2 hc52])) ?_
   refine kwp_at 17 (.bool false) (Eq.trans (b := .bool (x47.toList == x51.toList)) (by kernel_rfl) (by rw [Bool.eq_false_iff.2 hc52])) ?_
   replace hM := ifF hc52 hM
   refine k_not (i := 13) [15, 18, 19, 20, 21, 22, 23, 24] (by kernel_rfl) rfl rfl (by kernel_rfl) (by kernel_rfl) ?_
   refine k_not (i := 14) [15, 18, 19, 20, 21, 22, 23, 24] (by kernel_rfl) rfl rfl (by kernel_rfl) (by kernel_rfl) ?_
   refine k_not (i := 15) [18, 19, 20, 21, 22, 23, 24] (by kernel_rfl) rfl rfl (by kernel_rfl) (by kernel_rfl) ?_
   refine k_not (i := 16) [18, 19, 20, 21, 22, 23, 24] (by kernel_rfl) rfl rfl (by kernel_rfl) (by kernel_rfl) ?_
   refine k_not (i := 17) [18, 19, 20, 21, 22, 23, 24] (by kernel_rfl) rfl rfl (by kernel_rfl) (by kernel_rfl) ?_
   refine k_not (i := 18) [19, 20, 21, 22, 23, 24] (by kernel_rfl) rfl rfl (by kernel_rfl) (by kernel_rfl) ?_
   refine k_not (i := 19) [20, 21, 22, 23, 24] (by kernel_rfl) rfl rfl (by kernel_rfl) (by kernel_rfl) ?_
   refine k_pure (i := 20) [21, 22, 23, 24] (.bool false) (by kernel_rfl) rfl rfl (by kernel_rfl) (fun h' => by kernel_rfl) (by kernel_rfl) ?_
   refine k_pure (i := 21) [22, 23, 24] (.bool false) (by kernel_rfl) rfl rfl (by kernel_rfl) (fun h' => by kernel_rfl) (by kernel_rfl) ?_
   refine k_not (i := 22) [23, 24] (by kernel_rfl) rfl rfl (by kernel_rfl) (by kernel_rfl) ?_
   refine k_pure (i := 23) [24] (.bool false) (by kernel_rfl) rfl rfl (by kernel_rfl) (fun h' => by kernel_rfl) (by kernel_rfl) ?_
   refine k_pure (i := 24) [] (.bool false) (by kernel_rfl) rfl rfl (by kernel_rfl) (fun h' => by kernel_rfl) (by kernel_rfl) ?_
   refine k_done (by kernel_rfl) ?_
   refine thenE_n (cwp_ret ?_)
   exact ret_ (.bool false) (by kernel_rfl) ⟨_, rfl, hM⟩
 refine kwp_at 9 (.bool false) (Eq.trans (b := .bool ((keys_Valid x7 x9) == (ref21_Valid x15 x17))) (by kernel_rfl) (by rw [Bool.eq_false_iff.2 hc29])) ?_
 refine kwp_at 10 (.bool false) (Eq.trans (b := .bool ((keys_Valid x7 x9) == (ref21_Valid x15 x17))) (by kernel_rfl) (by rw [Bool.eq_false_iff.2 hc29])) ?_
 replace hM := ifF hc29 hM
 refine k_not (i := 6) [7, 9, 10, 11, 12, 13, 14, 15, 16, 17, 18, 19, 20, 21, 22, 23, 24] (by kernel_rfl) rfl rfl (by kernel_rfl) (by kernel_rfl) ?_
 refine k_not (i := 7) [9, 10, 11, 12, 13, 14, 15, 16, 17, 18, 19, 20, 21, 22, 23, 24] (by kernel_rfl) rfl rfl (by kernel_rfl) (by kernel_rfl) ?_
 refine k_not (i := 8) [9, 10, 11, 12, 13, 14, 15, 16, 17, 18, 19, 20, 21, 22, 23, 24] (by kernel_rfl) rfl rfl (by kernel_rfl) (by kernel_rfl) ?_
 refine k_not (i := 9) [10, 11, 12, 13, 14, 15, 16, 17, 18, 19, 20, 21, 22, 23, 24] (by kernel_rfl) rfl rfl (by kernel_rfl) (by kernel_rfl) ?_
 refine k_not (i := 10) [11, 12, 13, 14, 15, 16, 17, 18, 19, 20, 21, 22, 23, 24] (by kernel_rfl) rfl rfl (by kernel_rfl) (by kernel_rfl) ?_
 refine k_pure (i := 11) [12, 13, 14, 15, 16, 17, 18, 19, 20, 21, 22, 23, 24] (.bool false) (by kernel_rfl) rfl rfl (by kernel_rfl) (fun h' => by kernel_rfl) (by kernel_rfl) ?_
 refine k_pure (i := 12) [13, 14, 15, 16, 17, 18, 19, 20, 21, 22, 23, 24] (.bool false) (by kernel_rfl) rfl rfl (by kernel_rfl) (fun h' => by kernel_rfl) (by kernel_rfl) ?_
 refine k_not (i := 13) [15, 18, 19, 20, 21, 22, 23, 24] (by kernel_rfl) rfl rfl (by kernel_rfl) (by kernel_rfl) ?_
 refine k_not (i := 14) [15, 18, 19, 20, 21, 22, 23, 24] (by kernel_rfl) rfl rfl (by kernel_rfl) (by kernel_rfl) ?_
 refine k_not (i := 15) [18, 19, 20, 21, 22, 23, 24] (by kernel_rfl) rfl rfl (by kernel_rfl) (by kernel_rfl) ?_
 refine k_not (i := 16) [18, 19, 20, 21, 22, 23, 24] (by kernel_rfl) rfl rfl (by kernel_rfl) (by kernel_rfl) ?_
 refine k_not (i := 17) [18, 19, 20, 21, 22, 23, 24] (by kernel_rfl) rfl rfl (by kernel_rfl) (by kernel_rfl) ?_
 refine k_not (i := 18) [19, 20, 21, 22, 23, 24] (by kernel_rfl) rfl rfl (by kernel_rfl) (by kernel_rfl) ?_
 refine k_not (i := 19) [20, 21, 22, 23, 24] (by kernel_rfl) rfl rfl (by kernel_rfl) (by kernel_rfl) ?_
 refine k_pure (i := 20) [21, 22, 23, 24] (.bool false) (by kernel_rfl) rfl rfl (by kernel_rfl) (fun h' => by kernel_rfl) (by kernel_rfl) ?_
 refine k_pure (i := 21) [22, 23, 24] (.bool false) (by kernel_rfl) rfl rfl (by kernel_rfl) (fun h' => by kernel_rfl) (by kernel_rfl) ?_
 refine k_not (i := 22) [23, 24] (by kernel_rfl) rfl rfl (by kernel_rfl) (by kernel_rfl) ?_
 refine k_pure (i := 23) [24] (.bool false) (by kernel_rfl) rfl rfl (by kernel_rfl) (fun h' => by kernel_rfl) (by kernel_rfl) ?_
 refine k_pure (i := 24) [] (.bool false) (by kernel_rfl) rfl rfl (by kernel_rfl) (fun h' => by kernel_rfl) (by kernel_rfl) ?_
 refine k_done (by kernel_rfl) ?_
 refine thenE_n (cwp_ret ?_)
 replace hM := hM _ hx28
 exact ret_ (.bool false) (by kernel_rfl) ⟨_, rfl, hM⟩
/- mullion/mullionlaw21.KeysRound -/
def law21_KeysRound_j1 (Kn : Option Addr → Nat → Nat → Bool → ByteArray → Option Addr → Nat → Nat → Int → Heap → Prop) (y73 : Option Addr) (y73n : Nat) (y73c : Nat) (y74 : Bool) (y75 : ByteArray) (y76 : Option Addr) (y76n : Nat) (y76c : Nat) (y77 : Int) (h : Heap) : Prop :=
 nz y73 fun p80 =>
 0 ≤ y77 ∧
 y77 < (y73n : Int) ∧
 ldI h .i64 (p80.add ((y77).toNat * 2)) fun x81 =>
 ldI h .i64 ((p80.add ((y77).toNat * 2)).add 1) fun x83 =>
 if (!((x81 == 27) && (x83 == 0))) = true then
  0 ≤ y77 ∧
  y77 < (y73n : Int) ∧
  ldI h .i64 (p80.add ((y77).toNat * 2)) fun x98 =>
  ldI h .i64 ((p80.add ((y77).toNat * 2)).add 1) fun x100 =>
  if (!((x98 == 91) && (x100 == 2))) = true then
   0 ≤ y77 ∧
   y77 < (y73n : Int) ∧
   ldI h .i64 (p80.add ((y77).toNat * 2)) fun x115 =>
   ldI h .i64 ((p80.add ((y77).toNat * 2)).add 1) fun x117 =>
   if (!((x115 == 79) && (x117 == 2))) = true then
    0 ≤ y77 ∧
    y77 < (y73n : Int) ∧
    ldI h .i64 (p80.add ((y77).toNat * 2)) fun x124 =>
    ldI h .i64 ((p80.add ((y77).toNat * 2)).add 1) fun x126 =>
    keys_Bytes x124 x126 y74 (fun x131 h130 =>
     y75.size + x131.size ≤ 9223372036854775807 ∧
     0 ≤ y77 ∧
     y77 < (y73n : Int) ∧
     ldI h130 .i64 (p80.add ((y77).toNat * 2)) fun x135 =>
     ldI h130 .i64 ((p80.add ((y77).toNat * 2)).add 1) fun x137 =>
     gap h130 fun h142 =>
     appH h142 36 16 [.int .i64 0, .int .i64 0] y76 y76n y76c [.int .i64 x135, .int .i64 x137] 1 fun s145 s145c h144 =>
      Kn (some p80) y73n y73c y74 (y75 ++ x131) s145 (y76n + 1) s145c y77 h144) h
   else
   Kn (some p80) y73n y73c y74 y75 y76 y76n y76c y77 h
  else
  Kn (some p80) y73n y73c y74 y75 y76 y76n y76c y77 h
 else
 Kn (some p80) y73n y73c y74 y75 y76 y76n y76c y77 h
theorem law21_KeysRound_j1_ok {Q : Exit → Env → Heap → Prop} (Kn : Option Addr → Nat → Nat → Bool → ByteArray → Option Addr → Nat → Nat → Int → Heap → Prop) (hKn : ∀ (z156 : Option Addr) (z156n : Nat) (z156c : Nat) (z157 : Bool) (z158 : ByteArray) (z159 : Option Addr) (z159n : Nat) (z159c : Nat) (z160 : Int) (b : Env) (h : Heap), Kn z156 z156n z156c z157 z158 z159 z159n z159c z160 h → Q .normal (upd (upd (upd (upd (upd b 0 (.slice z156 z156n z156c)) 1 (.bool z157)) 5 (.string z158)) 6 (.slice z159 z159n z159c)) 7 (.int .i64 z160)) h) (y73 : Option Addr) (y73n : Nat) (y73c : Nat) (y74 : Bool) (y75 : ByteArray) (y76 : Option Addr) (y76n : Nat) (y76c : Nat) (y77 : Int) (b : Env) (h : Heap) (hM : law21_KeysRound_j1 Kn y73 y73n y73c y74 y75 y76 y76n y76c y77 h) : cwp Tryd.prog (partC Tryd.f6 [1, 1, 1, 0, 1, 0, 0, 1, 0, 0, 1, 1, 1, 1, 1, 1]) 107 Q (upd (upd (upd (upd (upd b 0 (.slice y73 y73n y73c)) 1 (.bool y74)) 5 (.string y75)) 6 (.slice y76 y76n y76c)) 7 (.int .i64 y77)) h := by
  unfold law21_KeysRound_j1 at hM
  refine cwp_part rfl ?_
  refine cR ?_
  refine oS [(54, .slice y73 y73n y73c), (55, .int .i64 y77)] rfl ?_
  obtain ⟨p80, rfl, hM⟩ := hM
  obtain ⟨hc78, hM⟩ := hM
  obtain ⟨hc79, hM⟩ := hM
  refine owp_rdG (.pointer (some (p80.add ((y77).toNat * 2)))) rfl (by kernel_rfl) (rd_ixS (P := Tryd.prog) (h := h) (t := 27) (el := 36) (sz := 2) (ad := p80) (len := y73n) (c := y73c) (k := .i64) (i := y77) (by kernel_rfl) (by kernel_rfl) hc78 hc79 (by kernel_rfl)) ?_
  obtain ⟨x81, hc82, hM⟩ := hM
  obtain ⟨x83, hc84, hM⟩ := hM
  refine owp_rdG (.agg #[.int .i64 x81, .int .i64 x83]) rfl (by kernel_rfl) (Eq.trans (b := (cellH h (p80.add ((y77).toNat * 2))).bind fun v85 => (cellH h ((p80.add ((y77).toNat * 2)).add 1)).bind fun v86 => some (.value (.agg #[v85, v86]))) (by kernel_rfl) ((bindE hc82 _).trans (bindE hc84 _))) ?_
  refine oS [(58, .agg #[.int .i64 27, .int .i64 0])] rfl ?_
  refine owp_rdG (.bool (!((x81 == 27) && (x83 == 0)))) rfl (by kernel_rfl) ((by kernel_rfl : _ = rd Tryd.prog (toVal ((Op.equal 36 (.agg #[.int .i64 x81, .int .i64 x83]) (.agg #[.int .i64 27, .int .i64 0])).bind fun v_ => Sem.pure (.bool (!v_)))) h).trans (rd_neB (eq_T36 9998))) ?_
  refine oS [(60, .bool (!((x81 == 27) && (x83 == 0))))] rfl ?_
  by_cases hc95 : (!((x81 == 27) && (x83 == 0))) = true
  · refine owp_at 59 (.bool true) (Eq.trans (b := .bool (!((x81 == 27) && (x83 == 0)))) (by kernel_rfl) (by rw [hc95])) ?_
    refine owp_at 60 (.bool true) (Eq.trans (b := .bool (!((x81 == 27) && (x83 == 0)))) (by kernel_rfl) (by rw [hc95])) ?_
    replace hM := ifT hc95 hM
    refine oS [(61, .slice (some p80) y73n y73c), (62, .int .i64 y77)] rfl ?_
    obtain ⟨hc96, hM⟩ := hM
    obtain ⟨hc97, hM⟩ := hM
    refine owp_rdG (.pointer (some (p80.add ((y77).toNat * 2)))) rfl (by kernel_rfl) (rd_ixS (P := Tryd.prog) (h := h) (t := 27) (el := 36) (sz := 2) (ad := p80) (len := y73n) (c := y73c) (k := .i64) (i := y77) (by kernel_rfl) (by kernel_rfl) hc96 hc97 (by kernel_rfl)) ?_
    obtain ⟨x98, hc99, hM⟩ := hM
    obtain ⟨x100, hc101, hM⟩ := hM
    refine owp_rdG (.agg #[.int .i64 x98, .int .i64 x100]) rfl (by kernel_rfl) (Eq.trans (b := (cellH h (p80.add ((y77).toNat * 2))).bind fun v102 => (cellH h ((p80.add ((y77).toNat * 2)).add 1)).bind fun v103 => some (.value (.agg #[v102, v103]))) (by kernel_rfl) ((bindE hc99 _).trans (bindE hc101 _))) ?_
    refine oS [(65, .agg #[.int .i64 91, .int .i64 2])] rfl ?_
    refine owp_rdG (.bool (!((x98 == 91) && (x100 == 2)))) rfl (by kernel_rfl) ((by kernel_rfl : _ = rd Tryd.prog (toVal ((Op.equal 36 (.agg #[.int .i64 x98, .int .i64 x100]) (.agg #[.int .i64 91, .int .i64 2])).bind fun v_ => Sem.pure (.bool (!v_)))) h).trans (rd_neB (eq_T36 9998))) ?_
    refine oS [(67, .bool (!((x98 == 91) && (x100 == 2)))), (68, .bool (!((x98 == 91) && (x100 == 2))))] rfl ?_
    by_cases hc112 : (!((x98 == 91) && (x100 == 2))) = true
    · refine owp_at 66 (.bool true) (Eq.trans (b := .bool (!((x98 == 91) && (x100 == 2)))) (by kernel_rfl) (by rw [hc112])) ?_
      refine owp_at 67 (.bool true) (Eq.trans (b := .bool (!((x98 == 91) && (x100 == 2)))) (by kernel_rfl) (by rw [hc112])) ?_
      refine owp_at 68 (.bool true) (Eq.trans (b := .bool (!((x98 == 91) && (x100 == 2)))) (by kernel_rfl) (by rw [hc112])) ?_
      replace hM := ifT hc112 hM
      refine oS [(69, .slice (some p80) y73n y73c), (70, .int .i64 y77)] rfl ?_
      obtain ⟨hc113, hM⟩ := hM
      obtain ⟨hc114, hM⟩ := hM
      refine owp_rdG (.pointer (some (p80.add ((y77).toNat * 2)))) rfl (by kernel_rfl) (rd_ixS (P := Tryd.prog) (h := h) (t := 27) (el := 36) (sz := 2) (ad := p80) (len := y73n) (c := y73c) (k := .i64) (i := y77) (by kernel_rfl) (by kernel_rfl) hc113 hc114 (by kernel_rfl)) ?_
      obtain ⟨x115, hc116, hM⟩ := hM
      obtain ⟨x117, hc118, hM⟩ := hM
      refine owp_rdG (.agg #[.int .i64 x115, .int .i64 x117]) rfl (by kernel_rfl) (Eq.trans (b := (cellH h (p80.add ((y77).toNat * 2))).bind fun v119 => (cellH h ((p80.add ((y77).toNat * 2)).add 1)).bind fun v120 => some (.value (.agg #[v119, v120]))) (by kernel_rfl) ((bindE hc116 _).trans (bindE hc118 _))) ?_
      refine oS [(73, .agg #[.int .i64 79, .int .i64 2])] rfl ?_
      refine owp_rdG (.bool (!((x115 == 79) && (x117 == 2)))) rfl (by kernel_rfl) ((by kernel_rfl : _ = rd Tryd.prog (toVal ((Op.equal 36 (.agg #[.int .i64 x115, .int .i64 x117]) (.agg #[.int .i64 79, .int .i64 2])).bind fun v_ => Sem.pure (.bool (!v_)))) h).trans (rd_neB (eq_T36 9998))) ?_
      refine oS [(75, .bool (!((x115 == 79) && (x117 == 2))))] rfl ?_
      refine oE ?_
      refine cwp_condB (!((x115 == 79) && (x117 == 2))) (by kernel_rfl) (fun hc121 => ?_) (fun hc121 => ?_)
      · replace hM := ifT hc121 hM
        refine cR ?_
        refine oS [(76, .string y75), (77, .slice (some p80) y73n y73c), (78, .int .i64 y77)] rfl ?_
        obtain ⟨hc122, hM⟩ := hM
        obtain ⟨hc123, hM⟩ := hM
        refine owp_rdG (.pointer (some (p80.add ((y77).toNat * 2)))) rfl (by kernel_rfl) (rd_ixS (P := Tryd.prog) (h := h) (t := 27) (el := 36) (sz := 2) (ad := p80) (len := y73n) (c := y73c) (k := .i64) (i := y77) (by kernel_rfl) (by kernel_rfl) hc122 hc123 (by kernel_rfl)) ?_
        obtain ⟨x124, hc125, hM⟩ := hM
        obtain ⟨x126, hc127, hM⟩ := hM
        refine owp_rdG (.agg #[.int .i64 x124, .int .i64 x126]) rfl (by kernel_rfl) (Eq.trans (b := (cellH h (p80.add ((y77).toNat * 2))).bind fun v128 => (cellH h ((p80.add ((y77).toNat * 2)).add 1)).bind fun v129 => some (.value (.agg #[v128, v129]))) (by kernel_rfl) ((bindE hc125 _).trans (bindE hc127 _))) ?_
        refine oS [(81, .bool y74)] rfl ?_
        refine owp_hpG rfl (by kernel_rfl) (hpCallE 21 #[.agg #[.int .i64 x124, .int .i64 x126], .bool y74] (by kernel_rfl) (keys_Bytes_ok x124 x126 y74 _ h hM) ?_)
        rintro _ h130 ⟨x131, rfl, hM⟩
        obtain ⟨hc132, hM⟩ := hM
        refine owp_rdG (.string (y75 ++ x131)) rfl (by kernel_rfl) (rd_cat (P := Tryd.prog) (h := h130) (x := y75) (y := x131) hc132 (by kernel_rfl)) ?_
        refine oS [(5, .string (y75 ++ x131))] rfl ?_
        refine oE (cwp_region ?_)
        refine oS [(84, .slice y76 y76n y76c), (85, .slice (some p80) y73n y73c), (86, .int .i64 y77)] rfl ?_
        obtain ⟨hc133, hM⟩ := hM
        obtain ⟨hc134, hM⟩ := hM
        refine owp_rdG (.pointer (some (p80.add ((y77).toNat * 2)))) rfl (by kernel_rfl) (rd_ixS (P := Tryd.prog) (h := h130) (t := 27) (el := 36) (sz := 2) (ad := p80) (len := y73n) (c := y73c) (k := .i64) (i := y77) (by kernel_rfl) (by kernel_rfl) hc133 hc134 (by kernel_rfl)) ?_
        obtain ⟨x135, hc136, hM⟩ := hM
        obtain ⟨x137, hc138, hM⟩ := hM
        refine owp_rdG (.agg #[.int .i64 x135, .int .i64 x137]) rfl (by kernel_rfl) (Eq.trans (b := (cellH h130 (p80.add ((y77).toNat * 2))).bind fun v139 => (cellH h130 ((p80.add ((y77).toNat * 2)).add 1)).bind fun v140 => some (.value (.agg #[v139, v140]))) (by kernel_rfl) ((bindE hc136 _).trans (bindE hc138 _))) ?_
        refine owp_hpG rfl (by kernel_rfl) (hpNewS #[.int .i64 x135, .int .i64 x137] 36 1 (fun _ => by kernel_rfl) ?_)
        intro b141 h142 hN143
        replace hM := hM _ (New.ext hN143)
        refine owp_hpG rfl (by kernel_rfl) (hpApp (t := 27) (ty := 27) (et := 36) (zv := .agg #[.int .i64 0, .int .i64 0]) (sz := 2) (by_ := 16) (base := y76) (n' := y76n) (c := y76c) (xb := (some ⟨b141, 0, none⟩)) (m := 1) (xc := 1) (new := [.int .i64 x135, .int .i64 x137]) (fun _ => by kernel_rfl) (by kernel_rfl) (by kernel_rfl) [.int .i64 0, .int .i64 0] rfl rfl (by decide) rfl rfl ⟨Blk.cell (New.blk hN143) 0 (by kernel_rfl), Blk.cell (New.blk hN143) 1 (by kernel_rfl), trivial⟩ hM ?_)
        intro s145 s145c h144 hM
        refine oS [(6, .slice s145 (y76n + 1) s145c)] rfl ?_
        refine owp_nil ?_
        exact q_at (Q := Q .normal) 0 (.slice (some p80) y73n y73c) (by kernel_rfl) (q_at (Q := Q .normal) 1 (.bool y74) (by kernel_rfl) (q_at (Q := Q .normal) 5 (.string (y75 ++ x131)) (by kernel_rfl) (q_at (Q := Q .normal) 6 (.slice s145 (y76n + 1) s145c) (by kernel_rfl) (q_at (Q := Q .normal) 7 (.int .i64 y77) (by kernel_rfl) (hKn (some p80) y73n y73c y74 (y75 ++ x131) s145 (y76n + 1) s145c y77 _ _ hM)))))
      replace hM := ifF hc121 hM
      refine cwp_skip ?_
      exact q_at (Q := Q .normal) 0 (.slice (some p80) y73n y73c) (by kernel_rfl) (q_at (Q := Q .normal) 1 (.bool y74) (by kernel_rfl) (q_at (Q := Q .normal) 5 (.string y75) (by kernel_rfl) (q_at (Q := Q .normal) 6 (.slice y76 y76n y76c) (by kernel_rfl) (q_at (Q := Q .normal) 7 (.int .i64 y77) (by kernel_rfl) (hKn (some p80) y73n y73c y74 y75 y76 y76n y76c y77 _ _ hM)))))
    refine owp_at 66 (.bool false) (Eq.trans (b := .bool (!((x98 == 91) && (x100 == 2)))) (by kernel_rfl) (by rw [Bool.eq_false_iff.2 hc112])) ?_
    refine owp_at 67 (.bool false) (Eq.trans (b := .bool (!((x98 == 91) && (x100 == 2)))) (by kernel_rfl) (by rw [Bool.eq_false_iff.2 hc112])) ?_
    refine owp_at 68 (.bool false) (Eq.trans (b := .bool (!((x98 == 91) && (x100 == 2)))) (by kernel_rfl) (by rw [Bool.eq_false_iff.2 hc112])) ?_
    replace hM := ifF hc112 hM
    refine oS [(69, undef), (70, undef), (71, undef), (72, undef), (73, undef), (74, undef), (75, .bool false)] rfl ?_
    refine oE ?_
    refine cwp_cond (t := false) (by kernel_rfl) (fun hx_ => ?_) (fun hx_ => ?_)
    all_goals first | (cases hx_; done) | skip
    refine cwp_skip ?_
    exact q_at (Q := Q .normal) 0 (.slice (some p80) y73n y73c) (by kernel_rfl) (q_at (Q := Q .normal) 1 (.bool y74) (by kernel_rfl) (q_at (Q := Q .normal) 5 (.string y75) (by kernel_rfl) (q_at (Q := Q .normal) 6 (.slice y76 y76n y76c) (by kernel_rfl) (q_at (Q := Q .normal) 7 (.int .i64 y77) (by kernel_rfl) (hKn (some p80) y73n y73c y74 y75 y76 y76n y76c y77 _ _ hM)))))
  refine owp_at 59 (.bool false) (Eq.trans (b := .bool (!((x81 == 27) && (x83 == 0)))) (by kernel_rfl) (by rw [Bool.eq_false_iff.2 hc95])) ?_
  refine owp_at 60 (.bool false) (Eq.trans (b := .bool (!((x81 == 27) && (x83 == 0)))) (by kernel_rfl) (by rw [Bool.eq_false_iff.2 hc95])) ?_
  replace hM := ifF hc95 hM
  refine oS [(61, undef), (62, undef), (63, undef), (64, undef), (65, undef), (66, undef), (67, .bool false), (68, .bool false), (69, undef), (70, undef), (71, undef), (72, undef), (73, undef), (74, undef), (75, .bool false)] rfl ?_
  refine oE ?_
  refine cwp_cond (t := false) (by kernel_rfl) (fun hx_ => ?_) (fun hx_ => ?_)
  all_goals first | (cases hx_; done) | skip
  refine cwp_skip ?_
  exact q_at (Q := Q .normal) 0 (.slice (some p80) y73n y73c) (by kernel_rfl) (q_at (Q := Q .normal) 1 (.bool y74) (by kernel_rfl) (q_at (Q := Q .normal) 5 (.string y75) (by kernel_rfl) (q_at (Q := Q .normal) 6 (.slice y76 y76n y76c) (by kernel_rfl) (q_at (Q := Q .normal) 7 (.int .i64 y77) (by kernel_rfl) (hKn (some p80) y73n y73c y74 y75 y76 y76n y76c y77 _ _ hM)))))
def law21_KeysRound_l0 (K0 : ByteArray → Option Addr → Nat → Nat → Heap → Prop) (Kr : Bool → Heap → Prop) : Nat → Option Addr → Nat → Nat → Bool → ByteArray → Option Addr → Nat → Nat → Int → Heap → Prop
  | 0, _, _, _, _, _, _, _, _, _, _ => False
  | k + 1, y3, y3n, y3c, y4, y5, y6, y6n, y6c, y7, h =>
  if y7 < (y3n : Int) then
   nz y3 fun p11 =>
   0 ≤ y7 ∧
   y7 < (y3n : Int) ∧
   ldI h .i64 (p11.add ((y7).toNat * 2)) fun x12 =>
   ldI h .i64 ((p11.add ((y7).toNat * 2)).add 1) fun x14 =>
   if (!(keys_Valid x12 x14)) = true then
    gap h fun h18 =>
    law21_KeysRound_l0 K0 Kr k (some p11) y3n y3c y4 y5 y6 y6n y6c (IntKind.wrap .i64 (y7 + 1)) h18
   else
   gap h fun h18 =>
   keys_New  (fun x22 h21 =>
    if x22.isNone = true then
     Kr false h21
    else
    0 ≤ y7 ∧
    y7 < (y3n : Int) ∧
    ldI h21 .i64 (p11.add ((y7).toNat * 2)) fun x27 =>
    ldI h21 .i64 ((p11.add ((y7).toNat * 2)).add 1) fun x29 =>
    keys_Bytes x27 x29 y4 (fun x34 h33 =>
     keys_Decoder_Feed x22 x34 (fun x36 x36n x36c h35 =>
      keys_Decoder_Flush x22 (fun x38 x38n x38c h37 =>
       0 ≤ y7 ∧
       y7 < (y3n : Int) ∧
       ldI h37 .i64 (p11.add ((y7).toNat * 2)) fun x41 =>
       ldI h37 .i64 ((p11.add ((y7).toNat * 2)).add 1) fun x43 =>
       (newB h37 #[] 36 fun b49 h50 =>
       (cellH h50 (p11.add ((y7).toNat * 2)) = some (.int .i64 x41) ∧ cellH h50 ((p11.add ((y7).toNat * 2)).add 1) = some (.int .i64 x43)) ∧
       (appS h50 36 16 [.int .i64 0, .int .i64 0] (some ⟨b49, 0, none⟩) 0 0 x36 x36n fun s55 s55c h54 =>
       (cellH h54 (p11.add ((y7).toNat * 2)) = some (.int .i64 x41) ∧ cellH h54 ((p11.add ((y7).toNat * 2)).add 1) = some (.int .i64 x43)) ∧
       (appS h54 36 16 [.int .i64 0, .int .i64 0] s55 (0 + x36n) s55c x38 x38n fun s60 s60c h59 =>
       (cellH h59 (p11.add ((y7).toNat * 2)) = some (.int .i64 x41) ∧ cellH h59 ((p11.add ((y7).toNat * 2)).add 1) = some (.int .i64 x43)) ∧
       newB h59 #[.int .i64 x41, .int .i64 x43] 36 fun b64 h65 =>
       law21_same s60 ((0 + x36n) + x38n) s60c (some ⟨b64, 0, none⟩) 1 1 (fun x68 h67 =>
        if (!x68) = true then
         Kr false h67
        else
        keys_Decoder_Held x22 (fun x71 h70 =>
         if (!(x71.toList == (⟨#[]⟩ : ByteArray).toList)) = true then
          Kr false h70
         else
         law21_KeysRound_j1
          (fun z161 z161n z161c z162 z163 z164 z164n z164c z165 h166 =>
                law21_KeysRound_l0 K0 Kr k z161 z161n z161c z162 z163 z164 z164n z164c (IntKind.wrap .i64 (z165 + 1)) h166) (some p11) y3n y3c y4 y5 y6 y6n y6c y7 h70) h67) h65) ∧
       newB h54 #[.int .i64 x41, .int .i64 x43] 36 fun b169 h170 =>
       appS h170 36 16 [.int .i64 0, .int .i64 0] s55 (0 + x36n) s55c x38 x38n fun s173 s173c h172 =>
       law21_same s173 ((0 + x36n) + x38n) s173c (some ⟨b169, 0, none⟩) 1 1 (fun x176 h175 =>
        if (!x176) = true then
         Kr false h175
        else
        keys_Decoder_Held x22 (fun x179 h178 =>
         if (!(x179.toList == (⟨#[]⟩ : ByteArray).toList)) = true then
          Kr false h178
         else
         law21_KeysRound_j1
          (fun z181 z181n z181c z182 z183 z184 z184n z184c z185 h186 =>
                law21_KeysRound_l0 K0 Kr k z181 z181n z181c z182 z183 z184 z184n z184c (IntKind.wrap .i64 (z185 + 1)) h186) (some p11) y3n y3c y4 y5 y6 y6n y6c y7 h178) h175) h172) ∧
       newB h50 #[.int .i64 x41, .int .i64 x43] 36 fun b189 h190 =>
       appS h190 36 16 [.int .i64 0, .int .i64 0] (some ⟨b49, 0, none⟩) 0 0 x36 x36n fun s193 s193c h192 =>
       appS h192 36 16 [.int .i64 0, .int .i64 0] s193 (0 + x36n) s193c x38 x38n fun s196 s196c h195 =>
       law21_same s196 ((0 + x36n) + x38n) s196c (some ⟨b189, 0, none⟩) 1 1 (fun x199 h198 =>
        if (!x199) = true then
         Kr false h198
        else
        keys_Decoder_Held x22 (fun x202 h201 =>
         if (!(x202.toList == (⟨#[]⟩ : ByteArray).toList)) = true then
          Kr false h201
         else
         law21_KeysRound_j1
          (fun z204 z204n z204c z205 z206 z207 z207n z207c z208 h209 =>
                law21_KeysRound_l0 K0 Kr k z204 z204n z204c z205 z206 z207 z207n z207c (IntKind.wrap .i64 (z208 + 1)) h209) (some p11) y3n y3c y4 y5 y6 y6n y6c y7 h201) h198) h195) ∧
       newB h37 #[.int .i64 x41, .int .i64 x43] 36 fun b212 h213 =>
       newB h213 #[] 36 fun b215 h216 =>
       appS h216 36 16 [.int .i64 0, .int .i64 0] (some ⟨b215, 0, none⟩) 0 0 x36 x36n fun s219 s219c h218 =>
       appS h218 36 16 [.int .i64 0, .int .i64 0] s219 (0 + x36n) s219c x38 x38n fun s222 s222c h221 =>
       law21_same s222 ((0 + x36n) + x38n) s222c (some ⟨b212, 0, none⟩) 1 1 (fun x225 h224 =>
        if (!x225) = true then
         Kr false h224
        else
        keys_Decoder_Held x22 (fun x228 h227 =>
         if (!(x228.toList == (⟨#[]⟩ : ByteArray).toList)) = true then
          Kr false h227
         else
         law21_KeysRound_j1
          (fun z230 z230n z230c z231 z232 z233 z233n z233c z234 h235 =>
                    law21_KeysRound_l0 K0 Kr k z230 z230n z230c z231 z232 z233 z233n z233c (IntKind.wrap .i64 (z234 + 1)) h235) (some p11) y3n y3c y4 y5 y6 y6n y6c y7 h227) h224) h221) h35) h33) h21) h18
  else
  K0 y5 y6 y6n y6c h
theorem law21_KeysRound_l0_ok {Q : Exit → Env → Heap → Prop} (K0 : ByteArray → Option Addr → Nat → Nat → Heap → Prop) (hK0 : ∀ (z242 : ByteArray) (z243 : Option Addr) (z243n : Nat) (z243c : Nat) (b : Env) (h : Heap), K0 z242 z243 z243n z243c h → Q (.exit 0) (upd (upd b 5 (.string z242)) 6 (.slice z243 z243n z243c)) h) (Kr : Bool → Heap → Prop) (hKr : ∀ (z245 : Bool) (b : Env) (h : Heap), Kr z245 h → Q .ret (upd b 4 (.bool z245)) h) : ∀ (k : Nat) (y3 : Option Addr) (y3n : Nat) (y3c : Nat) (y4 : Bool) (y5 : ByteArray) (y6 : Option Addr) (y6n : Nat) (y6c : Nat) (y7 : Int) (b : Env) (h : Heap) (hM : law21_KeysRound_l0 K0 Kr k y3 y3n y3c y4 y5 y6 y6n y6c y7 h), lwp Tryd.prog (partC Tryd.f6 [1, 1, 1, 0, 1, 0, 0]) 107 Q k (upd (upd (upd (upd (upd b 0 (.slice y3 y3n y3c)) 1 (.bool y4)) 5 (.string y5)) 6 (.slice y6 y6n y6c)) 7 (.int .i64 y7)) h := by
  intro k
  induction k with
  | zero => intro y3 y3n y3c y4 y5 y6 y6n y6c y7 b h hM; exact (show False from hM).elim
  | succ k ih =>
    intro y3 y3n y3c y4 y5 y6 y6n y6c y7 b h hM
    unfold law21_KeysRound_l0 at hM
    refine lwp_succ (cwp_part rfl ?_)
    refine cwp_seq (cR ?_)
    refine oS [(12, .int .i64 y7), (13, .slice y3 y3n y3c), (14, .int .i64 (y3n : Int)), (15, .bool (decide (y7 < (y3n : Int))))] rfl ?_
    refine oE ?_
    refine cwp_condD (y7 < (y3n : Int)) (by kernel_rfl) (fun hc8 => ?_) (fun hc8 => ?_)
    · replace hM := ifT hc8 hM
      refine cwp_skip (thenE_n (cwp_seq (cwp_block (cwp_seq (cR ?_)))))
      refine oS [(18, .slice y3 y3n y3c), (19, .int .i64 y7)] rfl ?_
      obtain ⟨p11, rfl, hM⟩ := hM
      obtain ⟨hc9, hM⟩ := hM
      obtain ⟨hc10, hM⟩ := hM
      refine owp_rdG (.pointer (some (p11.add ((y7).toNat * 2)))) rfl (by kernel_rfl) (rd_ixS (P := Tryd.prog) (h := h) (t := 27) (el := 36) (sz := 2) (ad := p11) (len := y3n) (c := y3c) (k := .i64) (i := y7) (by kernel_rfl) (by kernel_rfl) hc9 hc10 (by kernel_rfl)) ?_
      obtain ⟨x12, hc13, hM⟩ := hM
      obtain ⟨x14, hc15, hM⟩ := hM
      refine owp_rdG (.agg #[.int .i64 x12, .int .i64 x14]) rfl (by kernel_rfl) (Eq.trans (b := (cellH h (p11.add ((y7).toNat * 2))).bind fun v16 => (cellH h ((p11.add ((y7).toNat * 2)).add 1)).bind fun v17 => some (.value (.agg #[v16, v17]))) (by kernel_rfl) ((bindE hc13 _).trans (bindE hc15 _))) ?_
      refine owp_hpG rfl (by kernel_rfl) (hpCallP 17 #[.agg #[.int .i64 x12, .int .i64 x14]] (.bool (keys_Valid x12 x14)) (by kernel_rfl) (keys_Valid_ok x12 x14 _ h rfl) ?_)
      intro h18 hx19
      refine oS [(23, .bool (!(keys_Valid x12 x14)))] rfl ?_
      refine oE ?_
      refine cwp_condB (!(keys_Valid x12 x14)) (by kernel_rfl) (fun hc20 => ?_) (fun hc20 => ?_)
      · replace hM := ifT hc20 hM
        refine cwp_exit (thenE_x (blockE_h (thenE_n (cwp_region ?_))))
        refine oS [(16, .int .i64 y7), (17, .int .i64 (IntKind.wrap .i64 (y7 + 1))), (7, .int .i64 (IntKind.wrap .i64 (y7 + 1)))] rfl ?_
        refine owp_nil ?_
        replace hM := hM _ hx19
        exact lwp_at 0 (.slice (some p11) y3n y3c) (by kernel_rfl) (lwp_at 1 (.bool y4) (by kernel_rfl) (lwp_at 5 (.string y5) (by kernel_rfl) (lwp_at 6 (.slice y6 y6n y6c) (by kernel_rfl) (lwp_at 7 (.int .i64 (IntKind.wrap .i64 (y7 + 1))) (by kernel_rfl) (ih (some p11) y3n y3c y4 y5 y6 y6n y6c (IntKind.wrap .i64 (y7 + 1)) _ _ hM)))))
      replace hM := ifF hc20 hM
      refine cwp_skip (thenE_n (cR ?_))
      replace hM := hM _ hx19
      refine owp_hpG rfl (by kernel_rfl) (hpCallE 9 #[] (by kernel_rfl) (keys_New_ok  _ h18 hM) ?_)
      rintro _ h21 ⟨x22, rfl, hM⟩
      refine oS [(8, .pointer x22)] rfl ?_
      refine oE (cwp_seq (cR ?_))
      refine oS [(25, .pointer x22)] rfl ?_
      refine owp_rdG (.bool x22.isNone) rfl (by kernel_rfl) (rd_eqNil (P := Tryd.prog) (h := h21) (t := 23) (el := 53) (by kernel_rfl) (by kernel_rfl)) ?_
      refine oE ?_
      refine cwp_condB x22.isNone (by kernel_rfl) (fun hc23 => ?_) (fun hc23 => ?_)
      · replace hM := ifT hc23 hM
        refine cR ?_
        refine oS [(4, .bool false)] rfl ?_
        refine oE (cwp_ret (thenE_r (blockE_r (thenE_r ?_))))
        exact q_at (Q := Q .ret) 4 (.bool false) (by kernel_rfl) (hKr false _ _ hM)
      replace hM := ifF hc23 hM
      refine cwp_skip (thenE_n (cR ?_))
      refine oS [(27, .pointer x22), (28, .slice (some p11) y3n y3c), (29, .int .i64 y7)] rfl ?_
      obtain ⟨hc25, hM⟩ := hM
      obtain ⟨hc26, hM⟩ := hM
      refine owp_rdG (.pointer (some (p11.add ((y7).toNat * 2)))) rfl (by kernel_rfl) (rd_ixS (P := Tryd.prog) (h := h21) (t := 27) (el := 36) (sz := 2) (ad := p11) (len := y3n) (c := y3c) (k := .i64) (i := y7) (by kernel_rfl) (by kernel_rfl) hc25 hc26 (by kernel_rfl)) ?_
      obtain ⟨x27, hc28, hM⟩ := hM
      obtain ⟨x29, hc30, hM⟩ := hM
      refine owp_rdG (.agg #[.int .i64 x27, .int .i64 x29]) rfl (by kernel_rfl) (Eq.trans (b := (cellH h21 (p11.add ((y7).toNat * 2))).bind fun v31 => (cellH h21 ((p11.add ((y7).toNat * 2)).add 1)).bind fun v32 => some (.value (.agg #[v31, v32]))) (by kernel_rfl) ((bindE hc28 _).trans (bindE hc30 _))) ?_
      refine oS [(32, .bool y4)] rfl ?_
      refine owp_hpG rfl (by kernel_rfl) (hpCallE 21 #[.agg #[.int .i64 x27, .int .i64 x29], .bool y4] (by kernel_rfl) (keys_Bytes_ok x27 x29 y4 _ h21 hM) ?_)
      rintro _ h33 ⟨x34, rfl, hM⟩
      refine owp_hpG rfl (by kernel_rfl) (hpCallE 12 #[.pointer x22, .string x34] (by kernel_rfl) (keys_Decoder_Feed_ok x22 x34 _ h33 hM) ?_)
      rintro _ h35 ⟨x36, x36n, x36c, rfl, hM⟩
      refine oS [(9, .slice x36 x36n x36c)] rfl ?_
      refine oE (cR ?_)
      refine oS [(35, .pointer x22)] rfl ?_
      refine owp_hpG rfl (by kernel_rfl) (hpCallE 10 #[.pointer x22] (by kernel_rfl) (keys_Decoder_Flush_ok x22 _ h35 hM) ?_)
      rintro _ h37 ⟨x38, x38n, x38c, rfl, hM⟩
      refine oS [(10, .slice x38 x38n x38c)] rfl ?_
      refine oE (cwp_seq (cwp_seq ?_))
      refine cwp_draw (by kernel_rfl) ?_
      refine k_pure (i := 1) [2, 4, 10, 11, 12, 13, 14, 15, 16] (.slice x36 x36n x36c) (by kernel_rfl) rfl rfl (by kernel_rfl) (fun h' => by kernel_rfl) (by kernel_rfl) ?_
      refine k_pure (i := 3) [4, 10, 11, 12, 13, 14, 15, 16] (.slice x38 x38n x38c) (by kernel_rfl) rfl rfl (by kernel_rfl) (fun h' => by kernel_rfl) (by kernel_rfl) ?_
      refine k_pure (i := 5) [7, 8, 9, 10, 11, 12, 13, 14, 15, 16] (.slice (some p11) y3n y3c) (by kernel_rfl) rfl rfl (by kernel_rfl) (fun h' => by kernel_rfl) (by kernel_rfl) ?_
      refine k_pure (i := 6) [7, 8, 9, 10, 11, 12, 13, 14, 15, 16] (.int .i64 y7) (by kernel_rfl) rfl rfl (by kernel_rfl) (fun h' => by kernel_rfl) (by kernel_rfl) ?_
      obtain ⟨hc39, hM⟩ := hM
      obtain ⟨hc40, hM⟩ := hM
      refine k_pure (i := 7) [8, 9, 10, 11, 12, 13, 14, 15, 16] (.pointer (some (p11.add ((y7).toNat * 2)))) (by kernel_rfl) rfl rfl (by kernel_rfl) (fun h' => rd_ixS (P := Tryd.prog) (h := h') (t := 27) (el := 36) (sz := 2) (ad := p11) (len := y3n) (c := y3c) (k := .i64) (i := y7) (by kernel_rfl) (by kernel_rfl) hc39 hc40 (by kernel_rfl)) (by kernel_rfl) ?_
      obtain ⟨x41, hc42, hM⟩ := hM
      obtain ⟨x43, hc44, hM⟩ := hM
      refine k_load (i := 8) (.agg #[.int .i64 x41, .int .i64 x43]) (fun h' => cellH h' (p11.add ((y7).toNat * 2)) = some (.int .i64 x41) ∧ cellH h' ((p11.add ((y7).toNat * 2)).add 1) = some (.int .i64 x43) ∧ True) [9, 10, 11, 12, 13, 14, 15, 16] [9, 10, 14] (by kernel_rfl) (by kernel_rfl) rfl rfl (by kernel_rfl) (fun h' hS => Eq.trans (b := (cellH h' (p11.add ((y7).toNat * 2))).bind fun v47 => (cellH h' ((p11.add ((y7).toNat * 2)).add 1)).bind fun v48 => some (.value (.agg #[v47, v48]))) (by kernel_rfl) ((bindE hS.1 _).trans (bindE hS.2.1 _))) ⟨hc42, hc44, trivial⟩ (by kernel_rfl) ?_
      refine k_step2 (j := 0) (k := 9) (by kernel_rfl) ?_ ?_
      · replace hM := hM.1
        refine step_val (j := 0) rfl rfl (by kernel_rfl) (hpNewS #[] 36 0 (fun _ => by kernel_rfl) ?_)
        intro b49 h50 hN51
        replace hM := newB_of hN51 hM
        obtain ⟨⟨hk52, hk53⟩, hM⟩ := hM
        refine ⟨⟨⟨hk52, hk53, trivial⟩, trivial⟩, ?_⟩
        refine k_step2 (j := 2) (k := 9) (by kernel_rfl) ?_ ?_
        · replace hM := hM.1
          obtain ⟨nw56, nw561, nw562, nw563, hM⟩ := hM
          refine step_val (j := 2) rfl rfl (by kernel_rfl) (hpApp (t := 27) (ty := 27) (et := 36) (zv := .agg #[.int .i64 0, .int .i64 0]) (sz := 2) (by_ := 16) (base := (some ⟨b49, 0, none⟩)) (n' := 0) (c := 0) (xb := x36) (m := x36n) (xc := x36c) (new := nw56) (fun _ => by kernel_rfl) (by kernel_rfl) (by kernel_rfl) [.int .i64 0, .int .i64 0] rfl rfl (by decide) nw561 nw562 nw563 hM ?_)
          intro s55 s55c h54 hM
          obtain ⟨⟨hk57, hk58⟩, hM⟩ := hM
          refine ⟨⟨⟨hk57, hk58, trivial⟩, trivial⟩, ?_⟩
          refine k_step2 (j := 4) (k := 9) (by kernel_rfl) ?_ ?_
          · replace hM := hM.1
            obtain ⟨nw61, nw611, nw612, nw613, hM⟩ := hM
            refine step_val (j := 4) rfl rfl (by kernel_rfl) (hpApp (t := 27) (ty := 27) (et := 36) (zv := .agg #[.int .i64 0, .int .i64 0]) (sz := 2) (by_ := 16) (base := s55) (n' := (0 + x36n)) (c := s55c) (xb := x38) (m := x38n) (xc := x38c) (new := nw61) (fun _ => by kernel_rfl) (by kernel_rfl) (by kernel_rfl) [.int .i64 0, .int .i64 0] rfl rfl (by decide) nw611 nw612 nw613 hM ?_)
            intro s60 s60c h59 hM
            obtain ⟨⟨hk62, hk63⟩, hM⟩ := hM
            refine ⟨⟨⟨hk62, hk63, trivial⟩, trivial⟩, ?_⟩
            refine k_eff (j := 9) (by kernel_rfl) rfl rfl (by kernel_rfl) (hpNewS #[.int .i64 x41, .int .i64 x43] 36 1 (fun _ => by kernel_rfl) ?_)
            intro b64 h65 hN66
            replace hM := newB_of hN66 hM
            refine ⟨trivial, ?_⟩
            refine k_eff (j := 10) (by kernel_rfl) rfl rfl (by kernel_rfl) (hpCallE 14 #[.slice s60 ((0 + x36n) + x38n) s60c, .slice (some ⟨b64, 0, none⟩) 1 1] (by kernel_rfl) (law21_same_ok s60 ((0 + x36n) + x38n) s60c (some ⟨b64, 0, none⟩) 1 1 _ h65 hM) ?_)
            rintro _ h67 ⟨x68, rfl, hM⟩
            refine ⟨trivial, ?_⟩
            refine k_pure (i := 11) [12, 13, 14, 15, 16] (.bool (!x68)) (by kernel_rfl) rfl rfl (by kernel_rfl) (fun h' => by kernel_rfl) (by kernel_rfl) ?_
            refine k_pure (i := 12) [13, 14, 15, 16] (.bool (!x68)) (by kernel_rfl) rfl rfl (by kernel_rfl) (fun h' => by kernel_rfl) (by kernel_rfl) ?_
            by_cases hc69 : (!x68) = true
            · refine kwp_at 48 (.bool true) (Eq.trans (b := .bool (!x68)) (by kernel_rfl) (by rw [hc69])) ?_
              refine kwp_at 49 (.bool true) (Eq.trans (b := .bool (!x68)) (by kernel_rfl) (by rw [hc69])) ?_
              replace hM := ifT hc69 hM
              refine k_not (i := 13) [14, 15, 16] (by kernel_rfl) rfl rfl (by kernel_rfl) (by kernel_rfl) ?_
              refine k_not (i := 14) [15, 16] (by kernel_rfl) rfl rfl (by kernel_rfl) (by kernel_rfl) ?_
              refine k_not (i := 15) [16] (by kernel_rfl) rfl rfl (by kernel_rfl) (by kernel_rfl) ?_
              refine k_pure (i := 16) [] (.bool true) (by kernel_rfl) rfl rfl (by kernel_rfl) (fun h' => by kernel_rfl) (by kernel_rfl) ?_
              refine k_done (by kernel_rfl) ?_
              refine thenE_n ?_
              refine cwp_cond (t := true) (by kernel_rfl) (fun hx_ => ?_) (fun hx_ => ?_)
              all_goals first | (cases hx_; done) | skip
              refine cR ?_
              refine oS [(4, .bool false)] rfl ?_
              refine oE (cwp_ret (thenE_r (blockE_r (thenE_r ?_))))
              exact q_at (Q := Q .ret) 4 (.bool false) (by kernel_rfl) (hKr false _ _ hM)
            refine kwp_at 48 (.bool false) (Eq.trans (b := .bool (!x68)) (by kernel_rfl) (by rw [Bool.eq_false_iff.2 hc69])) ?_
            refine kwp_at 49 (.bool false) (Eq.trans (b := .bool (!x68)) (by kernel_rfl) (by rw [Bool.eq_false_iff.2 hc69])) ?_
            replace hM := ifF hc69 hM
            refine k_pure (i := 13) [14, 15, 16] (.pointer x22) (by kernel_rfl) rfl rfl (by kernel_rfl) (fun h' => by kernel_rfl) (by kernel_rfl) ?_
            refine k_eff (j := 14) (by kernel_rfl) rfl rfl (by kernel_rfl) (hpCallE 15 #[.pointer x22] (by kernel_rfl) (keys_Decoder_Held_ok x22 _ h67 hM) ?_)
            rintro _ h70 ⟨x71, rfl, hM⟩
            refine ⟨trivial, ?_⟩
            refine k_pure (i := 15) [16] (.bool (!(x71.toList == (⟨#[]⟩ : ByteArray).toList))) (by kernel_rfl) rfl rfl (by kernel_rfl) (fun h' => by kernel_rfl) (by kernel_rfl) ?_
            refine k_pure (i := 16) [] (.bool (!(x71.toList == (⟨#[]⟩ : ByteArray).toList))) (by kernel_rfl) rfl rfl (by kernel_rfl) (fun h' => by kernel_rfl) (by kernel_rfl) ?_
            refine k_done (by kernel_rfl) ?_
            refine thenE_n ?_
            refine cwp_condB (!(x71.toList == (⟨#[]⟩ : ByteArray).toList)) (by kernel_rfl) (fun hc72 => ?_) (fun hc72 => ?_)
            · replace hM := ifT hc72 hM
              refine cR ?_
              refine oS [(4, .bool false)] rfl ?_
              refine oE (cwp_ret (thenE_r (blockE_r (thenE_r ?_))))
              exact q_at (Q := Q .ret) 4 (.bool false) (by kernel_rfl) (hKr false _ _ hM)
            replace hM := ifF hc72 hM
            refine cwp_skip (thenE_n ?_)
            refine cwp_of_part (fn := Tryd.f6) (p := [1, 1, 1, 0, 1, 0, 0, 1, 0, 0, 1, 1, 1, 1, 1, 1]) (by kernel_rfl) (cwp_at 0 (.slice (some p11) y3n y3c) (by kernel_rfl) (cwp_at 1 (.bool y4) (by kernel_rfl) (cwp_at 5 (.string y5) (by kernel_rfl) (cwp_at 6 (.slice y6 y6n y6c) (by kernel_rfl) (cwp_at 7 (.int .i64 y7) (by kernel_rfl) (law21_KeysRound_j1_ok _ ?_ (some p11) y3n y3c y4 y5 y6 y6n y6c y7 _ _ hM))))))
            · intro z161 z161n z161c z162 z163 z164 z164n z164c z165 b167 h166 hM
              refine blockE_n (thenE_n (cwp_region ?_))
              refine oS [(16, .int .i64 z165), (17, .int .i64 (IntKind.wrap .i64 (z165 + 1))), (7, .int .i64 (IntKind.wrap .i64 (z165 + 1)))] rfl ?_
              refine owp_nil ?_
              exact lwp_at 0 (.slice z161 z161n z161c) (by kernel_rfl) (lwp_at 1 (.bool z162) (by kernel_rfl) (lwp_at 5 (.string z163) (by kernel_rfl) (lwp_at 6 (.slice z164 z164n z164c) (by kernel_rfl) (lwp_at 7 (.int .i64 (IntKind.wrap .i64 (z165 + 1))) (by kernel_rfl) (ih z161 z161n z161c z162 z163 z164 z164n z164c (IntKind.wrap .i64 (z165 + 1)) _ _ hM)))))
          · replace hM := hM.2
            refine step_val (j := 9) rfl rfl (by kernel_rfl) (hpNewS #[.int .i64 x41, .int .i64 x43] 36 1 (fun _ => by kernel_rfl) ?_)
            intro b169 h170 hN171
            replace hM := newB_of hN171 hM
            refine ⟨trivial, ?_⟩
            obtain ⟨nw174, nw1741, nw1742, nw1743, hM⟩ := hM
            refine k_eff (j := 4) (by kernel_rfl) rfl rfl (by kernel_rfl) (hpApp (t := 27) (ty := 27) (et := 36) (zv := .agg #[.int .i64 0, .int .i64 0]) (sz := 2) (by_ := 16) (base := s55) (n' := (0 + x36n)) (c := s55c) (xb := x38) (m := x38n) (xc := x38c) (new := nw174) (fun _ => by kernel_rfl) (by kernel_rfl) (by kernel_rfl) [.int .i64 0, .int .i64 0] rfl rfl (by decide) nw1741 nw1742 nw1743 hM ?_)
            intro s173 s173c h172 hM
            refine ⟨trivial, ?_⟩
            refine k_eff (j := 10) (by kernel_rfl) rfl rfl (by kernel_rfl) (hpCallE 14 #[.slice s173 ((0 + x36n) + x38n) s173c, .slice (some ⟨b169, 0, none⟩) 1 1] (by kernel_rfl) (law21_same_ok s173 ((0 + x36n) + x38n) s173c (some ⟨b169, 0, none⟩) 1 1 _ h172 hM) ?_)
            rintro _ h175 ⟨x176, rfl, hM⟩
            refine ⟨trivial, ?_⟩
            refine k_pure (i := 11) [12, 13, 14, 15, 16] (.bool (!x176)) (by kernel_rfl) rfl rfl (by kernel_rfl) (fun h' => by kernel_rfl) (by kernel_rfl) ?_
            refine k_pure (i := 12) [13, 14, 15, 16] (.bool (!x176)) (by kernel_rfl) rfl rfl (by kernel_rfl) (fun h' => by kernel_rfl) (by kernel_rfl) ?_
            by_cases hc177 : (!x176) = true
            · refine kwp_at 48 (.bool true) (Eq.trans (b := .bool (!x176)) (by kernel_rfl) (by rw [hc177])) ?_
              refine kwp_at 49 (.bool true) (Eq.trans (b := .bool (!x176)) (by kernel_rfl) (by rw [hc177])) ?_
              replace hM := ifT hc177 hM
              refine k_not (i := 13) [14, 15, 16] (by kernel_rfl) rfl rfl (by kernel_rfl) (by kernel_rfl) ?_
              refine k_not (i := 14) [15, 16] (by kernel_rfl) rfl rfl (by kernel_rfl) (by kernel_rfl) ?_
              refine k_not (i := 15) [16] (by kernel_rfl) rfl rfl (by kernel_rfl) (by kernel_rfl) ?_
              refine k_pure (i := 16) [] (.bool true) (by kernel_rfl) rfl rfl (by kernel_rfl) (fun h' => by kernel_rfl) (by kernel_rfl) ?_
              refine k_done (by kernel_rfl) ?_
              refine thenE_n ?_
              refine cwp_cond (t := true) (by kernel_rfl) (fun hx_ => ?_) (fun hx_ => ?_)
              all_goals first | (cases hx_; done) | skip
              refine cR ?_
              refine oS [(4, .bool false)] rfl ?_
              refine oE (cwp_ret (thenE_r (blockE_r (thenE_r ?_))))
              exact q_at (Q := Q .ret) 4 (.bool false) (by kernel_rfl) (hKr false _ _ hM)
            refine kwp_at 48 (.bool false) (Eq.trans (b := .bool (!x176)) (by kernel_rfl) (by rw [Bool.eq_false_iff.2 hc177])) ?_
            refine kwp_at 49 (.bool false) (Eq.trans (b := .bool (!x176)) (by kernel_rfl) (by rw [Bool.eq_false_iff.2 hc177])) ?_
            replace hM := ifF hc177 hM
            refine k_pure (i := 13) [14, 15, 16] (.pointer x22) (by kernel_rfl) rfl rfl (by kernel_rfl) (fun h' => by kernel_rfl) (by kernel_rfl) ?_
            refine k_eff (j := 14) (by kernel_rfl) rfl rfl (by kernel_rfl) (hpCallE 15 #[.pointer x22] (by kernel_rfl) (keys_Decoder_Held_ok x22 _ h175 hM) ?_)
            rintro _ h178 ⟨x179, rfl, hM⟩
            refine ⟨trivial, ?_⟩
            refine k_pure (i := 15) [16] (.bool (!(x179.toList == (⟨#[]⟩ : ByteArray).toList))) (by kernel_rfl) rfl rfl (by kernel_rfl) (fun h' => by kernel_rfl) (by kernel_rfl) ?_
            refine k_pure (i := 16) [] (.bool (!(x179.toList == (⟨#[]⟩ : ByteArray).toList))) (by kernel_rfl) rfl rfl (by kernel_rfl) (fun h' => by kernel_rfl) (by kernel_rfl) ?_
            refine k_done (by kernel_rfl) ?_
            refine thenE_n ?_
            refine cwp_condB (!(x179.toList == (⟨#[]⟩ : ByteArray).toList)) (by kernel_rfl) (fun hc180 => ?_) (fun hc180 => ?_)
            · replace hM := ifT hc180 hM
              refine cR ?_
              refine oS [(4, .bool false)] rfl ?_
              refine oE (cwp_ret (thenE_r (blockE_r (thenE_r ?_))))
              exact q_at (Q := Q .ret) 4 (.bool false) (by kernel_rfl) (hKr false _ _ hM)
            replace hM := ifF hc180 hM
            refine cwp_skip (thenE_n ?_)
            refine cwp_of_part (fn := Tryd.f6) (p := [1, 1, 1, 0, 1, 0, 0, 1, 0, 0, 1, 1, 1, 1, 1, 1]) (by kernel_rfl) (cwp_at 0 (.slice (some p11) y3n y3c) (by kernel_rfl) (cwp_at 1 (.bool y4) (by kernel_rfl) (cwp_at 5 (.string y5) (by kernel_rfl) (cwp_at 6 (.slice y6 y6n y6c) (by kernel_rfl) (cwp_at 7 (.int .i64 y7) (by kernel_rfl) (law21_KeysRound_j1_ok _ ?_ (some p11) y3n y3c y4 y5 y6 y6n y6c y7 _ _ hM))))))
            · intro z181 z181n z181c z182 z183 z184 z184n z184c z185 b187 h186 hM
              refine blockE_n (thenE_n (cwp_region ?_))
              refine oS [(16, .int .i64 z185), (17, .int .i64 (IntKind.wrap .i64 (z185 + 1))), (7, .int .i64 (IntKind.wrap .i64 (z185 + 1)))] rfl ?_
              refine owp_nil ?_
              exact lwp_at 0 (.slice z181 z181n z181c) (by kernel_rfl) (lwp_at 1 (.bool z182) (by kernel_rfl) (lwp_at 5 (.string z183) (by kernel_rfl) (lwp_at 6 (.slice z184 z184n z184c) (by kernel_rfl) (lwp_at 7 (.int .i64 (IntKind.wrap .i64 (z185 + 1))) (by kernel_rfl) (ih z181 z181n z181c z182 z183 z184 z184n z184c (IntKind.wrap .i64 (z185 + 1)) _ _ hM)))))
        · replace hM := hM.2
          refine step_val (j := 9) rfl rfl (by kernel_rfl) (hpNewS #[.int .i64 x41, .int .i64 x43] 36 1 (fun _ => by kernel_rfl) ?_)
          intro b189 h190 hN191
          replace hM := newB_of hN191 hM
          refine ⟨trivial, ?_⟩
          obtain ⟨nw194, nw1941, nw1942, nw1943, hM⟩ := hM
          refine k_eff (j := 2) (by kernel_rfl) rfl rfl (by kernel_rfl) (hpApp (t := 27) (ty := 27) (et := 36) (zv := .agg #[.int .i64 0, .int .i64 0]) (sz := 2) (by_ := 16) (base := (some ⟨b49, 0, none⟩)) (n' := 0) (c := 0) (xb := x36) (m := x36n) (xc := x36c) (new := nw194) (fun _ => by kernel_rfl) (by kernel_rfl) (by kernel_rfl) [.int .i64 0, .int .i64 0] rfl rfl (by decide) nw1941 nw1942 nw1943 hM ?_)
          intro s193 s193c h192 hM
          refine ⟨trivial, ?_⟩
          obtain ⟨nw197, nw1971, nw1972, nw1973, hM⟩ := hM
          refine k_eff (j := 4) (by kernel_rfl) rfl rfl (by kernel_rfl) (hpApp (t := 27) (ty := 27) (et := 36) (zv := .agg #[.int .i64 0, .int .i64 0]) (sz := 2) (by_ := 16) (base := s193) (n' := (0 + x36n)) (c := s193c) (xb := x38) (m := x38n) (xc := x38c) (new := nw197) (fun _ => by kernel_rfl) (by kernel_rfl) (by kernel_rfl) [.int .i64 0, .int .i64 0] rfl rfl (by decide) nw1971 nw1972 nw1973 hM ?_)
          intro s196 s196c h195 hM
          refine ⟨trivial, ?_⟩
          refine k_eff (j := 10) (by kernel_rfl) rfl rfl (by kernel_rfl) (hpCallE 14 #[.slice s196 ((0 + x36n) + x38n) s196c, .slice (some ⟨b189, 0, none⟩) 1 1] (by kernel_rfl) (law21_same_ok s196 ((0 + x36n) + x38n) s196c (some ⟨b189, 0, none⟩) 1 1 _ h195 hM) ?_)
          rintro _ h198 ⟨x199, rfl, hM⟩
          refine ⟨trivial, ?_⟩
          refine k_pure (i := 11) [12, 13, 14, 15, 16] (.bool (!x199)) (by kernel_rfl) rfl rfl (by kernel_rfl) (fun h' => by kernel_rfl) (by kernel_rfl) ?_
          refine k_pure (i := 12) [13, 14, 15, 16] (.bool (!x199)) (by kernel_rfl) rfl rfl (by kernel_rfl) (fun h' => by kernel_rfl) (by kernel_rfl) ?_
          by_cases hc200 : (!x199) = true
          · refine kwp_at 48 (.bool true) (Eq.trans (b := .bool (!x199)) (by kernel_rfl) (by rw [hc200])) ?_
            refine kwp_at 49 (.bool true) (Eq.trans (b := .bool (!x199)) (by kernel_rfl) (by rw [hc200])) ?_
            replace hM := ifT hc200 hM
            refine k_not (i := 13) [14, 15, 16] (by kernel_rfl) rfl rfl (by kernel_rfl) (by kernel_rfl) ?_
            refine k_not (i := 14) [15, 16] (by kernel_rfl) rfl rfl (by kernel_rfl) (by kernel_rfl) ?_
            refine k_not (i := 15) [16] (by kernel_rfl) rfl rfl (by kernel_rfl) (by kernel_rfl) ?_
            refine k_pure (i := 16) [] (.bool true) (by kernel_rfl) rfl rfl (by kernel_rfl) (fun h' => by kernel_rfl) (by kernel_rfl) ?_
            refine k_done (by kernel_rfl) ?_
            refine thenE_n ?_
            refine cwp_cond (t := true) (by kernel_rfl) (fun hx_ => ?_) (fun hx_ => ?_)
            all_goals first | (cases hx_; done) | skip
            refine cR ?_
            refine oS [(4, .bool false)] rfl ?_
            refine oE (cwp_ret (thenE_r (blockE_r (thenE_r ?_))))
            exact q_at (Q := Q .ret) 4 (.bool false) (by kernel_rfl) (hKr false _ _ hM)
          refine kwp_at 48 (.bool false) (Eq.trans (b := .bool (!x199)) (by kernel_rfl) (by rw [Bool.eq_false_iff.2 hc200])) ?_
          refine kwp_at 49 (.bool false) (Eq.trans (b := .bool (!x199)) (by kernel_rfl) (by rw [Bool.eq_false_iff.2 hc200])) ?_
          replace hM := ifF hc200 hM
          refine k_pure (i := 13) [14, 15, 16] (.pointer x22) (by kernel_rfl) rfl rfl (by kernel_rfl) (fun h' => by kernel_rfl) (by kernel_rfl) ?_
          refine k_eff (j := 14) (by kernel_rfl) rfl rfl (by kernel_rfl) (hpCallE 15 #[.pointer x22] (by kernel_rfl) (keys_Decoder_Held_ok x22 _ h198 hM) ?_)
          rintro _ h201 ⟨x202, rfl, hM⟩
          refine ⟨trivial, ?_⟩
          refine k_pure (i := 15) [16] (.bool (!(x202.toList == (⟨#[]⟩ : ByteArray).toList))) (by kernel_rfl) rfl rfl (by kernel_rfl) (fun h' => by kernel_rfl) (by kernel_rfl) ?_
          refine k_pure (i := 16) [] (.bool (!(x202.toList == (⟨#[]⟩ : ByteArray).toList))) (by kernel_rfl) rfl rfl (by kernel_rfl) (fun h' => by kernel_rfl) (by kernel_rfl) ?_
          refine k_done (by kernel_rfl) ?_
          refine thenE_n ?_
          refine cwp_condB (!(x202.toList == (⟨#[]⟩ : ByteArray).toList)) (by kernel_rfl) (fun hc203 => ?_) (fun hc203 => ?_)
          · replace hM := ifT hc203 hM
            refine cR ?_
            refine oS [(4, .bool false)] rfl ?_
            refine oE (cwp_ret (thenE_r (blockE_r (thenE_r ?_))))
            exact q_at (Q := Q .ret) 4 (.bool false) (by kernel_rfl) (hKr false _ _ hM)
          replace hM := ifF hc203 hM
          refine cwp_skip (thenE_n ?_)
          refine cwp_of_part (fn := Tryd.f6) (p := [1, 1, 1, 0, 1, 0, 0, 1, 0, 0, 1, 1, 1, 1, 1, 1]) (by kernel_rfl) (cwp_at 0 (.slice (some p11) y3n y3c) (by kernel_rfl) (cwp_at 1 (.bool y4) (by kernel_rfl) (cwp_at 5 (.string y5) (by kernel_rfl) (cwp_at 6 (.slice y6 y6n y6c) (by kernel_rfl) (cwp_at 7 (.int .i64 y7) (by kernel_rfl) (law21_KeysRound_j1_ok _ ?_ (some p11) y3n y3c y4 y5 y6 y6n y6c y7 _ _ hM))))))
          · intro z204 z204n z204c z205 z206 z207 z207n z207c z208 b210 h209 hM
            refine blockE_n (thenE_n (cwp_region ?_))
            refine oS [(16, .int .i64 z208), (17, .int .i64 (IntKind.wrap .i64 (z208 + 1))), (7, .int .i64 (IntKind.wrap .i64 (z208 + 1)))] rfl ?_
            refine owp_nil ?_
            exact lwp_at 0 (.slice z204 z204n z204c) (by kernel_rfl) (lwp_at 1 (.bool z205) (by kernel_rfl) (lwp_at 5 (.string z206) (by kernel_rfl) (lwp_at 6 (.slice z207 z207n z207c) (by kernel_rfl) (lwp_at 7 (.int .i64 (IntKind.wrap .i64 (z208 + 1))) (by kernel_rfl) (ih z204 z204n z204c z205 z206 z207 z207n z207c (IntKind.wrap .i64 (z208 + 1)) _ _ hM)))))
      · replace hM := hM.2
        refine step_val (j := 9) rfl rfl (by kernel_rfl) (hpNewS #[.int .i64 x41, .int .i64 x43] 36 1 (fun _ => by kernel_rfl) ?_)
        intro b212 h213 hN214
        replace hM := newB_of hN214 hM
        refine ⟨trivial, ?_⟩
        refine k_eff (j := 0) (by kernel_rfl) rfl rfl (by kernel_rfl) (hpNewS #[] 36 0 (fun _ => by kernel_rfl) ?_)
        intro b215 h216 hN217
        replace hM := newB_of hN217 hM
        refine ⟨trivial, ?_⟩
        obtain ⟨nw220, nw2201, nw2202, nw2203, hM⟩ := hM
        refine k_eff (j := 2) (by kernel_rfl) rfl rfl (by kernel_rfl) (hpApp (t := 27) (ty := 27) (et := 36) (zv := .agg #[.int .i64 0, .int .i64 0]) (sz := 2) (by_ := 16) (base := (some ⟨b215, 0, none⟩)) (n' := 0) (c := 0) (xb := x36) (m := x36n) (xc := x36c) (new := nw220) (fun _ => by kernel_rfl) (by kernel_rfl) (by kernel_rfl) [.int .i64 0, .int .i64 0] rfl rfl (by decide) nw2201 nw2202 nw2203 hM ?_)
        intro s219 s219c h218 hM
        refine ⟨trivial, ?_⟩
        obtain ⟨nw223, nw2231, nw2232, nw2233, hM⟩ := hM
        refine k_eff (j := 4) (by kernel_rfl) rfl rfl (by kernel_rfl) (hpApp (t := 27) (ty := 27) (et := 36) (zv := .agg #[.int .i64 0, .int .i64 0]) (sz := 2) (by_ := 16) (base := s219) (n' := (0 + x36n)) (c := s219c) (xb := x38) (m := x38n) (xc := x38c) (new := nw223) (fun _ => by kernel_rfl) (by kernel_rfl) (by kernel_rfl) [.int .i64 0, .int .i64 0] rfl rfl (by decide) nw2231 nw2232 nw2233 hM ?_)
        intro s222 s222c h221 hM
        refine ⟨trivial, ?_⟩
        refine k_eff (j := 10) (by kernel_rfl) rfl rfl (by kernel_rfl) (hpCallE 14 #[.slice s222 ((0 + x36n) + x38n) s222c, .slice (some ⟨b212, 0, none⟩) 1 1] (by kernel_rfl) (law21_same_ok s222 ((0 + x36n) + x38n) s222c (some ⟨b212, 0, none⟩) 1 1 _ h221 hM) ?_)
        rintro _ h224 ⟨x225, rfl, hM⟩
        refine ⟨trivial, ?_⟩
        refine k_pure (i := 11) [12, 13, 14, 15, 16] (.bool (!x225)) (by kernel_rfl) rfl rfl (by kernel_rfl) (fun h' => by kernel_rfl) (by kernel_rfl) ?_
        refine k_pure (i := 12) [13, 14, 15, 16] (.bool (!x225)) (by kernel_rfl) rfl rfl (by kernel_rfl) (fun h' => by kernel_rfl) (by kernel_rfl) ?_
        by_cases hc226 : (!x225) = true
        · refine kwp_at 48 (.bool true) (Eq.trans (b := .bool (!x225)) (by kernel_rfl) (by rw [hc226])) ?_
          refine kwp_at 49 (.bool true) (Eq.trans (b := .bool (!x225)) (by kernel_rfl) (by rw [hc226])) ?_
          replace hM := ifT hc226 hM
          refine k_not (i := 13) [14, 15, 16] (by kernel_rfl) rfl rfl (by kernel_rfl) (by kernel_rfl) ?_
          refine k_not (i := 14) [15, 16] (by kernel_rfl) rfl rfl (by kernel_rfl) (by kernel_rfl) ?_
          refine k_not (i := 15) [16] (by kernel_rfl) rfl rfl (by kernel_rfl) (by kernel_rfl) ?_
          refine k_pure (i := 16) [] (.bool true) (by kernel_rfl) rfl rfl (by kernel_rfl) (fun h' => by kernel_rfl) (by kernel_rfl) ?_
          refine k_done (by kernel_rfl) ?_
          refine thenE_n ?_
          refine cwp_cond (t := true) (by kernel_rfl) (fun hx_ => ?_) (fun hx_ => ?_)
          all_goals first | (cases hx_; done) | skip
          refine cR ?_
          refine oS [(4, .bool false)] rfl ?_
          refine oE (cwp_ret (thenE_r (blockE_r (thenE_r ?_))))
          exact q_at (Q := Q .ret) 4 (.bool false) (by kernel_rfl) (hKr false _ _ hM)
        refine kwp_at 48 (.bool false) (Eq.trans (b := .bool (!x225)) (by kernel_rfl) (by rw [Bool.eq_false_iff.2 hc226])) ?_
        refine kwp_at 49 (.bool false) (Eq.trans (b := .bool (!x225)) (by kernel_rfl) (by rw [Bool.eq_false_iff.2 hc226])) ?_
        replace hM := ifF hc226 hM
        refine k_pure (i := 13) [14, 15, 16] (.pointer x22) (by kernel_rfl) rfl rfl (by kernel_rfl) (fun h' => by kernel_rfl) (by kernel_rfl) ?_
        refine k_eff (j := 14) (by kernel_rfl) rfl rfl (by kernel_rfl) (hpCallE 15 #[.pointer x22] (by kernel_rfl) (keys_Decoder_Held_ok x22 _ h224 hM) ?_)
        rintro _ h227 ⟨x228, rfl, hM⟩
        refine ⟨trivial, ?_⟩
        refine k_pure (i := 15) [16] (.bool (!(x228.toList == (⟨#[]⟩ : ByteArray).toList))) (by kernel_rfl) rfl rfl (by kernel_rfl) (fun h' => by kernel_rfl) (by kernel_rfl) ?_
        refine k_pure (i := 16) [] (.bool (!(x228.toList == (⟨#[]⟩ : ByteArray).toList))) (by kernel_rfl) rfl rfl (by kernel_rfl) (fun h' => by kernel_rfl) (by kernel_rfl) ?_
        refine k_done (by kernel_rfl) ?_
        refine thenE_n ?_
        refine cwp_condB (!(x228.toList == (⟨#[]⟩ : ByteArray).toList)) (by kernel_rfl) (fun hc229 => ?_) (fun hc229 => ?_)
        · replace hM := ifT hc229 hM
          refine cR ?_
          refine oS [(4, .bool false)] rfl ?_
          refine oE (cwp_ret (thenE_r (blockE_r (thenE_r ?_))))
          exact q_at (Q := Q .ret) 4 (.bool false) (by kernel_rfl) (hKr false _ _ hM)
        replace hM := ifF hc229 hM
        refine cwp_skip (thenE_n ?_)
        refine cwp_of_part (fn := Tryd.f6) (p := [1, 1, 1, 0, 1, 0, 0, 1, 0, 0, 1, 1, 1, 1, 1, 1]) (by kernel_rfl) (cwp_at 0 (.slice (some p11) y3n y3c) (by kernel_rfl) (cwp_at 1 (.bool y4) (by kernel_rfl) (cwp_at 5 (.string y5) (by kernel_rfl) (cwp_at 6 (.slice y6 y6n y6c) (by kernel_rfl) (cwp_at 7 (.int .i64 y7) (by kernel_rfl) (law21_KeysRound_j1_ok _ ?_ (some p11) y3n y3c y4 y5 y6 y6n y6c y7 _ _ hM))))))
        · intro z230 z230n z230c z231 z232 z233 z233n z233c z234 b236 h235 hM
          refine blockE_n (thenE_n (cwp_region ?_))
          refine oS [(16, .int .i64 z234), (17, .int .i64 (IntKind.wrap .i64 (z234 + 1))), (7, .int .i64 (IntKind.wrap .i64 (z234 + 1)))] rfl ?_
          refine owp_nil ?_
          exact lwp_at 0 (.slice z230 z230n z230c) (by kernel_rfl) (lwp_at 1 (.bool z231) (by kernel_rfl) (lwp_at 5 (.string z232) (by kernel_rfl) (lwp_at 6 (.slice z233 z233n z233c) (by kernel_rfl) (lwp_at 7 (.int .i64 (IntKind.wrap .i64 (z234 + 1))) (by kernel_rfl) (ih z230 z230n z230c z231 z232 z233 z233n z233c (IntKind.wrap .i64 (z234 + 1)) _ _ hM)))))
    replace hM := ifF hc8 hM
    refine cwp_exit (thenE_x ?_)
    exact q_at (Q := Q (.exit 0)) 5 (.string y5) (by kernel_rfl) (q_at (Q := Q (.exit 0)) 6 (.slice y6 y6n y6c) (by kernel_rfl) (hK0 y5 y6 y6n y6c _ _ hM))
def law21_KeysRound (a1 : Option Addr) (a1n : Nat) (a1c : Nat) (a2 : Bool) (K : Bool → Heap → Prop) (h : Heap) : Prop :=
 ∃ k270, law21_KeysRound_l0
  (fun z246 z247 z247n z247c h248 =>
    keys_New  (fun x250 h249 =>
     if x250.isNone = true then
      K false h249
     else
     keys_Decoder_Feed x250 z246 (fun x253 x253n x253c h252 =>
      law21_same x253 x253n x253c z247 z247n z247c (fun x255 h254 =>
       if x255 = true then
        keys_Decoder_Held x250 (fun x260 h259 =>
         if (x260.toList == (⟨#[]⟩ : ByteArray).toList) = true then
          law21_sure  (fun x265 h264 =>
            K x265 h264) h259
         else
          K false h259) h254
       else
            K false h254) h252) h249) h248)
  (fun z267 h268 =>
      K z267 h268) k270 a1 a1n a1c a2 (⟨#[]⟩ : ByteArray) none 0 0 0 h
theorem law21_KeysRound_ok (a1 : Option Addr) (a1n : Nat) (a1c : Nat) (a2 : Bool) (K : Bool → Heap → Prop) (h : Heap) (hM : law21_KeysRound a1 a1n a1c a2 K h) : CallsH Tryd.prog 6 #[.slice a1 a1n a1c, .bool a2] (fun v h' => ∃ (r271 : Bool), v = .bool r271 ∧ K r271 h') h := by
 unfold law21_KeysRound at hM
 refine callsH_intro (n := 107) Tryd.func6 rfl rfl (by kernel_rfl) ?_
 refine cR ?_
 refine oS [(4, .bool false)] rfl ?_
 refine oE (cR ?_)
 refine oS [(5, .string (⟨#[]⟩ : ByteArray))] rfl ?_
 refine oE (cR ?_)
 refine oS [(6, .slice none 0 0)] rfl ?_
 refine oE (cwp_seq (cR ?_))
 refine oS [(7, .int .i64 0)] rfl ?_
 refine oE (cwp_block ?_)
 obtain ⟨k_, hM⟩ := hM
 refine cwp_loop k_ (lwp_of_part (fn := Tryd.f6) (p := [1, 1, 1, 0, 1, 0, 0]) (by kernel_rfl) (lwp_at 0 (.slice a1 a1n a1c) (by kernel_rfl) (lwp_at 1 (.bool a2) (by kernel_rfl) (lwp_at 5 (.string (⟨#[]⟩ : ByteArray)) (by kernel_rfl) (lwp_at 6 (.slice none 0 0) (by kernel_rfl) (lwp_at 7 (.int .i64 0) (by kernel_rfl) (law21_KeysRound_l0_ok _ ?_ _ ?_ k_ a1 a1n a1c a2 (⟨#[]⟩ : ByteArray) none 0 0 0 _ _ hM)))))))
 · intro z246 z247 z247n z247c b266 h248 hM
   refine blockE_h (thenE_n (cR ?_))
   refine owp_hpG rfl (by kernel_rfl) (hpCallE 9 #[] (by kernel_rfl) (keys_New_ok  _ h248 hM) ?_)
   rintro _ h249 ⟨x250, rfl, hM⟩
   refine oS [(11, .pointer x250)] rfl ?_
   refine oE (cwp_seq (cR ?_))
   refine oS [(92, .pointer x250)] rfl ?_
   refine owp_rdG (.bool x250.isNone) rfl (by kernel_rfl) (rd_eqNil (P := Tryd.prog) (h := h249) (t := 23) (el := 53) (by kernel_rfl) (by kernel_rfl)) ?_
   refine oE ?_
   refine cwp_condB x250.isNone (by kernel_rfl) (fun hc251 => ?_) (fun hc251 => ?_)
   · replace hM := ifT hc251 hM
     refine cR ?_
     refine oS [(4, .bool false)] rfl ?_
     refine oE (cwp_ret (thenE_r ?_))
     exact ret_ (.bool false) (by kernel_rfl) ⟨_, rfl, hM⟩
   replace hM := ifF hc251 hM
   refine cwp_skip (thenE_n (cR ?_))
   refine oS [(94, .pointer x250), (95, .string z246)] rfl ?_
   refine owp_hpG rfl (by kernel_rfl) (hpCallE 12 #[.pointer x250, .string z246] (by kernel_rfl) (keys_Decoder_Feed_ok x250 z246 _ h249 hM) ?_)
   rintro _ h252 ⟨x253, x253n, x253c, rfl, hM⟩
   refine oS [(97, .slice z247 z247n z247c)] rfl ?_
   refine owp_hpG rfl (by kernel_rfl) (hpCallE 14 #[.slice x253 x253n x253c, .slice z247 z247n z247c] (by kernel_rfl) (law21_same_ok x253 x253n x253c z247 z247n z247c _ h252 hM) ?_)
   rintro _ h254 ⟨x255, rfl, hM⟩
   refine oS [(99, .bool x255)] rfl ?_
   by_cases hc258 : x255 = true
   · refine owp_at 98 (.bool true) (Eq.trans (b := .bool x255) (by kernel_rfl) (by rw [hc258])) ?_
     refine owp_at 99 (.bool true) (Eq.trans (b := .bool x255) (by kernel_rfl) (by rw [hc258])) ?_
     replace hM := ifT hc258 hM
     refine oS [(100, .pointer x250)] rfl ?_
     refine owp_hpG rfl (by kernel_rfl) (hpCallE 15 #[.pointer x250] (by kernel_rfl) (keys_Decoder_Held_ok x250 _ h254 hM) ?_)
     rintro _ h259 ⟨x260, rfl, hM⟩
     refine oS [(102, .bool (x260.toList == (⟨#[]⟩ : ByteArray).toList)), (103, .bool (x260.toList == (⟨#[]⟩ : ByteArray).toList)), (104, .bool (x260.toList == (⟨#[]⟩ : ByteArray).toList))] rfl ?_
     by_cases hc263 : (x260.toList == (⟨#[]⟩ : ByteArray).toList) = true
     · refine owp_at 102 (.bool true) (Eq.trans (b := .bool (x260.toList == (⟨#[]⟩ : ByteArray).toList)) (by kernel_rfl) (by rw [hc263])) ?_
       refine owp_at 103 (.bool true) (Eq.trans (b := .bool (x260.toList == (⟨#[]⟩ : ByteArray).toList)) (by kernel_rfl) (by rw [hc263])) ?_
       refine owp_at 104 (.bool true) (Eq.trans (b := .bool (x260.toList == (⟨#[]⟩ : ByteArray).toList)) (by kernel_rfl) (by rw [hc263])) ?_
       replace hM := ifT hc263 hM
       refine owp_hpG rfl (by kernel_rfl) (hpCallE 16 #[] (by kernel_rfl) (law21_sure_ok  _ h259 hM) ?_)
       rintro _ h264 ⟨x265, rfl, hM⟩
       refine oS [(106, .bool x265), (4, .bool x265)] rfl ?_
       refine oE (cwp_ret ?_)
       exact ret_ (.bool x265) (by kernel_rfl) ⟨_, rfl, hM⟩
     refine owp_at 102 (.bool false) (Eq.trans (b := .bool (x260.toList == (⟨#[]⟩ : ByteArray).toList)) (by kernel_rfl) (by rw [Bool.eq_false_iff.2 hc263])) ?_
     refine owp_at 103 (.bool false) (Eq.trans (b := .bool (x260.toList == (⟨#[]⟩ : ByteArray).toList)) (by kernel_rfl) (by rw [Bool.eq_false_iff.2 hc263])) ?_
     refine owp_at 104 (.bool false) (Eq.trans (b := .bool (x260.toList == (⟨#[]⟩ : ByteArray).toList)) (by kernel_rfl) (by rw [Bool.eq_false_iff.2 hc263])) ?_
     replace hM := ifF hc263 hM
     refine oS [(105, undef), (106, .bool false), (4, .bool false)] rfl ?_
     refine oE (cwp_ret ?_)
     exact ret_ (.bool false) (by kernel_rfl) ⟨_, rfl, hM⟩
   refine owp_at 98 (.bool false) (Eq.trans (b := .bool x255) (by kernel_rfl) (by rw [Bool.eq_false_iff.2 hc258])) ?_
   refine owp_at 99 (.bool false) (Eq.trans (b := .bool x255) (by kernel_rfl) (by rw [Bool.eq_false_iff.2 hc258])) ?_
   replace hM := ifF hc258 hM
   refine oS [(100, undef), (101, undef), (102, undef), (103, .bool false), (104, .bool false), (105, undef), (106, .bool false), (4, .bool false)] rfl ?_
   refine oE (cwp_ret ?_)
   exact ret_ (.bool false) (by kernel_rfl) ⟨_, rfl, hM⟩
 · intro z267 b269 h268 hM
   refine blockE_r (thenE_r ?_)
   exact ret_ (.bool z267) (by kernel_rfl) ⟨_, rfl, hM⟩
end Go.Proofs.YtkbpnmgkdodcmaaDoor.M
