import Derived.Test.YtkbpnmgkdodcmaaDoorG1
import GoSem.PinnedTables
set_option linter.unusedVariables false
set_option linter.unusedSimpArgs false
set_option maxRecDepth 100000
namespace Go.Proofs.YtkbpnmgkdodcmaaDoor.M
open Go Go.Hp

/-! ### utf8.DecodeRuneInString: what it tells of one character -/
def firstT (b : Nat) : Int := ((Go.Pinned.utf8FirstZ.getD b 0 : Nat) : Int)
def FirstH (h : Heap) : Prop := ∀ b : Nat, b < 256 → cellH h ((⟨1, 0, none⟩ : Addr).add b) = some (.int .u8 (firstT b))
abbrev AccH (h : Heap) : Prop := cellsAt h ⟨2, 0, none⟩ 0 (tab2.flatMap tab2f)
theorem first_rng : ∀ b : Fin 256, 0 ≤ firstT b.val ∧ firstT b.val < 256 ∧ 0 ≤ Int.fdiv (firstT b.val) (2 ^ 4) ∧ Int.fdiv (firstT b.val) (2 ^ 4) < 16 := by decide +kernel
theorem first_lead : ∀ b : Fin 256, 194 ≤ b.val → b.val ≤ 244 → firstT b.val < 240 ∧ IntKind.wrap .i64 (iAnd .u8 (firstT b.val) 7) = (if b.val < 224 then 2 else if b.val < 240 then 3 else 4) := by decide +kernel
theorem first_foll : ∀ b : Fin 256, 194 ≤ b.val → b.val ≤ 244 → ∀ x : Fin 256, follV b.val 1 x.val = !((decide ((x.val : Int) < (tab2.getD (Int.fdiv (firstT b.val) (2 ^ 4)).toNat tab2d).1)) || (decide ((tab2.getD (Int.fdiv (firstT b.val) (2 ^ 4)).toNat tab2d).2 < (x.val : Int)))) := by decide +kernel
theorem and_m : ∀ b : Fin 256, IntKind.wrap .i32 (iAnd .u8 b.val 63) = (b.val % 64 : Nat) ∧ IntKind.wrap .i32 (iAnd .u8 b.val 31) = (b.val % 32 : Nat) ∧ IntKind.wrap .i32 (iAnd .u8 b.val 15) = (b.val % 16 : Nat) ∧ IntKind.wrap .i32 (iAnd .u8 b.val 7) = (b.val % 8 : Nat) := by decide +kernel
theorem ior_add (i a b : Nat) (hb : b < 2 ^ i) (h : 2 ^ i * a + b < 2147483648) : iOr .i32 ((2 ^ i * a : Nat) : Int) ((b : Nat) : Int) = ((2 ^ i * a + b : Nat) : Int) := by
  unfold iOr
  have e1 : (BitVec.ofInt IntKind.i32.bits ((2 ^ i * a : Nat) : Int)) = BitVec.ofNat 32 (2 ^ i * a) := by
    show BitVec.ofInt 32 _ = _
    exact BitVec.ofInt_natCast 32 (2 ^ i * a)
  have e2 : (BitVec.ofInt IntKind.i32.bits ((b : Nat) : Int)) = BitVec.ofNat 32 b := by
    show BitVec.ofInt 32 _ = _
    exact BitVec.ofInt_natCast 32 b
  rw [e1, e2]
  show IntKind.wrap .i32 (((BitVec.ofNat 32 (2 ^ i * a) ||| BitVec.ofNat 32 b).toNat : Nat) : Int) = _
  rw [BitVec.toNat_or, BitVec.toNat_ofNat, BitVec.toNat_ofNat, Nat.mod_eq_of_lt (by omega), Nat.mod_eq_of_lt (by omega), ← Nat.two_pow_add_eq_or_of_lt hb a]
  rw [IntKind.wrap_i32]
  omega
theorem dec2 {b0 b1 : Nat} (h0 : b0 < 256) (h1 : b1 < 256) : iOr .i32 (IntKind.wrap .i32 ((IntKind.wrap .i32 (iAnd .u8 b0 31)) * 2 ^ 6)) (IntKind.wrap .i32 (iAnd .u8 b1 63)) = ((2 ^ 6 * (b0 % 32) + b1 % 64 : Nat) : Int) := by
  have m0 := (and_m ⟨b0, h0⟩).2.1
  have m1 := (and_m ⟨b1, h1⟩).1
  simp only [] at m0 m1
  rw [m0, m1]
  have e : IntKind.wrap .i32 (((b0 % 32 : Nat) : Int) * 2 ^ 6) = ((2 ^ 6 * (b0 % 32) : Nat) : Int) := by rw [IntKind.wrap_i32]; omega
  rw [e, ior_add 6 _ _ (by omega) (by omega)]
theorem dec3 {b0 b1 b2 : Nat} (h0 : b0 < 256) (h1 : b1 < 256) (h2 : b2 < 256) :
    iOr .i32 (iOr .i32 (IntKind.wrap .i32 ((IntKind.wrap .i32 (iAnd .u8 b0 15)) * 2 ^ 12)) (IntKind.wrap .i32 ((IntKind.wrap .i32 (iAnd .u8 b1 63)) * 2 ^ 6))) (IntKind.wrap .i32 (iAnd .u8 b2 63)) = ((4096 * (b0 % 16) + 64 * (b1 % 64) + b2 % 64 : Nat) : Int) := by
  have m0 := (and_m ⟨b0, h0⟩).2.2.1
  have m1 := (and_m ⟨b1, h1⟩).1
  have m2 := (and_m ⟨b2, h2⟩).1
  simp only [] at m0 m1 m2
  rw [m0, m1, m2]
  have e : IntKind.wrap .i32 (((b0 % 16 : Nat) : Int) * 2 ^ 12) = ((2 ^ 12 * (b0 % 16) : Nat) : Int) := by rw [IntKind.wrap_i32]; omega
  have e1 : IntKind.wrap .i32 (((b1 % 64 : Nat) : Int) * 2 ^ 6) = ((64 * (b1 % 64) : Nat) : Int) := by rw [IntKind.wrap_i32]; omega
  rw [e, e1, ior_add 12 _ _ (by omega) (by omega)]
  rw [show 2 ^ 12 * (b0 % 16) + 64 * (b1 % 64) = 2 ^ 6 * (64 * (b0 % 16) + b1 % 64) by omega, ior_add 6 _ _ (by omega) (by omega)]
theorem dec4 {b0 b1 b2 b3 : Nat} (h0 : b0 < 256) (h1 : b1 < 256) (h2 : b2 < 256) (h3 : b3 < 256) :
    iOr .i32 (iOr .i32 (iOr .i32 (IntKind.wrap .i32 ((IntKind.wrap .i32 (iAnd .u8 b0 7)) * 2 ^ 18)) (IntKind.wrap .i32 ((IntKind.wrap .i32 (iAnd .u8 b1 63)) * 2 ^ 12))) (IntKind.wrap .i32 ((IntKind.wrap .i32 (iAnd .u8 b2 63)) * 2 ^ 6))) (IntKind.wrap .i32 (iAnd .u8 b3 63)) = ((262144 * (b0 % 8) + 4096 * (b1 % 64) + 64 * (b2 % 64) + b3 % 64 : Nat) : Int) := by
  have m0 := (and_m ⟨b0, h0⟩).2.2.2
  have m1 := (and_m ⟨b1, h1⟩).1
  have m2 := (and_m ⟨b2, h2⟩).1
  have m3 := (and_m ⟨b3, h3⟩).1
  simp only [] at m0 m1 m2 m3
  rw [m0, m1, m2, m3]
  have e : IntKind.wrap .i32 (((b0 % 8 : Nat) : Int) * 2 ^ 18) = ((2 ^ 18 * (b0 % 8) : Nat) : Int) := by rw [IntKind.wrap_i32]; omega
  have e1 : IntKind.wrap .i32 (((b1 % 64 : Nat) : Int) * 2 ^ 12) = ((4096 * (b1 % 64) : Nat) : Int) := by rw [IntKind.wrap_i32]; omega
  have e2 : IntKind.wrap .i32 (((b2 % 64 : Nat) : Int) * 2 ^ 6) = ((64 * (b2 % 64) : Nat) : Int) := by rw [IntKind.wrap_i32]; omega
  rw [e, e1, e2, ior_add 18 _ _ (by omega) (by omega)]
  rw [show 2 ^ 18 * (b0 % 8) + 4096 * (b1 % 64) = 2 ^ 12 * (64 * (b0 % 8) + b1 % 64) by omega, ior_add 12 _ _ (by omega) (by omega)]
  rw [show 2 ^ 12 * (64 * (b0 % 8) + b1 % 64) + 64 * (b2 % 64) = 2 ^ 6 * (64 * (64 * (b0 % 8) + b1 % 64) + b2 % 64) by omega, ior_add 6 _ _ (by omega) (by omega)]
/-- What is asked of the answer (a rune, how many bytes). -/
def DecOk (s : ByteArray) (r n : Int) : Prop := (0 < s.size → byteAt s 0 < 128 → r = byteAt s 0 ∧ n = 1) ∧ (∀ w, FullAt s w → r = valV s w ∧ n = w)
theorem dec_no {s : ByteArray} {r n : Int} (h1 : 128 ≤ byteAt s 0) (h2 : ∀ w, ¬ FullAt s w) : DecOk s r n := ⟨fun _ h => by omega, fun w hw => absurd hw (h2 w)⟩
theorem slow_sp {s : ByteArray} {K : Int → Int → Heap → Prop} {h : Heap} (hF : FirstH h) (hA : AccH h) (hb : 0 < s.size → 128 ≤ byteAt s 0) (hs : (s.size : Int) < 9223372036854775807)
    (hK : ∀ r n h1, Ext h h1 → DecOk s r n → K r n h1) : unicode_utf8_decodeRuneInStringSlow s K h := by
  unfold unicode_utf8_decodeRuneInStringSlow
  by_cases hz : (s.size : Int) < 1
  · rw [if_pos hz]
    exact hK _ _ h (Ext.refl h) ⟨fun h0 => by omega, fun w hw => by have h1 := hw.2.1; have h2 := hw.1; unfold leadV at h2; omega⟩
  rw [if_neg hz]
  have hb := hb (by omega)
  have b0 := byteAt_nonneg s 0
  have b1 := byteAt_lt s 0
  obtain ⟨n0, hn0⟩ : ∃ n : Nat, byteAt s 0 = n := ⟨(byteAt s 0).toNat, by omega⟩
  have hr := first_rng ⟨n0, by omega⟩
  have hl := first_lead ⟨n0, by omega⟩
  have hfo := first_foll ⟨n0, by omega⟩
  simp only [] at hr hl hfo
  have nofull : (¬ (194 ≤ n0 ∧ n0 ≤ 244)) → ∀ w, ¬ FullAt s w := fun hh w hw => by have := hw.1; unfold leadV at this; omega
  refine ⟨by omega, by omega, by omega, ⟨firstT n0, ?_, ?_⟩⟩
  · rw [hn0, show (n0 : Int).toNat * 1 = n0 by omega]
    exact hF n0 (by omega)
  simp only [hn0]
  by_cases h240 : 240 ≤ firstT n0
  · rw [if_pos h240]
    exact ⟨by omega, hK _ _ h (Ext.refl h) (dec_no hb (nofull fun hh => by have := (hl hh.1 hh.2).1; omega))⟩
  rw [if_neg h240]
  refine ⟨hr.2.2.1, hr.2.2.2, hA, ?_⟩
  have lead : ∀ w, FullAt s w → (194 ≤ n0 ∧ n0 ≤ 244) ∧ w = (if n0 < 224 then 2 else if n0 < 240 then 3 else 4) ∧ w ≤ s.size := fun w hw => by
    have := hw.1; have h2 := hw.2.1
    unfold leadV at this
    refine ⟨by omega, ?_, h2⟩
    split <;> (try split) <;> omega
  by_cases g0 : (s.size : Int) < IntKind.wrap .i64 (iAnd .u8 (firstT n0) 7)
  · rw [if_pos g0]
    intro h1 he
    refine hK _ _ h1 he (dec_no hb fun w hw => ?_)
    obtain ⟨a, b, c⟩ := lead w hw
    rw [(hl a.1 a.2).2] at g0
    rw [b] at c
    omega
  rw [if_neg g0]
  have hs0 := hr.1
  -- two bytes at least
  have hsz : 1 < (s.size : Int) := by
    have : ∀ b : Fin 256, ¬ 240 ≤ firstT b.val → 2 ≤ IntKind.wrap .i64 (iAnd .u8 (firstT b.val) 7) := by decide +kernel
    have := this ⟨n0, by omega⟩ h240
    simp only [] at this
    omega
  refine ⟨hsz, ?_⟩
  have c0 := byteAt_nonneg s 1
  have c1 := byteAt_lt s 1
  obtain ⟨n1, hn1⟩ : ∃ n : Nat, byteAt s 1 = n := ⟨(byteAt s 1).toNat, by omega⟩
  simp only [hn1]
  have foll : (194 ≤ n0 ∧ n0 ≤ 244) → (follV (byteAt s 0) 1 (byteAt s 1) = true ↔ ¬ ((decide ((n1 : Int) < (tab2.getD (Int.fdiv (firstT n0) (2 ^ 4)).toNat tab2d).1)) || (decide ((tab2.getD (Int.fdiv (firstT n0) (2 ^ 4)).toNat tab2d).2 < (n1 : Int)))) = true) := fun a => by
    have := hfo a.1 a.2 ⟨n1, by omega⟩
    simp only [] at this
    rw [hn0, hn1, this]
    simp
  by_cases g1 : ((decide ((n1 : Int) < (tab2.getD (Int.fdiv (firstT n0) (2 ^ 4)).toNat tab2d).1)) || (decide ((tab2.getD (Int.fdiv (firstT n0) (2 ^ 4)).toNat tab2d).2 < (n1 : Int)))) = true
  · rw [if_pos g1]
    intro h1 he
    refine hK _ _ h1 he (dec_no hb fun w hw => ?_)
    exact (foll (lead w hw).1).1 hw.2.2.1 g1
  rw [if_neg g1]
  have vald : ∀ w, FullAt s w → 128 ≤ n1 ∧ n1 ≤ 191 := fun w hw => by have := foll1 hw.2.2.1; omega
  by_cases g2 : IntKind.wrap .i64 (iAnd .u8 (firstT n0) 7) ≤ 2
  · rw [if_pos g2]
    intro h1 he
    refine hK _ _ h1 he ⟨fun _ h => by omega, fun w hw => ?_⟩
    obtain ⟨a, b, c⟩ := lead w hw
    have hw2 : w = 2 := by
      rw [(hl a.1 a.2).2] at g2
      rw [b]
      split at g2
      · rename_i h; rw [if_pos h]
      · split at g2 <;> omega
    subst hw2
    have hv := vald 2 hw
    rw [dec2 (by omega) (by omega)]
    unfold valV
    rw [if_pos rfl, hn0, hn1]
    have := hw.1
    unfold leadV at this
    exact ⟨by omega, rfl⟩
  rw [if_neg g2]
  have hsz2 : 2 < (s.size : Int) := by omega
  refine ⟨hsz2, ?_⟩
  have d0 := byteAt_nonneg s 2
  have d1 := byteAt_lt s 2
  obtain ⟨n2, hn2⟩ : ∃ n : Nat, byteAt s 2 = n := ⟨(byteAt s 2).toNat, by omega⟩
  simp only [hn2]
  have w34 : ∀ w, FullAt s w → 3 ≤ w := fun w hw => by
    obtain ⟨a, b, c⟩ := lead w hw
    rw [(hl a.1 a.2).2] at g2
    rw [b]
    omega
  by_cases g3 : ((decide ((n2 : Int) < 128)) || (decide (191 < (n2 : Int)))) = true
  · rw [if_pos g3]
    intro h1 he
    refine hK _ _ h1 he (dec_no hb fun w hw => ?_)
    have := (foll2 (by omega)).1 (hw.2.2.2.1 (by have := w34 w hw; omega))
    simp at g3
    omega
  rw [if_neg g3]
  have g3' : 128 ≤ n2 ∧ n2 ≤ 191 := by simp at g3; omega
  by_cases g4 : IntKind.wrap .i64 (iAnd .u8 (firstT n0) 7) ≤ 3
  · rw [if_pos g4]
    intro h1 he
    refine hK _ _ h1 he ⟨fun _ h => by omega, fun w hw => ?_⟩
    obtain ⟨a, b, c⟩ := lead w hw
    have h3 := w34 w hw
    have hw3 : w = 3 := by
      rw [(hl a.1 a.2).2] at g4
      rw [b] at h3 ⊢
      omega
    subst hw3
    have hv := vald 3 hw
    rw [dec3 (by omega) (by omega) (by omega)]
    unfold valV
    rw [if_neg (by omega), if_pos rfl, hn0, hn1, hn2]
    have := hw.1
    unfold leadV at this
    exact ⟨by omega, rfl⟩
  rw [if_neg g4]
  have hsz3 : 3 < (s.size : Int) := by omega
  refine ⟨hsz3, ?_⟩
  have e0 := byteAt_nonneg s 3
  have e1 := byteAt_lt s 3
  obtain ⟨n3, hn3⟩ : ∃ n : Nat, byteAt s 3 = n := ⟨(byteAt s 3).toNat, by omega⟩
  simp only [hn3]
  have w4 : ∀ w, FullAt s w → w = 4 := fun w hw => by
    obtain ⟨a, b, c⟩ := lead w hw
    rw [(hl a.1 a.2).2] at g4
    rw [b]
    split
    · rename_i h; rw [if_pos h] at g4; omega
    · rename_i h; rw [if_neg h] at g4; split <;> (rename_i h; first | rw [if_pos h] at g4 | rw [if_neg h] at g4) <;> omega
  by_cases g5 : ((decide ((n3 : Int) < 128)) || (decide (191 < (n3 : Int)))) = true
  · rw [if_pos g5]
    intro h1 he
    refine hK _ _ h1 he (dec_no hb fun w hw => ?_)
    have := (foll2 (by omega)).1 (hw.2.2.2.2 (by have := w4 w hw; omega))
    simp at g5
    omega
  rw [if_neg g5]
  have g5' : 128 ≤ n3 ∧ n3 ≤ 191 := by simp at g5; omega
  intro h1 he
  refine hK _ _ h1 he ⟨fun _ h => by omega, fun w hw => ?_⟩
  have hw4 := w4 w hw
  subst hw4
  have hv := vald 4 hw
  rw [dec4 (by omega) (by omega) (by omega) (by omega)]
  unfold valV
  rw [if_neg (by omega), if_neg (by omega), hn0, hn1, hn2, hn3]
  have := hw.1
  unfold leadV at this
  exact ⟨by omega, rfl⟩
theorem decode_sp {s : ByteArray} {K : Int → Int → Heap → Prop} {h : Heap} (hF : FirstH h) (hA : AccH h) (hs : (s.size : Int) < 9223372036854775807)
    (hK : ∀ r n h1, Ext h h1 → DecOk s r n → K r n h1) : unicode_utf8_DecodeRuneInString s K h := by
  unfold unicode_utf8_DecodeRuneInString
  simp only [toListE]
  split
  · rename_i hne
    have hp := ne_empty hne
    refine ⟨by omega, ?_⟩
    split
    · rename_i hb
      have b0 := byteAt_nonneg s 0
      refine ⟨by omega, hK _ _ h (Ext.refl h) ⟨fun _ _ => ⟨by rw [IntKind.wrap_i32]; omega, rfl⟩, fun w hw => ?_⟩⟩
      have := hw.1
      unfold leadV at this
      omega
    · rename_i hb
      exact slow_sp hF hA (fun _ => by omega) hs fun r n h1 he hd => hK r n h1 he hd
  · rename_i hne
    have hz : s.size = 0 := by
      rcases Nat.eq_zero_or_pos s.size with h0 | h0
      · exact h0
      · exfalso
        apply hne
        cases hd : s.data.toList with
        | nil => exact absurd (show s.data.toList.length = 0 by rw [hd]; rfl) (by show s.size ≠ 0; omega)
        | cons a l => rfl
    exact slow_sp hF hA (fun h => by omega) hs fun r n h1 he hd => hK r n h1 he hd
end Go.Proofs.YtkbpnmgkdodcmaaDoor.M
