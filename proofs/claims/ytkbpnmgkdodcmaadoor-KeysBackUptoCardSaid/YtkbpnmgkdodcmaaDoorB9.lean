import Derived.Test.YtkbpnmgkdodcmaaDoorB7
set_option linter.unusedVariables false
set_option linter.unusedSimpArgs false
set_option maxRecDepth 100000
namespace Go.Proofs.YtkbpnmgkdodcmaaDoor.M
open Go Go.Hp

/-! ### Which keys there are: both say the same -/
theorem mods_cases {m : Int} (h0 : 0 ≤ m) (h1 : m ≤ 7) : m = 0 ∨ m = 1 ∨ m = 2 ∨ m = 3 ∨ m = 4 ∨ m = 5 ∨ m = 6 ∨ m = 7 := by omega
theorem and1 : iAnd .i64 0 1 = 0 ∧ iAnd .i64 1 1 = 1 ∧ iAnd .i64 2 1 = 0 ∧ iAnd .i64 3 1 = 1 ∧ iAnd .i64 4 1 = 0 ∧ iAnd .i64 5 1 = 1 ∧ iAnd .i64 6 1 = 0 ∧ iAnd .i64 7 1 = 1 := by decide +kernel
theorem andNot2 : iAndNot .i64 0 2 = 0 ∧ iAndNot .i64 1 2 = 1 ∧ iAndNot .i64 2 2 = 0 ∧ iAndNot .i64 3 2 = 1 ∧ iAndNot .i64 4 2 = 4 ∧ iAndNot .i64 5 2 = 5 ∧ iAndNot .i64 6 2 = 4 ∧ iAndNot .i64 7 2 = 5 := by decide +kernel
theorem valid_eq (c m : Int) : ref21_Valid c m = keys_Valid c m := by
  by_cases hm : m < 0 ∨ 7 < m
  · unfold ref21_Valid keys_Valid
    have : ((decide (m < 0)) || (decide (7 < m))) = true := by simpa using hm
    rw [if_pos this, if_pos this]
  · have hm' : ¬ ((decide (m < 0)) || (decide (7 < m))) = true := by simpa using hm
    obtain ⟨a0, a1, a2, a3, a4, a5, a6, a7⟩ := and1
    obtain ⟨n0, n1, n2, n3, n4, n5, n6, n7⟩ := andNot2
    unfold ref21_Valid keys_Valid
    rw [if_neg hm', if_neg hm']
    unfold ref21_special keys_special ref21_character keys_character ref21_controlled keys_control
    rcases mods_cases (m := m) (by omega) (by omega) with rfl | rfl | rfl | rfl | rfl | rfl | rfl | rfl <;>
      simp only [a0, a1, a2, a3, a4, a5, a6, a7, n0, n1, n2, n3, n4, n5, n6, n7] <;>
      rw [Bool.eq_iff_iff] <;> simp <;> repeat' split
    all_goals (try simp) <;> omega
/-! ### Characters' bytes -/
theorem b8 (a b : Int) (h : a = b) : UInt8.ofNat a.toNat = UInt8.ofNat b.toNat := by rw [h]
theorem utf8_eq {c : Int} (h0 : 0 ≤ c) (h1 : c ≤ 1114111) (hs : c < 55296 ∨ 57343 < c) : ref21_utf8 c = Utf8.encode (IntKind.wrap .i32 c) := by
  have e : IntKind.wrap .i32 c = c := by rw [IntKind.wrap_i32]; omega
  rw [e]
  have hv : Utf8.valid c = true := by
    simp only [Utf8.valid, Bool.or_eq_true, Bool.and_eq_true, decide_eq_true_eq]; omega
  unfold ref21_utf8 Utf8.encode
  simp only [hv, if_true]
  have t1 : Int.tdiv c 64 = c / 64 := Int.tdiv_eq_ediv_of_nonneg h0
  have t2 : Int.tdiv c 4096 = c / 4096 := Int.tdiv_eq_ediv_of_nonneg h0
  have t3 : Int.tdiv c 262144 = c / 262144 := Int.tdiv_eq_ediv_of_nonneg h0
  have t4 : Int.tmod c 64 = c % 64 := Int.tmod_eq_emod_of_nonneg h0
  have t5 : Int.tmod (c / 64) 64 = c / 64 % 64 := Int.tmod_eq_emod_of_nonneg (by omega)
  have t6 : Int.tmod (c / 4096) 64 = c / 4096 % 64 := Int.tmod_eq_emod_of_nonneg (by omega)
  rw [t1, t2, t3, t4, wrap64 (x := c / 64) (by omega) (by omega), wrap64 (x := c / 4096) (by omega) (by omega), wrap64 (x := c / 262144) (by omega) (by omega), t5, t6]
  have w8 : ∀ x : Int, 0 ≤ x → x < 256 → IntKind.wrap .u8 (IntKind.wrap .i64 x) = x := by
    intro x h0 h1
    rw [wrap64 (by omega) (by omega), IntKind.wrap_u8]; omega
  have w8' : ∀ x : Int, 0 ≤ x → x < 256 → IntKind.wrap .u8 x = x := by
    intro x h0 h1
    rw [IntKind.wrap_u8]; omega
  by_cases c1 : c < 128
  · rw [if_pos c1, if_pos (show c.toNat < 128 by omega), w8' c (by omega) (by omega)]
    rfl
  rw [if_neg c1, if_neg (show ¬ c.toNat < 128 by omega)]
  by_cases c2 : c < 2048
  · rw [if_pos c2, if_pos (show c.toNat < 2048 by omega), w8 _ (by omega) (by omega), w8 _ (by omega) (by omega)]
    show (⟨#[UInt8.ofNat _, UInt8.ofNat _]⟩ : ByteArray) = _
    rw [show (192 + c / 64 : Int).toNat = 192 + c.toNat / 64 by omega, show (128 + c % 64 : Int).toNat = 128 + c.toNat % 64 by omega]
  rw [if_neg c2, if_neg (show ¬ c.toNat < 2048 by omega)]
  by_cases c3 : c < 65536
  · rw [if_pos c3, if_pos (show c.toNat < 65536 by omega), w8 _ (by omega) (by omega), w8 _ (by omega) (by omega), w8 _ (by omega) (by omega)]
    show (⟨#[UInt8.ofNat _, UInt8.ofNat _, UInt8.ofNat _]⟩ : ByteArray) = _
    rw [show (224 + c / 4096 : Int).toNat = 224 + c.toNat / 4096 by omega, show (128 + c / 64 % 64 : Int).toNat = 128 + c.toNat / 64 % 64 by omega, show (128 + c % 64 : Int).toNat = 128 + c.toNat % 64 by omega]
  rw [if_neg c3, if_neg (show ¬ c.toNat < 65536 by omega), w8 _ (by omega) (by omega), w8 _ (by omega) (by omega), w8 _ (by omega) (by omega), w8 _ (by omega) (by omega)]
  show (⟨#[UInt8.ofNat _, UInt8.ofNat _, UInt8.ofNat _, UInt8.ofNat _]⟩ : ByteArray) = _
  rw [show (240 + c / 262144 : Int).toNat = 240 + c.toNat / 262144 by omega, show (128 + c / 4096 % 64 : Int).toNat = 128 + c.toNat / 4096 % 64 by omega, show (128 + c / 64 % 64 : Int).toNat = 128 + c.toNat / 64 % 64 by omega, show (128 + c % 64 : Int).toNat = 128 + c.toNat % 64 by omega]
end Go.Proofs.YtkbpnmgkdodcmaaDoor.M
