import Derived.Test.YtkbpnmgkdodcmaaDoorC6
set_option linter.unusedVariables false
set_option linter.unusedSimpArgs false
set_option maxRecDepth 100000
namespace Go.Proofs.YtkbpnmgkdodcmaaDoor.M
open Go Go.Hp

/-! ### A letter behind ESC O: both say the same -/
theorem u8_byte (s : ByteArray) (k : Nat) (h : k < s.size) : s.data[k]? = some (UInt8.ofNat (byteAt s k).toNat) := by
  unfold byteAt
  rw [Array.getD_eq_getD_getElem?, Array.getElem?_eq_getElem (show (k : Int).toNat < s.data.size from h), Array.getElem?_eq_getElem (show k < s.data.size from h)]
  simp
theorem ext_one (s : ByteArray) (h : 2 < s.size) : s.extract 2 3 = ⟨#[UInt8.ofNat (byteAt s 2).toNat]⟩ := by
  apply ByteArray.ext
  rw [ByteArray.data_extract]
  apply Array.ext_getElem?
  intro i
  have hs : s.data.size = s.size := rfl
  rw [Array.getElem?_extract]
  by_cases hi : i = 0
  · subst hi
    rw [if_pos (by omega)]
    exact u8_byte s 2 h
  · rw [if_neg (by omega), Array.getElem?_eq_none (by simp; omega)]
theorem letter_all : ∀ b : Fin 256, letterV b.val = match lS ⟨#[UInt8.ofNat b.val]⟩ 22 16777217 with
    | some c => (c, 0, true)
    | none => (0, 0, false) := by decide +kernel
theorem letter_eq (s : ByteArray) (h : 2 < s.size) : letterV (byteAt s 2) = match lSI (s.extract 2 3) with
    | some c => (c, 0, true)
    | none => (0, 0, false) := by
  have h0 := byteAt_nonneg s 2
  have h1 := byteAt_lt s 2
  have := letter_all ⟨(byteAt s 2).toNat, by omega⟩
  simp only [show (((byteAt s 2).toNat : Nat) : Int) = byteAt s 2 by omega] at this
  rw [ext_one s h]
  unfold lSI
  exact this

/-! ### A byte below 128 -/
def ascR (b : Int) : Int × Int :=
  if (((decide (b = 13)) || (decide (b = 9))) || (decide (b = 127))) = true then (b, 0)
  else if b = 0 then (32, 4)
  else if ((decide (28 ≤ b)) && (decide (b < 32))) = true then (b + 64, 4)
  else if b < 27 then (b + 96, 4)
  else (b, 0)
def ascV (b : Int) : Int × Int := if ((decide (b < 32)) || (decide (b = 127))) = true then keys_single b else (b, 0)
theorem asc_all : ∀ b : Fin 128, ascV b.val = ascR b.val ∧ (ascV b.val).1 ≠ 0 := by decide +kernel
theorem plain_asc (s : ByteArray) (h : byteAt s 0 < 128) : plainV s = ((ascV (byteAt s 0)).1, (ascV (byteAt s 0)).2, true, 1) ∧ plainR s = ((ascV (byteAt s 0)).1, (ascV (byteAt s 0)).2, 1) ∧ (ascV (byteAt s 0)).1 ≠ 0 := by
  have h0 := byteAt_nonneg s 0
  have ha := asc_all ⟨(byteAt s 0).toNat, by omega⟩
  simp only [show (((byteAt s 0).toNat : Nat) : Int) = byteAt s 0 by omega] at ha
  refine ⟨?_, ?_, ha.2⟩
  · unfold plainV ascV
    split
    · rfl
    · rename_i hc
      have : ¬ (byteAt s 0 < 32 ∨ byteAt s 0 = 127) := by simpa using hc
      rw [if_pos (by omega)]
  · rw [ha.1]
    unfold plainR ascR
    repeat (split; · rfl)
    rfl
end Go.Proofs.YtkbpnmgkdodcmaaDoor.M
