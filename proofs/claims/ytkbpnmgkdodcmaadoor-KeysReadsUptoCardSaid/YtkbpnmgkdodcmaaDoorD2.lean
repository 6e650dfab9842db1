import Derived.Test.YtkbpnmgkdodcmaaDoorD1
set_option linter.unusedVariables false
set_option linter.unusedSimpArgs false
set_option maxRecDepth 100000
namespace Go.Proofs.YtkbpnmgkdodcmaaDoor.M
open Go Go.Hp

/-! ### When bytes are just one character -/
theorem u8_eq {x : Int} {b : UInt8} (h0 : 0 ≤ x) (h1 : x < 256) : UInt8.ofNat (IntKind.wrap .u8 x).toNat = b ↔ x = b.toNat := by
  have e : IntKind.wrap .u8 x = x := by rw [IntKind.wrap_u8]; omega
  rw [e]
  have hb := b.toNat_lt
  constructor
  · rintro rfl
    rw [UInt8.toNat_ofNat']
    omega
  · intro h
    apply UInt8.toNat_inj.1
    rw [UInt8.toNat_ofNat']
    omega
theorem bytes_list (t : ByteArray) : ∀ n : Nat, t.size = n → t.data.toList = (List.range n).map fun k : Nat => UInt8.ofNat (byteAt t (k : Int)).toNat := by
  intro n hn
  apply List.ext_getElem?
  intro i
  have hs : t.data.size = t.size := rfl
  by_cases hi : i < n
  · rw [List.getElem?_map, List.getElem?_range (by omega), Array.getElem?_toList, u8_byte t i (by omega)]
    rfl
  · rw [List.getElem?_eq_none (by simp; omega), List.getElem?_eq_none (by simp; omega)]
theorem ofNat_byte (t : ByteArray) (k : Int) : ((UInt8.ofNat (byteAt t k).toNat).toNat : Int) = byteAt t k := by
  have h0 := byteAt_nonneg t k
  have h1 := byteAt_lt t k
  rw [UInt8.toNat_ofNat']
  omega
/-- What a text of so many bytes is worth. -/
theorem worth1 {t : ByteArray} (h : t.size = 1) : worthV t = if byteAt t 0 ≤ 127 then byteAt t 0 else -1 := by
  have h0 := byteAt_nonneg t 0
  unfold worthV
  rw [h]
  show (if byteAt t 0 < 0 then (-1 : Int) else if 127 < byteAt t 0 then -1 else wL t 4 (byteAt t 0 - 0) 1) = _
  unfold wL
  rw [if_neg (by omega)]
  split
  · rw [if_neg (by omega)]
  · rw [if_neg (by omega), if_pos (by omega)]; omega
theorem ct {b : Int} : (((decide (b < 128)) || (decide (191 < b))) = true) ↔ ¬ (128 ≤ b ∧ b ≤ 191) := by
  simp; omega
theorem worth2 {t : ByteArray} (h : t.size = 2) : worthV t = if 192 ≤ byteAt t 0 ∧ byteAt t 0 ≤ 223 ∧ 128 ≤ byteAt t 1 ∧ byteAt t 1 ≤ 191 then (byteAt t 0 - 192) * 64 + (byteAt t 1 - 128) else -1 := by
  unfold worthV
  rw [h]
  show (if byteAt t 0 < 192 then (-1 : Int) else if 223 < byteAt t 0 then -1 else wL t 4 (byteAt t 0 - 192) 1) = _
  unfold wL
  rw [if_pos (show (1 : Int) < t.size by omega)]
  unfold wL
  rw [if_neg (show ¬ (1 + 1 : Int) < t.size by omega)]
  by_cases h1 : byteAt t 0 < 192
  · rw [if_pos h1, if_neg (by omega)]
  rw [if_neg h1]
  by_cases h2 : 223 < byteAt t 0
  · rw [if_pos h2, if_neg (by omega)]
  rw [if_neg h2]
  by_cases h3 : 128 ≤ byteAt t 1 ∧ byteAt t 1 ≤ 191
  · rw [if_neg (fun hh => (ct.1 hh) h3), if_pos (by omega)]; omega
  · rw [if_pos (ct.2 h3), if_neg (by omega)]
theorem worth3 {t : ByteArray} (h : t.size = 3) : worthV t = if 224 ≤ byteAt t 0 ∧ byteAt t 0 ≤ 239 ∧ (128 ≤ byteAt t 1 ∧ byteAt t 1 ≤ 191) ∧ 128 ≤ byteAt t 2 ∧ byteAt t 2 ≤ 191 then (byteAt t 0 - 224) * 4096 + (byteAt t 1 - 128) * 64 + (byteAt t 2 - 128) else -1 := by
  unfold worthV
  rw [h]
  show (if byteAt t 0 < 224 then (-1 : Int) else if 239 < byteAt t 0 then -1 else wL t 4 (byteAt t 0 - 224) 1) = _
  unfold wL
  rw [if_pos (show (1 : Int) < t.size by omega)]
  unfold wL
  rw [if_pos (show (1 + 1 : Int) < t.size by omega)]
  unfold wL
  rw [if_neg (show ¬ (1 + 1 + 1 : Int) < t.size by omega)]
  show _ = (if 224 ≤ byteAt t 0 ∧ byteAt t 0 ≤ 239 ∧ (128 ≤ byteAt t 1 ∧ byteAt t 1 ≤ 191) ∧ 128 ≤ byteAt t (1 + 1) ∧ byteAt t (1 + 1) ≤ 191 then (byteAt t 0 - 224) * 4096 + (byteAt t 1 - 128) * 64 + (byteAt t (1 + 1) - 128) else -1)
  generalize byteAt t (1 + 1) = b2
  by_cases h1 : byteAt t 0 < 224
  · rw [if_pos h1, if_neg (by omega)]
  rw [if_neg h1]
  by_cases h2 : 239 < byteAt t 0
  · rw [if_pos h2, if_neg (by omega)]
  rw [if_neg h2]
  by_cases h3 : 128 ≤ byteAt t 1 ∧ byteAt t 1 ≤ 191
  · rw [if_neg (fun hh => (ct.1 hh) h3)]
    by_cases h4 : 128 ≤ b2 ∧ b2 ≤ 191
    · rw [if_neg (fun hh => (ct.1 hh) h4), if_pos (by omega)]; omega
    · rw [if_pos (ct.2 h4), if_neg (by omega)]
  · rw [if_pos (ct.2 h3), if_neg (by omega)]
theorem worth4 {t : ByteArray} (h : t.size = 4) : worthV t = if 240 ≤ byteAt t 0 ∧ byteAt t 0 ≤ 247 ∧ (128 ≤ byteAt t 1 ∧ byteAt t 1 ≤ 191) ∧ (128 ≤ byteAt t 2 ∧ byteAt t 2 ≤ 191) ∧ 128 ≤ byteAt t 3 ∧ byteAt t 3 ≤ 191 then (byteAt t 0 - 240) * 262144 + (byteAt t 1 - 128) * 4096 + (byteAt t 2 - 128) * 64 + (byteAt t 3 - 128) else -1 := by
  unfold worthV
  rw [h]
  show (if byteAt t 0 < 240 then (-1 : Int) else if 247 < byteAt t 0 then -1 else wL t 4 (byteAt t 0 - 240) 1) = _
  unfold wL
  rw [if_pos (show (1 : Int) < t.size by omega)]
  unfold wL
  rw [if_pos (show (1 + 1 : Int) < t.size by omega)]
  unfold wL
  rw [if_pos (show (1 + 1 + 1 : Int) < t.size by omega)]
  unfold wL
  rw [if_neg (show ¬ (1 + 1 + 1 + 1 : Int) < t.size by omega)]
  show _ = (if 240 ≤ byteAt t 0 ∧ byteAt t 0 ≤ 247 ∧ (128 ≤ byteAt t 1 ∧ byteAt t 1 ≤ 191) ∧ (128 ≤ byteAt t (1 + 1) ∧ byteAt t (1 + 1) ≤ 191) ∧ 128 ≤ byteAt t (1 + 1 + 1) ∧ byteAt t (1 + 1 + 1) ≤ 191 then (byteAt t 0 - 240) * 262144 + (byteAt t 1 - 128) * 4096 + (byteAt t (1 + 1) - 128) * 64 + (byteAt t (1 + 1 + 1) - 128) else -1)
  generalize byteAt t (1 + 1 + 1) = b3
  generalize byteAt t (1 + 1) = b2
  by_cases h1 : byteAt t 0 < 240
  · rw [if_pos h1, if_neg (by omega)]
  rw [if_neg h1]
  by_cases h2 : 247 < byteAt t 0
  · rw [if_pos h2, if_neg (by omega)]
  rw [if_neg h2]
  by_cases h3 : 128 ≤ byteAt t 1 ∧ byteAt t 1 ≤ 191
  · rw [if_neg (fun hh => (ct.1 hh) h3)]
    by_cases h4 : 128 ≤ b2 ∧ b2 ≤ 191
    · rw [if_neg (fun hh => (ct.1 hh) h4)]
      by_cases h5 : 128 ≤ b3 ∧ b3 ≤ 191
      · rw [if_neg (fun hh => (ct.1 hh) h5), if_pos (by omega)]; omega
      · rw [if_pos (ct.2 h5), if_neg (by omega)]
    · rw [if_pos (ct.2 h4), if_neg (by omega)]
  · rw [if_pos (ct.2 h3), if_neg (by omega)]
end Go.Proofs.YtkbpnmgkdodcmaaDoor.M
