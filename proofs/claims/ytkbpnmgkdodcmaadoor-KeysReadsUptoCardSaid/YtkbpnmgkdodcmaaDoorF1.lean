import Derived.Test.YtkbpnmgkdodcmaaDoorD7
import Derived.Test.YtkbpnmgkdodcmaaDoorB8
set_option linter.unusedVariables false
set_option linter.unusedSimpArgs false
set_option maxRecDepth 100000
namespace Go.Proofs.YtkbpnmgkdodcmaaDoor.M
open Go Go.Hp

/-! ### A character's bytes tell just it -/
theorem byte_list {s : ByteArray} {l : List UInt8} (hs : s.data.toList = l) (k : Nat) {b : UInt8} (hk : l[k]? = some b) : byteAt s k = b.toNat := by
  unfold byteAt
  rw [← hs, Array.getElem?_toList] at hk
  rw [Array.getD_eq_getD_getElem?, show (k : Int).toNat = k by omega, hk]
  rfl
theorem size_list {s : ByteArray} {l : List UInt8} (hs : s.data.toList = l) : s.size = l.length := by rw [← hs]; rfl
theorem u8n {x : Nat} (h : x < 256) : ((UInt8.ofNat x).toNat : Int) = x := by rw [UInt8.toNat_ofNat']; omega
theorem enc_full {c : Int} {s : ByteArray} (h0 : 160 ≤ c) (h1 : c ≤ 1114111) (hs : c < 55296 ∨ 57343 < c) (he : s.data.toList = (ref21_utf8 c).data.toList) :
    ∃ w, FullAt s w ∧ valV s w = c ∧ (s.size : Int) = w := by
  by_cases c2 : c < 2048
  · rw [enc2 (by omega) c2] at he
    have b0 := byte_list he 0 rfl
    have b1 := byte_list he 1 rfl
    have hz := size_list he
    rw [u8n (by omega)] at b0 b1
    rw [show ((0 : Nat) : Int) = 0 from rfl] at b0
    rw [show ((1 : Nat) : Int) = 1 from rfl] at b1
    simp only [List.length_cons, List.length_nil] at hz
    refine ⟨2, ⟨by unfold leadV; omega, by omega, foll1_iff.2 (by omega), fun h => by omega, fun h => by omega⟩, ?_, by omega⟩
    unfold valV
    rw [if_pos rfl, b0, b1]
    omega
  by_cases c3 : c < 65536
  · rw [enc3 (by omega) c3 hs] at he
    have b0 := byte_list he 0 rfl
    have b1 := byte_list he 1 rfl
    have b2 := byte_list he 2 rfl
    have hz := size_list he
    rw [u8n (by omega)] at b0 b1 b2
    rw [show ((0 : Nat) : Int) = 0 from rfl] at b0
    rw [show ((1 : Nat) : Int) = 1 from rfl] at b1
    rw [show ((2 : Nat) : Int) = 2 from rfl] at b2
    simp only [List.length_cons, List.length_nil] at hz
    refine ⟨3, ⟨by unfold leadV; omega, by omega, foll1_iff.2 (by omega), fun h => (foll2 (by omega)).2 (by omega), fun h => by omega⟩, ?_, by omega⟩
    unfold valV
    rw [if_neg (by omega), if_pos rfl, b0, b1, b2]
    omega
  · rw [enc4 (by omega) h1] at he
    have b0 := byte_list he 0 rfl
    have b1 := byte_list he 1 rfl
    have b2 := byte_list he 2 rfl
    have b3 := byte_list he 3 rfl
    have hz := size_list he
    rw [u8n (by omega)] at b0 b1 b2 b3
    rw [show ((0 : Nat) : Int) = 0 from rfl] at b0
    rw [show ((1 : Nat) : Int) = 1 from rfl] at b1
    rw [show ((2 : Nat) : Int) = 2 from rfl] at b2
    rw [show ((3 : Nat) : Int) = 3 from rfl] at b3
    simp only [List.length_cons, List.length_nil] at hz
    refine ⟨4, ⟨by unfold leadV; omega, by omega, foll1_iff.2 (by omega), fun h => (foll2 (by omega)).2 (by omega), fun h => (foll2 (by omega)).2 (by omega)⟩, ?_, by omega⟩
    unfold valV
    rw [if_neg (by omega), if_neg (by omega), b0, b1, b2, b3]
    omega
theorem plain_lead {s : ByteArray} {w : Int} (hl : leadV (byteAt s 0) w) : plainV s = restV s w := by
  unfold leadV at hl
  unfold plainV
  rcases hl with ⟨rfl, a, b⟩ | ⟨rfl, a, b⟩ | ⟨rfl, a, b⟩
  · rw [if_neg (by simp; omega), if_neg (by omega), if_pos (by simp; omega)]
  · rw [if_neg (by simp; omega), if_neg (by omega), if_neg (by simp; omega), if_pos (by simp; omega)]
  · rw [if_neg (by simp; omega), if_neg (by omega), if_neg (by simp; omega), if_neg (by simp; omega), if_pos (by simp; omega)]
theorem enc_plain {c : Int} (h0 : 160 ≤ c) (h1 : c ≤ 1114111) (hs : c < 55296 ∨ 57343 < c) :
    plainV (Utf8.encode (IntKind.wrap .i32 c)) = (c, 0, true, ((Utf8.encode (IntKind.wrap .i32 c)).size : Int)) ∧ 128 ≤ byteAt (Utf8.encode (IntKind.wrap .i32 c)) 0 ∧ 0 < (Utf8.encode (IntKind.wrap .i32 c)).size := by
  obtain ⟨w, hf, hv, hz⟩ := enc_full (s := Utf8.encode (IntKind.wrap .i32 c)) h0 h1 hs (by rw [utf8_eq (by omega) h1 hs])
  have hl := hf.1
  refine ⟨?_, by unfold leadV at hl; omega, by unfold leadV at hl; omega⟩
  rw [plain_lead hf.1, rest_full hf, hv, hz, decide_eq_true (by omega)]

/-! ### A key's bytes tell just it: ahead of whatever comes -/
def loneB (c m : Int) : Bool := (c == 27 && m == 0) || (c == 91 && m == 2) || (c == 79 && m == 2)
theorem next_asc : ∀ c : Fin 160, ∀ m : Fin 8, keys_Valid c.val m.val = true → loneB c.val m.val = false → nextV (bytesV c.val m.val false) = ((c.val : Int), (m.val : Int), true, ((bytesV c.val m.val false).size : Int)) ∧ 0 < (bytesV c.val m.val false).size := by decide +kernel
theorem next_btab : nextV (bytesV 16777239 0 false) = (16777239, 0, true, ((bytesV 16777239 0 false).size : Int)) ∧ 0 < (bytesV 16777239 0 false).size := by decide +kernel
end Go.Proofs.YtkbpnmgkdodcmaaDoor.M
