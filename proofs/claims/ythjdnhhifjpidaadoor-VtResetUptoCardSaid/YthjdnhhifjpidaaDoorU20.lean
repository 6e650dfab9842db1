import Derived.Test.YthjdnhhifjpidaaDoorU19
import GoSem.PinnedTables
set_option linter.unusedVariables false
set_option linter.unusedSimpArgs false
set_option maxRecDepth 100000
namespace Go.Proofs.YthjdnhhifjpidaaDoor.M
open Go Go.Hp

/-! ### The tables -/
def powL : List Int := [1, 10, 100, 1000, 10000, 100000, 1000000, 10000000, 100000000, 1000000000, 10000000000, 100000000000, 1000000000000, 10000000000000, 100000000000000, 1000000000000000, 10000000000000000, 100000000000000000, 1000000000000000000, 10000000000000000000]
structure Tabs (h : Heap) : Prop where
  first : cellsAt h ⟨0, 0, none⟩ 0 (Pinned.utf8FirstZ.map fun x => .int .u8 (x : Nat))
  acc : cellsAt h ⟨1, 0, none⟩ 0 (tab1.flatMap tab1f)
  pow : cellsAt h ⟨2, 0, none⟩ 0 (powL.map fun x => .int .u64 x)
theorem Tabs.ext {h h' : Heap} (ht : Tabs h) (he : Ext h h') : Tabs h' := ⟨he.cellsAt ht.first, he.cellsAt ht.acc, he.cellsAt ht.pow⟩

/-! ### A number in letters -/
def lenV (u : Nat) : Int := if u < 2 then 1 else if u < 4 then 2 else if u < 8 then 3 else if u < 16 then 4 else if u < 32 then 5 else if u < 64 then 6 else if u < 128 then 7 else if u < 256 then 8 else if u < 512 then 9 else 10
theorem len_all : ∀ n : Nat, n < 1024 → 1 ≤ n → math_bits_Len64 (n : Int) = some (lenV n) := by decide +kernel
def ndV (u : Nat) : Nat := if u < 10 then 1 else if u < 100 then 2 else if u < 1000 then 3 else 4
theorem nd_all : ∀ n : Nat, n < 1024 → 1 ≤ n → 0 ≤ internal_strconv_log10Pow2 (lenV n) ∧ internal_strconv_log10Pow2 (lenV n) < 20 ∧ IntKind.wrap .i64 (internal_strconv_log10Pow2 (lenV n) + internal_strconv_bool2_int (decide (powL.getD (internal_strconv_log10Pow2 (lenV n)).toNat 0 ≤ (n : Int)))) = (ndV n : Int) := by decide +kernel
theorem nd_sp {h : Heap} {u : Nat} {K : Int → Heap → Prop} (ht : Tabs h) (h1 : u < 1024) (h2 : 1 ≤ u) (hk : ∀ h1, Ext h h1 → K (ndV u : Int) h1) : internal_strconv_numDigits (u : Int) K h := by
  unfold internal_strconv_numDigits
  obtain ⟨a1, a2, a3⟩ := nd_all u h1 h2
  refine ex_i (len_all u h1 h2) ⟨a1, a2, fun h3 he3 => ?_⟩
  have hpow := (ht.ext he3).pow
  have hlt : (internal_strconv_log10Pow2 (lenV u)).toNat < powL.length := by show _ < 20; omega
  have hc := cellsAt_get hpow (internal_strconv_log10Pow2 (lenV u)).toNat (v := .int .u64 (powL.getD (internal_strconv_log10Pow2 (lenV u)).toNat 0)) (by
    rw [List.getElem?_map, List.getElem?_eq_getElem hlt, List.getD_eq_getElem?_getD, List.getElem?_eq_getElem hlt]
    rfl)
  rw [Nat.zero_add] at hc
  rw [Nat.mul_one]
  refine ⟨_, hc, fun h4 he4 => ?_⟩
  rw [a3]
  exact hk h4 (he3.trans he4)
/-- The digits of a number, by the program's table. -/
def digs (u : Nat) : List Int := if u < 10 then [48 + (u : Int)] else if u < 100 then [48 + ((u / 10 : Nat) : Int), 48 + ((u % 10 : Nat) : Int)] else if u < 1000 then [48 + ((u / 100 : Nat) : Int), 48 + ((u / 10 % 10 : Nat) : Int), 48 + ((u % 10 : Nat) : Int)]
  else [48 + ((u / 1000 : Nat) : Int), 48 + ((u / 100 % 10 : Nat) : Int), 48 + ((u / 10 % 10 : Nat) : Int), 48 + ((u % 10 : Nat) : Int)]
def itoaV (a : Int) : ByteArray := if a < 0 then bytesOf (45 :: digs (-a).toNat) else bytesOf (digs a.toNat)
theorem small_all : ∀ n : Nat, n < 100 → internal_strconv_small (n : Int) = some (bytesOf (digs n)) := by decide +kernel
abbrev T200 : ByteArray := ⟨#[48, 48, 48, 49, 48, 50, 48, 51, 48, 52, 48, 53, 48, 54, 48, 55, 48, 56, 48, 57, 49, 48, 49, 49, 49, 50, 49, 51, 49, 52, 49, 53, 49, 54, 49, 55, 49, 56, 49, 57, 50, 48, 50, 49, 50, 50, 50, 51, 50, 52, 50, 53, 50, 54, 50, 55, 50, 56, 50, 57, 51, 48, 51, 49, 51, 50, 51, 51, 51, 52, 51, 53, 51, 54, 51, 55, 51, 56, 51, 57, 52, 48, 52, 49, 52, 50, 52, 51, 52, 52, 52, 53, 52, 54, 52, 55, 52, 56, 52, 57, 53, 48, 53, 49, 53, 50, 53, 51, 53, 52, 53, 53, 53, 54, 53, 55, 53, 56, 53, 57, 54, 48, 54, 49, 54, 50, 54, 51, 54, 52, 54, 53, 54, 54, 54, 55, 54, 56, 54, 57, 55, 48, 55, 49, 55, 50, 55, 51, 55, 52, 55, 53, 55, 54, 55, 55, 55, 56, 55, 57, 56, 48, 56, 49, 56, 50, 56, 51, 56, 52, 56, 53, 56, 54, 56, 55, 56, 56, 56, 57, 57, 48, 57, 49, 57, 50, 57, 51, 57, 52, 57, 53, 57, 54, 57, 55, 57, 56, 57, 57]⟩
theorem t200_all : ∀ n : Nat, n < 100 → byteAt T200 (2 * n + 1 : Nat) = 48 + ((n % 10 : Nat) : Int) ∧ byteAt T200 (2 * n : Nat) = 48 + ((n / 10 : Nat) : Int) := by decide +kernel
theorem t200_size : (T200.size : Int) = 200 := by decide +kernel
theorem wrapu32 {x : Int} (h0 : 0 ≤ x) (h1 : x ≤ 4294967295) : IntKind.wrap .u32 x = x := by rw [IntKind.wrap_u32]; omega
theorem wrapu64 {x : Int} (h0 : 0 ≤ x) (h1 : x ≤ 18446744073709551615) : IntKind.wrap .u64 x = x := by unfold IntKind.wrap; exact Int.emod_eq_of_lt h0 (by show x < 18446744073709551616; omega)
theorem wrapu8 {x : Int} (h0 : 0 ≤ x) (h1 : x ≤ 255) : IntKind.wrap .u8 x = x := by rw [IntKind.wrap_u8]; omega
end Go.Proofs.YthjdnhhifjpidaaDoor.M
