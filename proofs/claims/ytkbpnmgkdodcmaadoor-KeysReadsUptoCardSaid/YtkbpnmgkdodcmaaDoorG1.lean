import Derived.Test.YtkbpnmgkdodcmaaDoorF3
import Derived.Test.YtkbpnmgkdodcmaaDoorB10
set_option linter.unusedVariables false
set_option linter.unusedSimpArgs false
set_option maxRecDepth 100000
namespace Go.Proofs.YtkbpnmgkdodcmaaDoor.M
open Go Go.Hp

/-! ### Names are told apart -/
/-- A name behind its marks. -/
def bodyV (c : Int) : ByteArray := if (!((namedV c).data.toList == (⟨#[]⟩ : ByteArray).data.toList)) = true then namedV c else Utf8.encode (IntKind.wrap .i32 c)
theorem name_body {c m : Int} (hv : keys_Valid c m = true) : nameV c m = keys_marks m ++ bodyV c := by
  unfold nameV bodyV
  rw [if_neg (by rw [hv]; decide)]
  split <;> rfl
theorem name_bad {c m : Int} (hv : ¬ keys_Valid c m = true) : nameV c m = ⟨#[]⟩ := by
  unfold nameV
  rw [if_pos (by simpa using hv)]
def wordsT : List (List UInt8 × Int) := [([83, 112, 97, 99, 101], 32), ([69, 110, 116, 101, 114], 13), ([84, 97, 98], 9), ([69, 115, 99, 97, 112, 101], 27), ([66, 83, 112, 97, 99, 101], 127), ([66, 84, 97, 98], 16777239),
  ([85, 112], 16777217), ([68, 111, 119, 110], 16777218), ([82, 105, 103, 104, 116], 16777219), ([76, 101, 102, 116], 16777220), ([72, 111, 109, 101], 16777221), ([69, 110, 100], 16777222), ([73, 110, 115, 101, 114, 116], 16777223), ([68, 101, 108, 101, 116, 101], 16777224), ([80, 97, 103, 101, 85, 112], 16777225), ([80, 97, 103, 101, 68, 111, 119, 110], 16777226),
  ([70, 49], 16777227), ([70, 50], 16777228), ([70, 51], 16777229), ([70, 52], 16777230), ([70, 53], 16777231), ([70, 54], 16777232), ([70, 55], 16777233), ([70, 56], 16777234), ([70, 57], 16777235), ([70, 49, 48], 16777236), ([70, 49, 49], 16777237), ([70, 49, 50], 16777238)]
def lookW (t : List UInt8) : List (List UInt8 × Int) → Int
  | [] => -1
  | p :: l => if (p.1 == t) = true then p.2 else lookW t l
def unbody (t : List UInt8) : Int := match t with
  | [] => -2
  | [b] => b.toNat
  | _ => lookW t wordsT
theorem unbody_asc : ∀ c : Fin 128, unbody (bodyV c.val).data.toList = c.val := by decide +kernel
theorem unbody_sp : ∀ c : Fin 23, unbody (bodyV (16777217 + c.val)).data.toList = 16777217 + c.val := by decide +kernel
def strip1 (a : UInt8) (v : Int) (p : List UInt8 × Int) : List UInt8 × Int := match p.1 with
  | x :: 45 :: y :: r => if (x == a) = true then (y :: r, p.2 + v) else p
  | _ => p
def unname (t : List UInt8) : Int × Int := (unbody (strip1 83 1 (strip1 77 2 (strip1 67 4 (t, 0)))).1, (strip1 83 1 (strip1 77 2 (strip1 67 4 (t, 0)))).2)
theorem unname_asc : ∀ c : Fin 128, ∀ m : Fin 8, keys_Valid c.val m.val = true → unname (nameV c.val m.val).data.toList = ((c.val : Int), (m.val : Int)) := by decide +kernel
theorem unname_sp : ∀ c : Fin 23, ∀ m : Fin 8, keys_Valid (16777217 + c.val) m.val = true → unname (nameV (16777217 + c.val) m.val).data.toList = (16777217 + (c.val : Int), (m.val : Int)) := by decide +kernel
theorem low_asc : ∀ c : Fin 128, ∀ m : Fin 8, keys_Valid c.val m.val = true → ((nameV c.val m.val).data.toList.all fun b => decide (b < 128)) = true := by decide +kernel
theorem low_sp : ∀ c : Fin 23, ∀ m : Fin 8, keys_Valid (16777217 + c.val) m.val = true → ((nameV (16777217 + c.val) m.val).data.toList.all fun b => decide (b < 128)) = true := by decide +kernel
theorem mid_bad : ∀ c : Fin 160, ∀ m : Fin 8, 128 ≤ c.val → keys_Valid c.val m.val = false := by decide +kernel
/-- The keys that are no characters beyond the first 128. -/
def FinK (c : Int) : Prop := (0 ≤ c ∧ c < 128) ∨ (16777217 ≤ c ∧ c ≤ 16777239)
theorem fin_or {c m : Int} (hv : keys_Valid c m = true) : FinK c ∨ (160 ≤ c ∧ c ≤ 1114111 ∧ (c < 55296 ∨ 57343 < c) ∧ (m = 0 ∨ m = 2)) := by
  have hr := valid_le hv
  by_cases h1 : c < 128
  · exact .inl (.inl ⟨by omega, h1⟩)
  by_cases h2 : c < 160
  · have := mid_bad ⟨c.toNat, by omega⟩ ⟨m.toNat, by omega⟩ (by simp only []; omega)
    simp only [show ((c.toNat : Nat) : Int) = c by omega, show ((m.toNat : Nat) : Int) = m by omega] at this
    rw [this] at hv
    cases hv
  by_cases h3 : 16777217 ≤ c
  · exact .inl (.inr ⟨h3, by omega⟩)
  · obtain ⟨a, b⟩ := valid_high hv (by omega) (by unfold keys_special; simp; omega) (by omega)
    unfold keys_character at b
    simp only [Bool.or_eq_true, Bool.and_eq_true, decide_eq_true_eq] at b
    exact .inr ⟨by omega, by omega, by omega, a⟩
theorem fin_name {c m : Int} (hv : keys_Valid c m = true) (hf : FinK c) : unname (nameV c m).data.toList = (c, m) ∧ ((nameV c m).data.toList.all fun b => decide (b < 128)) = true := by
  have hr := valid_le hv
  rcases hf with hf | hf
  · have h1 := unname_asc ⟨c.toNat, by omega⟩ ⟨m.toNat, by omega⟩
    have h2 := low_asc ⟨c.toNat, by omega⟩ ⟨m.toNat, by omega⟩
    simp only [show ((c.toNat : Nat) : Int) = c by omega, show ((m.toNat : Nat) : Int) = m by omega] at h1 h2
    exact ⟨h1 hv, h2 hv⟩
  · have h1 := unname_sp ⟨(c - 16777217).toNat, by omega⟩ ⟨m.toNat, by omega⟩
    have h2 := low_sp ⟨(c - 16777217).toNat, by omega⟩ ⟨m.toNat, by omega⟩
    simp only [show (16777217 : Int) + (((c - 16777217).toNat : Nat) : Int) = c by omega, show ((m.toNat : Nat) : Int) = m by omega] at h1 h2
    exact ⟨h1 hv, h2 hv⟩
theorem fin_body {c : Int} (hf : FinK c) : unbody (bodyV c).data.toList = c := by
  rcases hf with hf | hf
  · have h1 := unbody_asc ⟨c.toNat, by omega⟩
    simp only [show ((c.toNat : Nat) : Int) = c by omega] at h1
    exact h1
  · have h1 := unbody_sp ⟨(c - 16777217).toNat, by omega⟩
    simp only [show (16777217 : Int) + (((c - 16777217).toNat : Nat) : Int) = c by omega] at h1
    exact h1
theorem named_high {c : Int} (h0 : 160 ≤ c) (h1 : c ≤ 1114111) : namedV c = ⟨#[]⟩ := by
  unfold namedV
  rw [if_neg (by omega), if_neg (by omega), if_neg (by omega), if_neg (by omega), if_neg (by omega), if_neg (by omega), if_neg (by unfold keys_special; simp; omega)]
theorem high_body {c : Int} (h0 : 160 ≤ c) (h1 : c ≤ 1114111) : bodyV c = Utf8.encode (IntKind.wrap .i32 c) := by
  unfold bodyV
  rw [named_high h0 h1, if_neg (by decide)]
theorem marks0 : keys_marks 0 = ⟨#[]⟩ ∧ keys_marks 2 = ⟨#[77, 45]⟩ := by decide +kernel
theorem enc_inj {c c' : Int} (h0 : 160 ≤ c) (h1 : c ≤ 1114111) (hs : c < 55296 ∨ 57343 < c) (h0' : 160 ≤ c') (h1' : c' ≤ 1114111) (hs' : c' < 55296 ∨ 57343 < c')
    (he : Utf8.encode (IntKind.wrap .i32 c) = Utf8.encode (IntKind.wrap .i32 c')) : c = c' := by
  have a := (enc_plain h0 h1 hs).1
  have b := (enc_plain h0' h1' hs').1
  rw [he, b] at a
  exact (congrArg Prod.fst a).symm
theorem high_name {c m : Int} (hv : keys_Valid c m = true) (h0 : 160 ≤ c) (h1 : c ≤ 1114111) : nameV c m = keys_marks m ++ Utf8.encode (IntKind.wrap .i32 c) := by
  rw [name_body hv, high_body h0 h1]
theorem not_low {s : ByteArray} (k : Nat) (hk : k < s.size) (hb : 128 ≤ byteAt s k) : ¬ (s.data.toList.all fun b => decide (b < 128)) = true := by
  intro h
  rw [List.all_eq_true] at h
  have hb2 := u8_byte s k hk
  have hm : UInt8.ofNat (byteAt s k).toNat ∈ s.data.toList := by
    rw [Array.mem_toList_iff]
    exact Array.mem_of_getElem? hb2
  have := h _ hm
  simp only [decide_eq_true_eq] at this
  have h2 := UInt8.lt_iff_toNat_lt.1 this
  have h3 := ofNat_byte s k
  have : (128 : UInt8).toNat = 128 := rfl
  omega
theorem high_bytes {c m : Int} (h0 : 160 ≤ c) (h1 : c ≤ 1114111) (hs : c < 55296 ∨ 57343 < c) (hm : m = 0 ∨ m = 2) (hv : keys_Valid c m = true) :
    (m = 0 → 128 ≤ byteAt (nameV c m) 0 ∧ 0 < (nameV c m).size) ∧ (m = 2 → byteAt (nameV c m) 0 = 77 ∧ 128 ≤ byteAt (nameV c m) 2 ∧ 2 < (nameV c m).size) := by
  obtain ⟨_, h128, hpos⟩ := enc_plain h0 h1 hs
  rw [high_name hv h0 h1]
  generalize Utf8.encode (IntKind.wrap .i32 c) = E at *
  constructor
  · rintro rfl
    rw [marks0.1, nil_app]
    exact ⟨h128, hpos⟩
  · rintro rfl
    rw [marks0.2]
    have z2 : (⟨#[77, 45]⟩ : ByteArray).size = 2 := rfl
    have hz : ((⟨#[77, 45]⟩ : ByteArray) ++ E).size = 2 + E.size := ByteArray.size_append ..
    refine ⟨?_, ?_, by omega⟩
    · rw [byteAt_app _ _ 0 (by omega) (by omega)]; rfl
    · rw [byteAt_app2 _ _ 2 (by omega)]; exact h128
theorem name_inj {c m c' m' : Int} (hv : keys_Valid c m = true) (hv' : keys_Valid c' m' = true) (he : nameV c m = nameV c' m') : c = c' ∧ m = m' := by
  rcases fin_or hv with hf | ⟨a0, a1, a2, a3⟩
  · rcases fin_or hv' with hf' | ⟨b0, b1, b2, b3⟩
    · have h1 := (fin_name hv hf).1
      rw [he, (fin_name hv' hf').1] at h1
      exact ⟨(congrArg Prod.fst h1).symm, (congrArg Prod.snd h1).symm⟩
    · exfalso
      have hl := (fin_name hv hf).2
      rw [he] at hl
      obtain ⟨p, q⟩ := high_bytes b0 b1 b2 b3 hv'
      rcases b3 with b3 | b3
      · exact not_low 0 (p b3).2 (p b3).1 hl
      · exact not_low 2 (q b3).2.2 (q b3).2.1 hl
  · rcases fin_or hv' with hf' | ⟨b0, b1, b2, b3⟩
    · exfalso
      have hl := (fin_name hv' hf').2
      rw [← he] at hl
      obtain ⟨p, q⟩ := high_bytes a0 a1 a2 a3 hv
      rcases a3 with a3 | a3
      · exact not_low 0 (p a3).2 (p a3).1 hl
      · exact not_low 2 (q a3).2.2 (q a3).2.1 hl
    · obtain ⟨p, q⟩ := high_bytes a0 a1 a2 a3 hv
      obtain ⟨p', q'⟩ := high_bytes b0 b1 b2 b3 hv'
      rw [he] at p q
      have hmm : m = m' := by
        rcases a3 with a3 | a3 <;> rcases b3 with b3 | b3
        · omega
        · have := (p a3).1; have := (q' b3).1; omega
        · have := (q a3).1; have := (p' b3).1; omega
        · omega
      subst hmm
      refine ⟨?_, rfl⟩
      rw [high_name hv a0 a1, high_name hv' b0 b1] at he
      refine enc_inj a0 a1 a2 b0 b1 b2 ?_
      have := congrArg (fun s : ByteArray => s.data.toList) he
      simp only [ByteArray.data_append, Array.toList_append] at this
      apply ByteArray.ext
      exact Array.toList_inj.1 (List.append_cancel_left this)
theorem name_some {c m : Int} (hv : keys_Valid c m = true) : 0 < (nameV c m).size := by
  rw [name_body hv, ByteArray.size_append]
  have : 0 < (bodyV c).size := by
    rcases fin_or hv with hf | ⟨a0, a1, a2, a3⟩
    · have := fin_body hf
      rcases Nat.eq_zero_or_pos (bodyV c).size with h0 | h0
      · exfalso
        have hn : (bodyV c).data.toList = [] := List.eq_nil_of_length_eq_zero h0
        rw [hn] at this
        have h2 : c = -2 := this.symm
        unfold FinK at hf
        omega
      · exact h0
    · rw [high_body a0 a1]; exact (enc_plain a0 a1 a2).2.2
  omega
end Go.Proofs.YtkbpnmgkdodcmaaDoor.M
