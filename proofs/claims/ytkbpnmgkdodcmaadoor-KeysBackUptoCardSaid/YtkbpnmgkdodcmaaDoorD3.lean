import Derived.Test.YtkbpnmgkdodcmaaDoorD2
set_option linter.unusedVariables false
set_option linter.unusedSimpArgs false
set_option maxRecDepth 100000
namespace Go.Proofs.YtkbpnmgkdodcmaaDoor.M
open Go Go.Hp

theorem utf8_len (c : Int) : (ref21_utf8 c).data.toList.length = if c < 128 then 1 else if c < 2048 then 2 else if c < 65536 then 3 else 4 := by
  show (ref21_utf8 c).size = _
  unfold ref21_utf8
  repeat' split
  all_goals (rw [bytesOf_size]; rfl)
theorem enc1 {c : Int} (h0 : 0 ≤ c) (h1 : c < 128) : (ref21_utf8 c).data.toList = [UInt8.ofNat c.toNat] := by
  rw [utf8_eq h0 (by omega) (by omega)]
  have e : IntKind.wrap .i32 c = c := by rw [IntKind.wrap_i32]; omega
  have hv : Utf8.valid c = true := by simp only [Utf8.valid, Bool.or_eq_true, Bool.and_eq_true, decide_eq_true_eq]; omega
  rw [e]
  unfold Utf8.encode
  simp only [hv, if_true]
  rw [if_pos (by omega)]
theorem enc2 {c : Int} (h0 : 128 ≤ c) (h1 : c < 2048) : (ref21_utf8 c).data.toList = [UInt8.ofNat (192 + c.toNat / 64), UInt8.ofNat (128 + c.toNat % 64)] := by
  rw [utf8_eq (by omega) (by omega) (by omega)]
  have e : IntKind.wrap .i32 c = c := by rw [IntKind.wrap_i32]; omega
  have hv : Utf8.valid c = true := by simp only [Utf8.valid, Bool.or_eq_true, Bool.and_eq_true, decide_eq_true_eq]; omega
  rw [e]
  unfold Utf8.encode
  simp only [hv, if_true]
  rw [if_neg (by omega), if_pos (by omega)]
theorem enc3 {c : Int} (h0 : 2048 ≤ c) (h1 : c < 65536) (hs : c < 55296 ∨ 57343 < c) : (ref21_utf8 c).data.toList = [UInt8.ofNat (224 + c.toNat / 4096), UInt8.ofNat (128 + c.toNat / 64 % 64), UInt8.ofNat (128 + c.toNat % 64)] := by
  rw [utf8_eq (by omega) (by omega) hs]
  have e : IntKind.wrap .i32 c = c := by rw [IntKind.wrap_i32]; omega
  have hv : Utf8.valid c = true := by simp only [Utf8.valid, Bool.or_eq_true, Bool.and_eq_true, decide_eq_true_eq]; omega
  rw [e]
  unfold Utf8.encode
  simp only [hv, if_true]
  rw [if_neg (by omega), if_neg (by omega), if_pos (by omega)]
theorem enc4 {c : Int} (h0 : 65536 ≤ c) (h1 : c ≤ 1114111) : (ref21_utf8 c).data.toList = [UInt8.ofNat (240 + c.toNat / 262144), UInt8.ofNat (128 + c.toNat / 4096 % 64), UInt8.ofNat (128 + c.toNat / 64 % 64), UInt8.ofNat (128 + c.toNat % 64)] := by
  rw [utf8_eq (by omega) (by omega) (by omega)]
  have e : IntKind.wrap .i32 c = c := by rw [IntKind.wrap_i32]; omega
  have hv : Utf8.valid c = true := by simp only [Utf8.valid, Bool.or_eq_true, Bool.and_eq_true, decide_eq_true_eq]; omega
  rw [e]
  unfold Utf8.encode
  simp only [hv, if_true]
  rw [if_neg (by omega), if_neg (by omega), if_neg (by omega)]
def fullV (t : ByteArray) : Prop :=
  (t.size = 1 ∧ byteAt t 0 < 128) ∨ (leadV (byteAt t 0) t.size ∧ follV (byteAt t 0) 1 (byteAt t 1) = true ∧ (2 < (t.size : Int) → follV (byteAt t 0) 2 (byteAt t 2) = true) ∧ (3 < (t.size : Int) → follV (byteAt t 0) 3 (byteAt t 3) = true))
theorem foll1_iff {b0 b : Int} : follV b0 1 b = true ↔ 128 ≤ b ∧ b ≤ 191 ∧ (b0 = 224 → 160 ≤ b) ∧ (b0 = 237 → b ≤ 159) ∧ (b0 = 240 → 144 ≤ b) ∧ (b0 = 244 → b ≤ 143) := by
  refine ⟨foll1, fun h => ?_⟩
  unfold follV
  rw [if_pos rfl]
  repeat' split
  all_goals (simp; omega)
theorem okV_iff (t : ByteArray) : okV t = true ↔ (0 ≤ worthV t ∧ (ref21_utf8 (worthV t)).data.toList = t.data.toList ∧ worthV t ≤ 1114111 ∧ (worthV t < 55296 ∨ 57343 < worthV t)) := by
  unfold okV
  simp only [Bool.and_eq_true, Bool.or_eq_true, decide_eq_true_eq, beq_iff_eq]
  constructor
  · rintro ⟨⟨⟨a, b⟩, c⟩, d⟩; exact ⟨a, b, c, d⟩
  · rintro ⟨a, b, c, d⟩; exact ⟨⟨⟨a, b⟩, c⟩, d⟩
theorem ok1 {t : ByteArray} (h : t.size = 1) : okV t = true ↔ byteAt t 0 < 128 := by
  have h0 := byteAt_nonneg t 0
  rw [okV_iff, worth1 h]
  split
  · rename_i hc
    refine ⟨fun _ => by omega, fun _ => ⟨h0, ?_, by omega, by omega⟩⟩
    rw [enc1 h0 (by omega), bytes_list t 1 h]
    rfl
  · rename_i hc
    exact ⟨fun hh => by omega, fun hh => by omega⟩
theorem ok2 {t : ByteArray} (h : t.size = 2) : okV t = true ↔ (194 ≤ byteAt t 0 ∧ byteAt t 0 ≤ 223) ∧ 128 ≤ byteAt t 1 ∧ byteAt t 1 ≤ 191 := by
  rw [okV_iff, worth2 h]
  split
  · rename_i hc
    have hl := bytes_list t 2 h
    constructor
    · rintro ⟨_, he, _⟩
      have := congrArg List.length he
      rw [utf8_len, hl] at this
      simp only [List.length_map, List.length_range] at this
      repeat' split at this
      all_goals omega
    · rintro ⟨h1, h2⟩
      refine ⟨by omega, ?_, by omega, by omega⟩
      rw [enc2 (by omega) (by omega), hl]
      show _ = [UInt8.ofNat (byteAt t 0).toNat, UInt8.ofNat (byteAt t 1).toNat]
      congr 1
      · congr 1; omega
      · congr 2; omega
  · rename_i hc
    exact ⟨fun hh => by omega, fun hh => by omega⟩
theorem ok3 {t : ByteArray} (h : t.size = 3) : okV t = true ↔ (224 ≤ byteAt t 0 ∧ byteAt t 0 ≤ 239) ∧ follV (byteAt t 0) 1 (byteAt t 1) = true ∧ 128 ≤ byteAt t 2 ∧ byteAt t 2 ≤ 191 := by
  rw [okV_iff, worth3 h, foll1_iff]
  split
  · rename_i hc
    have hl := bytes_list t 3 h
    constructor
    · rintro ⟨_, he, _, hs⟩
      have := congrArg List.length he
      rw [utf8_len, hl] at this
      simp only [List.length_map, List.length_range] at this
      repeat' split at this
      all_goals omega
    · rintro ⟨h1, h2, h3⟩
      refine ⟨by omega, ?_, by omega, by omega⟩
      rw [enc3 (by omega) (by omega) (by omega), hl]
      show _ = [UInt8.ofNat (byteAt t 0).toNat, UInt8.ofNat (byteAt t 1).toNat, UInt8.ofNat (byteAt t 2).toNat]
      congr 1
      · congr 1; omega
      · congr 1
        · congr 1; omega
        · congr 2; omega
  · rename_i hc
    exact ⟨fun hh => by omega, fun hh => by omega⟩
theorem ok4 {t : ByteArray} (h : t.size = 4) : okV t = true ↔ (240 ≤ byteAt t 0 ∧ byteAt t 0 ≤ 244) ∧ follV (byteAt t 0) 1 (byteAt t 1) = true ∧ (128 ≤ byteAt t 2 ∧ byteAt t 2 ≤ 191) ∧ 128 ≤ byteAt t 3 ∧ byteAt t 3 ≤ 191 := by
  rw [okV_iff, worth4 h, foll1_iff]
  split
  · rename_i hc
    have hl := bytes_list t 4 h
    constructor
    · rintro ⟨_, he, hm, hs⟩
      have := congrArg List.length he
      rw [utf8_len, hl] at this
      simp only [List.length_map, List.length_range] at this
      repeat' split at this
      all_goals omega
    · rintro ⟨h1, h2, h3, h4⟩
      refine ⟨by omega, ?_, by omega, by omega⟩
      rw [enc4 (by omega) (by omega), hl]
      show _ = [UInt8.ofNat (byteAt t 0).toNat, UInt8.ofNat (byteAt t 1).toNat, UInt8.ofNat (byteAt t 2).toNat, UInt8.ofNat (byteAt t 3).toNat]
      congr 1
      · congr 1; omega
      · congr 1
        · congr 1; omega
        · congr 1
          · congr 1; omega
          · congr 2; omega
  · rename_i hc
    exact ⟨fun hh => by omega, fun hh => by omega⟩
end Go.Proofs.YtkbpnmgkdodcmaaDoor.M
