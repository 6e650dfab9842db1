import Derived.Test.YtkbpnmgkdodcmaaDoorF2
set_option linter.unusedVariables false
set_option linter.unusedSimpArgs false
set_option maxRecDepth 100000
namespace Go.Proofs.YtkbpnmgkdodcmaaDoor.M
open Go Go.Hp

theorem bytes_app {c m : Int} (app : Bool) (h : ¬ keys_special c = true) : bytesV c m app = bytesV c m false := by
  unfold bytesV
  simp only [if_neg h]
theorem and4 : ∀ m : Fin 8, (iAnd .i64 (m.val : Int) 4 = 0 ↔ m.val < 4) ∧ (iAnd .i64 (m.val : Int) 2 = 0 ↔ m.val % 4 < 2) ∧ (iAnd .i64 (m.val : Int) 1 = 0 ↔ m.val % 2 = 0) := by decide +kernel
theorem or22 : iOr .i64 0 2 = 2 := by decide +kernel
theorem andn : ∀ m : Fin 8, (iAndNot .i64 (m.val : Int) 2 = 0 ↔ m.val = 0 ∨ m.val = 2) := by decide +kernel
/-- A key whose code is 160 or more, and no special one. -/
theorem valid_high {c m : Int} (hv : keys_Valid c m = true) (h : 160 ≤ c) (hs : ¬ keys_special c = true) (hb : c ≠ 16777239) : (m = 0 ∨ m = 2) ∧ keys_character c = true := by
  unfold keys_Valid at hv
  have hm : ¬ ((decide (m < 0)) || (decide (7 < m))) = true := by intro hh; rw [if_pos hh] at hv; cases hv
  have hm' : ¬ (m < 0 ∨ 7 < m) := by simpa using hm
  rw [if_neg hm, if_neg hs, if_neg hb, if_neg (by omega), if_neg (by simp; omega)] at hv
  have ha := andn ⟨m.toNat, by omega⟩
  simp only [show ((m.toNat : Nat) : Int) = m by omega] at ha
  by_cases hp : iAndNot .i64 m 2 = 0
  · simp only [hp] at hv
    refine ⟨?_, by simpa using hv⟩
    have := ha.1 hp
    omega
  · exfalso
    unfold keys_control at hv
    simp at hv
    have : ¬ iAndNot .i64 m 2 = 0 := hp
    simp [this] at hv
    omega
theorem next_high {c m : Int} (hv : keys_Valid c m = true) (h : 160 ≤ c) (hs : ¬ keys_special c = true) (hb : c ≠ 16777239) :
    nextV (bytesV c m false) = (c, m, true, ((bytesV c m false).size : Int)) ∧ 0 < (bytesV c m false).size ∧ (bytesV c m false).size ≤ 5 := by
  obtain ⟨hm, hc⟩ := valid_high hv h hs hb
  have hc' : c ≤ 1114111 ∧ (c < 55296 ∨ 57343 < c) := by
    unfold keys_character at hc
    simp only [Bool.or_eq_true, Bool.and_eq_true, decide_eq_true_eq] at hc
    omega
  obtain ⟨hp, h128, hpos⟩ := enc_plain h hc'.1 hc'.2
  have hz := encode_size (IntKind.wrap .i32 c)
  generalize hE : Utf8.encode (IntKind.wrap .i32 c) = E at *
  have hb4 : ∀ m : Int, (m = 0 ∨ m = 2) → restB c m = E := fun m hm => by
    unfold restB
    rw [if_pos, hE]
    rcases hm with rfl | rfl <;> decide
  have h27 : ¬ byteAt E 0 = 27 := by omega
  rcases hm with rfl | rfl
  · have e : bytesV c 0 false = E := by
      unfold bytesV
      rw [if_neg (by rw [hv]; decide), if_neg hs, if_neg hb, hb4 0 (.inl rfl), if_pos (by decide)]
      exact nil_app E
    rw [e]
    refine ⟨?_, hpos, by omega⟩
    unfold nextV bareV
    simp only [if_neg h27]
    split <;> exact hp
  · have e : bytesV c 2 false = (⟨#[27]⟩ : ByteArray) ++ E := by
      unfold bytesV
      rw [if_neg (by rw [hv]; decide), if_neg hs, if_neg hb, hb4 2 (.inr rfl), if_neg (by decide)]
    rw [e]
    have hsz : ((⟨#[27]⟩ : ByteArray) ++ E).size = 1 + E.size := ByteArray.size_append ..
    have z1 : (⟨#[27]⟩ : ByteArray).size = 1 := rfl
    have b0 : byteAt ((⟨#[27]⟩ : ByteArray) ++ E) 0 = 27 := by rw [byteAt_app _ _ 0 (by omega) (by omega)]; rfl
    have b1 : byteAt ((⟨#[27]⟩ : ByteArray) ++ E) 1 = byteAt E 0 := by rw [byteAt_app2 _ _ 1 (by omega)]; rfl
    have ex : ((⟨#[27]⟩ : ByteArray) ++ E).extract ((1 : Int).toNat) ((⟨#[27]⟩ : ByteArray) ++ E).size = E := by
      apply ByteArray.ext
      rw [ByteArray.data_extract, ByteArray.data_append, hsz]
      apply Array.ext_getElem?
      intro i
      have hEs : E.data.size = E.size := rfl
      have h1s : (⟨#[27]⟩ : ByteArray).data.size = 1 := rfl
      simp only [Array.getElem?_extract, Array.size_append, Array.getElem?_append]
      grind
    refine ⟨?_, by omega, by omega⟩
    unfold nextV
    rw [if_pos (by omega), if_pos b0, if_neg (by rw [b1]; omega), if_neg (by rw [b1]; omega)]
    unfold bareV
    rw [if_pos b0, if_neg (by omega), if_neg (by rw [b1]; omega), ex, hp]
    simp only []
    rw [if_neg (by omega), or22, wrap64 (by omega) (by omega)]
    congr 3
theorem size_asc : ∀ c : Fin 160, ∀ m : Fin 8, (bytesV c.val m.val false).size ≤ 16 := by decide +kernel
theorem size_sp : ∀ c : Fin 22, ∀ m : Fin 8, (spV (16777217 + c.val) m.val false).size ≤ 16 ∧ (spV (16777217 + c.val) m.val true).size ≤ 16 := by decide +kernel
theorem sp_eq {c m : Int} {app : Bool} (hv : keys_Valid c m = true) (hs : keys_special c = true) : bytesV c m app = spV c m app := by
  unfold bytesV
  rw [if_neg (by rw [hv]; decide), if_pos hs]
/-- What a valid key's bytes tell, whatever comes behind. -/
theorem next_key {c m : Int} {app : Bool} (hv : keys_Valid c m = true) (hl : loneB c m = false) : nextV (bytesV c m app) = (c, m, true, ((bytesV c m app).size : Int)) ∧ 0 < (bytesV c m app).size := by
  have hr := valid_le hv
  by_cases hs : keys_special c = true
  · rw [sp_eq hv hs]
    have hc : 16777217 ≤ c ∧ c ≤ 16777238 := by unfold keys_special at hs; simpa using hs
    have e1 : (16777217 : Int) + (((c - 16777217).toNat : Nat) : Int) = c := by omega
    have e2 : ((m.toNat : Nat) : Int) = m := by omega
    have h1 := next_sp1 ⟨(c - 16777217).toNat, by omega⟩ ⟨m.toNat, by omega⟩
    have h2 := next_sp2 ⟨(c - 16777217).toNat, by omega⟩
    have h3 := sp_app ⟨(c - 16777217).toNat, by omega⟩ ⟨m.toNat, by omega⟩
    have h4 := sp_pos ⟨(c - 16777217).toNat, by omega⟩ ⟨m.toNat, by omega⟩
    simp only [e1, e2] at h1 h2 h3 h4
    cases app with
    | false => exact ⟨h1, h4.1⟩
    | true =>
      by_cases hm : m = 0
      · subst hm; exact ⟨h2, h4.2⟩
      · rw [h3 (by omega)]; exact ⟨h1, h4.1⟩
  rw [bytes_app app hs]
  by_cases hb : c = 16777239
  · subst hb
    have hm : m = 0 := by
      unfold keys_Valid at hv
      have hm : ¬ ((decide (m < 0)) || (decide (7 < m))) = true := by intro hh; rw [if_pos hh] at hv; cases hv
      rw [if_neg hm, if_neg hs, if_pos rfl] at hv
      simpa using hv
    subst hm
    exact next_btab
  by_cases h160 : 160 ≤ c
  · exact ⟨(next_high hv h160 hs hb).1, (next_high hv h160 hs hb).2.1⟩
  · have h := next_asc ⟨c.toNat, by omega⟩ ⟨m.toNat, by omega⟩
    simp only [show ((c.toNat : Nat) : Int) = c by omega, show ((m.toNat : Nat) : Int) = m by omega] at h
    exact h hv hl
theorem bytes_small {c m : Int} {app : Bool} (hv : keys_Valid c m = true) : (bytesV c m app).size ≤ 16 := by
  have hr := valid_le hv
  by_cases hs : keys_special c = true
  · rw [sp_eq hv hs]
    have hc : 16777217 ≤ c ∧ c ≤ 16777238 := by unfold keys_special at hs; simpa using hs
    have h := size_sp ⟨(c - 16777217).toNat, by omega⟩ ⟨m.toNat, by omega⟩
    simp only [show (16777217 : Int) + (((c - 16777217).toNat : Nat) : Int) = c by omega, show ((m.toNat : Nat) : Int) = m by omega] at h
    cases app with
    | false => exact h.1
    | true => exact h.2
  rw [bytes_app app hs]
  by_cases hb : c = 16777239
  · subst hb
    unfold bytesV
    rw [if_neg (by rw [hv]; decide), if_neg hs, if_pos rfl]
    decide
  by_cases h160 : 160 ≤ c
  · have := (next_high hv h160 hs hb).2.2
    omega
  · have h := size_asc ⟨c.toNat, by omega⟩ ⟨m.toNat, by omega⟩
    simp only [show ((c.toNat : Nat) : Int) = c by omega, show ((m.toNat : Nat) : Int) = m by omega] at h
    exact h
theorem flushF_len : ∀ (f : Nat) (s : ByteArray) (acc : List (Int × Int)), (flushL f s acc).length ≤ acc.length + f := by
  intro f
  induction f with
  | zero => intro s acc; simp [flushL]
  | succ f ih =>
    intro s acc
    unfold flushL
    split
    · split
      · split
        · simp only [List.length_append, List.length_singleton]; omega
        · omega
      · refine Nat.le_trans (ih _ _) ?_
        split
        · simp only [List.length_append, List.length_singleton]; omega
        · omega
    · omega
theorem ext_all (s : ByteArray) : s.extract s.size s.size = ⟨#[]⟩ := by
  apply ByteArray.ext
  rw [ByteArray.data_extract]
  apply Array.ext_getElem?
  intro i
  rw [Array.getElem?_extract]
  simp
theorem feed_key {c m : Int} {app : Bool} (hv : keys_Valid c m = true) (hl : loneB c m = false) : feedV (bytesV c m app) = ([(c, m)], ⟨#[]⟩) := by
  obtain ⟨hn, hp⟩ := next_key (app := app) hv hl
  have hz := bytes_small (app := app) hv
  rw [feedV_step _ hp (by omega), hn]
  simp only []
  rw [if_neg (by omega), if_pos trivial, show (((bytesV c m app).size : Int)).toNat = (bytesV c m app).size by omega, ext_all, feedV_empty _ rfl]
  rfl
theorem lone1 : (feedV (bytesV 27 0 false)).1 ++ flushV (feedV (bytesV 27 0 false)).2 = [(27, 0)] := by decide +kernel
theorem lone2 : (feedV (bytesV 91 2 false)).1 ++ flushV (feedV (bytesV 91 2 false)).2 = [(91, 2)] := by decide +kernel
theorem lone3 : (feedV (bytesV 79 2 false)).1 ++ flushV (feedV (bytesV 79 2 false)).2 = [(79, 2)] := by decide +kernel
theorem round_key {c m : Int} {app : Bool} (hv : keys_Valid c m = true) : (feedV (bytesV c m app)).1 ++ flushV (feedV (bytesV c m app)).2 = [(c, m)] := by
  cases hl : loneB c m with
  | false =>
    rw [feed_key hv hl]
    rfl
  | true =>
    unfold loneB at hl
    simp only [Bool.or_eq_true, Bool.and_eq_true, beq_iff_eq] at hl
    rcases hl with (⟨rfl, rfl⟩ | ⟨rfl, rfl⟩) | ⟨rfl, rfl⟩
    · rw [bytes_app app (by decide)]; exact lone1
    · rw [bytes_app app (by decide)]; exact lone2
    · rw [bytes_app app (by decide)]; exact lone3
end Go.Proofs.YtkbpnmgkdodcmaaDoor.M
