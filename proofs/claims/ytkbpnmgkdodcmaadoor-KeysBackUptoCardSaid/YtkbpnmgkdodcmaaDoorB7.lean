import Derived.Test.YtkbpnmgkdodcmaaDoorB6
set_option linter.unusedVariables false
set_option linter.unusedSimpArgs false
set_option maxRecDepth 100000
namespace Go.Proofs.YtkbpnmgkdodcmaaDoor.M
open Go Go.Hp

/-! ### What is read is a key -/
theorem valid_special {c m : Int} (c0 : 16777217 ≤ c) (c1 : c ≤ 16777238) (m0 : 0 ≤ m) (m1 : m ≤ 7) : keys_Valid c m = true := by
  unfold keys_Valid
  have h1 : ¬ ((decide (m < 0)) || (decide (7 < m))) = true := by simp; omega
  have h2 : keys_special c = true := by unfold keys_special; simp; omega
  rw [if_neg h1, if_pos h2]
theorem valid_single : ∀ b : Fin 256, (b.val < 32 ∨ b.val = 127) → keys_Valid (keys_single b.val).1 (keys_single b.val).2 = true ∧ (b.val ≠ 27 → keys_Valid (keys_single b.val).1 (iOr .i64 (keys_single b.val).2 2) = true) := by decide +kernel
theorem valid_ascii : ∀ b : Fin 127, 32 ≤ b.val → keys_Valid b.val 0 = true ∧ keys_Valid b.val (iOr .i64 0 2) = true := by decide +kernel
theorem valid_char {c : Int} (h : keys_character c = true) (h160 : 160 ≤ c) : keys_Valid c 0 = true ∧ keys_Valid c (iOr .i64 0 2) = true := by
  have hb : c ≤ 1114111 := by
    unfold keys_character at h
    simp only [Bool.or_eq_true, Bool.and_eq_true, decide_eq_true_eq] at h
    omega
  have h2 : ¬ keys_special c = true := by unfold keys_special; simp; omega
  have h3 : ¬ ((((decide (c = 13)) || (decide (c = 9))) || (decide (c = 27))) || (decide (c = 127))) = true := by simp; omega
  unfold keys_Valid
  constructor
  · rw [if_neg (by decide), if_neg h2, if_neg (by omega), if_neg (by omega), if_neg h3, if_pos (by decide)]
    exact h
  · rw [if_neg (by decide), if_neg h2, if_neg (by omega), if_neg (by omega), if_neg h3, if_pos (by decide)]
    exact h
theorem decode_valid (s : ByteArray) (i : Nat) : Utf8.valid ((Utf8.decode s i).1 : Int) = true := by
  unfold Utf8.decode
  simp only []
  have he : Utf8.valid ((Utf8.runeError : Nat) : Int) = true := by decide
  split
  · rename_i h; simp only [Utf8.valid, Bool.or_eq_true, Bool.and_eq_true, decide_eq_true_eq]; omega
  · split
    · split
      · simp only [Utf8.valid, Bool.or_eq_true, Bool.and_eq_true, decide_eq_true_eq]; omega
      · exact he
    · split
      · split
        · rename_i h; simp only [Bool.and_eq_true] at h; exact h.2
        · exact he
      · split
        · split
          · rename_i h; simp only [Bool.and_eq_true] at h; exact h.2
          · exact he
        · exact he
theorem codeV_char (s : ByteArray) (w : Int) (h : 160 ≤ codeV s w) : keys_character (codeV s w) = true := by
  have hv := decode_valid (s.extract 0 w.toNat) 0
  have e : codeV s w = ((Utf8.decode (s.extract 0 w.toNat) 0).1 : Int) := by
    unfold codeV
    simp only [Utf8.valid, Bool.or_eq_true, Bool.and_eq_true, decide_eq_true_eq] at hv
    show IntKind.wrap .i64 (((Utf8.decode (s.extract 0 w.toNat) 0).1 : Nat) : Int) = _
    exact wrap64 (by omega) (by omega)
  rw [e] at h ⊢
  simp only [Utf8.valid, Bool.or_eq_true, Bool.and_eq_true, decide_eq_true_eq] at hv
  unfold keys_character
  simp only [Bool.or_eq_true, Bool.and_eq_true, decide_eq_true_eq]
  omega
theorem rest_valid (s : ByteArray) (w : Int) (hk : (restV s w).2.2.1 = true) : keys_Valid (restV s w).1 (restV s w).2.1 = true ∧ keys_Valid (restV s w).1 (iOr .i64 (restV s w).2.1 2) = true := by
  unfold restV at hk ⊢
  cases hs : scanV s w 4 1 with
  | some n => rw [hs] at hk; cases hk
  | none =>
    rw [hs] at hk
    have h160 : 160 ≤ codeV s w := by simpa using hk
    have hx := valid_char (c := codeV s w) (codeV_char s w h160) h160
    simp only []
    exact hx
theorem plain_valid (s : ByteArray) (hk : (plainV s).2.2.1 = true) : keys_Valid (plainV s).1 (plainV s).2.1 = true ∧ (byteAt s 0 ≠ 27 → keys_Valid (plainV s).1 (iOr .i64 (plainV s).2.1 2) = true) := by
  have hb0 := byteAt_nonneg s 0
  have hb1 := byteAt_lt s 0
  have hz : ((byteAt s 0).toNat : Int) = byteAt s 0 := by omega
  unfold plainV at hk ⊢
  split
  · rename_i hc
    have hc : byteAt s 0 < 32 ∨ byteAt s 0 = 127 := by simpa using hc
    have := valid_single ⟨(byteAt s 0).toNat, by omega⟩ (by simp only []; omega)
    simp only [hz] at this
    exact ⟨this.1, fun hne => this.2 (by omega)⟩
  · rename_i hc
    rw [if_neg hc] at hk
    have hc : ¬ (byteAt s 0 < 32 ∨ byteAt s 0 = 127) := by simpa using hc
    split
    · rename_i hc2
      have := valid_ascii ⟨(byteAt s 0).toNat, by omega⟩ (by simp only []; omega)
      simp only [hz] at this
      exact ⟨this.1, fun _ => this.2⟩
    · rename_i hc2
      rw [if_neg hc2] at hk
      split
      · rename_i hc; rw [if_pos hc] at hk; exact ⟨(rest_valid s 2 hk).1, fun _ => (rest_valid s 2 hk).2⟩
      · rename_i hc
        rw [if_neg hc] at hk
        split
        · rename_i hc; rw [if_pos hc] at hk; exact ⟨(rest_valid s 3 hk).1, fun _ => (rest_valid s 3 hk).2⟩
        · rename_i hc
          rw [if_neg hc] at hk
          split
          · rename_i hc; rw [if_pos hc] at hk; exact ⟨(rest_valid s 4 hk).1, fun _ => (rest_valid s 4 hk).2⟩
          · rename_i hc; rw [if_neg hc] at hk; cases hk
theorem byteAt_ext1 (s : ByteArray) (h : 1 < s.size) : byteAt (s.extract ((1 : Int).toNat) s.size) 0 = byteAt s 1 := by
  have := byteAt_ext s 1 s.size 0 (by omega) (by omega) (by simp; omega)
  simpa using this
theorem bare_valid (s : ByteArray) (h0 : 0 < s.size) (hk : (bareV s).2.2.1 = true) : keys_Valid (bareV s).1 (bareV s).2.1 = true := by
  unfold bareV at hk ⊢
  split
  · rename_i hc
    rw [if_pos hc] at hk
    split
    · rename_i hc; rw [if_pos hc] at hk; cases hk
    · rename_i hc
      rw [if_neg hc] at hk
      split
      · decide +kernel
      · rename_i h27
        rw [if_neg h27] at hk
        split
        · rename_i hc; rw [if_pos hc] at hk; cases hk
        · rename_i hc
          rw [if_neg hc] at hk
          exact (plain_valid _ hk).2 (by rw [byteAt_ext1 s (by omega)]; exact h27)
  · rename_i hc
    rw [if_neg hc] at hk
    exact (plain_valid s hk).1
theorem letS_range (b : Int) : ∀ (f : Nat) (i j : Int), 0 ≤ i → letS b f i = some j → 0 ≤ j ∧ j < 22 := by
  intro f
  induction f with
  | zero => intro i j _ h; unfold letS at h; cases h
  | succ f ih =>
    intro i j h0 h
    unfold letS at h
    split at h
    · split at h
      · obtain rfl := Option.some.inj h; omega
      · exact ih (i + 1) j (by omega) h
    · cases h
theorem letter_valid (b : Int) (hk : (letterV b).2.2 = true) : keys_Valid (letterV b).1 (letterV b).2.1 = true := by
  unfold letterV at hk ⊢
  cases hs : letS b 22 0 with
  | none => rw [hs] at hk; cases hk
  | some i =>
    have := letS_range b 22 0 i (by omega) hs
    simp only []
    rw [wrap64 (by omega) (by omega)]
    exact valid_special (by omega) (by omega) (by omega) (by omega)
theorem wl3_range (s : ByteArray) (i : Int) : ∀ (f : Nat) (m j : Int), 0 ≤ m → wl3 s i f m = some j → 0 ≤ j ∧ j < 8 := by
  intro f
  induction f with
  | zero => intro m j _ h; unfold wl3 at h; cases h
  | succ f ih =>
    intro m j h0 h
    unfold wl3 at h
    split at h
    · split at h
      · obtain rfl := Option.some.inj h; omega
      · exact ih (m + 1) j (by omega) h
    · cases h
theorem wl2_range (s : ByteArray) : ∀ (f : Nat) (i : Int) (r : Int × Int), 0 ≤ i → wl2 s f i = some r → 16777217 ≤ r.1 ∧ r.1 ≤ 16777238 ∧ 0 ≤ r.2 ∧ r.2 < 8 := by
  intro f
  induction f with
  | zero => intro i r _ h; unfold wl2 at h; cases h
  | succ f ih =>
    intro i r h0 h
    unfold wl2 at h
    split at h
    · split at h
      · rename_i hm
        obtain rfl := Option.some.inj h
        have := wl3_range s i 8 0 _ (by omega) (by unfold wl30 at hm; exact hm)
        simp only []
        rw [wrap64 (by omega) (by omega)]
        omega
      · exact ih (i + 1) r (by omega) h
    · cases h
theorem of_beq {s : ByteArray} {l : List UInt8} (h : (s.data.toList == l) = true) : s = ⟨l.toArray⟩ := by
  have : s.data.toList = l := by simpa using h
  apply ByteArray.ext
  apply Array.ext'
  rw [this]
theorem whole_valid (s : ByteArray) (hk : (wholeV s).2.2 = true) : keys_Valid (wholeV s).1 (wholeV s).2.1 = true := by
  unfold wholeV at hk ⊢
  split
  · decide +kernel
  rename_i hc; rw [if_neg hc] at hk
  split
  · decide +kernel
  rename_i hc; rw [if_neg hc] at hk
  split
  · decide +kernel
  rename_i hc; rw [if_neg hc] at hk
  split
  · rename_i hc; rw [of_beq hc]; decide +kernel
  rename_i hc; rw [if_neg hc] at hk
  split
  · rename_i hc; rw [of_beq hc]; decide +kernel
  rename_i hc; rw [if_neg hc] at hk
  split
  · rename_i hc; rw [of_beq hc]; decide +kernel
  rename_i hc; rw [if_neg hc] at hk
  split
  · rename_i hc; rw [of_beq hc]; decide +kernel
  rename_i hc; rw [if_neg hc] at hk
  unfold searchV at hk ⊢
  cases hs : wl20 s with
  | none => rw [hs] at hk; cases hk
  | some r =>
    have := wl2_range s 22 0 r (by omega) (by unfold wl20 at hs; exact hs)
    exact valid_special (c := r.1) (m := r.2) this.1 this.2.1 this.2.2.1 (by omega)
theorem seqL_valid (s : ByteArray) : ∀ (f : Nat) (i : Int) (r), seqL s f i = some r → r.2.2.1 = true → keys_Valid r.1 r.2.1 = true := by
  intro f
  induction f with
  | zero => intro i r h; unfold seqL at h; cases h
  | succ f ih =>
    intro i r h hk
    unfold seqL at h
    split at h
    · split at h
      · obtain rfl := Option.some.inj h; cases hk
      · split at h
        · obtain rfl := Option.some.inj h
          unfold wholeI at hk ⊢
          exact whole_valid _ hk
        · split at h
          · obtain rfl := Option.some.inj h; cases hk
          · exact ih (i + 1) r h hk
    · cases h
theorem sequence_valid (s : ByteArray) (hk : (sequenceV s).2.2.1 = true) : keys_Valid (sequenceV s).1 (sequenceV s).2.1 = true := by
  unfold sequenceV at hk ⊢
  cases hs : seqL s s.size 2 with
  | some r => rw [hs] at hk; exact seqL_valid s _ _ r hs hk
  | none =>
    rw [hs] at hk
    simp only [] at hk
    split at hk <;> cases hk
theorem next_valid (s : ByteArray) (h0 : 0 < s.size) (hk : (nextV s).2.2.1 = true) : keys_Valid (nextV s).1 (nextV s).2.1 = true := by
  unfold nextV at hk ⊢
  split
  · rename_i hc; rw [if_pos hc] at hk
    split
    · rename_i hc; rw [if_pos hc] at hk
      split
      · rename_i hc; rw [if_pos hc] at hk; exact sequence_valid s hk
      · rename_i hc; rw [if_neg hc] at hk
        split
        · rename_i hc; rw [if_pos hc] at hk
          split
          · rename_i hc; rw [if_pos hc] at hk; cases hk
          · rename_i hc; rw [if_neg hc] at hk; exact letter_valid _ hk
        · rename_i hc; rw [if_neg hc] at hk; exact bare_valid s h0 hk
    · rename_i hc; rw [if_neg hc] at hk; exact bare_valid s h0 hk
  · rename_i hc; rw [if_neg hc] at hk; exact bare_valid s h0 hk
theorem feed_valid : ∀ (n : Nat) (s : ByteArray), s.size ≤ n → (s.size : Int) < 9223372036854775807 → ∀ k ∈ (feedV s).1, keys_Valid k.1 k.2 = true := by
  intro n
  induction n with
  | zero => intro s hs hb k hk; rw [feedV_empty s (by omega)] at hk; cases hk
  | succ n ih =>
    intro s hs hb k hk
    by_cases h0 : s.size = 0
    · rw [feedV_empty s h0] at hk; cases hk
    rw [feedV_step s (by omega) hb] at hk
    by_cases hc : (nextV s).2.2.2 = 0
    · rw [if_pos hc] at hk; cases hk
    · rw [if_neg hc] at hk
      have hn := nextV_n s (by omega) hb
      have hsz2 : (s.extract (nextV s).2.2.2.toNat s.size).size = s.size - (nextV s).2.2.2.toNat := by rw [ByteArray.size_extract]; omega
      rcases List.mem_append.1 hk with hk | hk
      · split at hk
        · rename_i hok
          obtain rfl := List.mem_singleton.1 hk
          exact next_valid s (by omega) hok
        · cases hk
      · exact ih _ (by omega) (by omega) k hk

/-! ### KeysPieces -/
theorem valid_loop {K0 : Heap → Prop} {Kr : Bool → Heap → Prop} {h0 : Heap} {a : Option Addr} {n c : Nat} {ks : List (Int × Int)} (hv : ∀ k ∈ ks, keys_Valid k.1 k.2 = true) (hb : n < 9000000000000000000) (hK : ∀ h1, Ext h0 h1 → K0 h1) :
    ∀ (f : Nat) (i : Nat) (h : Heap), Ext h0 h → SlG h a n ks → n < f + i → i ≤ n → law21_KeysPieces_l2 K0 Kr f a n c i h := by
  intro f
  induction f with
  | zero => intro i h he h1 hf hi; omega
  | succ f ih =>
    intro i h he h1 hf hi
    unfold law21_KeysPieces_l2
    have l1 := h1.1
    by_cases hlt : (i : Int) < (n : Int)
    · rw [if_pos hlt]
      obtain ⟨p, rfl, c1, c2⟩ := h1.2 i (by omega)
      refine nz_i ⟨by omega, hlt, ⟨_, c1, ⟨_, c2, ?_⟩⟩⟩
      simp only []
      have g1 : ks.getD i (0, 0) = ks[i]'(by omega) := by rw [List.getD_eq_getElem?_getD, List.getElem?_eq_getElem (by omega)]; rfl
      have hv1 := hv (ks[i]'(by omega)) (List.getElem_mem _)
      rw [g1, hv1]
      simp only [Bool.not_true, Bool.false_eq_true, if_false]
      intro h2 he2
      have e1 : IntKind.wrap .i64 ((i : Int) + 1) = ((i + 1 : Nat) : Int) := by rw [wrap64 (by omega) (by omega)]; omega
      rw [e1]
      exact ih (i + 1) h2 (he.trans he2) (h1.ext he2) (by omega) (by omega)
    · rw [if_neg hlt]
      exact hK h he
theorem appS_o {h0 h : Heap} {a : Option Addr} {n c : Nat} {ks js : List (Int × Int)} {o pre l} {a2 : Option Addr} {n2 : Nat} {K : Option Addr → Nat → Heap → Prop} (hs : SlO kf 2 36 a n c ks o) (ho : Own h0 h (pre ++ (o ++ l)))
    (hn2 : n2 = js.length) (hsrc : srcAt h a2 (js.flatMap kf)) (hb : n + n2 ≤ 8000000000000)
    (k : ∀ a' c' o' h', Own h0 h' (pre ++ (o' ++ l)) → SlO kf 2 36 a' (n + n2) c' (ks ++ js) o' → K a' c' h') : appS h 36 16 [.int .i64 0, .int .i64 0] a n c a2 n2 K := by
  subst hn2
  refine ⟨js.flatMap kf, flat_len kf kf_len js, ?_, hsrc, ?_⟩
  · simp only [List.all_flatMap]
    simp [oneV]
  · exact SlO.app (z := [.int .i64 0, .int .i64 0]) kf_len rfl hs ho (by omega) (by omega) k
end Go.Proofs.YtkbpnmgkdodcmaaDoor.M
