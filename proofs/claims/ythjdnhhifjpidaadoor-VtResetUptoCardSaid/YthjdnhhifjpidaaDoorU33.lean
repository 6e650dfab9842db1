import Derived.Test.YthjdnhhifjpidaaDoorU32
set_option linter.unusedVariables false
set_option linter.unusedSimpArgs false
set_option maxRecDepth 100000
namespace Go.Proofs.YthjdnhhifjpidaaDoor.M
open Go Go.Hp

/-! ### Bytes, one by one -/
section
variable {h0 : Base} {h : Heap} {s : Nat} {S : Scr} {b : Int} {K : Heap → Prop}
theorem state_st (z : Int) (hs : Rep h0 h s S) (hk : ∀ h1, Rep h0 h1 s (setState S z) → K h1) : stN ⟨s, 31, none⟩ [.int .i64 z] 0 h K := by
  obtain ⟨A, oM, oO, oP, oT, oG, oK, oL, ho, hp⟩ := hs
  refine st0 ho rfl fun h1 ho1 => hk h1 ?_
  have ho1 := own_cs (c' := scrC (setState S z) A) ho1 (by kernel_rfl)
  exact ⟨A, oM, oO, oP, oT, oG, oK, oL, ho1, hp.1, hp.2, hp.3, hp.4, hp.5, hp.6, hp.7⟩
theorem not_iff (b : Bool) : (!b) = true ↔ b = false := by cases b <;> simp
theorem escape_sp (ht : Tabs h0.h) (hs : Rep h0 h s S) (o : Ok S) (u : U8 S) (b0 : 0 ≤ b) (b1 : b ≤ 255) (hk : ∀ h1, Rep h0 h1 s (escapeV S b) → K h1) : vt_Screen_escape (some ⟨s, 0, none⟩) b K h := by
  unfold vt_Screen_escape
  unfold escapeV at hk
  refine nz_i ?_
  simp only [add0, Nat.zero_add]
  refine hs.bytes fun a n c hb hc => ?_
  have hn := hb.1
  have en : decide ((n : Int) = 0) = decide (S.gathered.length = 0) := by
    rw [hn]
    by_cases h : S.gathered.length = 0
    · rw [decide_eq_true h, decide_eq_true (by omega)]
    · rw [decide_eq_false h, decide_eq_false (by omega)]
  rw [en]
  by_cases h1 : S.gathered.length = 0 ∧ b = 91
  · rw [if_pos h1] at hk
    rw [if_pos (by simpa using h1)]
    exact begin_sp hs hk
  rw [if_neg h1] at hk
  rw [if_neg (by simpa using h1)]
  by_cases h2 : S.gathered.length = 0 ∧ b = 93
  · rw [if_pos h2] at hk
    rw [if_pos (by simpa using h2)]
    exact begin_sp hs hk
  rw [if_neg h2] at hk
  rw [if_neg (by simpa using h2)]
  by_cases h3 : S.gathered.length = 0 ∧ (b = 80 ∨ b = 88 ∨ b = 94 ∨ b = 95)
  · rw [if_pos h3] at hk
    rw [if_pos (by simpa [or_assoc] using h3)]
    exact state_st 4 hs hk
  rw [if_neg h3] at hk
  rw [if_neg (by simpa [or_assoc] using h3)]
  by_cases h4 : b < 32
  · rw [if_pos h4] at hk ⊢
    exact does_sp hs o hk
  rw [if_neg h4] at hk ⊢
  by_cases h5 : b < 48
  · rw [if_pos h5] at hk ⊢
    exact gather_sp hs o.c.gath hk
  rw [if_neg h5] at hk ⊢
  by_cases h6 : b < 127
  · rw [if_pos h6] at hk ⊢
    refine state_st 0 hs fun h7 hs7 => ?_
    refine hs7.ldb (v := S.over) (fun A => rfl) ?_
    by_cases h8 : S.over = false
    · rw [if_pos h8] at hk
      rw [if_pos ((not_iff _).2 h8)]
      exact escaped_sp hs7 (o.setState 0) hk
    · rw [if_neg h8] at hk
      rw [if_neg (fun h => h8 ((not_iff _).1 h))]
      exact hk h7 hs7
  rw [if_neg h6] at hk ⊢
  by_cases h7 : 128 ≤ b
  · rw [if_pos h7] at hk ⊢
    refine state_st 0 hs fun h8 hs8 => ?_
    exact ground_sp ht hs8 (o.setState 0) u b0 b1 hk
  · rw [if_neg h7] at hk ⊢
    exact hk h hs
theorem sequence_sp (ht : Tabs h0.h) (hs : Rep h0 h s S) (o : Ok S) (u : U8 S) (b0 : 0 ≤ b) (b1 : b ≤ 255) (hk : ∀ h1, Rep h0 h1 s (sequenceV S b) → K h1) : vt_Screen_sequence (some ⟨s, 0, none⟩) b K h := by
  unfold vt_Screen_sequence
  unfold sequenceV at hk
  by_cases h4 : b < 32
  · rw [if_pos h4] at hk ⊢
    exact does_sp hs o hk
  rw [if_neg h4] at hk ⊢
  by_cases h5 : b < 64
  · rw [if_pos h5] at hk ⊢
    exact gather_sp hs o.c.gath hk
  rw [if_neg h5] at hk ⊢
  by_cases h6 : b < 127
  · rw [if_pos h6] at hk ⊢
    refine nz_i ?_
    simp only [add0, Nat.zero_add]
    refine state_st 0 hs fun h7 hs7 => ?_
    refine hs7.ldb (v := S.over) (fun A => rfl) ?_
    by_cases h8 : S.over = false
    · rw [if_pos h8] at hk
      rw [if_pos ((not_iff _).2 h8)]
      exact controlled_sp ht hs7 (o.setState 0) hk
    · rw [if_neg h8] at hk
      rw [if_neg (fun h => h8 ((not_iff _).1 h))]
      exact hk h7 hs7
  rw [if_neg h6] at hk ⊢
  by_cases h7 : 128 ≤ b
  · rw [if_pos h7] at hk ⊢
    refine nz_i ?_
    simp only [add0, Nat.zero_add]
    refine state_st 0 hs fun h8 hs8 => ?_
    exact ground_sp ht hs8 (o.setState 0) u b0 b1 hk
  · rw [if_neg h7] at hk ⊢
    exact hk h hs
theorem title_sp (hs : Rep h0 h s S) (o : Ok S) (hk : ∀ h1, Rep h0 h1 s (titleV S b) → K h1) :
  (if b = 7 then
   vt_Screen_named (some ⟨s, 0, none⟩) (fun  h45 =>
    stN ⟨s, 31, none⟩ [.int .i64 0] 0 h45 fun h46 =>
     K  h46) h
  else
  if ((decide (32 ≤ b)) && (!decide (b = 127))) = true then
   ldL h ⟨s, 32, none⟩ fun x55 x55n x55c =>
   if (x55n : Int) < 130 then
    ldL h ⟨s, 32, none⟩ fun x59 x59n x59c =>
    gap h fun h63 =>
    appH h63 5 1 [.int .u8 0] x59 x59n x59c [.int .u8 b] 1 fun s66 s66c h65 =>
    stN ⟨s, 32, none⟩ [.slice s66 (x59n + 1) s66c] 0 h65 fun h67 =>
    K  h67
   else
   K  h
  else
  K  h) := by
  unfold titleV at hk
  by_cases h1 : b = 7
  · rw [if_pos h1] at hk ⊢
    exact named_sp hs fun h2 hs2 => state_st 0 hs2 hk
  rw [if_neg h1] at hk ⊢
  by_cases h2 : 32 ≤ b ∧ b ≠ 127
  case neg =>
    rw [if_neg (fun h => h2 ⟨h.1, h.2.1⟩)] at hk
    rw [if_neg (by simpa using h2)]
    exact hk h hs
  rw [if_pos (by simpa using h2)]
  obtain ⟨A, oM, oO, oP, oT, oG, oK, oL, ho, hp⟩ := hs
  have hn := hp.5.1
  have hg := o.c.gath
  refine ldL0 ho rfl ?_
  by_cases h3 : (S.gathered.length : Int) < 130
  case neg =>
    rw [if_neg (fun h => h3 h.2.2)] at hk
    rw [if_neg (by omega)]
    exact hk h ⟨A, oM, oO, oP, oT, oG, oK, oL, ho, hp⟩
  rw [if_pos ⟨h2.1, h2.2, h3⟩] at hk
  rw [if_pos (by omega)]
  refine ldL0 ho rfl ?_
  refine gap_o ho fun h1 ho1 => ?_
  have hoA : Own h0 h1 (((s, scrC S A, 69) :: (oM ++ (oO ++ (oP ++ oT)))) ++ (oG ++ (oK ++ oL))) := by simpa using ho1
  refine SlO.app (f := bf) (sz := 1) (js := [b]) bf_len rfl hp.5 hoA (by simp only [List.length_singleton]; omega) (by simp only [List.length_singleton]; omega) fun a' c' o' h' ho2 hs2 => ?_
  have ho2 : Own h0 h' ((s, scrC S A, 69) :: (oM ++ (oO ++ (oP ++ (oT ++ (o' ++ (oK ++ oL))))))) := by simpa using ho2
  refine st0 ho2 rfl fun h3 ho3 => ?_
  have ho3 := own_cs (c' := scrC { S with gathered := S.gathered ++ [b] } { A with g := a', gn := A.gn + 1, gc := c' }) ho3 (by kernel_rfl)
  exact hk _ ⟨{ A with g := a', gn := A.gn + 1, gc := c' }, oM, oO, oP, oT, o', oK, oL, ho3, hp.1, hp.2, hp.3, hp.4, hs2, hp.6, hp.7⟩
def byte1 (S : Scr) (b : Int) : Scr := if S.state = 0 then groundV S b else if S.state = 1 then escapeV S b else if S.state = 2 then sequenceV S b else if S.state = 3 then titleV S b else S
theorem byte_j1 (ht : Tabs h0.h) (hs : Rep h0 h s S) (o : Ok S) (u : U8 S) (b0 : 0 ≤ b) (b1 : b ≤ 255) (hk : ∀ h1, Rep h0 h1 s (byte1 S b) → K h1) : vt_Screen_byte_j1 K (some ⟨s, 0, none⟩) b h := by
  unfold vt_Screen_byte_j1
  unfold byte1 at hk
  refine nz_i ?_
  simp only [add0, Nat.zero_add]
  refine hs.ldi (v := S.state) (fun A => rfl) ?_
  by_cases h1 : S.state = 0
  · rw [if_pos h1] at hk ⊢
    exact ground_sp ht hs o u b0 b1 hk
  rw [if_neg h1] at hk ⊢
  by_cases h2 : S.state = 1
  · rw [if_pos h2] at hk ⊢
    exact escape_sp ht hs o u b0 b1 hk
  rw [if_neg h2] at hk ⊢
  by_cases h3 : S.state = 2
  · rw [if_pos h3] at hk ⊢
    exact sequence_sp ht hs o u b0 b1 hk
  rw [if_neg h3] at hk ⊢
  by_cases h4 : S.state = 3
  · rw [if_pos h4] at hk ⊢
    exact title_sp hs o hk
  · rw [if_neg h4] at hk ⊢
    exact hk h hs
theorem byte_j0 {q : Bool} (ht : Tabs h0.h) (hs : Rep h0 h s S) (o : Ok S) (u : U8 S) (b0 : 0 ≤ b) (b1 : b ≤ 255) (hq : q = decide (b = 24 ∨ b = 26)) (hk : ∀ h1, Rep h0 h1 s (byteV S b) → K h1) :
    vt_Screen_byte_j0 (fun z28 z29 h30 => vt_Screen_byte_j1 K z28 z29 h30) K (some ⟨s, 0, none⟩) b b q h := by
  unfold vt_Screen_byte_j0
  unfold byteV at hk
  subst hq
  by_cases h1 : b = 24 ∨ b = 26
  · rw [if_pos h1] at hk
    rw [if_pos (by simpa using h1)]
    refine broken_sp hs o fun h2 hs2 => nz_i ?_
    simp only [add0, Nat.zero_add]
    exact state_st 0 hs2 hk
  rw [if_neg h1] at hk
  rw [if_neg (by simpa using h1)]
  by_cases h2 : b = 27
  · rw [if_pos h2] at hk ⊢
    unfold escV at hk
    refine broken_sp hs o fun h3 hs3 => nz_i ?_
    simp only [add0, Nat.zero_add]
    refine hs3.ldi (v := (brokenV S).state) (fun A => rfl) ?_
    by_cases h4 : (brokenV S).state = 3
    · rw [if_pos h4] at hk ⊢
      exact named_sp hs3 fun h5 hs5 => begin_sp hs5 hk
    · rw [if_neg h4] at hk ⊢
      exact begin_sp hs3 hk
  rw [if_neg h2] at hk ⊢
  exact byte_j1 ht hs o u b0 b1 hk
theorem byte_sp (ht : Tabs h0.h) (hs : Rep h0 h s S) (o : Ok S) (u : U8 S) (b0 : 0 ≤ b) (b1 : b ≤ 255) (hk : ∀ h1, Rep h0 h1 s (byteV S b) → K h1) : vt_Screen_byte (some ⟨s, 0, none⟩) b K h := by
  unfold vt_Screen_byte
  by_cases h1 : b = 24
  · rw [if_pos h1]
    exact byte_j0 ht hs o u b0 b1 (by simp [h1]) hk
  · rw [if_neg h1]
    exact byte_j0 ht hs o u b0 b1 (by simp [h1]) hk
end

/-! ### Feed -/
theorem byteAt_rng (t : ByteArray) (i : Int) : 0 ≤ byteAt t i ∧ byteAt t i ≤ 255 := by
  unfold byteAt
  have := (t.data.getD i.toNat 0).toNat_lt
  omega
theorem intsOf_len (t : ByteArray) : (intsOf t).length = t.size := by
  unfold intsOf
  rw [List.length_map]
  rfl
theorem intsOf_at (t : ByteArray) (i : Nat) (hi : i < t.size) : (intsOf t)[i]? = some (byteAt t i) := by
  unfold intsOf byteAt
  have hs : i < t.data.size := hi
  rw [List.getElem?_map, Array.getElem?_toList, Array.getElem?_eq_getElem hs]
  show some _ = some ((((t.data.getD (i : Int).toNat 0).toNat : Nat) : Int))
  rw [show (i : Int).toNat = i by omega, Array.getD_eq_getD_getElem?, Array.getElem?_eq_getElem hs]
  rfl
theorem U8.byte {S : Scr} (u : U8 S) (b : Int) : U8 (byteV S b) := (f3_byte S b).u u
theorem feed_l0 {h0 : Base} {s : Nat} {t : ByteArray} {K : Heap → Prop} (ht : Tabs h0.h) (hz : t.size < 9223372036854775807) :
    ∀ (q i : Nat) (S : Scr) (h : Heap), Rep h0 h s S → Ok S → U8 S → t.size - i = q → i ≤ t.size → (∀ h1, Rep h0 h1 s (bytesL ((intsOf t).drop i) S) → K h1) → vt_Screen_Feed_l0 K (q + 1) (some ⟨s, 0, none⟩) t (t.size : Int) i h := by
  intro q
  induction q with
  | zero =>
    intro i S h hs o u hq hi hk
    unfold vt_Screen_Feed_l0
    rw [if_neg (by omega)]
    rw [List.drop_of_length_le (by rw [intsOf_len]; omega)] at hk
    exact hk h hs
  | succ q ih =>
    intro i S h hs o u hq hi hk
    unfold vt_Screen_Feed_l0
    rw [if_pos (by omega)]
    refine ⟨by omega, by omega, ?_⟩
    have hlt : i < (intsOf t).length := by rw [intsOf_len]; omega
    have e : (intsOf t)[i] = byteAt t i := by
      have := intsOf_at t i (by omega)
      rw [List.getElem?_eq_getElem hlt] at this
      exact Option.some.inj this
    rw [List.drop_eq_getElem_cons hlt, e] at hk
    have hb := byteAt_rng t i
    refine byte_sp ht hs o u hb.1 hb.2 fun h1 hs1 => ?_
    rw [wrap64 (by omega) (by omega), show (i : Int) + 1 = ((i + 1 : Nat) : Int) by omega]
    exact ih (i + 1) _ h1 hs1 (o.byte _) (u.byte _) (by omega) (by omega) hk
theorem Feed_sp {h0 : Base} {h : Heap} {s : Nat} {S : Scr} {t : ByteArray} {K : Heap → Prop} (ht : Tabs h0.h) (hs : Rep h0 h s S) (o : Ok S) (u : U8 S) (hz : t.size < 9223372036854775807) (hk : ∀ h1, Rep h0 h1 s (strV S t) → K h1) : vt_Screen_Feed (some ⟨s, 0, none⟩) t K h := by
  unfold vt_Screen_Feed
  exact ⟨t.size + 1, feed_l0 ht hz t.size 0 S h hs o u (by omega) (by omega) hk⟩
theorem U8.str {S : Scr} (u : U8 S) (t : ByteArray) : U8 (strV S t) := (f3_bytesL _ S).u u
theorem Ok.str {S : Scr} (o : Ok S) (t : ByteArray) : Ok (strV S t) := Ok.bytesL _ S o
end Go.Proofs.YthjdnhhifjpidaaDoor.M
