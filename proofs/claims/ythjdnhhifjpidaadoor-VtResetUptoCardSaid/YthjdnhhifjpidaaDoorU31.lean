import Derived.Test.YthjdnhhifjpidaaDoorU30
set_option linter.unusedVariables false
set_option linter.unusedSimpArgs false
set_option maxRecDepth 100000
namespace Go.Proofs.YthjdnhhifjpidaaDoor.M
open Go Go.Hp

/-! ### A title, a character that is not whole -/
section
variable {h0 : Base} {h : Heap} {s : Nat} {S : Scr} {b : Int} {K : Heap → Prop}
theorem imin_130 {x : Int} (h : 2 ≤ x) : 0 ≤ imin x 130 ∧ imin x 130 ≤ x ∧ 2 ≤ imin x 130 := by
  unfold imin
  split <;> omega
theorem named_sp (hs : Rep h0 h s S) (hk : ∀ h1, Rep h0 h1 s (namedV S) → K h1) : vt_Screen_named (some ⟨s, 0, none⟩) K h := by
  unfold vt_Screen_named
  unfold namedV at hk
  refine nz_i ?_
  simp only [add0, Nat.zero_add]
  refine hs.bytes fun a n c hb hc => ?_
  refine hb.byts ?_
  have st : 2 ≤ ((bytesOf S.gathered).size : Int) → (∀ h1, Rep h0 h1 s (titled S) → K h1) →
    0 ≤ (imin ((bytesOf S.gathered).size : Int) 130) ∧
    (imin ((bytesOf S.gathered).size : Int) 130) ≤ ((bytesOf S.gathered).size : Int) ∧
    (2 : Int) ≤ (imin ((bytesOf S.gathered).size : Int) 130) ∧
    stN ⟨s, 28, none⟩ [.string ((bytesOf S.gathered).extract ((2 : Int).toNat) ((imin ((bytesOf S.gathered).size : Int) 130).toNat))] 0 h fun h22 =>
    K h22 := by
    intro h2 hk
    have := imin_130 h2
    refine ⟨this.1, this.2.1, this.2.2, ?_⟩
    obtain ⟨A, oM, oO, oP, oT, oG, oK, oL, ho, hp⟩ := hs
    refine st0 ho rfl fun h1 ho1 => ?_
    have ho1 := own_cs (c' := scrC (titled S) A) ho1 (by kernel_rfl)
    exact hk h1 ⟨A, oM, oO, oP, oT, oG, oK, oL, ho1, hp.1, hp.2, hp.3, hp.4, hp.5, hp.6, hp.7⟩
  generalize hbs : bytesOf S.gathered = bs at *
  by_cases h1 : 2 ≤ (bs.size : Int)
  case neg =>
    rw [if_neg h1] at hk ⊢
    exact hk h hs
  rw [if_pos h1] at hk ⊢
  refine ⟨by omega, ?_⟩
  by_cases h2 : byteAt bs 0 = 48
  · rw [if_pos h2] at hk ⊢
    refine ⟨by omega, ?_⟩
    by_cases h3 : byteAt bs 1 = 59
    · rw [if_pos h3] at hk ⊢
      exact st h1 hk
    · rw [if_neg h3] at hk ⊢
      exact hk h hs
  rw [if_neg h2] at hk ⊢
  refine ⟨by omega, ?_⟩
  by_cases h3 : byteAt bs 0 = 50
  · rw [if_pos h3] at hk ⊢
    refine ⟨by omega, ?_⟩
    by_cases h4 : byteAt bs 1 = 59
    · rw [if_pos h4] at hk ⊢
      exact st h1 hk
    · rw [if_neg h4] at hk ⊢
      exact hk h hs
  · rw [if_neg h3] at hk ⊢
    exact hk h hs
theorem broken_sp (hs : Rep h0 h s S) (o : Ok S) (hk : ∀ h1, Rep h0 h1 s (brokenV S) → K h1) : vt_Screen_broken (some ⟨s, 0, none⟩) K h := by
  unfold vt_Screen_broken
  unfold brokenV at hk
  refine nz_i ?_
  simp only [add0, Nat.zero_add]
  refine hs.ldi (v := S.have_) (fun A => rfl) ?_
  by_cases h1 : 0 < S.have_
  · rw [if_pos h1] at hk ⊢
    obtain ⟨A, oM, oO, oP, oT, oG, oK, oL, ho, hp⟩ := hs
    refine st0 ho rfl fun h1 ho1 => ?_
    have ho1 := own_cs (c' := scrC (noHave S) A) ho1 (by kernel_rfl)
    have hs1 : Rep h0 h1 s (noHave S) := ⟨A, oM, oO, oP, oT, oG, oK, oL, ho1, hp.1, hp.2, hp.3, hp.4, hp.5, hp.6, hp.7⟩
    exact write_sp hs1 o.noHave hk
  · rw [if_neg h1] at hk ⊢
    exact hk h hs
theorem goes_sp {K : Bool → Heap → Prop} (hs : Rep h0 h s S) (hk : K (goesV S b) h) : vt_Screen_goes (some ⟨s, 0, none⟩) b K h := by
  unfold vt_Screen_goes vt_Screen_goes_j0
  unfold goesV loV hiV at hk
  refine nz_i ?_
  simp only [add0, Nat.zero_add]
  refine hs.ldi (v := S.have_) (fun A => rfl) ?_
  by_cases h1 : S.have_ = 1
  case neg =>
    simp only [if_neg h1] at hk ⊢
    exact hk
  simp only [if_pos h1] at hk ⊢
  refine hs.ldi (v := S.u0) (fun A => rfl) ?_
  by_cases h2 : S.u0 = 224
  · simp only [if_pos h2] at hk ⊢
    exact hk
  simp only [if_neg h2] at hk ⊢
  by_cases h3 : S.u0 = 237
  · simp only [if_pos h3] at hk ⊢
    exact hk
  simp only [if_neg h3] at hk ⊢
  by_cases h4 : S.u0 = 240
  · simp only [if_pos h4] at hk ⊢
    exact hk
  simp only [if_neg h4] at hk ⊢
  by_cases h5 : S.u0 = 244
  · simp only [if_pos h5] at hk ⊢
    exact hk
  simp only [if_neg h5] at hk ⊢
  exact hk

/-! ### A character of several bytes -/
theorem first_rng : ∀ b : Fin 256, 0 ≤ firstT b.val ∧ firstT b.val < 256 ∧ 0 ≤ Int.fdiv (firstT b.val) (2 ^ 4) ∧ Int.fdiv (firstT b.val) (2 ^ 4) < 16 := by decide +kernel
theorem firstZ_len : Go.Pinned.utf8FirstZ.length = 256 := by decide +kernel
theorem first_at (ht : Tabs h) (n : Nat) (hn : n < 256) : cellH h ((⟨0, 0, none⟩ : Addr).add n) = some (.int .u8 (firstT n)) := by
  have := cellsAt_get ht.first n (v := .int .u8 (firstT n)) (by
    rw [List.getElem?_map, List.getElem?_eq_getElem (by rw [firstZ_len]; exact hn)]
    unfold firstT
    rw [List.getD_eq_getElem?_getD, List.getElem?_eq_getElem (by rw [firstZ_len]; exact hn)]
    rfl)
  rwa [Nat.zero_add] at this
theorem slow_sp {K : Int → Int → Heap → Prop} (ht : Tabs h0.h) (hs : Rep h0 h s S) (n : Nat) (h2 : 2 ≤ n) (u0 : 128 ≤ S.u0) (u1 : S.u0 ≤ 255) (hk : ∀ m h1, Rep h0 h1 s S → K (decV n S.u0 S.u1 S.u2 S.u3) m h1) :
    unicode_utf8_decodeRuneSlow (some ⟨s, 34, none⟩) n 4 K h := by
  have hr := first_rng ⟨S.u0.toNat, by omega⟩
  simp only [] at hr
  have hta := ht.ext hs.ext
  unfold unicode_utf8_decodeRuneSlow
  unfold decV at hk
  rw [if_neg (by omega)] at hk
  rw [if_neg (by omega)]
  refine nz_i ⟨by omega, by omega, ?_⟩
  simp only [add0]
  refine hs.ldi (off := 34) (v := S.u0) (fun A => rfl) ⟨by omega, by omega, ⟨firstT S.u0.toNat, ?_, ?_⟩⟩
  · have := first_at hta S.u0.toNat (by omega)
    rw [add0] at this
    rw [Nat.mul_one]
    exact this
  by_cases h1 : 240 ≤ firstT S.u0.toNat
  · rw [if_pos h1] at hk ⊢
    exact ⟨by omega, by omega, hs.ldi (off := 34) (v := S.u0) (fun A => rfl) (hk _ h hs)⟩
  rw [if_neg h1] at hk ⊢
  refine ⟨hr.2.2.1, hr.2.2.2, hta.acc, ?_⟩
  have esz : IntKind.wrap .i64 (iAnd .u8 (firstT S.u0.toNat) 7) = szT S.u0.toNat := rfl
  rw [esz]
  by_cases h3 : (n : Int) < szT S.u0.toNat
  · rw [if_pos h3] at hk ⊢
    intro h4 he4
    exact hk _ h4 (hs.gap he4)
  rw [if_neg h3] at hk ⊢
  refine ⟨by omega, by omega, fun h4 he4 => ?_⟩
  have hs4 := hs.gap he4
  refine hs4.ldi (off := 35) (v := S.u1) (fun A => rfl) ?_
  have eacc : tab1.getD (Int.fdiv (firstT S.u0.toNat) (2 ^ 4)).toNat tab1d = accT S.u0.toNat := rfl
  rw [eacc]
  by_cases h5 : S.u1 < (accT S.u0.toNat).1 ∨ (accT S.u0.toNat).2 < S.u1
  · rw [if_pos h5] at hk
    rw [if_pos (by simpa using h5)]
    exact hk _ h4 hs4
  rw [if_neg h5] at hk
  rw [if_neg (by simpa using h5)]
  by_cases h6 : szT S.u0.toNat ≤ 2
  · rw [if_pos h6] at hk ⊢
    exact hk _ h4 hs4
  rw [if_neg h6] at hk ⊢
  refine ⟨by omega, by omega, ?_⟩
  refine hs4.ldi (off := 36) (v := S.u2) (fun A => rfl) ?_
  by_cases h7 : S.u2 < 128 ∨ 191 < S.u2
  · rw [if_pos h7] at hk
    rw [if_pos (by simpa using h7)]
    exact hk _ h4 hs4
  rw [if_neg h7] at hk
  rw [if_neg (by simpa using h7)]
  by_cases h8 : szT S.u0.toNat ≤ 3
  · rw [if_pos h8] at hk ⊢
    exact hk _ h4 hs4
  rw [if_neg h8] at hk ⊢
  refine ⟨by omega, by omega, ?_⟩
  refine hs4.ldi (off := 37) (v := S.u3) (fun A => rfl) ?_
  by_cases h9 : S.u3 < 128 ∨ 191 < S.u3
  · rw [if_pos h9] at hk
    rw [if_pos (by simpa using h9)]
    exact hk _ h4 hs4
  · rw [if_neg h9] at hk
    rw [if_neg (by simpa using h9)]
    exact hk _ h4 hs4
theorem decode_sp {K : Int → Int → Heap → Prop} (ht : Tabs h0.h) (hs : Rep h0 h s S) (n : Nat) (h2 : 2 ≤ n) (u0 : 0 ≤ S.u0) (u1 : S.u0 ≤ 255) (hk : ∀ m h1, Rep h0 h1 s S → K (decV n S.u0 S.u1 S.u2 S.u3) m h1) :
    unicode_utf8_DecodeRune (some ⟨s, 34, none⟩) n 4 K h := by
  unfold unicode_utf8_DecodeRune
  refine ⟨0 + 1, ?_⟩
  unfold unicode_utf8_DecodeRune_l0
  show if (0 : Int) < (n : Int) then _ else _
  rw [if_pos (by omega)]
  refine nz_i ⟨by omega, by omega, ?_⟩
  simp only [add0]
  refine hs.ldi (off := 34) (v := S.u0) (fun A => rfl) ?_
  by_cases h1 : S.u0 < 128
  · unfold decV at hk
    rw [if_pos h1] at hk ⊢
    exact hk _ h hs
  · rw [if_neg h1]
    exact slow_sp ht hs n h2 (by omega) u1 hk
theorem Rep.setu (hs : Rep h0 h s S) {i : Int} (i0 : 0 ≤ i) (i1 : i < 4) (hk : ∀ h1, Rep h0 h1 s (setU S i b) → K h1) : stN ((⟨s, 34, none⟩ : Addr).add (i.toNat * 1)) [.int .u8 b] 0 h K := by
  have : i = 0 ∨ i = 1 ∨ i = 2 ∨ i = 3 := by omega
  obtain ⟨A, oM, oO, oP, oT, oG, oK, oL, ho, hp⟩ := hs
  rw [add0]
  rcases this with rfl | rfl | rfl | rfl
  · refine st0 ho rfl fun h1 ho1 => hk h1 ?_
    have ho1 := own_cs (c' := scrC (setU S 0 b) A) ho1 (by kernel_rfl)
    exact ⟨A, oM, oO, oP, oT, oG, oK, oL, ho1, hp.1, hp.2, hp.3, hp.4, hp.5, hp.6, hp.7⟩
  · refine st0 ho rfl fun h1 ho1 => hk h1 ?_
    have ho1 := own_cs (c' := scrC (setU S 1 b) A) ho1 (by kernel_rfl)
    exact ⟨A, oM, oO, oP, oT, oG, oK, oL, ho1, hp.1, hp.2, hp.3, hp.4, hp.5, hp.6, hp.7⟩
  · refine st0 ho rfl fun h1 ho1 => hk h1 ?_
    have ho1 := own_cs (c' := scrC (setU S 2 b) A) ho1 (by kernel_rfl)
    exact ⟨A, oM, oO, oP, oT, oG, oK, oL, ho1, hp.1, hp.2, hp.3, hp.4, hp.5, hp.6, hp.7⟩
  · refine st0 ho rfl fun h1 ho1 => hk h1 ?_
    have ho1 := own_cs (c' := scrC (setU S 3 b) A) ho1 (by kernel_rfl)
    exact ⟨A, oM, oO, oP, oT, oG, oK, oL, ho1, hp.1, hp.2, hp.3, hp.4, hp.5, hp.6, hp.7⟩
end
end Go.Proofs.YthjdnhhifjpidaaDoor.M
