import Derived.Test.YthjdnhhifjpidaaDoorU31
set_option linter.unusedVariables false
set_option linter.unusedSimpArgs false
set_option maxRecDepth 100000
namespace Go.Proofs.YthjdnhhifjpidaaDoor.M
open Go Go.Hp

/-! ### What a byte does -/
section
variable {h0 : Base} {h : Heap} {s : Nat} {S : Scr} {b : Int} {K : Heap → Prop}
theorem does_j0 {q : Bool} (hs : Rep h0 h s S) (o : Ok S) (h1 : ¬ b = 7) (h2 : ¬ b = 8) (h3 : ¬ b = 9) (hq : q = decide (b = 10 ∨ b = 11 ∨ b = 12)) (hk : ∀ h1, Rep h0 h1 s (doesV S b) → K h1) : vt_Screen_does_j0 K (some ⟨s, 0, none⟩) b q h := by
  unfold vt_Screen_does_j0
  unfold doesV at hk
  rw [if_neg h1, if_neg h2, if_neg h3] at hk
  subst hq
  by_cases h4 : b = 10 ∨ b = 11 ∨ b = 12
  · rw [if_pos h4] at hk
    rw [if_pos (by simpa using h4)]
    refine nz_i ?_
    simp only [add0, Nat.zero_add]
    refine hs.ldb (v := S.newline) (fun A => rfl) ?_
    by_cases h5 : S.newline = true
    · rw [if_pos h5] at hk ⊢
      exact setX_st hs fun h6 hs6 => feed_sp hs6 o.zeroX hk
    · rw [if_neg h5] at hk ⊢
      exact feed_sp hs o hk
  rw [if_neg h4] at hk
  rw [if_neg (by simpa using h4)]
  by_cases h5 : b = 13
  · rw [if_pos h5] at hk ⊢
    refine nz_i ?_
    simp only [add0, Nat.zero_add]
    refine hs.ldi (v := S.pl.y) (fun A => rfl) ?_
    exact to_sp hs hk
  rw [if_neg h5] at hk ⊢
  by_cases h6 : b = 14
  · rw [if_pos h6] at hk ⊢
    refine nz_i ?_
    simp only [add0, Nat.zero_add]
    exact setPl_st { S.pl with second := true } hs (by simp) (fun A => by kernel_rfl) hk
  rw [if_neg h6] at hk ⊢
  by_cases h7 : b = 15
  · rw [if_pos h7] at hk ⊢
    refine nz_i ?_
    simp only [add0, Nat.zero_add]
    exact setPl_st { S.pl with second := false } hs (by simp) (fun A => by kernel_rfl) hk
  · rw [if_neg h7] at hk ⊢
    exact hk h hs
theorem does_sp (hs : Rep h0 h s S) (o : Ok S) (hk : ∀ h1, Rep h0 h1 s (doesV S b) → K h1) : vt_Screen_does (some ⟨s, 0, none⟩) b K h := by
  have hk0 := hk
  have x0 := o.c.p.x0
  have x1 := o.c.p.x1
  have w1 := o.d.w1
  unfold vt_Screen_does
  unfold doesV at hk
  by_cases h1 : b = 7
  · rw [if_pos h1] at hk ⊢
    refine nz_i ?_
    simp only [add0, Nat.zero_add]
    obtain ⟨A, oM, oO, oP, oT, oG, oK, oL, ho, hp⟩ := hs
    refine ldI0 ho rfl ?_
    refine st0 ho rfl fun h1 ho1 => ?_
    have ho1 := own_cs (c' := scrC (bell S) A) ho1 (by kernel_rfl)
    exact hk h1 ⟨A, oM, oO, oP, oT, oG, oK, oL, ho1, hp.1, hp.2, hp.3, hp.4, hp.5, hp.6, hp.7⟩
  rw [if_neg h1] at hk ⊢
  by_cases h2 : b = 8
  · rw [if_pos h2] at hk ⊢
    refine nz_i ?_
    simp only [add0, Nat.zero_add]
    refine hs.ldi (v := S.pl.x) (fun A => rfl) ?_
    refine hs.ldi (v := S.pl.y) (fun A => rfl) ?_
    rw [wrap64 (x := S.pl.x - 1) (by omega) (by omega)]
    exact to_sp hs hk
  rw [if_neg h2] at hk ⊢
  by_cases h3 : b = 9
  · rw [if_pos h3] at hk ⊢
    exact tab_sp hs o (by omega) hk
  rw [if_neg h3]
  by_cases h4 : b = 10
  · rw [if_pos h4]
    exact does_j0 hs o h1 h2 h3 (by simp [h4]) hk0
  rw [if_neg h4]
  by_cases h5 : b = 11
  · rw [if_pos h5]
    exact does_j0 hs o h1 h2 h3 (by simp [h5]) hk0
  · rw [if_neg h5]
    exact does_j0 hs o h1 h2 h3 (by simp [h4, h5]) hk0
theorem ground_j0 (hs : Rep h0 h s S) (o : Ok S) (b0 : 0 ≤ b) (b1 : b ≤ 255) (hk : ∀ h1, Rep h0 h1 s (ground1 S b) → K h1) : vt_Screen_ground_j0 K ⟨s, 0, none⟩ b h := by
  unfold vt_Screen_ground_j0
  unfold ground1 at hk
  by_cases h1 : b < 32
  · rw [if_pos h1] at hk ⊢
    exact does_sp hs o hk
  rw [if_neg h1] at hk ⊢
  by_cases h2 : b < 127
  · rw [if_pos h2] at hk ⊢
    rw [show IntKind.wrap .i32 b = b by rw [IntKind.wrap_i32]; omega]
    exact write_sp hs o hk
  rw [if_neg h2] at hk ⊢
  by_cases h3 : b = 127
  · rw [if_pos h3] at hk ⊢
    exact hk h hs
  rw [if_neg h3] at hk ⊢
  by_cases h4 : 194 ≤ b ∧ b ≤ 244
  case neg =>
    rw [if_neg h4] at hk
    rw [if_neg (by simpa using h4)]
    exact write_sp hs o hk
  rw [if_pos h4] at hk
  rw [if_pos (by simpa using h4)]
  simp only [add0, Nat.zero_add]
  obtain ⟨A, oM, oO, oP, oT, oG, oK, oL, ho, hp⟩ := hs
  refine st0 ho rfl fun h1 ho1 => ?_
  refine st0 ho1 rfl fun h2 ho2 => ?_
  refine st0 ho2 rfl fun h3 ho3 => ?_
  have ho3 := own_cs (c' := scrC { S with u0 := b, have_ := 1, want := 2 } A) ho3 (by kernel_rfl)
  by_cases h5 : 224 ≤ b
  · rw [if_pos h5]
    refine st0 ho3 rfl fun h4 ho4 => ?_
    have ho4 := own_cs (c' := scrC { S with u0 := b, have_ := 1, want := 3 } A) ho4 (by kernel_rfl)
    by_cases h6 : 240 ≤ b
    · rw [if_pos h6]
      refine st0 ho4 rfl fun h5 ho5 => hk h5 ?_
      have e : startV S b = { S with u0 := b, have_ := 1, want := 4 } := by
        unfold startV wantV
        rw [if_pos h6]
      rw [e]
      have ho5 := own_cs (c' := scrC { S with u0 := b, have_ := 1, want := 4 } A) ho5 (by kernel_rfl)
      exact ⟨A, oM, oO, oP, oT, oG, oK, oL, ho5, hp.1, hp.2, hp.3, hp.4, hp.5, hp.6, hp.7⟩
    · rw [if_neg h6]
      have e : startV S b = { S with u0 := b, have_ := 1, want := 3 } := by
        unfold startV wantV
        rw [if_neg h6, if_pos h5]
      refine hk h4 ?_
      rw [e]
      exact ⟨A, oM, oO, oP, oT, oG, oK, oL, ho4, hp.1, hp.2, hp.3, hp.4, hp.5, hp.6, hp.7⟩
  · rw [if_neg h5, if_neg (by omega)]
    have e : startV S b = { S with u0 := b, have_ := 1, want := 2 } := by
      unfold startV wantV
      rw [if_neg (by omega), if_neg h5]
    refine hk h3 ?_
    rw [e]
    exact ⟨A, oM, oO, oP, oT, oG, oK, oL, ho3, hp.1, hp.2, hp.3, hp.4, hp.5, hp.6, hp.7⟩
def U8 (S : Scr) : Prop := 0 ≤ S.u0 ∧ S.u0 ≤ 255
theorem goOn_sp (ht : Tabs h0.h) (hs : Rep h0 h s S) (o : Ok S) (u : U8 S) (b0 : 0 ≤ b) (b1 : b ≤ 255) (hh : 0 < S.have_) (hk : ∀ h1, Rep h0 h1 s (goOnV S b) → K h1) :
    ldI h .i64 ⟨s, 38, none⟩ fun x11 =>
    0 ≤ x11 ∧
    x11 < (4 : Int) ∧
    stN ((⟨s, 34, none⟩ : Addr).add (x11.toNat * 1)) [.int .u8 b] 0 h fun h17 =>
    ldI h17 .i64 ⟨s, 38, none⟩ fun x18 =>
    stN ⟨s, 38, none⟩ [.int .i64 (IntKind.wrap .i64 (x18 + 1))] 0 h17 fun h21 =>
    ldI h21 .i64 ⟨s, 38, none⟩ fun x22 =>
    ldI h21 .i64 ⟨s, 39, none⟩ fun x26 =>
    if x22 = x26 then
     stN ⟨s, 38, none⟩ [.int .i64 0] 0 h21 fun h31 =>
     ldI h31 .i64 ⟨s, 39, none⟩ fun x32 =>
     0 ≤ x32 ∧
     x32 ≤ (4 : Int) ∧
     unicode_utf8_DecodeRune (some ⟨s, 34, none⟩) x32.toNat 4 (fun x39 x40 h38 =>
      vt_Width x39 (fun x42 h41 =>
       if 0 ≤ x42 then
        vt_Screen_write (some ⟨s, 0, none⟩) x39 (fun  h44 =>
          K h44) h41
       else
         K h41) h38) h31
    else
    K h21 := by
  have hv := o.c.hv1 hh
  have hu := setU_f S S.have_ b
  refine hs.ldi (v := S.have_) (fun A => rfl) ⟨by omega, by omega, ?_⟩
  refine hs.setu (by omega) (by omega) fun h1 hs1 => ?_
  refine hs1.ldi (v := (setU S S.have_ b).have_) (fun A => rfl) ?_
  rw [hu.2.2.2.2.1, wrap64 (by omega) (by omega)]
  obtain ⟨A, oM, oO, oP, oT, oG, oK, oL, ho, hp⟩ := hs1
  refine st0 ho rfl fun h2 ho2 => ?_
  have ho2 := own_cs (c' := scrC (more S b) A) ho2 (by kernel_rfl)
  have hs2 : Rep h0 h2 s (more S b) := ⟨A, oM, oO, oP, oT, oG, oK, oL, ho2, hp.1, hp.2, hp.3, hp.4, hp.5, hp.6, hp.7⟩
  refine hs2.ldi (v := S.have_ + 1) (fun A => rfl) ?_
  refine hs2.ldi (v := (setU S S.have_ b).want) (fun A => rfl) ?_
  rw [hu.2.2.2.2.2]
  unfold goOnV at hk
  by_cases h3 : S.have_ + 1 = S.want
  case neg =>
    rw [if_neg h3] at hk ⊢
    exact hk h2 hs2
  rw [if_pos h3] at hk ⊢
  refine st0 ho2 rfl fun h4 ho4 => ?_
  have ho4 := own_cs (c' := scrC (done S b) A) ho4 (by kernel_rfl)
  have hs4 : Rep h0 h4 s (done S b) := ⟨A, oM, oO, oP, oT, oG, oK, oL, ho4, hp.1, hp.2, hp.3, hp.4, hp.5, hp.6, hp.7⟩
  refine hs4.ldi (v := (setU S S.have_ b).want) (fun A => rfl) ?_
  have e0 : (done S b).u0 = S.u0 := setU_0 (S := S) (i := S.have_) (b := b) (by omega)
  have ew : (done S b).want = S.want := hu.2.2.2.2.2
  refine ⟨by rw [hu.2.2.2.2.2]; omega, by rw [hu.2.2.2.2.2]; omega, ?_⟩
  refine decode_sp ht hs4 _ (by rw [hu.2.2.2.2.2]; omega) (by rw [e0]; exact u.1) (by rw [e0]; exact u.2) fun m h5 hs5 => ?_
  have er : decV (((setU S S.have_ b).want.toNat : Nat) : Int) (done S b).u0 (done S b).u1 (done S b).u2 (done S b).u3 = runeV (done S b) := by
    unfold runeV
    rw [show (done S b).want = (setU S S.have_ b).want from rfl, show (((setU S S.have_ b).want.toNat : Nat) : Int) = (setU S S.have_ b).want by rw [hu.2.2.2.2.2]; omega]
  rw [er]
  refine width_sp fun h6 he6 => ?_
  have hs6 := hs5.gap he6
  by_cases h7 : 0 ≤ widthV (runeV (done S b))
  · rw [if_pos h7] at hk ⊢
    exact write_sp hs6 (o.done b) hk
  · rw [if_neg h7] at hk ⊢
    exact hk h6 hs6
theorem ground_sp (ht : Tabs h0.h) (hs : Rep h0 h s S) (o : Ok S) (u : U8 S) (b0 : 0 ≤ b) (b1 : b ≤ 255) (hk : ∀ h1, Rep h0 h1 s (groundV S b) → K h1) : vt_Screen_ground (some ⟨s, 0, none⟩) b K h := by
  unfold vt_Screen_ground
  unfold groundV at hk
  refine nz_i ?_
  simp only [add0, Nat.zero_add]
  refine hs.ldi (v := S.have_) (fun A => rfl) ?_
  by_cases h1 : 0 < S.have_
  case neg =>
    rw [if_neg h1] at hk ⊢
    exact ground_j0 hs o b0 b1 hk
  rw [if_pos h1] at hk ⊢
  refine goes_sp hs ?_
  by_cases h2 : goesV S b = true
  · rw [if_pos h2] at hk ⊢
    have := goOn_sp (K := K) ht hs o u b0 b1 h1 hk
    simpa only [add0] using this
  · rw [if_neg h2] at hk ⊢
    exact broken_sp hs o fun h3 hs3 => ground_j0 hs3 o.broken b0 b1 hk
end
end Go.Proofs.YthjdnhhifjpidaaDoor.M
