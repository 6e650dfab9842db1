import Derived.Test.YtkbpnmgkdodcmaaDoorG2
set_option linter.unusedVariables false
set_option linter.unusedSimpArgs false
set_option maxRecDepth 100000
namespace Go.Proofs.YtkbpnmgkdodcmaaDoor.M
open Go Go.Hp

/-! ### The code's Read -/
/-- What a text without marks means. -/
def BaseOk (s : ByteArray) (r : Int) : Prop := ∀ c m, keys_Valid c m = true → bodyV c = s → r = c
def sixL : List Int := [32, 13, 9, 27, 127, 16777239]
theorem six_body : ∀ n : Fin 6, FinK (sixL.getD n.val 0) ∧ bodyV (sixL.getD n.val 0) = namedV (sixL.getD n.val 0) := by
  intro n
  match n with
  | 0 => exact ⟨.inl (by decide), by decide +kernel⟩
  | 1 => exact ⟨.inl (by decide), by decide +kernel⟩
  | 2 => exact ⟨.inl (by decide), by decide +kernel⟩
  | 3 => exact ⟨.inl (by decide), by decide +kernel⟩
  | 4 => exact ⟨.inl (by decide), by decide +kernel⟩
  | 5 => exact ⟨.inr (by decide), by decide +kernel⟩
theorem row_body : ∀ n : Fin 22, bodyV (16777217 + n.val) = (tab0.getD n.val tab0d).1 := by decide +kernel
theorem low_body : ∀ c : Fin 128, ((bodyV c.val).data.toList.all fun b => decide (b < 128)) = true := by decide +kernel
theorem low_body2 : ∀ c : Fin 23, ((bodyV (16777217 + c.val)).data.toList.all fun b => decide (b < 128)) = true := by decide +kernel
theorem fin_low {c : Int} (hf : FinK c) : ((bodyV c).data.toList.all fun b => decide (b < 128)) = true := by
  rcases hf with hf | hf
  · have h1 := low_body ⟨c.toNat, by omega⟩
    simp only [show ((c.toNat : Nat) : Int) = c by omega] at h1
    exact h1
  · have h1 := low_body2 ⟨(c - 16777217).toNat, by omega⟩
    simp only [show (16777217 : Int) + (((c - 16777217).toNat : Nat) : Int) = c by omega] at h1
    exact h1
theorem body_inj {c c' m' : Int} (hf : FinK c) (hv' : keys_Valid c' m' = true) (he : bodyV c' = bodyV c) : c = c' := by
  rcases fin_or hv' with hf' | ⟨b0, b1, b2, b3⟩
  · have := fin_body hf
    rw [← he, fin_body hf'] at this
    exact this.symm
  · exfalso
    have hl := fin_low hf
    rw [← he, high_body b0 b1] at hl
    obtain ⟨_, h128, hpos⟩ := enc_plain b0 b1 b2
    exact not_low 0 hpos h128 hl
theorem beq_of {s t : ByteArray} (h : (s.data.toList == t.data.toList) = true) : s = t := by
  apply ByteArray.ext
  exact Array.toList_inj.1 (by simpa using h)
theorem base_l0 {K0 : ByteArray → Heap → Prop} {Kr : Int → Heap → Prop} {h0 : Heap} {s : ByteArray} {b : Nat} {l} (hT : TabH h0) :
    ∀ (f : Nat) (i : Nat) (h : Heap), Own h0 h ((b, (sixL.map (Value.int .i64)).toArray, 3) :: l) → 6 < f + i → i ≤ 6 → (∀ j, j < i → namedV (sixL.getD j 0) ≠ s) →
      (∀ r h1, Ext h0 h1 → BaseOk s r → Kr r h1) → (∀ h1, Own h0 h1 ((b, (sixL.map (Value.int .i64)).toArray, 3) :: l) → (∀ j, j < 6 → namedV (sixL.getD j 0) ≠ s) → K0 s h1) →
      keys_base_l0 K0 Kr f s (some ⟨b, 0, none⟩) 6 6 6 i h := by
  intro f
  induction f with
  | zero => intro i h ho hf hi; omega
  | succ f ih =>
    intro i h ho hf hi hp hr hk
    unfold keys_base_l0
    simp only [toListE]
    by_cases hlt : (i : Int) < 6
    · rw [if_pos hlt]
      refine nz_i ⟨by omega, by omega, ldI_x (v := sixL.getD i 0) ho.get0 ?_ ?_⟩
      · rw [← Array.getElem?_toList]
        show (sixL.map (Value.int .i64))[(i : Int).toNat * 1]? = _
        have hl : sixL.length = 6 := rfl
        rw [show (i : Int).toNat * 1 = i by omega, List.getElem?_map, List.getElem?_eq_getElem (by omega), List.getD_eq_getElem?_getD, List.getElem?_eq_getElem (by omega)]
        rfl
      · refine named_sp (ho.tab hT) fun h2 he => ?_
        have ho2 := ho.gap he
        by_cases hc : ((namedV (sixL.getD i 0)).data.toList == s.data.toList) = true
        · rw [if_pos hc]
          refine hr _ h2 ho2.ext fun c m hv hb => ?_
          have hs := six_body ⟨i, by omega⟩
          simp only [] at hs
          exact body_inj hs.1 hv (by rw [hb, hs.2, beq_of hc])
        · rw [if_neg hc, wrap64 (by omega) (by omega)]
          have e : (i : Int) + 1 = ((i + 1 : Nat) : Int) := by omega
          rw [e]
          refine ih (i + 1) h2 ho2 (by omega) (by omega) (fun j hj => ?_) hr hk
          by_cases hji : j = i
          · subst hji
            exact fun h => hc (by rw [h]; simp)
          · exact hp j (by omega)
    · rw [if_neg hlt]
      exact hk h ho fun j hj => hp j (by omega)
theorem base_l1 {K2 : ByteArray → Heap → Prop} {Kr : Int → Heap → Prop} {h0 : Heap} {s : ByteArray} {l} :
    ∀ (f : Nat) (i : Nat) (h : Heap), Own h0 h l → 22 < f + i → i ≤ 22 → (∀ j, j < i → (tab0.getD j tab0d).1 ≠ s) →
      (∀ r h1, Ext h0 h1 → BaseOk s r → Kr r h1) → (∀ h1, Own h0 h1 l → (∀ j, j < 22 → (tab0.getD j tab0d).1 ≠ s) → K2 s h1) →
      keys_base_l1 K2 Kr f s i h := by
  intro f
  induction f with
  | zero => intro i h ho hf hi; omega
  | succ f ih =>
    intro i h ho hf hi hp hr hk
    unfold keys_base_l1
    simp only [toListE]
    by_cases hlt : (i : Int) < 22
    · rw [if_pos hlt]
      refine ⟨by omega, by omega, ?_⟩
      rw [show (i : Int).toNat = i by omega]
      by_cases hc : ((tab0.getD i tab0d).1.data.toList == s.data.toList) = true
      · rw [if_pos hc]
        refine gap_o ho fun h2 ho2 => ?_
        rw [wrap64 (by omega) (by omega)]
        refine hr _ h2 ho2.ext fun c m hv hb => ?_
        have hs := row_body ⟨i, by omega⟩
        simp only [] at hs
        exact body_inj (.inr ⟨by omega, by omega⟩) hv (by rw [hb, hs, beq_of hc])
      · rw [if_neg hc]
        refine gap_o ho fun h2 ho2 => ?_
        rw [wrap64 (by omega) (by omega)]
        have e : (i : Int) + 1 = ((i + 1 : Nat) : Int) := by omega
        rw [e]
        refine ih (i + 1) h2 ho2 (by omega) (by omega) (fun j hj => ?_) hr hk
        by_cases hji : j = i
        · subst hji
          exact fun h => hc (by rw [h]; simp)
        · exact hp j (by omega)
    · rw [if_neg hlt]
      exact hk h ho fun j hj => hp j (by omega)
/-- A key that is no word: its body is one character. -/
theorem body_char {c m : Int} {s : ByteArray} (hv : keys_Valid c m = true) (hb : bodyV c = s) (h1 : ∀ j, j < 6 → namedV (sixL.getD j 0) ≠ s) (h2 : ∀ j, j < 22 → (tab0.getD j tab0d).1 ≠ s) :
    s = Utf8.encode (IntKind.wrap .i32 c) ∧ ((0 ≤ c ∧ c < 128) ∨ (160 ≤ c ∧ c ≤ 1114111 ∧ (c < 55296 ∨ 57343 < c))) := by
  have six : ∀ j : Fin 6, c ≠ sixL.getD j.val 0 := fun j hj => h1 j.val j.isLt (by rw [← (six_body j).2, ← hj, hb])
  have s0 := six 0; have s1 := six 1; have s2 := six 2; have s3 := six 3; have s4 := six 4; have s5 := six 5
  simp only [sixL] at s0 s1 s2 s3 s4 s5
  have s0 : c ≠ 32 := s0; have s1 : c ≠ 13 := s1; have s2 : c ≠ 9 := s2; have s3 : c ≠ 27 := s3; have s4 : c ≠ 127 := s4; have s5 : c ≠ 16777239 := s5
  have hn : namedV c = ⟨#[]⟩ := by
    unfold namedV
    rw [if_neg s0, if_neg s1, if_neg s2, if_neg s3, if_neg s4, if_neg s5, if_neg]
    intro hsp
    have hr : 16777217 ≤ c ∧ c ≤ 16777238 := by simpa [keys_special] using hsp
    have hrow := row_body ⟨(c - 16777217).toNat, by omega⟩
    simp only [show (16777217 : Int) + (((c - 16777217).toNat : Nat) : Int) = c by omega] at hrow
    exact h2 (c - 16777217).toNat (by omega) (by rw [← hrow, hb])
  refine ⟨?_, ?_⟩
  · rw [← hb]; unfold bodyV; rw [hn, if_neg (by decide)]
  · rcases fin_or hv with hf | ⟨a0, a1, a2, a3⟩
    · rcases hf with hf | hf
      · exact .inl hf
      · exfalso
        have hsp : keys_special c = true := by unfold keys_special; simp; omega
        have hrow := row_body ⟨(c - 16777217).toNat, by omega⟩
        simp only [show (16777217 : Int) + (((c - 16777217).toNat : Nat) : Int) = c by omega] at hrow
        exact h2 (c - 16777217).toNat (by omega) (by rw [← hrow, hb])
    · exact .inr ⟨a0, a1, a2⟩
theorem enc_asc : ∀ c : Fin 128, (Utf8.encode (IntKind.wrap .i32 (c.val : Int))).size = 1 ∧ byteAt (Utf8.encode (IntKind.wrap .i32 (c.val : Int))) 0 = c.val := by decide +kernel
theorem base_sp {s : ByteArray} {K : Int → Heap → Prop} {h : Heap} (hT : TabH h) (hF : FirstH h) (hA : AccH h) (hs : (s.size : Int) < 9223372036854775807)
    (hK : ∀ r h1, Ext h h1 → BaseOk s r → K r h1) : keys_base s K h := by
  unfold keys_base
  refine newB_o (Own.init h) fun b h1 ho1 => ⟨7, base_l0 (l := []) hT 7 0 h1 ho1 (by omega) (by omega) (fun j hj => by omega) (fun r h2 he hb => hK r h2 he hb) (fun h2 ho2 hn6 => ⟨ho2.tab hT, 23, ?_⟩)⟩
  refine base_l1 23 0 h2 ho2 (by omega) (by omega) (fun j hj => by omega) (fun r h3 he hb => hK r h3 he hb) (fun h3 ho3 hn22 => ?_)
  have hF3 : FirstH h3 := fun b hb => ho3.ext.cell (hF b hb)
  refine decode_sp hF3 (ho3.tab hA) hs fun r n h4 he4 hd => ?_
  have key : ∀ c m, keys_Valid c m = true → bodyV c = s → n = s.size ∧ r = c := by
    intro c m hv hb
    obtain ⟨hse, hc⟩ := body_char hv hb hn6 hn22
    rcases hc with hc | ⟨c0, c1, c2⟩
    · have ha := enc_asc ⟨c.toNat, by omega⟩
      simp only [show ((c.toNat : Nat) : Int) = c by omega] at ha
      rw [← hse] at ha
      have := hd.1 (by omega) (by omega)
      omega
    · obtain ⟨w, hf, hv2, hz⟩ := enc_full (s := s) c0 c1 c2 (by rw [hse, utf8_eq (by omega) c1 c2])
      have := hd.2 w hf
      omega
  by_cases hc : n = (s.size : Int)
  · rw [if_pos hc]
    refine hK _ h4 (ho3.ext.trans he4) fun c m hv hb => ?_
    have hr := valid_le hv
    rw [(key c m hv hb).2, wrap64 (by omega) (by omega)]
  · rw [if_neg hc]
    exact hK _ h4 (ho3.ext.trans he4) fun c m hv hb => absurd (key c m hv hb).1 hc
/-- What Read answers. -/
def ReadOk (s : ByteArray) (c m e : Int) : Prop := (e = 0 ∧ keys_Valid c m = true ∧ nameV c m = s) ∨ (e = 210 ∧ c = 0 ∧ m = 0 ∧ ∀ c' m', keys_Valid c' m' = true → nameV c' m' ≠ s)
theorem read_same {s : ByteArray} {c m e c' m' e' : Int} (h : ReadOk s c m e) (h' : ReadOk s c' m' e') : c = c' ∧ m = m' ∧ e = e' := by
  rcases h with ⟨rfl, hv, hn⟩ | ⟨rfl, rfl, rfl, hn⟩
  · rcases h' with ⟨rfl, hv', hn'⟩ | ⟨rfl, rfl, rfl, hn'⟩
    · obtain ⟨a, b⟩ := name_inj hv hv' (by rw [hn, hn'])
      exact ⟨a, b, rfl⟩
    · exact absurd hn (hn' c m hv)
  · rcases h' with ⟨rfl, hv', hn'⟩ | ⟨rfl, rfl, rfl, hn'⟩
    · exact absurd hn' (hn c' m' hv')
    · exact ⟨rfl, rfl, rfl⟩
theorem cut_marks {x p b : ByteArray} (h : x = p ++ b) : cutV x p = (b, true) := by
  have hz : x.size = p.size + b.size := by rw [h]; exact ByteArray.size_append ..
  have e1 : x.extract 0 p.size = p := by
    rw [h]
    apply ByteArray.ext
    rw [ByteArray.data_extract, ByteArray.data_append]
    apply Array.ext_getElem?
    intro i
    have hp : p.data.size = p.size := rfl
    have hb : b.data.size = b.size := rfl
    simp only [Array.getElem?_extract, Array.size_append, Array.getElem?_append]
    grind
  have e2 : x.extract p.size x.size = b := by
    rw [hz, h]
    apply ByteArray.ext
    rw [ByteArray.data_extract, ByteArray.data_append]
    apply Array.ext_getElem?
    intro i
    have hp : p.data.size = p.size := rfl
    have hb : b.data.size = b.size := rfl
    simp only [Array.getElem?_extract, Array.size_append, Array.getElem?_append]
    grind
  have hh : hasV x p = true := by
    unfold hasV
    rw [show ((p.size : Int)).toNat = p.size by omega, e1]
    simp
    omega
  unfold cutV
  rw [if_neg (by rw [hh]; decide), show ((p.size : Int)).toNat = p.size by omega, e2]
theorem cut_size (x p : ByteArray) : (cutV x p).1.size ≤ x.size := by
  unfold cutV
  split
  · exact Nat.le_refl _
  · simp only []; rw [ByteArray.size_extract]; omega
end Go.Proofs.YtkbpnmgkdodcmaaDoor.M
