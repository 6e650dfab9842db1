import Derived.Test.YtkbpnmgkdodcmaaDoorC1
import Derived.Test.YtkbpnmgkdodcmaaDoorB9
set_option linter.unusedVariables false
set_option linter.unusedSimpArgs false
set_option maxRecDepth 100000
namespace Go.Proofs.YtkbpnmgkdodcmaaDoor.M
open Go Go.Hp

/-! ### The document's characters -/
def headL : List Int := [0, 192, 224, 240]
def topL : List Int := [127, 223, 239, 247]
def wL (s : ByteArray) : Nat → Int → Int → Int
  | 0, c, _ => c
  | f + 1, c, i => if i < s.size then if ((decide ((byteAt s i) < 128)) || (decide (191 < (byteAt s i)))) = true then -1 else wL s f (64 * c + byteAt s i - 128) (i + 1) else c
def worthV (s : ByteArray) : Int :=
  if byteAt s 0 < headL.getD (s.size - 1) 0 then -1 else if topL.getD (s.size - 1) 0 < byteAt s 0 then -1 else wL s 4 (byteAt s 0 - headL.getD (s.size - 1) 0) 1
theorem worth_loop {K : Int → Heap → Prop} {h : Heap} {s : ByteArray} (hs : s.size ≤ 4) : ∀ (f : Nat) (c i : Int), 1 ≤ i → s.size - i ≤ f → 0 ≤ c → (i = 1 → c ≤ 256) ∧ (i = 2 → c ≤ 20000) ∧ (i = 3 → c ≤ 2000000) → K (wL s f c i) h →
    ref21_worth_l0 (fun z55 h56 => K z55 h56) (fun z58 h59 => K z58 h59) (f + 1) s c i h := by
  intro f
  induction f with
  | zero =>
    intro c i h1 hf c0 c1 hk
    unfold ref21_worth_l0
    rw [if_neg (by omega)]
    exact hk
  | succ f ih =>
    intro c i h1 hf c0 c1 hk
    unfold ref21_worth_l0
    unfold wL at hk
    by_cases hi : i < (s.size : Int)
    · rw [if_pos hi] at hk ⊢
      refine ⟨by omega, hi, fun _ => by omega, fun _ => hi, ?_⟩
      split
      · rename_i hc
        rw [if_pos hc] at hk
        exact hk
      · rename_i hc
        rw [if_neg hc] at hk
        refine ⟨by omega, hi, ?_⟩
        have hb0 := byteAt_nonneg s i
        have hb1 := byteAt_lt s i
        have hc' : 128 ≤ byteAt s i ∧ byteAt s i ≤ 191 := by
          have : ¬ (byteAt s i < 128 ∨ 191 < byteAt s i) := by simpa using hc
          omega
        have hcm : c ≤ 33423360 := by omega
        rw [wrap64 (x := 64 * c) (by omega) (by omega), wrap64 (x := byteAt s i) (by omega) (by omega), wrap64 (x := 64 * c + byteAt s i) (by omega) (by omega), wrap64 (x := 64 * c + byteAt s i - 128) (by omega) (by omega), wrap64 (x := i + 1) (by omega) (by omega)]
        exact ih _ (i + 1) (by omega) (by omega) (by omega) ⟨by omega, by omega, by omega⟩ hk
    · rw [if_neg hi]
      rw [if_neg hi] at hk
      exact hk
theorem worth_sp {K : Int → Heap → Prop} {h : Heap} {s : ByteArray} (h0 : 0 < s.size) (hs : s.size ≤ 4) (hK : ∀ h1, Ext h h1 → K (worthV s) h1) : ref21_worth s K h := by
  have ho := Own.init h
  unfold ref21_worth
  unfold worthV at hK
  have e1 : IntKind.wrap .i64 ((s.size : Int) - 1) = (s.size : Int) - 1 := wrap64 (by omega) (by omega)
  have e2 : ((s.size : Int) - 1).toNat = s.size - 1 := by omega
  have l1 : headL.length = 4 := rfl
  have l2 : topL.length = 4 := rfl
  have gi : ∀ L : List Int, L.length = 4 → (L.map (Value.int .i64)).toArray[(s.size - 1) * 1]? = some (Value.int .i64 (L.getD (s.size - 1) 0)) := by
    intro L hL
    rw [Nat.mul_one, ← Array.getElem?_toList]
    show (L.map (Value.int .i64))[s.size - 1]? = _
    rw [List.getElem?_map, List.getElem?_eq_getElem (by omega), List.getD_eq_getElem?_getD, List.getElem?_eq_getElem (by omega)]
    rfl
  refine newB_o ho fun b h1 ho1 => newB_o ho1 fun b2 h2 ho2 => ?_
  rw [e1, e2, wbyte]
  have hb0 := byteAt_nonneg s 0
  have hb1 := byteAt_lt s 0
  refine ⟨by omega, by omega, by omega, ldI_x (v := headL.getD (s.size - 1) 0) ho2.get1 (gi headL l1) ?_⟩
  split
  · rename_i hc
    rw [if_pos hc] at hK
    exact hK _ ho2.ext
  · rename_i hc
    rw [if_neg hc] at hK
    refine ⟨by omega, by omega, ldI_x (v := topL.getD (s.size - 1) 0) ho2.get0 (gi topL l2) ?_⟩
    split
    · rename_i hc
      rw [if_pos hc] at hK
      exact hK _ ho2.ext
    · rename_i hc2
      rw [if_neg hc2] at hK
      refine ⟨by omega, by omega, ldI_x (v := headL.getD (s.size - 1) 0) ho2.get1 (gi headL l1) ?_⟩
      have hh : 0 ≤ headL.getD (s.size - 1) 0 := by
        have : s.size - 1 = 0 ∨ s.size - 1 = 1 ∨ s.size - 1 = 2 ∨ s.size - 1 = 3 := by omega
        rcases this with h | h | h | h <;> rw [h] <;> decide
      rw [wrap64 (x := byteAt s 0 - headL.getD (s.size - 1) 0) (by omega) (by omega)]
      exact ⟨4 + 1, worth_loop hs 4 _ 1 (by omega) (by omega) (by omega) ⟨by omega, by omega, by omega⟩ (hK _ ho2.ext)⟩
def okV (t : ByteArray) : Bool := decide (0 ≤ worthV t) && ((ref21_utf8 (worthV t)).data.toList == t.data.toList) && decide (worthV t ≤ 1114111) && (decide (worthV t < 55296) || decide (57343 < worthV t))
def fL (s : ByteArray) : Nat → Int → Int × Int × Bool
  | 0, _ => (0, 0, false)
  | f + 1, n => if ((decide (n ≤ 4)) && (decide (n ≤ (s.size : Int)))) = true then if okV (s.extract 0 n.toNat) = true then (worthV (s.extract 0 n.toNat), n, true) else fL s f (n + 1) else (0, 0, false)
def firstV (s : ByteArray) : Int × Int × Bool := fL s 4 1
theorem first_loop {K : Int → Int → Bool → Heap → Prop} {h0 : Heap} {s : ByteArray} : ∀ (f : Nat) (n : Int) (h : Heap), Ext h0 h → 1 ≤ n → 5 - n ≤ f → (∀ h1, Ext h0 h1 → K (fL s f n).1 (fL s f n).2.1 (fL s f n).2.2 h1) →
    ref21_first_l0 (fun h31 => K 0 0 false h31) (fun z33 z34 z35 h36 => K z33 z34 z35 h36) (f + 1) s n h := by
  intro f
  induction f with
  | zero =>
    intro n h he h1 hf hk
    unfold ref21_first_l0
    rw [if_neg (by simp; omega)]
    exact hk h he
  | succ f ih =>
    intro n h he h1 hf hk
    unfold ref21_first_l0
    simp only [toListE]
    unfold fL at hk
    split
    · rename_i hc
      rw [if_pos hc] at hk
      have hc' : n ≤ 4 ∧ n ≤ s.size := by simpa using hc
      have hse : (s.extract 0 n.toNat).size = n.toNat := by rw [ByteArray.size_extract]; omega
      have e1 : IntKind.wrap .i64 (n + 1) = n + 1 := wrap64 (by omega) (by omega)
      refine ⟨by omega, hc'.2, worth_sp (by omega) (by omega) fun h2 he2 => ?_⟩
      rw [e1]
      unfold okV at hk
      generalize worthV (s.extract 0 n.toNat) = c at hk ⊢
      generalize hq : ((ref21_utf8 c).data.toList == (s.extract 0 n.toNat).data.toList) = q at hk ⊢
      split
      · rename_i h0
        refine ⟨by omega, hc'.2, ?_⟩
        split
        · rename_i hqq
          subst hqq
          split
          · rename_i h3
            split
            · rename_i h4
              intro h5 he5
              have := hk h5 (he.trans (he2.trans he5))
              simpa [h0, h3, h4] using this
            · rename_i h4
              split
              · rename_i h6
                intro h5 he5
                have := hk h5 (he.trans (he2.trans he5))
                simpa [h0, h3, h6] using this
              · rename_i h6
                intro h5 he5
                refine ih (n + 1) h5 (he.trans (he2.trans he5)) (by omega) (by omega) fun h7 he7 => ?_
                have := hk h7 he7
                simpa [h0, h3, h4, h6] using this
          · rename_i h3
            intro h5 he5
            refine ih (n + 1) h5 (he.trans (he2.trans he5)) (by omega) (by omega) fun h7 he7 => ?_
            have := hk h7 he7
            simpa [h0, h3] using this
        · rename_i hqq
          intro h5 he5
          refine ih (n + 1) h5 (he.trans (he2.trans he5)) (by omega) (by omega) fun h7 he7 => ?_
          have := hk h7 he7
          have hqf : q = false := by simpa using hqq
          simpa [hqf] using this
      · rename_i h0
        refine ih (n + 1) h2 (he.trans he2) (by omega) (by omega) fun h7 he7 => ?_
        have := hk h7 he7
        simpa [h0] using this
    · rename_i hc
      rw [if_neg hc] at hk
      exact hk h he
theorem first_sp {K : Int → Int → Bool → Heap → Prop} {h : Heap} {s : ByteArray} (hK : ∀ h1, Ext h h1 → K (firstV s).1 (firstV s).2.1 (firstV s).2.2 h1) : ref21_first s K h := by
  unfold ref21_first
  exact ⟨4 + 1, first_loop 4 1 h (Ext.refl h) (by omega) (by omega) hK⟩
end Go.Proofs.YtkbpnmgkdodcmaaDoor.M
