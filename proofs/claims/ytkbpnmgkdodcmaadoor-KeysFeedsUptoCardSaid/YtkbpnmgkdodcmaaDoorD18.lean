import Derived.Test.YtkbpnmgkdodcmaaDoorD17
set_option linter.unusedVariables false
set_option linter.unusedSimpArgs false
set_option maxRecDepth 100000
namespace Go.Proofs.YtkbpnmgkdodcmaaDoor.M
open Go Go.Hp

theorem bare_alike {s : ByteArray} (hp : 0 < s.size) (hs : (s.size : Int) < 9223372036854775806) (h27 : ¬ (s.data.toList == (⟨#[27]⟩ : ByteArray).data.toList) = true) : Alike (bareV s) (stepF s) := by
  have eP : plainRI s = plainR s := by unfold plainRI; rfl
  have eM : metaI s = metaR s := by unfold metaI; rfl
  unfold stepF
  rw [if_neg h27, eP, eM]
  by_cases h0 : byteAt s 0 = 27
  · rw [if_pos h0]
    by_cases h1 : s.size = 1
    · exfalso
      apply h27
      have hl : s.data.toList.length = 1 := h1
      have a0 := u8_byte s 0 (by omega)
      rw [show ((0 : Nat) : Int) = 0 from rfl, h0] at a0
      match hd : s.data.toList, hl with
      | [y], _ =>
        rw [← Array.getElem?_toList, hd] at a0
        simp only [List.getElem?_cons_zero, Option.some.injEq] at a0
        rw [a0]
        rfl
    exact meta_alike (by omega) h0 (by omega)
  · rw [if_neg h0]
    have eb : bareV s = plainV s := by unfold bareV; rw [if_neg h0]
    rw [eb]
    exact plain_alike hp
theorem flushL_esc (f : Nat) (s : ByteArray) (acc : List (Int × Int)) (h27 : (s.data.toList == (⟨#[27]⟩ : ByteArray).data.toList) = true) : flushL (f + 1) s acc = acc ++ [(27, 0)] := by
  have e : s = ⟨#[27]⟩ := of_beq h27
  subst e
  unfold flushL
  rw [if_pos (by decide), if_pos (by decide +kernel), if_pos (by decide)]
theorem flushL_end (f : Nat) (s : ByteArray) (acc : List (Int × Int)) (h : s.size = 0) : flushL (f + 1) s acc = acc := by
  unfold flushL
  rw [if_neg fun hh => by have := ne_empty hh; omega]
theorem stepF_n {s : ByteArray} (hp : 0 < s.size) (hs : (s.size : Int) < 9223372036854775806) : 0 ≤ (stepF s).2.2 ∧ (stepF s).2.2 ≤ s.size := by
  by_cases h27 : (s.data.toList == (⟨#[27]⟩ : ByteArray).data.toList) = true
  · unfold stepF
    rw [if_pos h27]
    simp only []
    omega
  · have := (bare_alike hp hs h27).1
    rw [this]
    exact bareV_n s hp (by omega)
theorem flushR_loop {K0 : Nat → Option Addr → Nat → Nat → Heap → Prop} {h0 : Heap} {d : Nat} {x} {l} :
    ∀ (f : Nat) (s : ByteArray) (acc : List (Int × Int)) (a : Option Addr) (n c : Nat) (o) (h : Heap), Own h0 h ([x] ++ (o ++ l)) → SlO kf 2 36 a n c acc o → s.size < f → acc.length + s.size ≤ 4000000000000 →
      (∀ a' n' c' o' h', Own h0 h' ([x] ++ (o' ++ l)) → SlO kf 2 36 a' n' c' (flushL f s acc) o' → K0 d a' n' c' h') →
      ref21_Flush_l0 K0 f d a n c s h := by
  intro f
  induction f with
  | zero => intro s acc a n c o h ho hs hf; omega
  | succ f ih =>
    intro s acc a n c o h ho hs hf hb hk
    unfold ref21_Flush_l0
    simp only [toListE]
    by_cases hne : (!(s.data.toList == (⟨#[]⟩ : ByteArray).data.toList)) = true
    · rw [if_pos hne]
      have hpos := ne_empty hne
      have hl := hs.1
      refine newB_o ho fun b h2 ho2 => ?_
      repeat (first | ((with_reducible apply newB_o); (with_reducible assumption); intro _ _ _) | ((with_reducible apply gap_o); (with_reducible assumption); intro _ _) | ((with_reducible apply st0); (with_reducible assumption); rfl; intro _ _) | ((with_reducible apply st1); (with_reducible assumption); rfl; intro _ _) | ((with_reducible apply st2); (with_reducible assumption); rfl; intro _ _) | ((with_reducible apply ldI0); (with_reducible assumption); rfl) | ((with_reducible apply ldI1); (with_reducible assumption); rfl) | ((with_reducible apply ldI2); (with_reducible assumption); rfl) | ((with_reducible apply ldB0); (with_reducible assumption); rfl) | ((with_reducible apply ldB1); (with_reducible assumption); rfl) | ((with_reducible apply ldS0); (with_reducible assumption); rfl) | ((with_reducible apply ldS1); (with_reducible assumption); rfl) | (with_reducible refine and_i (Own.tab (by with_reducible assumption) (by with_reducible assumption)) ?_) | (with_reducible apply nz_i))
      -- the step's key is in its block: go on alike
      have go : ∀ h3, Own h0 h3 ([(b, #[.int .i64 (stepF s).1, .int .i64 (stepF s).2.1], 36), x] ++ (o ++ l)) →
          ref21_Flush_j1 (fun z63 z64 z64n z64c h65 => K0 z63 z64 z64n z64c h65) (fun z69 z70 z70n z70c z71 h72 => ref21_Flush_l0 K0 f z69 z70 z70n z70c z71 h72) d a n c s b (stepF s).2.2 h3 := by
        intro h3 ho3
        have hst := stepF_n hpos (by omega)
        have hsz : (s.extract (stepF s).2.2.toNat s.size).size = s.size - (stepF s).2.2.toNat := by rw [ByteArray.size_extract]; omega
        refine flushR_j1 (Kx := fun _ _ _ _ _ => True) ho3 hs (by omega) hst.1 hst.2 (fun h' hz ho4 => ?_) (fun a' n' c' o' h' hz ho4 hs4 => ?_)
        · -- nothing is read: the end
          have h27 : ¬ (s.data.toList == (⟨#[27]⟩ : ByteArray).data.toList) = true := fun h => by
            unfold stepF at hz
            rw [if_pos h] at hz
            cases hz
          have e := (bare_alike hpos (by omega) h27).1
          have hfl : flushL (f + 1) s acc = acc := by
            unfold flushL
            rw [if_pos hne, if_pos (by rw [← e]; exact hz), if_neg h27]
          rw [hfl] at hk
          exact hk _ _ _ o _ ho4 hs
        · have hfl : flushL (f + 1) s acc = flushL f (s.extract (stepF s).2.2.toNat s.size) (if (!(((stepF s).1 == 0) && ((stepF s).2.1 == 0))) = true then acc ++ [((stepF s).1, (stepF s).2.1)] else acc) := by
            by_cases h27 : (s.data.toList == (⟨#[27]⟩ : ByteArray).data.toList) = true
            · rw [flushL_esc f s acc h27]
              have e1 : stepF s = (27, 0, 1) := by unfold stepF; rw [if_pos h27]
              have hz1 : s.size = 1 := len_of_beq h27
              obtain ⟨g, rfl⟩ : ∃ g, f = g + 1 := ⟨f - 1, by omega⟩
              rw [flushL_end g _ _ (by rw [hsz, e1]; simp only []; omega), e1]
              rfl
            · have ha := bare_alike hpos (by omega) h27
              have hkc := key_cond ha
              obtain ⟨a1, a2, a3⟩ := ha
              conv => lhs; unfold flushL
              rw [if_pos hne, if_neg (by rw [← a1]; exact hz), hkc, a1]
              cases hok : (bareV s).2.2.1 with
              | true => obtain ⟨e1, e2, _⟩ := a2 hok; rw [e1, e2]
              | false => rfl
          rw [hfl] at hk
          refine ih _ _ _ _ _ o' _ ho4 hs4 (by omega) ?_ hk
          split
          · simp only [List.length_append, List.length_singleton]; omega
          · omega
      split
      · rename_i h27
        have e1 : stepF s = (27, 0, 1) := by unfold stepF; rw [if_pos h27]
        rw [e1] at go
        repeat (first | ((with_reducible apply newB_o); (with_reducible assumption); intro _ _ _) | ((with_reducible apply gap_o); (with_reducible assumption); intro _ _) | ((with_reducible apply st0); (with_reducible assumption); rfl; intro _ _) | ((with_reducible apply st1); (with_reducible assumption); rfl; intro _ _) | ((with_reducible apply st2); (with_reducible assumption); rfl; intro _ _) | ((with_reducible apply ldI0); (with_reducible assumption); rfl) | ((with_reducible apply ldI1); (with_reducible assumption); rfl) | ((with_reducible apply ldI2); (with_reducible assumption); rfl) | ((with_reducible apply ldB0); (with_reducible assumption); rfl) | ((with_reducible apply ldB1); (with_reducible assumption); rfl) | ((with_reducible apply ldS0); (with_reducible assumption); rfl) | ((with_reducible apply ldS1); (with_reducible assumption); rfl) | (with_reducible refine and_i (Own.tab (by with_reducible assumption) (by with_reducible assumption)) ?_) | (with_reducible apply nz_i))
        exact go _ (by assumption)
      · rename_i h27
        refine ⟨by omega, ?_⟩
        split
        · rename_i h0
          have e1 : stepF s = metaR s := by unfold stepF; rw [if_neg h27, if_pos h0]; unfold metaI; rfl
          rw [e1] at go
          have hne1 : s.size ≠ 1 := fun h1 => by
            have := (bare_alike hpos (by omega) h27).1
            apply h27
            have hl : s.data.toList.length = 1 := h1
            have a0 := u8_byte s 0 (by omega)
            rw [show ((0 : Nat) : Int) = 0 from rfl, h0] at a0
            match hd : s.data.toList, hl with
            | [y], _ =>
              rw [← Array.getElem?_toList, hd] at a0
              simp only [List.getElem?_cons_zero, Option.some.injEq] at a0
              rw [a0]
              rfl
          refine metaR_sp (by omega) (by omega) fun h3 he => ?_
          have ho3 := Own.gap (by assumption) he
          repeat (first | ((with_reducible apply newB_o); (with_reducible assumption); intro _ _ _) | ((with_reducible apply gap_o); (with_reducible assumption); intro _ _) | ((with_reducible apply st0); (with_reducible assumption); rfl; intro _ _) | ((with_reducible apply st1); (with_reducible assumption); rfl; intro _ _) | ((with_reducible apply st2); (with_reducible assumption); rfl; intro _ _) | ((with_reducible apply ldI0); (with_reducible assumption); rfl) | ((with_reducible apply ldI1); (with_reducible assumption); rfl) | ((with_reducible apply ldI2); (with_reducible assumption); rfl) | ((with_reducible apply ldB0); (with_reducible assumption); rfl) | ((with_reducible apply ldB1); (with_reducible assumption); rfl) | ((with_reducible apply ldS0); (with_reducible assumption); rfl) | ((with_reducible apply ldS1); (with_reducible assumption); rfl) | (with_reducible refine and_i (Own.tab (by with_reducible assumption) (by with_reducible assumption)) ?_) | (with_reducible apply nz_i))
          exact go _ (by assumption)
        · rename_i h0
          have e1 : stepF s = plainR s := by unfold stepF; rw [if_neg h27, if_neg h0]; unfold plainRI; rfl
          rw [e1] at go
          refine plainR_sp hpos (by omega) fun h3 he => ?_
          have ho3 := Own.gap (by assumption) he
          repeat (first | ((with_reducible apply newB_o); (with_reducible assumption); intro _ _ _) | ((with_reducible apply gap_o); (with_reducible assumption); intro _ _) | ((with_reducible apply st0); (with_reducible assumption); rfl; intro _ _) | ((with_reducible apply st1); (with_reducible assumption); rfl; intro _ _) | ((with_reducible apply st2); (with_reducible assumption); rfl; intro _ _) | ((with_reducible apply ldI0); (with_reducible assumption); rfl) | ((with_reducible apply ldI1); (with_reducible assumption); rfl) | ((with_reducible apply ldI2); (with_reducible assumption); rfl) | ((with_reducible apply ldB0); (with_reducible assumption); rfl) | ((with_reducible apply ldB1); (with_reducible assumption); rfl) | ((with_reducible apply ldS0); (with_reducible assumption); rfl) | ((with_reducible apply ldS1); (with_reducible assumption); rfl) | (with_reducible refine and_i (Own.tab (by with_reducible assumption) (by with_reducible assumption)) ?_) | (with_reducible apply nz_i))
          exact go _ (by assumption)
    · rw [if_neg hne]
      have hfl : flushL (f + 1) s acc = acc := by unfold flushL; rw [if_neg hne]
      rw [hfl] at hk
      exact hk _ _ _ _ _ ho hs
theorem flushR_sp {K : ByteArray → Option Addr → Nat → Nat → Heap → Prop} {h0 h : Heap} {l} {s : ByteArray} (ho : Own h0 h l) (hb : s.size ≤ 4000000000000)
    (hk : ∀ a n c o h', Own h0 h' (o ++ l) → SlO kf 2 36 a n c (flushV s) o → K ⟨#[]⟩ a n c h') : ref21_Flush s K h := by
  unfold ref21_Flush
  refine gap_o ho fun h1 ho1 => ?_
  refine newB_o ho1 fun b h2 ho2 => ⟨s.size + 1, flushR_loop (h0 := h0) (x := (b, #[.string ⟨#[]⟩], 26)) (l := l) _ s [] none 0 0 [] _ ho2 SlO.nil (by omega) (by simp only [List.length_nil]; omega) fun a n c o h' ho' hs' => ?_⟩
  have ho' : Own h0 h' ((b, #[.string ⟨#[]⟩], 26) :: (o ++ l)) := ho'
  repeat (first | ((with_reducible apply newB_o); (with_reducible assumption); intro _ _ _) | ((with_reducible apply gap_o); (with_reducible assumption); intro _ _) | ((with_reducible apply st0); (with_reducible assumption); rfl; intro _ _) | ((with_reducible apply st1); (with_reducible assumption); rfl; intro _ _) | ((with_reducible apply st2); (with_reducible assumption); rfl; intro _ _) | ((with_reducible apply ldI0); (with_reducible assumption); rfl) | ((with_reducible apply ldI1); (with_reducible assumption); rfl) | ((with_reducible apply ldI2); (with_reducible assumption); rfl) | ((with_reducible apply ldB0); (with_reducible assumption); rfl) | ((with_reducible apply ldB1); (with_reducible assumption); rfl) | ((with_reducible apply ldS0); (with_reducible assumption); rfl) | ((with_reducible apply ldS1); (with_reducible assumption); rfl) | (with_reducible refine and_i (Own.tab (by with_reducible assumption) (by with_reducible assumption)) ?_) | (with_reducible apply nz_i))
  exact hk a n c o _ (Own.tail (by assumption)) hs'
end Go.Proofs.YtkbpnmgkdodcmaaDoor.M
