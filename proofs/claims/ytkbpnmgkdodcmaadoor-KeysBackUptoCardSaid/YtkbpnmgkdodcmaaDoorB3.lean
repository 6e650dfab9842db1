import Derived.Test.YtkbpnmgkdodcmaaDoorB2
import Derived.Test.YtkbpnmgkdodcmaaDoorHpS
set_option linter.unusedVariables false
set_option linter.unusedSimpArgs false
set_option maxRecDepth 100000
namespace Go.Proofs.YtkbpnmgkdodcmaaDoor.M
open Go Go.Hp

theorem toListL (s : ByteArray) : ∀ (n i : Nat) (r : List UInt8), s.size - i = n → ByteArray.toList.loop s i r = r.reverse ++ s.data.toList.drop i
  | 0, i, r, hn => by
    unfold ByteArray.toList.loop
    have hs : s.data.toList.length = s.size := rfl
    rw [if_neg (by omega), List.drop_of_length_le (by omega)]
    simp
  | n + 1, i, r, hn => by
    unfold ByteArray.toList.loop
    have hs : s.data.toList.length = s.size := rfl
    rw [if_pos (by omega), toListL s n (i + 1) _ (by omega), List.drop_eq_getElem_cons (show i < s.data.toList.length by omega)]
    have hlt : i < s.data.size := by have : s.data.size = s.size := rfl; omega
    have : s.get! i = s.data[i] := by
      show s.data[i]! = _
      rw [getElem!_pos s.data i hlt]
    rw [this]
    simp
theorem toListE (s : ByteArray) : s.toList = s.data.toList := by
  have := toListL s s.size 0 [] (by omega)
  exact this.trans (by simp)
theorem len_of_beq {s : ByteArray} {l : List UInt8} (h : (s.data.toList == l) = true) : s.size = l.length := by
  have : s.data.toList = l := by simpa using h
  show s.data.toList.length = l.length
  rw [this]
def hasV (x p : ByteArray) : Bool := ((decide ((p.size : Int) ≤ (x.size : Int))) && ((x.extract 0 ((p.size : Int).toNat)).data.toList == p.data.toList))
def cutV (x p : ByteArray) : ByteArray × Bool := if (!hasV x p) = true then (x, false) else (x.extract ((p.size : Int).toNat) x.size, true)
theorem cut_sp (x p : ByteArray) : strings_CutPrefix x p = some (cutV x p) := by
  have h1 : internal_stringslite_HasPrefix x p = some (hasV x p) := by
    unfold internal_stringslite_HasPrefix
    simp only [toListE]
    rw [if_pos (fun _ => by omega), if_pos (fun h => by simpa using h)]
    rfl
  unfold strings_CutPrefix internal_stringslite_CutPrefix
  rw [h1]
  simp only [Option.bind_some]
  unfold cutV
  split
  · rfl
  · rename_i hh
    have : ((p.size : Int) ≤ (x.size : Int)) := by
      have h2 : hasV x p = true := by simpa using hh
      unfold hasV at h2
      simp only [Bool.and_eq_true, decide_eq_true_eq] at h2
      exact h2.1
    rw [if_pos (by omega), if_pos this]
    rfl

def matchV (s : ByteArray) (c m : Int) : Bool := ((cutV (spV c m false) ⟨#[27, 91]⟩).2 && ((cutV (spV c m false) ⟨#[27, 91]⟩).1.data.toList == s.data.toList))
def wl3 (s : ByteArray) (i : Int) : Nat → Int → Option Int
  | 0, _ => none
  | f + 1, m => if m < 8 then if matchV s (IntKind.wrap .i64 (16777217 + i)) m = true then some m else wl3 s i f (m + 1) else none
@[irreducible] def wl30 (s : ByteArray) (i : Int) : Option Int := wl3 s i 8 0
def wl2 (s : ByteArray) : Nat → Int → Option (Int × Int)
  | 0, _ => none
  | f + 1, i => if i < 22 then match wl30 s i with
      | some m => some (IntKind.wrap .i64 (16777217 + i), m)
      | none => wl2 s f (i + 1)
    else none
@[irreducible] def wl20 (s : ByteArray) : Option (Int × Int) := wl2 s 22 0
def searchV (s : ByteArray) : Int × Int × Bool := match wl20 s with
  | some (c, m) => (c, m, true)
  | none => (0, 0, false)
def fV (s : ByteArray) : Int × Int × Bool := (IntKind.wrap .i64 (16777227 + (IntKind.wrap .i64 (IntKind.wrap .u8 ((byteAt s 1) - 49)))), 0, true)
def wholeV (a1 : ByteArray) : Int × Int × Bool :=
  if (a1.data.toList == (⟨#[90]⟩ : ByteArray).data.toList) = true then (16777239, 0, true)
  else if (a1.data.toList == (⟨#[49, 126]⟩ : ByteArray).data.toList) = true then (16777221, 0, true)
  else if (a1.data.toList == (⟨#[52, 126]⟩ : ByteArray).data.toList) = true then (16777222, 0, true)
  else if (a1.data.toList == (⟨#[49, 49, 126]⟩ : ByteArray).data.toList) = true then fV a1
  else if (a1.data.toList == (⟨#[49, 50, 126]⟩ : ByteArray).data.toList) = true then fV a1
  else if (a1.data.toList == (⟨#[49, 51, 126]⟩ : ByteArray).data.toList) = true then fV a1
  else if (a1.data.toList == (⟨#[49, 52, 126]⟩ : ByteArray).data.toList) = true then fV a1
  else searchV a1

theorem whole_l3 {K3 : ByteArray → Nat → Int → Heap → Prop} {Kr : Nat → Bool → Heap → Prop} {h0 : Heap} {s : ByteArray} {i z : Int} {b : Nat} {c0 c1 : Value} {t} {l} (hT : TabH h0) (hi0 : 0 ≤ i) (hi1 : i < 22) :
    ∀ (f : Nat) (m : Int) (h : Heap), Own h0 h ((b, #[c0, c1], t) :: l) → 0 ≤ m → 8 - m ≤ f →
      (∀ j h1, wl3 s i f m = some j → Own h0 h1 ((b, #[.int .i64 (IntKind.wrap .i64 (16777217 + i)), .int .i64 j], t) :: l) → Kr b true h1) → (∀ h1, wl3 s i f m = none → Own h0 h1 ((b, #[c0, c1], t) :: l) → K3 s b z h1) →
      keys_whole_l3 K3 Kr (f + 1) s b i m z h
  | 0, m, h, ho, h1, hf, hr, hk => by
    unfold keys_whole_l3
    rw [if_neg (by omega)]
    exact hk h rfl ho
  | f + 1, m, h, ho, h1, hf, hr, hk => by
    have e1 : IntKind.wrap .i64 (16777217 + i) = 16777217 + i := wrap64 (by omega) (by omega)
    unfold keys_whole_l3
    unfold wl3 matchV at hr hk
    by_cases hi : m < 8
    · simp only [if_pos hi] at hr hk ⊢
      repeat (first | ((with_reducible apply newB_o); (with_reducible assumption); intro _ _ _) | ((with_reducible apply gap_o); (with_reducible assumption); intro _ _) | ((with_reducible apply st0); (with_reducible assumption); rfl; intro _ _) | ((with_reducible apply st1); (with_reducible assumption); rfl; intro _ _) | ((with_reducible apply st2); (with_reducible assumption); rfl; intro _ _) | ((with_reducible apply ldI0); (with_reducible assumption); rfl) | ((with_reducible apply ldI1); (with_reducible assumption); rfl) | ((with_reducible apply ldI2); (with_reducible assumption); rfl) | ((with_reducible apply ldB0); (with_reducible assumption); rfl) | ((with_reducible apply ldB1); (with_reducible assumption); rfl) | ((with_reducible apply ldS0); (with_reducible assumption); rfl) | ((with_reducible apply ldS1); (with_reducible assumption); rfl) | (with_reducible refine and_i (Own.tab (by with_reducible assumption) (by with_reducible assumption)) ?_) | (with_reducible apply nz_i))
      refine sp_sp ((‹Own h0 _ _›).tab hT) (by omega) (by omega) (by omega) (by omega) fun h2 he => ?_
      have ho2 := Own.gap (by assumption) he
      refine ex_i (cut_sp _ _) ?_
      simp only [toListE]
      split
      · rename_i hc
        rw [if_pos hc] at hr
        repeat (first | ((with_reducible apply newB_o); (with_reducible assumption); intro _ _ _) | ((with_reducible apply gap_o); (with_reducible assumption); intro _ _) | ((with_reducible apply st0); (with_reducible assumption); rfl; intro _ _) | ((with_reducible apply st1); (with_reducible assumption); rfl; intro _ _) | ((with_reducible apply st2); (with_reducible assumption); rfl; intro _ _) | ((with_reducible apply ldI0); (with_reducible assumption); rfl) | ((with_reducible apply ldI1); (with_reducible assumption); rfl) | ((with_reducible apply ldI2); (with_reducible assumption); rfl) | ((with_reducible apply ldB0); (with_reducible assumption); rfl) | ((with_reducible apply ldB1); (with_reducible assumption); rfl) | ((with_reducible apply ldS0); (with_reducible assumption); rfl) | ((with_reducible apply ldS1); (with_reducible assumption); rfl) | (with_reducible refine and_i (Own.tab (by with_reducible assumption) (by with_reducible assumption)) ?_) | (with_reducible apply nz_i))
        exact hr m _ rfl (Own.tail (by assumption))
      · rename_i hc
        rw [if_neg hc] at hr hk
        repeat (first | ((with_reducible apply newB_o); (with_reducible assumption); intro _ _ _) | ((with_reducible apply gap_o); (with_reducible assumption); intro _ _) | ((with_reducible apply st0); (with_reducible assumption); rfl; intro _ _) | ((with_reducible apply st1); (with_reducible assumption); rfl; intro _ _) | ((with_reducible apply st2); (with_reducible assumption); rfl; intro _ _) | ((with_reducible apply ldI0); (with_reducible assumption); rfl) | ((with_reducible apply ldI1); (with_reducible assumption); rfl) | ((with_reducible apply ldI2); (with_reducible assumption); rfl) | ((with_reducible apply ldB0); (with_reducible assumption); rfl) | ((with_reducible apply ldB1); (with_reducible assumption); rfl) | ((with_reducible apply ldS0); (with_reducible assumption); rfl) | ((with_reducible apply ldS1); (with_reducible assumption); rfl) | (with_reducible refine and_i (Own.tab (by with_reducible assumption) (by with_reducible assumption)) ?_) | (with_reducible apply nz_i))
        rw [wrap64 (by omega) (by omega)]
        exact whole_l3 hT hi0 hi1 f (m + 1) _ (Own.tail (by assumption)) (by omega) (by omega) hr hk
    · rw [if_neg hi]
      rw [if_neg hi] at hk
      exact hk h rfl ho
theorem whole_l2 {K1 : Nat → Heap → Prop} {Kr : Nat → Bool → Heap → Prop} {h0 : Heap} {s : ByteArray} {b : Nat} {c0 c1 : Value} {t} {l} (hT : TabH h0) :
    ∀ (f : Nat) (i : Int) (h : Heap), Own h0 h ((b, #[c0, c1], t) :: l) → 0 ≤ i → 22 - i ≤ f →
      (∀ c j h1, wl2 s f i = some (c, j) → Own h0 h1 ((b, #[.int .i64 c, .int .i64 j], t) :: l) → Kr b true h1) → (∀ h1, wl2 s f i = none → Own h0 h1 ((b, #[c0, c1], t) :: l) → K1 b h1) →
      keys_whole_l2 K1 Kr (f + 1) s b i h := by
  intro f
  induction f with
  | zero =>
    intro i h ho h1 hf hr hk
    unfold keys_whole_l2
    rw [if_neg (by omega)]
    exact hk h rfl ho
  | succ f ih =>
    intro i h ho h1 hf hr hk
    unfold keys_whole_l2
    unfold wl2 at hr hk
    by_cases hi : i < 22
    · simp only [if_pos hi] at hr hk ⊢
      refine ⟨8 + 1, whole_l3 hT h1 hi 8 0 h ho (by omega) (by omega) (fun j h2 hj ho2 => ?_) (fun h2 hj ho2 => ?_)⟩
      · have hj' : wl30 s i = some j := by unfold wl30; exact hj
        rw [hj'] at hr
        exact hr _ j h2 rfl ho2
      · have hj' : wl30 s i = none := by unfold wl30; exact hj
        rw [hj'] at hr hk
        rw [wrap64 (by omega) (by omega)]
        exact ih (i + 1) _ ho2 (by omega) (by omega) hr hk
    · rw [if_neg hi]
      rw [if_neg hi] at hk
      exact hk h rfl ho
theorem whole_j1 {Kr : Nat → Bool → Heap → Prop} {h0 h : Heap} {s : ByteArray} {b : Nat} {c0 c1 : Value} {t} {l} (hT : TabH h0) (ho : Own h0 h ((b, #[c0, c1], t) :: l))
    (hr : ∀ h1, Own h0 h1 ((b, #[.int .i64 (searchV s).1, .int .i64 (searchV s).2.1], t) :: l) → Kr b (searchV s).2.2 h1) : keys_whole_j1 Kr s b h := by
  unfold keys_whole_j1
  unfold searchV at hr
  refine ⟨22 + 1, whole_l2 hT 22 0 h ho (by omega) (by omega) (fun c j h2 hj ho2 => ?_) (fun h2 hj ho2 => ?_)⟩
  · have hj' : wl20 s = some (c, j) := by unfold wl20; exact hj
    rw [hj'] at hr
    exact hr h2 ho2
  · have hj' : wl20 s = none := by unfold wl20; exact hj
    rw [hj'] at hr
    repeat (first | ((with_reducible apply newB_o); (with_reducible assumption); intro _ _ _) | ((with_reducible apply gap_o); (with_reducible assumption); intro _ _) | ((with_reducible apply st0); (with_reducible assumption); rfl; intro _ _) | ((with_reducible apply st1); (with_reducible assumption); rfl; intro _ _) | ((with_reducible apply st2); (with_reducible assumption); rfl; intro _ _) | ((with_reducible apply ldI0); (with_reducible assumption); rfl) | ((with_reducible apply ldI1); (with_reducible assumption); rfl) | ((with_reducible apply ldI2); (with_reducible assumption); rfl) | ((with_reducible apply ldB0); (with_reducible assumption); rfl) | ((with_reducible apply ldB1); (with_reducible assumption); rfl) | ((with_reducible apply ldS0); (with_reducible assumption); rfl) | ((with_reducible apply ldS1); (with_reducible assumption); rfl) | (with_reducible refine and_i (Own.tab (by with_reducible assumption) (by with_reducible assumption)) ?_) | (with_reducible apply nz_i))
    exact hr _ (by assumption)
theorem whole_sp {s : ByteArray} {K : Int → Int → Bool → Heap → Prop} {h : Heap} (hT : TabH h) (hK : ∀ h1, Ext h h1 → K (wholeV s).1 (wholeV s).2.1 (wholeV s).2.2 h1) : keys_whole s K h := by
  have ho := Own.init h
  unfold keys_whole
  simp only [toListE]
  unfold wholeV at hK
  repeat (first | ((with_reducible apply newB_o); (with_reducible assumption); intro _ _ _) | ((with_reducible apply gap_o); (with_reducible assumption); intro _ _) | ((with_reducible apply st0); (with_reducible assumption); rfl; intro _ _) | ((with_reducible apply st1); (with_reducible assumption); rfl; intro _ _) | ((with_reducible apply st2); (with_reducible assumption); rfl; intro _ _) | ((with_reducible apply ldI0); (with_reducible assumption); rfl) | ((with_reducible apply ldI1); (with_reducible assumption); rfl) | ((with_reducible apply ldI2); (with_reducible assumption); rfl) | ((with_reducible apply ldB0); (with_reducible assumption); rfl) | ((with_reducible apply ldB1); (with_reducible assumption); rfl) | ((with_reducible apply ldS0); (with_reducible assumption); rfl) | ((with_reducible apply ldS1); (with_reducible assumption); rfl) | (with_reducible refine and_i (Own.tab (by with_reducible assumption) (by with_reducible assumption)) ?_) | (with_reducible apply nz_i))
  split
  · rename_i hc
    simp only [if_pos hc] at hK
    repeat (first | ((with_reducible apply newB_o); (with_reducible assumption); intro _ _ _) | ((with_reducible apply gap_o); (with_reducible assumption); intro _ _) | ((with_reducible apply st0); (with_reducible assumption); rfl; intro _ _) | ((with_reducible apply st1); (with_reducible assumption); rfl; intro _ _) | ((with_reducible apply st2); (with_reducible assumption); rfl; intro _ _) | ((with_reducible apply ldI0); (with_reducible assumption); rfl) | ((with_reducible apply ldI1); (with_reducible assumption); rfl) | ((with_reducible apply ldI2); (with_reducible assumption); rfl) | ((with_reducible apply ldB0); (with_reducible assumption); rfl) | ((with_reducible apply ldB1); (with_reducible assumption); rfl) | ((with_reducible apply ldS0); (with_reducible assumption); rfl) | ((with_reducible apply ldS1); (with_reducible assumption); rfl) | (with_reducible refine and_i (Own.tab (by with_reducible assumption) (by with_reducible assumption)) ?_) | (with_reducible apply nz_i))
    exact hK _ (Own.ext (by assumption))
  · rename_i hc
    simp only [if_neg hc] at hK
    split
    · rename_i hc
      simp only [if_pos hc] at hK
      repeat (first | ((with_reducible apply newB_o); (with_reducible assumption); intro _ _ _) | ((with_reducible apply gap_o); (with_reducible assumption); intro _ _) | ((with_reducible apply st0); (with_reducible assumption); rfl; intro _ _) | ((with_reducible apply st1); (with_reducible assumption); rfl; intro _ _) | ((with_reducible apply st2); (with_reducible assumption); rfl; intro _ _) | ((with_reducible apply ldI0); (with_reducible assumption); rfl) | ((with_reducible apply ldI1); (with_reducible assumption); rfl) | ((with_reducible apply ldI2); (with_reducible assumption); rfl) | ((with_reducible apply ldB0); (with_reducible assumption); rfl) | ((with_reducible apply ldB1); (with_reducible assumption); rfl) | ((with_reducible apply ldS0); (with_reducible assumption); rfl) | ((with_reducible apply ldS1); (with_reducible assumption); rfl) | (with_reducible refine and_i (Own.tab (by with_reducible assumption) (by with_reducible assumption)) ?_) | (with_reducible apply nz_i))
      exact hK _ (Own.ext (by assumption))
    · rename_i hc
      simp only [if_neg hc] at hK
      split
      · rename_i hc
        simp only [if_pos hc] at hK
        repeat (first | ((with_reducible apply newB_o); (with_reducible assumption); intro _ _ _) | ((with_reducible apply gap_o); (with_reducible assumption); intro _ _) | ((with_reducible apply st0); (with_reducible assumption); rfl; intro _ _) | ((with_reducible apply st1); (with_reducible assumption); rfl; intro _ _) | ((with_reducible apply st2); (with_reducible assumption); rfl; intro _ _) | ((with_reducible apply ldI0); (with_reducible assumption); rfl) | ((with_reducible apply ldI1); (with_reducible assumption); rfl) | ((with_reducible apply ldI2); (with_reducible assumption); rfl) | ((with_reducible apply ldB0); (with_reducible assumption); rfl) | ((with_reducible apply ldB1); (with_reducible assumption); rfl) | ((with_reducible apply ldS0); (with_reducible assumption); rfl) | ((with_reducible apply ldS1); (with_reducible assumption); rfl) | (with_reducible refine and_i (Own.tab (by with_reducible assumption) (by with_reducible assumption)) ?_) | (with_reducible apply nz_i))
        exact hK _ (Own.ext (by assumption))
      · rename_i hc
        simp only [if_neg hc] at hK
        split
        · rename_i hc
          simp only [if_pos hc] at hK
          unfold keys_whole_j0
          rw [if_pos hc]
          refine ⟨by rw [len_of_beq hc]; decide, ?_⟩
          repeat (first | ((with_reducible apply newB_o); (with_reducible assumption); intro _ _ _) | ((with_reducible apply gap_o); (with_reducible assumption); intro _ _) | ((with_reducible apply st0); (with_reducible assumption); rfl; intro _ _) | ((with_reducible apply st1); (with_reducible assumption); rfl; intro _ _) | ((with_reducible apply st2); (with_reducible assumption); rfl; intro _ _) | ((with_reducible apply ldI0); (with_reducible assumption); rfl) | ((with_reducible apply ldI1); (with_reducible assumption); rfl) | ((with_reducible apply ldI2); (with_reducible assumption); rfl) | ((with_reducible apply ldB0); (with_reducible assumption); rfl) | ((with_reducible apply ldB1); (with_reducible assumption); rfl) | ((with_reducible apply ldS0); (with_reducible assumption); rfl) | ((with_reducible apply ldS1); (with_reducible assumption); rfl) | (with_reducible refine and_i (Own.tab (by with_reducible assumption) (by with_reducible assumption)) ?_) | (with_reducible apply nz_i))
          exact hK _ (Own.ext (by assumption))
        · rename_i hc
          simp only [if_neg hc] at hK
          split
          · rename_i hc
            simp only [if_pos hc] at hK
            unfold keys_whole_j0
            rw [if_pos hc]
            refine ⟨by rw [len_of_beq hc]; decide, ?_⟩
            repeat (first | ((with_reducible apply newB_o); (with_reducible assumption); intro _ _ _) | ((with_reducible apply gap_o); (with_reducible assumption); intro _ _) | ((with_reducible apply st0); (with_reducible assumption); rfl; intro _ _) | ((with_reducible apply st1); (with_reducible assumption); rfl; intro _ _) | ((with_reducible apply st2); (with_reducible assumption); rfl; intro _ _) | ((with_reducible apply ldI0); (with_reducible assumption); rfl) | ((with_reducible apply ldI1); (with_reducible assumption); rfl) | ((with_reducible apply ldI2); (with_reducible assumption); rfl) | ((with_reducible apply ldB0); (with_reducible assumption); rfl) | ((with_reducible apply ldB1); (with_reducible assumption); rfl) | ((with_reducible apply ldS0); (with_reducible assumption); rfl) | ((with_reducible apply ldS1); (with_reducible assumption); rfl) | (with_reducible refine and_i (Own.tab (by with_reducible assumption) (by with_reducible assumption)) ?_) | (with_reducible apply nz_i))
            exact hK _ (Own.ext (by assumption))
          · rename_i hc
            simp only [if_neg hc] at hK
            split
            · rename_i hc
              simp only [if_pos hc] at hK
              unfold keys_whole_j0
              rw [if_pos hc]
              refine ⟨by rw [len_of_beq hc]; decide, ?_⟩
              repeat (first | ((with_reducible apply newB_o); (with_reducible assumption); intro _ _ _) | ((with_reducible apply gap_o); (with_reducible assumption); intro _ _) | ((with_reducible apply st0); (with_reducible assumption); rfl; intro _ _) | ((with_reducible apply st1); (with_reducible assumption); rfl; intro _ _) | ((with_reducible apply st2); (with_reducible assumption); rfl; intro _ _) | ((with_reducible apply ldI0); (with_reducible assumption); rfl) | ((with_reducible apply ldI1); (with_reducible assumption); rfl) | ((with_reducible apply ldI2); (with_reducible assumption); rfl) | ((with_reducible apply ldB0); (with_reducible assumption); rfl) | ((with_reducible apply ldB1); (with_reducible assumption); rfl) | ((with_reducible apply ldS0); (with_reducible assumption); rfl) | ((with_reducible apply ldS1); (with_reducible assumption); rfl) | (with_reducible refine and_i (Own.tab (by with_reducible assumption) (by with_reducible assumption)) ?_) | (with_reducible apply nz_i))
              exact hK _ (Own.ext (by assumption))
            · rename_i hc
              simp only [if_neg hc] at hK
              unfold keys_whole_j0
              split
              · rename_i hc
                simp only [if_pos hc] at hK
                refine ⟨by rw [len_of_beq hc]; decide, ?_⟩
                repeat (first | ((with_reducible apply newB_o); (with_reducible assumption); intro _ _ _) | ((with_reducible apply gap_o); (with_reducible assumption); intro _ _) | ((with_reducible apply st0); (with_reducible assumption); rfl; intro _ _) | ((with_reducible apply st1); (with_reducible assumption); rfl; intro _ _) | ((with_reducible apply st2); (with_reducible assumption); rfl; intro _ _) | ((with_reducible apply ldI0); (with_reducible assumption); rfl) | ((with_reducible apply ldI1); (with_reducible assumption); rfl) | ((with_reducible apply ldI2); (with_reducible assumption); rfl) | ((with_reducible apply ldB0); (with_reducible assumption); rfl) | ((with_reducible apply ldB1); (with_reducible assumption); rfl) | ((with_reducible apply ldS0); (with_reducible assumption); rfl) | ((with_reducible apply ldS1); (with_reducible assumption); rfl) | (with_reducible refine and_i (Own.tab (by with_reducible assumption) (by with_reducible assumption)) ?_) | (with_reducible apply nz_i))
                exact hK _ (Own.ext (by assumption))
              · rename_i hc
                simp only [if_neg hc] at hK
                refine whole_j1 hT (by assumption) fun h1 ho1 => ?_
                repeat (first | ((with_reducible apply newB_o); (with_reducible assumption); intro _ _ _) | ((with_reducible apply gap_o); (with_reducible assumption); intro _ _) | ((with_reducible apply st0); (with_reducible assumption); rfl; intro _ _) | ((with_reducible apply st1); (with_reducible assumption); rfl; intro _ _) | ((with_reducible apply st2); (with_reducible assumption); rfl; intro _ _) | ((with_reducible apply ldI0); (with_reducible assumption); rfl) | ((with_reducible apply ldI1); (with_reducible assumption); rfl) | ((with_reducible apply ldI2); (with_reducible assumption); rfl) | ((with_reducible apply ldB0); (with_reducible assumption); rfl) | ((with_reducible apply ldB1); (with_reducible assumption); rfl) | ((with_reducible apply ldS0); (with_reducible assumption); rfl) | ((with_reducible apply ldS1); (with_reducible assumption); rfl) | (with_reducible refine and_i (Own.tab (by with_reducible assumption) (by with_reducible assumption)) ?_) | (with_reducible apply nz_i))
                exact hK _ ho1.ext
end Go.Proofs.YtkbpnmgkdodcmaaDoor.M
