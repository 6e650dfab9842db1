import Derived.Test.YtkbpnmgkdodcmaaDoorC4
set_option linter.unusedVariables false
set_option linter.unusedSimpArgs false
set_option maxRecDepth 100000
namespace Go.Proofs.YtkbpnmgkdodcmaaDoor.M
open Go Go.Hp

/-! ### The document's control sequences -/
def cI (s : ByteArray) : Nat → Int → Int
  | 0, i => i
  | f + 1, i => if ((((decide (i < (s.size : Int))) && (decide (32 ≤ (byteAt s i)))) && (decide ((byteAt s i) ≤ 63))) && (decide (i < 256))) = true then cI s f (i + 1) else i
theorem cI_loop {K0 : ByteArray → Nat → Int → Heap → Prop} {h : Heap} {s : ByteArray} {b : Nat} (hs : (s.size : Int) < 9223372036854775807) :
    ∀ (f : Nat) (i : Int), 2 ≤ i → s.size - i ≤ f → K0 s b (cI s f i) h → ref21_control_l0 K0 (f + 1) s b i h := by
  intro f
  induction f with
  | zero =>
    intro i h1 hf hk
    unfold ref21_control_l0
    refine ⟨fun _ => by omega, fun hh => by simpa using hh, fun _ => by omega, fun hh => ?_, ?_⟩
    · simp only [Bool.and_eq_true, decide_eq_true_eq] at hh; exact hh.1
    · rw [if_neg (by simp only [Bool.and_eq_true, decide_eq_true_eq]; omega)]
      exact hk
  | succ f ih =>
    intro i h1 hf hk
    unfold ref21_control_l0
    unfold cI at hk
    refine ⟨fun _ => by omega, fun hh => by simpa using hh, fun _ => by omega, fun hh => ?_, ?_⟩
    · simp only [Bool.and_eq_true, decide_eq_true_eq] at hh; exact hh.1
    · split
      · rename_i hc
        rw [if_pos hc] at hk
        simp only [Bool.and_eq_true, decide_eq_true_eq] at hc
        rw [wrap64 (x := i + 1) (by omega) (by omega)]
        exact ih (i + 1) (by omega) (by omega) hk
      · rename_i hc
        rw [if_neg hc] at hk
        exact hk
@[irreducible] def bytesI (c m : Int) : ByteArray := bytesV c m false
theorem bytesI_sp {c m : Int} {K : ByteArray → Heap → Prop} {h : Heap} (hK : ∀ h1, Ext h h1 → K (bytesI c m) h1) : ref21_Bytes c m false K h := by
  unfold bytesI at hK
  exact bytesR_sp hK
def fa (t : ByteArray) : List (Int × Int) → Option (Int × Int)
  | [] => none
  | k :: l => if 16777217 ≤ k.1 ∧ ref21_Valid k.1 k.2 = true ∧ ((bytesI k.1 k.2).data.toList == t.data.toList) = true then some k else fa t l
theorem fa_loop {K2 : Nat → Int → ByteArray → Heap → Prop} {Kr : Nat → Int → Heap → Prop} {h0 : Heap} {t : ByteArray} {b : Nat} {c0 c1 : Value} {tb} {l} {y : Int} {a : Option Addr} {n c : Nat} {ks : List (Int × Int)} (hn : n < 1000000) :
    ∀ (f : Nat) (i : Nat) (h : Heap), Own h0 h ((b, #[c0, c1], tb) :: l) → SlG h a n ks → n < f + i → i ≤ n →
      (∀ k h1, fa t (ks.drop i) = some k → Own h0 h1 ((b, #[.int .i64 k.1, .int .i64 k.2], tb) :: l) → Kr b (IntKind.wrap .i64 (y + 1)) h1) →
      (∀ h1, fa t (ks.drop i) = none → Own h0 h1 ((b, #[c0, c1], tb) :: l) → K2 b y t h1) → ref21_control_l1 K2 Kr f b y t a n c i h := by
  intro f
  induction f with
  | zero => intro i h ho h1 hf hi; omega
  | succ f ih =>
    intro i h ho h1 hf hi hr hk
    unfold ref21_control_l1
    simp only [toListE]
    have l1 := h1.1
    have e1 : IntKind.wrap .i64 ((i : Int) + 1) = ((i + 1 : Nat) : Int) := by rw [wrap64 (by omega) (by omega)]; omega
    by_cases hlt : (i : Int) < (n : Int)
    · rw [if_pos hlt]
      obtain ⟨p, rfl, d1, d2⟩ := h1.2 i (by omega)
      have hd : ks.drop i = ks.getD i (0, 0) :: ks.drop (i + 1) := by
        rw [List.drop_eq_getElem_cons (by omega), List.getD_eq_getElem?_getD, List.getElem?_eq_getElem (by omega)]
        rfl
      rw [hd] at hr hk
      unfold fa at hr hk
      generalize ks.getD i (0, 0) = k at *
      refine nz_i ⟨by omega, hlt, ⟨_, d1, ?_⟩⟩
      simp only []
      split
      · rename_i h16
        refine ⟨by omega, hlt, ⟨_, d1, ⟨_, d2, ?_⟩⟩⟩
        simp only []
        split
        · rename_i hv
          refine ⟨by omega, hlt, fun h3 he3 => ⟨_, he3.cell d1, ⟨_, he3.cell d2, bytesI_sp fun h4 he4 => ?_⟩⟩⟩
          have ho4 := ho.gap (he3.trans he4)
          split
          · rename_i hb
            rw [if_pos ⟨h16, hv, hb⟩] at hr
            refine ⟨by omega, hlt, ⟨_, (he3.trans he4).cell d1, ⟨_, (he3.trans he4).cell d2, ?_⟩⟩⟩
            repeat (first | ((with_reducible apply newB_o); (with_reducible assumption); intro _ _ _) | ((with_reducible apply gap_o); (with_reducible assumption); intro _ _) | ((with_reducible apply st0); (with_reducible assumption); rfl; intro _ _) | ((with_reducible apply st1); (with_reducible assumption); rfl; intro _ _) | ((with_reducible apply st2); (with_reducible assumption); rfl; intro _ _) | ((with_reducible apply ldI0); (with_reducible assumption); rfl) | ((with_reducible apply ldI1); (with_reducible assumption); rfl) | ((with_reducible apply ldI2); (with_reducible assumption); rfl) | ((with_reducible apply ldB0); (with_reducible assumption); rfl) | ((with_reducible apply ldB1); (with_reducible assumption); rfl) | ((with_reducible apply ldS0); (with_reducible assumption); rfl) | ((with_reducible apply ldS1); (with_reducible assumption); rfl) | (with_reducible refine and_i (Own.tab (by with_reducible assumption) (by with_reducible assumption)) ?_) | (with_reducible apply nz_i))
            exact hr k _ rfl (by assumption)
          · rename_i hb
            rw [if_neg (fun hh => hb hh.2.2)] at hr hk
            rw [e1]
            exact ih (i + 1) h4 ho4 (h1.ext (he3.trans he4)) (by omega) (by omega) hr hk
        · rename_i hv
          rw [if_neg (fun hh => hv hh.2.1)] at hr hk
          intro h3 he3
          rw [e1]
          exact ih (i + 1) h3 (ho.gap he3) (h1.ext he3) (by omega) (by omega) hr hk
      · rename_i h16
        rw [if_neg (fun hh => h16 hh.1)] at hr hk
        rw [e1]
        exact ih (i + 1) h ho h1 (by omega) (by omega) hr hk
    · rw [if_neg hlt]
      rw [List.drop_of_length_le (by omega)] at hk
      exact hk h rfl ho
def moreL : List ByteArray := [⟨#[27, 91, 49, 126]⟩, ⟨#[27, 91, 52, 126]⟩, ⟨#[27, 91, 49, 49, 126]⟩, ⟨#[27, 91, 49, 50, 126]⟩, ⟨#[27, 91, 49, 51, 126]⟩, ⟨#[27, 91, 49, 52, 126]⟩]
def moreC : List Int := [16777221, 16777222, 16777227, 16777228, 16777229, 16777230]
def fm (t : ByteArray) : Nat → Int → Option Int
  | 0, _ => none
  | f + 1, i => if i < 6 then if ((moreL.getD i.toNat ⟨#[]⟩).data.toList == t.data.toList) = true then some (moreC.getD i.toNat 0) else fm t f (i + 1) else none
theorem fm_loop {K4 : Nat → Int → Heap → Prop} {Kr : Nat → Int → Heap → Prop} {h0 : Heap} {t : ByteArray} {b b1 b2 : Nat} {c0 c1 : Value} {tb t1 t2} {l} {y : Int} :
    ∀ (f : Nat) (i : Int) (h : Heap), Own h0 h ((b2, (moreC.map (Value.int .i64)).toArray, t2) :: (b1, (moreL.map Value.string).toArray, t1) :: (b, #[c0, c1], tb) :: l) → 0 ≤ i → 6 - i ≤ f →
      (∀ k h1, fm t f i = some k → Own h0 h1 ((b2, (moreC.map (Value.int .i64)).toArray, t2) :: (b1, (moreL.map Value.string).toArray, t1) :: (b, #[.int .i64 k, .int .i64 0], tb) :: l) → Kr b (IntKind.wrap .i64 (y + 1)) h1) →
      (fm t f i = none → K4 b y h) → ref21_control_l2 K4 Kr (f + 1) b y t (some ⟨b1, 0, none⟩) 6 6 (some ⟨b2, 0, none⟩) 6 6 i h := by
  intro f
  have hl1 : moreL.length = 6 := rfl
  have hl2 : moreC.length = 6 := rfl
  induction f with
  | zero =>
    intro i h ho h1 hf hr hk
    unfold ref21_control_l2
    rw [if_neg (by omega)]
    exact hk rfl
  | succ f ih =>
    intro i h ho h1 hf hr hk
    unfold ref21_control_l2
    simp only [toListE]
    unfold fm at hr hk
    by_cases hi : i < 6
    · rw [if_pos hi] at hr hk
      rw [if_pos (by omega)]
      refine nz_i ⟨h1, by omega, ldS_x (v := moreL.getD i.toNat ⟨#[]⟩) ho.get1 ?_ ?_⟩
      · rw [Nat.mul_one, ← Array.getElem?_toList]
        show (moreL.map Value.string)[i.toNat]? = _
        rw [List.getElem?_map, List.getElem?_eq_getElem (by omega), List.getD_eq_getElem?_getD, List.getElem?_eq_getElem (by omega)]
        rfl
      · split
        · rename_i hc
          rw [if_pos hc] at hr
          refine nz_i ⟨h1, by omega, ldI_x (v := moreC.getD i.toNat 0) ho.get0 (getInts h1 (by omega)) ?_⟩
          repeat (first | ((with_reducible apply newB_o); (with_reducible assumption); intro _ _ _) | ((with_reducible apply gap_o); (with_reducible assumption); intro _ _) | ((with_reducible apply st0); (with_reducible assumption); rfl; intro _ _) | ((with_reducible apply st1); (with_reducible assumption); rfl; intro _ _) | ((with_reducible apply st2); (with_reducible assumption); rfl; intro _ _) | ((with_reducible apply ldI0); (with_reducible assumption); rfl) | ((with_reducible apply ldI1); (with_reducible assumption); rfl) | ((with_reducible apply ldI2); (with_reducible assumption); rfl) | ((with_reducible apply ldB0); (with_reducible assumption); rfl) | ((with_reducible apply ldB1); (with_reducible assumption); rfl) | ((with_reducible apply ldS0); (with_reducible assumption); rfl) | ((with_reducible apply ldS1); (with_reducible assumption); rfl) | (with_reducible refine and_i (Own.tab (by with_reducible assumption) (by with_reducible assumption)) ?_) | (with_reducible apply nz_i))
          exact hr _ _ rfl (by assumption)
        · rename_i hc
          rw [if_neg hc] at hr hk
          rw [wrap64 (x := i + 1) (by omega) (by omega)]
          exact ih (i + 1) h ho (by omega) (by omega) hr hk
    · rw [if_neg hi] at hk
      rw [if_neg (by omega)]
      exact hk rfl
@[irreducible] def faI (t : ByteArray) : Option (Int × Int) := fa t allL
@[irreducible] def fmI (t : ByteArray) : Option Int := fm t 6 0
def findR (t : ByteArray) : Int × Int := match faI t with
  | some k => k
  | none => match fmI t with
    | some c => (c, 0)
    | none => (0, 0)
@[irreducible] def cII (s : ByteArray) : Int := cI s s.size 2
def ctlR (s : ByteArray) : Int × Int × Int :=
  if cII s = 256 then (0, 0, cII s)
  else if cII s = (s.size : Int) then (0, 0, 0)
  else if ((decide ((byteAt s (cII s)) < 64)) || (decide (126 < (byteAt s (cII s))))) = true then (0, 0, cII s)
  else ((findR (s.extract 0 (cII s + 1).toNat)).1, (findR (s.extract 0 (cII s + 1).toNat)).2, IntKind.wrap .i64 (cII s + 1))
theorem cI_rng (s : ByteArray) : ∀ (f : Nat) (i : Int), 2 ≤ i → i ≤ s.size → 2 ≤ cI s f i ∧ cI s f i ≤ s.size := by
  intro f
  induction f with
  | zero => intro i h1 h2; unfold cI; omega
  | succ f ih =>
    intro i h1 h2
    unfold cI
    split
    · rename_i hc
      simp only [Bool.and_eq_true, decide_eq_true_eq] at hc
      exact ih (i + 1) (by omega) (by omega)
    · omega
end Go.Proofs.YtkbpnmgkdodcmaaDoor.M
