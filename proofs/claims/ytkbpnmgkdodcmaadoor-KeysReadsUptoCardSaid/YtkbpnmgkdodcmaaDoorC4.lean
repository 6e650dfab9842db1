import Derived.Test.YtkbpnmgkdodcmaaDoorC3
import Derived.Test.YtkbpnmgkdodcmaaDoorB11
set_option linter.unusedVariables false
set_option linter.unusedSimpArgs false
set_option maxRecDepth 100000
namespace Go.Proofs.YtkbpnmgkdodcmaaDoor.M
open Go Go.Hp

@[irreducible] def plainRI (s : ByteArray) : Int × Int × Int := plainR s
theorem plainRI_sp {s : ByteArray} {K : Int → Int → Int → Heap → Prop} {h : Heap} (hp : 0 < s.size) (hs : (s.size : Int) < 9223372036854775807)
    (hK : ∀ h1, Ext h h1 → K (plainRI s).1 (plainRI s).2.1 (plainRI s).2.2 h1) : ref21_plain s K h := by
  unfold plainRI at hK
  exact plainR_sp hp hs hK
def metaR (s : ByteArray) : Int × Int × Int :=
  if byteAt s 1 = 27 then (27, 2, 2)
  else if (plainRI (s.extract ((1 : Int).toNat) s.size)).2.2 = 0 then (0, 0, 0)
  else if (!(((plainRI (s.extract ((1 : Int).toNat) s.size)).1 == 0) && ((plainRI (s.extract ((1 : Int).toNat) s.size)).2.1 == 0))) = true then
    ((plainRI (s.extract ((1 : Int).toNat) s.size)).1, IntKind.wrap .i64 ((plainRI (s.extract ((1 : Int).toNat) s.size)).2.1 + 2), IntKind.wrap .i64 ((plainRI (s.extract ((1 : Int).toNat) s.size)).2.2 + 1))
  else ((plainRI (s.extract ((1 : Int).toNat) s.size)).1, (plainRI (s.extract ((1 : Int).toNat) s.size)).2.1, IntKind.wrap .i64 ((plainRI (s.extract ((1 : Int).toNat) s.size)).2.2 + 1))
theorem metaR_sp {s : ByteArray} {K : Int → Int → Int → Heap → Prop} {h : Heap} (hp : 1 < s.size) (hs : (s.size : Int) < 9223372036854775807)
    (hK : ∀ h1, Ext h h1 → K (metaR s).1 (metaR s).2.1 (metaR s).2.2 h1) : ref21_meta s K h := by
  have ho := Own.init h
  unfold ref21_meta
  unfold metaR at hK
  have hsz : (s.extract ((1 : Int).toNat) s.size).size = s.size - 1 := by rw [ByteArray.size_extract]; omega
  repeat (first | ((with_reducible apply newB_o); (with_reducible assumption); intro _ _ _) | ((with_reducible apply gap_o); (with_reducible assumption); intro _ _) | ((with_reducible apply st0); (with_reducible assumption); rfl; intro _ _) | ((with_reducible apply st1); (with_reducible assumption); rfl; intro _ _) | ((with_reducible apply st2); (with_reducible assumption); rfl; intro _ _) | ((with_reducible apply ldI0); (with_reducible assumption); rfl) | ((with_reducible apply ldI1); (with_reducible assumption); rfl) | ((with_reducible apply ldI2); (with_reducible assumption); rfl) | ((with_reducible apply ldB0); (with_reducible assumption); rfl) | ((with_reducible apply ldB1); (with_reducible assumption); rfl) | ((with_reducible apply ldS0); (with_reducible assumption); rfl) | ((with_reducible apply ldS1); (with_reducible assumption); rfl) | (with_reducible refine and_i (Own.tab (by with_reducible assumption) (by with_reducible assumption)) ?_) | (with_reducible apply nz_i))
  refine ⟨by omega, ?_⟩
  split
  · rename_i hc
    rw [if_pos hc] at hK
    repeat (first | ((with_reducible apply newB_o); (with_reducible assumption); intro _ _ _) | ((with_reducible apply gap_o); (with_reducible assumption); intro _ _) | ((with_reducible apply st0); (with_reducible assumption); rfl; intro _ _) | ((with_reducible apply st1); (with_reducible assumption); rfl; intro _ _) | ((with_reducible apply st2); (with_reducible assumption); rfl; intro _ _) | ((with_reducible apply ldI0); (with_reducible assumption); rfl) | ((with_reducible apply ldI1); (with_reducible assumption); rfl) | ((with_reducible apply ldI2); (with_reducible assumption); rfl) | ((with_reducible apply ldB0); (with_reducible assumption); rfl) | ((with_reducible apply ldB1); (with_reducible assumption); rfl) | ((with_reducible apply ldS0); (with_reducible assumption); rfl) | ((with_reducible apply ldS1); (with_reducible assumption); rfl) | (with_reducible refine and_i (Own.tab (by with_reducible assumption) (by with_reducible assumption)) ?_) | (with_reducible apply nz_i))
    exact hK _ (Own.ext (by assumption))
  rename_i hc
  rw [if_neg hc] at hK
  refine ⟨by omega, plainRI_sp (by omega) (by omega) fun h2 he => ?_⟩
  have ho2 := Own.gap (by assumption) he
  split
  · rename_i hc
    rw [if_pos hc] at hK
    repeat (first | ((with_reducible apply newB_o); (with_reducible assumption); intro _ _ _) | ((with_reducible apply gap_o); (with_reducible assumption); intro _ _) | ((with_reducible apply st0); (with_reducible assumption); rfl; intro _ _) | ((with_reducible apply st1); (with_reducible assumption); rfl; intro _ _) | ((with_reducible apply st2); (with_reducible assumption); rfl; intro _ _) | ((with_reducible apply ldI0); (with_reducible assumption); rfl) | ((with_reducible apply ldI1); (with_reducible assumption); rfl) | ((with_reducible apply ldI2); (with_reducible assumption); rfl) | ((with_reducible apply ldB0); (with_reducible assumption); rfl) | ((with_reducible apply ldB1); (with_reducible assumption); rfl) | ((with_reducible apply ldS0); (with_reducible assumption); rfl) | ((with_reducible apply ldS1); (with_reducible assumption); rfl) | (with_reducible refine and_i (Own.tab (by with_reducible assumption) (by with_reducible assumption)) ?_) | (with_reducible apply nz_i))
    exact hK _ (Own.ext (by assumption))
  rename_i hc
  rw [if_neg hc] at hK
  split
  · rename_i hc
    rw [if_pos hc] at hK
    repeat (first | ((with_reducible apply newB_o); (with_reducible assumption); intro _ _ _) | ((with_reducible apply gap_o); (with_reducible assumption); intro _ _) | ((with_reducible apply st0); (with_reducible assumption); rfl; intro _ _) | ((with_reducible apply st1); (with_reducible assumption); rfl; intro _ _) | ((with_reducible apply st2); (with_reducible assumption); rfl; intro _ _) | ((with_reducible apply ldI0); (with_reducible assumption); rfl) | ((with_reducible apply ldI1); (with_reducible assumption); rfl) | ((with_reducible apply ldI2); (with_reducible assumption); rfl) | ((with_reducible apply ldB0); (with_reducible assumption); rfl) | ((with_reducible apply ldB1); (with_reducible assumption); rfl) | ((with_reducible apply ldS0); (with_reducible assumption); rfl) | ((with_reducible apply ldS1); (with_reducible assumption); rfl) | (with_reducible refine and_i (Own.tab (by with_reducible assumption) (by with_reducible assumption)) ?_) | (with_reducible apply nz_i))
    exact hK _ (Own.ext (by assumption))
  · rename_i hc
    rw [if_neg hc] at hK
    repeat (first | ((with_reducible apply newB_o); (with_reducible assumption); intro _ _ _) | ((with_reducible apply gap_o); (with_reducible assumption); intro _ _) | ((with_reducible apply st0); (with_reducible assumption); rfl; intro _ _) | ((with_reducible apply st1); (with_reducible assumption); rfl; intro _ _) | ((with_reducible apply st2); (with_reducible assumption); rfl; intro _ _) | ((with_reducible apply ldI0); (with_reducible assumption); rfl) | ((with_reducible apply ldI1); (with_reducible assumption); rfl) | ((with_reducible apply ldI2); (with_reducible assumption); rfl) | ((with_reducible apply ldB0); (with_reducible assumption); rfl) | ((with_reducible apply ldB1); (with_reducible assumption); rfl) | ((with_reducible apply ldS0); (with_reducible assumption); rfl) | ((with_reducible apply ldS1); (with_reducible assumption); rfl) | (with_reducible refine and_i (Own.tab (by with_reducible assumption) (by with_reducible assumption)) ?_) | (with_reducible apply nz_i))
    exact hK _ (Own.ext (by assumption))

/-! ### All keys -/
def al1 (m : Int) : Nat → Int → List (Int × Int) → List (Int × Int)
  | 0, _, acc => acc
  | f + 1, c, acc => if c < 128 then al1 m f (c + 1) (acc ++ [(c, m)]) else acc
def al2 (m : Int) : Nat → Int → List (Int × Int) → List (Int × Int)
  | 0, _, acc => acc
  | f + 1, c, acc => if c ≤ 16777239 then al2 m f (c + 1) (acc ++ [(c, m)]) else acc
@[irreducible] def al12 (m : Int) (acc : List (Int × Int)) : List (Int × Int) := al2 m 24 16777217 (al1 m 129 0 acc)
def al0 : Nat → Int → List (Int × Int) → List (Int × Int)
  | 0, _, acc => acc
  | f + 1, m, acc => if m ≤ 7 then al0 f (m + 1) (al12 m acc) else acc
@[irreducible] def allL : List (Int × Int) := al0 9 0 []
theorem all_l1 {K2 : Option Addr → Nat → Nat → Int → Heap → Prop} {h0 : Heap} {m : Int} {l} : ∀ (f : Nat) (c : Int) (acc : List (Int × Int)) (a : Option Addr) (n k : Nat) (o) (h : Heap), Own h0 h ([] ++ (o ++ l)) → SlO kf 2 36 a n k acc o → 0 ≤ c → c ≤ 128 → 128 - c < f → acc.length + f ≤ 100000 →
    (∀ a' n' k' o' h', Own h0 h' ([] ++ (o' ++ l)) → SlO kf 2 36 a' n' k' (al1 m f c acc) o' → K2 a' n' k' m h') → ref21_all_l1 K2 f a n k m c h := by
  intro f
  induction f with
  | zero => intro c acc a n k o h ho hs h1 h2 hf; omega
  | succ f ih =>
    intro c acc a n k o h ho hs h1 h2 hf hb hk
    unfold ref21_all_l1
    unfold al1 at hk
    have hl := hs.1
    by_cases hc : c < 128
    · rw [if_pos hc] at hk ⊢
      refine gap_o ho fun h3 ho3 => ?_
      refine SlO.app (f := kf) (sz := 2) (js := [(c, m)]) (pre := []) kf_len rfl hs ho3 (by simp only [List.length_singleton]; omega) (by simp only [List.length_singleton]; omega) fun a' c' o' h' ho4 hs4 => ?_
      rw [wrap64 (x := c + 1) (by omega) (by omega)]
      exact ih (c + 1) _ _ _ _ o' _ ho4 hs4 (by omega) (by omega) (by omega) (by simp only [List.length_append, List.length_singleton]; omega) hk
    · rw [if_neg hc] at hk ⊢
      exact hk _ _ _ _ _ ho hs
theorem all_l2 {K2 : Option Addr → Nat → Nat → Int → Heap → Prop} {h0 : Heap} {m : Int} {l} : ∀ (f : Nat) (c : Int) (acc : List (Int × Int)) (a : Option Addr) (n k : Nat) (o) (h : Heap), Own h0 h ([] ++ (o ++ l)) → SlO kf 2 36 a n k acc o → 0 ≤ c → c ≤ 16777240 → 16777239 - c + 1 < f → acc.length + f ≤ 100000 →
    (∀ a' n' k' o' h', Own h0 h' ([] ++ (o' ++ l)) → SlO kf 2 36 a' n' k' (al2 m f c acc) o' → K2 a' n' k' m h') → ref21_all_l2 K2 f a n k m c h := by
  intro f
  induction f with
  | zero => intro c acc a n k o h ho hs h1 h2 hf; omega
  | succ f ih =>
    intro c acc a n k o h ho hs h1 h2 hf hb hk
    unfold ref21_all_l2
    unfold al2 at hk
    have hl := hs.1
    by_cases hc : c ≤ 16777239
    · rw [if_pos hc] at hk ⊢
      refine gap_o ho fun h3 ho3 => ?_
      refine SlO.app (f := kf) (sz := 2) (js := [(c, m)]) (pre := []) kf_len rfl hs ho3 (by simp only [List.length_singleton]; omega) (by simp only [List.length_singleton]; omega) fun a' c' o' h' ho4 hs4 => ?_
      rw [wrap64 (x := c + 1) (by omega) (by omega)]
      exact ih (c + 1) _ _ _ _ o' _ ho4 hs4 (by omega) (by omega) (by omega) (by simp only [List.length_append, List.length_singleton]; omega) hk
    · rw [if_neg hc] at hk ⊢
      exact hk _ _ _ _ _ ho hs
theorem al1_len (m : Int) : ∀ (f : Nat) (c : Int) (acc : List (Int × Int)), (al1 m f c acc).length ≤ acc.length + f := by
  intro f
  induction f with
  | zero => intro c acc; simp [al1]
  | succ f ih =>
    intro c acc
    unfold al1
    split
    · have := ih (c + 1) (acc ++ [(c, m)])
      simp only [List.length_append, List.length_singleton] at this
      omega
    · omega
theorem al2_len (m : Int) : ∀ (f : Nat) (c : Int) (acc : List (Int × Int)), (al2 m f c acc).length ≤ acc.length + f := by
  intro f
  induction f with
  | zero => intro c acc; simp [al2]
  | succ f ih =>
    intro c acc
    unfold al2
    split
    · have := ih (c + 1) (acc ++ [(c, m)])
      simp only [List.length_append, List.length_singleton] at this
      omega
    · omega
theorem all_l0 {K0 : Option Addr → Nat → Nat → Heap → Prop} {h0 : Heap} {l} : ∀ (f : Nat) (m : Int) (acc : List (Int × Int)) (a : Option Addr) (n k : Nat) (o) (h : Heap), Own h0 h ([] ++ (o ++ l)) → SlO kf 2 36 a n k acc o → 0 ≤ m → m ≤ 8 → 7 - m + 1 < f → acc.length + f * 200 ≤ 50000 →
    (∀ a' n' k' o' h', Own h0 h' ([] ++ (o' ++ l)) → SlO kf 2 36 a' n' k' (al0 f m acc) o' → K0 a' n' k' h') → ref21_all_l0 K0 f a n k m h := by
  intro f
  induction f with
  | zero => intro m acc a n k o h ho hs h1 h2 hf; omega
  | succ f ih =>
    intro m acc a n k o h ho hs h1 h2 hf hb hk
    unfold ref21_all_l0
    unfold al0 at hk
    by_cases hm : m ≤ 7
    · rw [if_pos hm] at hk ⊢
      refine ⟨129, all_l1 129 0 acc a n k o h ho hs (by omega) (by omega) (by omega) (by omega) fun a2 n2 k2 o2 h2 ho2 hs2 => ?_⟩
      have hl1 := al1_len m 129 0 acc
      refine ⟨24, all_l2 24 16777217 _ a2 n2 k2 o2 h2 ho2 hs2 (by omega) (by omega) (by omega) (by omega) fun a3 n3 k3 o3 h3 ho3 hs3 => ?_⟩
      have hl2 := al2_len m 24 16777217 (al1 m 129 0 acc)
      rw [wrap64 (x := m + 1) (by omega) (by omega)]
      have e : al12 m acc = al2 m 24 16777217 (al1 m 129 0 acc) := by unfold al12; rfl
      rw [e] at hk
      exact ih (m + 1) _ _ _ _ o3 _ ho3 hs3 (by omega) (by omega) (by omega) (by omega) hk
    · rw [if_neg hm] at hk ⊢
      exact hk _ _ _ _ _ ho hs
theorem all_sp {K : Option Addr → Nat → Nat → Heap → Prop} {h0 h : Heap} {l} (ho : Own h0 h l) (hk : ∀ a n k o h1, Own h0 h1 (o ++ l) → SlO kf 2 36 a n k allL o → K a n k h1) : ref21_all K h := by
  unfold ref21_all
  refine ⟨9, all_l0 9 0 [] none 0 0 [] h (l := l) ho SlO.nil (by omega) (by omega) (by omega) (by simp) fun a n k o h1 ho1 hs1 => hk a n k o h1 ho1 ?_⟩
  have e : allL = al0 9 0 [] := by unfold allL; rfl
  rw [e]
  exact hs1
end Go.Proofs.YtkbpnmgkdodcmaaDoor.M
