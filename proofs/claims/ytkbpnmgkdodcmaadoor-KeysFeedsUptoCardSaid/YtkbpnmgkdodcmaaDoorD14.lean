import Derived.Test.YtkbpnmgkdodcmaaDoorD13
set_option linter.unusedVariables false
set_option linter.unusedSimpArgs false
set_option maxRecDepth 100000
namespace Go.Proofs.YtkbpnmgkdodcmaaDoor.M
open Go Go.Hp

theorem look_cons {α : Type} (t : List UInt8) (p : List UInt8 × α) (l : List (List UInt8 × α)) : look t (p :: l) = if (p.1 == t) = true then some p.2 else look t l := rfl
theorem look_c {α : Type} (t k : List UInt8) (x : α) (l : List (List UInt8 × α)) : look t ((k, x) :: l) = if (t == k) = true then some x else look t l := by
  rw [look_cons]
  by_cases h : t = k
  · rw [if_pos (by simp [h]), if_pos (by simp [h])]
  · rw [if_neg (by simp [Ne.symm h]), if_neg (by simp [h])]
theorem look_app {α : Type} (t : List UInt8) : ∀ (l r : List (List UInt8 × α)), look t (l ++ r) = match look t l with | some x => some x | none => look t r
  | [], r => rfl
  | p :: l, r => by
    rw [List.cons_append, look_cons, look_cons]
    split
    · rfl
    · exact look_app t l r
def tw3 (i : Int) : Nat → Int → List (List UInt8 × (Int × Int))
  | 0, _ => []
  | f + 1, m => if m < 8 then (if (cutV (spV (IntKind.wrap .i64 (16777217 + i)) m false) ⟨#[27, 91]⟩).2 = true then [((cutV (spV (IntKind.wrap .i64 (16777217 + i)) m false) ⟨#[27, 91]⟩).1.data.toList, (IntKind.wrap .i64 (16777217 + i), m))] else []) ++ tw3 i f (m + 1) else []
theorem wl3_look (s : ByteArray) (i : Int) : ∀ (f : Nat) (m : Int), (wl3 s i f m).map (fun m => (IntKind.wrap .i64 (16777217 + i), m)) = look s.data.toList (tw3 i f m)
  | 0, m => rfl
  | f + 1, m => by
    unfold wl3 tw3 matchV
    by_cases hm : m < 8
    · rw [if_pos hm, if_pos hm]
      generalize cutV (spV (IntKind.wrap .i64 (16777217 + i)) m false) ⟨#[27, 91]⟩ = q
      obtain ⟨a, b⟩ := q
      cases b with
      | false =>
        simp only [Bool.false_and, Bool.false_eq_true, if_false, List.nil_append]
        exact wl3_look s i f (m + 1)
      | true =>
        simp only [Bool.true_and, if_true]
        rw [List.singleton_append]
        unfold look
        split
        · rfl
        · exact wl3_look s i f (m + 1)
    · rw [if_neg hm, if_neg hm]
      rfl
def tw2 : Nat → Int → List (List UInt8 × (Int × Int))
  | 0, _ => []
  | f + 1, i => if i < 22 then tw3 i 8 0 ++ tw2 f (i + 1) else []
theorem wl2_look (s : ByteArray) : ∀ (f : Nat) (i : Int), wl2 s f i = look s.data.toList (tw2 f i)
  | 0, i => rfl
  | f + 1, i => by
    unfold wl2 tw2
    by_cases hi : i < 22
    · rw [if_pos hi, if_pos hi, look_app, ← wl3_look s i 8 0]
      have e : wl30 s i = wl3 s i 8 0 := by unfold wl30; rfl
      rw [e]
      cases wl3 s i 8 0 with
      | none => exact wl2_look s f (i + 1)
      | some m => rfl
    · rw [if_neg hi, if_neg hi]
      rfl
def seven : List (List UInt8 × (Int × Int)) := [([90], 16777239, 0), ([49, 126], 16777221, 0), ([52, 126], 16777222, 0), ([49, 49, 126], 16777227, 0), ([49, 50, 126], 16777228, 0), ([49, 51, 126], 16777229, 0), ([49, 52, 126], 16777230, 0)]
@[irreducible] def tabW : List (List UInt8 × (Int × Int)) := seven ++ tw2 22 0
theorem fV_all : ((fV ⟨#[49, 49, 126]⟩ = (16777227, 0, true) ∧ fV ⟨#[49, 50, 126]⟩ = (16777228, 0, true)) ∧ (fV ⟨#[49, 51, 126]⟩ = (16777229, 0, true) ∧ fV ⟨#[49, 52, 126]⟩ = (16777230, 0, true))) := by decide +kernel
theorem eq_of_list {u : ByteArray} {l : List UInt8} (h : u.data.toList = l) : u = ⟨l.toArray⟩ := by
  apply ByteArray.ext
  rw [← h]
theorem whole_look (u : ByteArray) : wholeV u = match look u.data.toList tabW with | some k => (k.1, k.2, true) | none => (0, 0, false) := by
  have hw : tabW = seven ++ tw2 22 0 := by unfold tabW; rfl
  have hs : searchV u = match look u.data.toList (tw2 22 0) with | some k => (k.1, k.2, true) | none => (0, 0, false) := by
    unfold searchV
    have e : wl20 u = wl2 u 22 0 := by unfold wl20; rfl
    rw [e, wl2_look]
    cases look u.data.toList (tw2 22 0) <;> rfl
  rw [hw, look_app]
  unfold wholeV seven
  rw [look_c, look_c, look_c, look_c, look_c, look_c, look_c]
  simp only [show ((⟨#[90]⟩ : ByteArray).data.toList) = [90] from rfl, show ((⟨#[49, 126]⟩ : ByteArray).data.toList) = [49, 126] from rfl, show ((⟨#[52, 126]⟩ : ByteArray).data.toList) = [52, 126] from rfl]
  by_cases h : (u.data.toList == [90]) = true
  · rw [if_pos h, if_pos h]
  rw [if_neg h, if_neg h]
  by_cases h : (u.data.toList == [49, 126]) = true
  · rw [if_pos h, if_pos h]
  rw [if_neg h, if_neg h]
  by_cases h : (u.data.toList == [52, 126]) = true
  · rw [if_pos h, if_pos h]
  rw [if_neg h, if_neg h]
  by_cases h : (u.data.toList == [49, 49, 126]) = true
  · rw [if_pos (show (u.data.toList == (⟨#[49, 49, 126]⟩ : ByteArray).data.toList) = true from h), if_pos h]
    have e := eq_of_list (show u.data.toList = [49, 49, 126] by simpa using h)
    rw [e]; exact fV_all.1.1
  rw [if_neg (show ¬ (u.data.toList == (⟨#[49, 49, 126]⟩ : ByteArray).data.toList) = true from h), if_neg h]
  by_cases h : (u.data.toList == [49, 50, 126]) = true
  · rw [if_pos (show (u.data.toList == (⟨#[49, 50, 126]⟩ : ByteArray).data.toList) = true from h), if_pos h]
    have e := eq_of_list (show u.data.toList = [49, 50, 126] by simpa using h)
    rw [e]; exact fV_all.1.2
  rw [if_neg (show ¬ (u.data.toList == (⟨#[49, 50, 126]⟩ : ByteArray).data.toList) = true from h), if_neg h]
  by_cases h : (u.data.toList == [49, 51, 126]) = true
  · rw [if_pos (show (u.data.toList == (⟨#[49, 51, 126]⟩ : ByteArray).data.toList) = true from h), if_pos h]
    have e := eq_of_list (show u.data.toList = [49, 51, 126] by simpa using h)
    rw [e]; exact fV_all.2.1
  rw [if_neg (show ¬ (u.data.toList == (⟨#[49, 51, 126]⟩ : ByteArray).data.toList) = true from h), if_neg h]
  by_cases h : (u.data.toList == [49, 52, 126]) = true
  · rw [if_pos (show (u.data.toList == (⟨#[49, 52, 126]⟩ : ByteArray).data.toList) = true from h), if_pos h]
    have e := eq_of_list (show u.data.toList = [49, 52, 126] by simpa using h)
    rw [e]; exact fV_all.2.2
  rw [if_neg (show ¬ (u.data.toList == (⟨#[49, 52, 126]⟩ : ByteArray).data.toList) = true from h), if_neg h]
  exact hs
def tm : Nat → Int → List (List UInt8 × (Int × Int))
  | 0, _ => []
  | f + 1, i => if i < 6 then ((moreL.getD i.toNat ⟨#[]⟩).data.toList, (moreC.getD i.toNat 0, 0)) :: tm f (i + 1) else []
theorem fm_look (t : ByteArray) : ∀ (f : Nat) (i : Int), (fm t f i).map (fun c => (c, (0 : Int))) = look t.data.toList (tm f i)
  | 0, i => rfl
  | f + 1, i => by
    unfold fm tm
    by_cases hi : i < 6
    · rw [if_pos hi, if_pos hi]
      unfold look
      simp only []
      split
      · rfl
      · exact fm_look t f (i + 1)
    · rw [if_neg hi, if_neg hi]
      rfl
@[irreducible] def tabF : List (List UInt8 × (Int × Int)) := tabA allL ++ tm 6 0
theorem find_look (t : ByteArray) : findR t = match look t.data.toList tabF with | some k => k | none => (0, 0) := by
  have hw : tabF = tabA allL ++ tm 6 0 := by unfold tabF; rfl
  have e1 : faI t = fa t allL := by unfold faI; rfl
  have e2 : fmI t = fm t 6 0 := by unfold fmI; rfl
  rw [hw, look_app, ← fm_look, ← fa_look]
  unfold findR
  rw [e1, e2]
  cases fa t allL with
  | some k => rfl
  | none =>
    simp only []
    cases fm t 6 0 <;> rfl
end Go.Proofs.YtkbpnmgkdodcmaaDoor.M
