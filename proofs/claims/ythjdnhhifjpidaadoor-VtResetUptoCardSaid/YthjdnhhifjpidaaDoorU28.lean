import Derived.Test.YthjdnhhifjpidaaDoorU27
set_option linter.unusedVariables false
set_option linter.unusedSimpArgs false
set_option maxRecDepth 100000
namespace Go.Proofs.YthjdnhhifjpidaaDoor.M
open Go Go.Hp

/-! ### A control sequence: the walk -/
theorem toListL (s : ByteArray) : ∀ (n i : Nat) (r : List UInt8), s.size - i = n → ByteArray.toList.loop s i r = r.reverse ++ s.data.toList.drop i
  | 0, i, r, hn => by
    unfold ByteArray.toList.loop
    have hs : s.data.toList.length = s.size := rfl
    rw [if_neg (by omega), List.drop_of_length_le (by omega)]
    simp
  | n + 1, i, r, hn => by
    unfold ByteArray.toList.loop
    have hs : s.data.toList.length = s.size := rfl
    rw [if_pos (by omega), toListL s n (i + 1) _ (by omega), List.drop_eq_getElem_cons (show i < s.data.toList.length by omega)]
    have hlt : i < s.data.size := by have : s.data.size = s.size := rfl; omega
    have : s.get! i = s.data[i] := by
      show s.data[i]! = _
      rw [getElem!_pos s.data i hlt]
    rw [this]
    simp
theorem toListE (s : ByteArray) : s.toList = s.data.toList := by
  have := toListL s s.size 0 [] (by omega)
  exact this.trans (by simp)
theorem lst_eq (a b : ByteArray) : (a.toList == b.toList) = decide (a = b) := by
  rw [toListE, toListE]
  by_cases h : a = b
  · subst h; simp
  · have : a.data.toList ≠ b.data.toList := fun e => h (ByteArray.ext (Array.toList_inj.1 e))
    rw [decide_eq_false h]
    exact beq_false_of_ne this
theorem controlled_l0 {h0 : Base} {s : Nat} {b : Int} {ob : Blks} {a : Option Addr} {n c : Nat} {l : List Int} {K : Heap → Prop} (hl : SlO nf 1 3 a n c l ob) (hn : n ≤ 1000) :
    ∀ (q i : Nat) (S : Scr) (h : Heap), RepX h0 h s S (ob ++ []) → Ok S → n - i = q → i ≤ n → (∀ h1, Rep h0 h1 s (privL (decide (b = 104)) (l.drop i) S) → K h1) → vt_Screen_controlled_l0 K (q + 1) (some ⟨s, 0, none⟩) b a n c (n : Int) i h := by
  have hnl := hl.1
  intro q
  induction q with
  | zero =>
    intro i S h hs o hq hi hk
    unfold vt_Screen_controlled_l0
    rw [if_neg (by omega)]
    rw [List.drop_of_length_le (by omega)] at hk
    exact hk h hs.rep
  | succ q ih =>
    intro i S h hs o hq hi hk
    unfold vt_Screen_controlled_l0
    rw [if_pos (by omega)]
    obtain ⟨p, hp, hd⟩ := (hs.ints hl).2 i (by omega)
    have hte : ((i : Int)).toNat = i := by omega
    rw [List.drop_eq_getElem_cons (by omega)] at hk
    unfold privL at hk
    have e : l.getD i 0 = l[i]'(by omega) := by rw [List.getD_eq_getElem?_getD, List.getElem?_eq_getElem (by omega)]; rfl
    rw [← e] at hk
    subst hp
    refine nz_i ⟨by omega, by omega, ⟨_, by rw [hte]; exact hd, ?_⟩⟩
    refine private_spX hs o fun h1 hs1 => ?_
    rw [wrap64 (by omega) (by omega), show (i : Int) + 1 = ((i + 1 : Nat) : Int) by omega]
    exact ih (i + 1) _ h1 hs1 (o.private _ _) (by omega) (by omega) hk
theorem controlled_sp {h0 : Base} {h : Heap} {s : Nat} {S : Scr} {b : Int} {K : Heap → Prop} (ht : Tabs h0.h) (hs : Rep h0 h s S) (o : Ok S) (hk : ∀ h1, Rep h0 h1 s (controlledV S b) → K h1) : vt_Screen_controlled (some ⟨s, 0, none⟩) b K h := by
  unfold vt_Screen_controlled
  unfold controlledV at hk
  have hle := numbersV_le S.gathered
  have hg := o.c.gath
  refine numbers_sp hs o fun h1 oa on oc ob hs1 hl => ?_
  generalize numbersV S.gathered = r at *
  obtain ⟨mk, l, bt, okk⟩ := r
  simp only [] at hk hle hl ⊢
  have hnl := hl.1
  have hs1' : RepX h0 h1 s S (ob ++ []) := by rw [List.append_nil]; exact hs1
  simp only [lst_eq]
  by_cases h2 : okk = true
  case neg =>
    rw [if_neg h2] at hk
    rw [if_pos (by simpa using h2)]
    exact hk h1 hs1.rep
  rw [if_pos h2] at hk
  rw [if_neg (by simpa using h2)]
  by_cases h3 : mk = 63 ∧ bt = ⟨#[]⟩ ∧ (b = 104 ∨ b = 108)
  · rw [if_pos h3] at hk
    rw [if_pos (by simpa [and_assoc] using h3)]
    exact ⟨on - 0 + 1, controlled_l0 hl (by omega) (on - 0) 0 S h1 hs1' o rfl (by omega) hk⟩
  rw [if_neg h3] at hk
  rw [if_neg (by simpa [and_assoc] using h3)]
  by_cases h4 : mk = 0 ∧ bt = ⟨#[33]⟩ ∧ b = 112
  · rw [if_pos h4] at hk
    rw [if_pos (by simpa [and_assoc] using h4)]
    exact soft_sp hs1.rep o hk
  rw [if_neg h4] at hk
  rw [if_neg (by simpa [and_assoc] using h4)]
  by_cases h5 : mk = 0 ∧ bt = ⟨#[]⟩
  · rw [if_pos h5] at hk
    rw [if_pos (by simpa [and_assoc] using h5)]
    exact plain_sp ht hs1 hl o (by omega) (Int.le_trans (atV_le hle.1 0 (by omega)) (by omega)) hk
  · rw [if_neg h5] at hk
    rw [if_neg (by simpa [and_assoc] using h5)]
    exact hk h1 hs1.rep
end Go.Proofs.YthjdnhhifjpidaaDoor.M
