import Derived.Test.YtkbpnmgkdodcmaaDoorD15
set_option linter.unusedVariables false
set_option linter.unusedSimpArgs false
set_option maxRecDepth 100000
namespace Go.Proofs.YtkbpnmgkdodcmaaDoor.M
open Go Go.Hp

theorem look_mem2 {α : Type} {t : List UInt8} : ∀ {l : List (List UInt8 × α)} {x : α}, look t l = some x → (t, x) ∈ l
  | [], x, h => by cases h
  | p :: l, x, h => by
    rw [look_cons] at h
    split at h
    · rename_i hc
      simp only [beq_iff_eq] at hc
      obtain rfl := Option.some.inj h
      rw [← hc]
      exact List.mem_cons_self
    · exact List.mem_cons_of_mem _ (look_mem2 h)
theorem head2 (s : ByteArray) (h0 : byteAt s 0 = 27) (h1 : byteAt s 1 = 91) (n : Int) (hn : 2 ≤ n) (hl : n < s.size) : (s.extract 0 (n + 1).toNat).data.toList = 27 :: 91 :: (s.extract 2 (n + 1).toNat).data.toList := by
  have hs : s.data.size = s.size := rfl
  have a0 := u8_byte s 0 (by omega)
  have a1 := u8_byte s 1 (by omega)
  rw [show ((0 : Nat) : Int) = 0 from rfl, h0] at a0
  rw [show ((1 : Nat) : Int) = 1 from rfl, h1] at a1
  apply List.ext_getElem?
  intro i
  rw [ByteArray.data_extract, ByteArray.data_extract]
  match i with
  | 0 =>
    rw [Array.getElem?_toList, Array.getElem?_extract, if_pos (by omega)]
    exact a0
  | 1 =>
    rw [Array.getElem?_toList, Array.getElem?_extract, if_pos (by omega)]
    exact a1
  | i + 2 =>
    rw [List.getElem?_cons_succ, List.getElem?_cons_succ, Array.getElem?_toList, Array.getElem?_toList, Array.getElem?_extract, Array.getElem?_extract]
    by_cases hc : i + 2 < (n + 1).toNat
    · rw [if_pos (by omega), if_pos (by omega)]
      congr 1
      omega
    · rw [if_neg (by omega), if_neg (by omega)]
theorem find_alike {s : ByteArray} (h0 : byteAt s 0 = 27) (h1 : byteAt s 1 = 91) (n : Int) (hn : 2 ≤ n) (hl : n < s.size) : FindAlike (wholeI (s.extract 2 (n + 1).toNat)) (findR (s.extract 0 (n + 1).toNat)) := by
  have e : wholeI (s.extract 2 (n + 1).toNat) = wholeV (s.extract 2 (n + 1).toNat) := by unfold wholeI; rfl
  rw [e, whole_look, find_look, head2 s h0 h1 n hn hl, tabF_eq, tabW_eq]
  generalize (s.extract 2 (n + 1).toNat).data.toList = L
  have t1 := List.all_eq_true.1 tabs_1
  have t2 := List.all_eq_true.1 tabs_2
  cases hk : look L tabWL with
  | some k =>
    have := t1 _ (look_mem2 hk)
    simp only [Bool.and_eq_true, beq_iff_eq, Bool.not_eq_true', beq_eq_false_iff_ne] at this
    rw [this.1, hk]
    exact ⟨fun _ => ⟨rfl, rfl, this.2⟩, fun h => (by cases h)⟩
  | none =>
    cases hf : look (27 :: 91 :: L) tabFL with
    | some k =>
      have := t2 _ (look_mem2 hf)
      simp only [] at this
      rw [hk] at this
      cases this
    | none => exact ⟨fun h => (by cases h), fun _ => ⟨rfl, rfl⟩⟩
/-- The document's first key and the code's are the same. -/
theorem begin_alike {s : ByteArray} (hp : 0 < s.size) (hs : (s.size : Int) < 9223372036854775806) : Alike (nextV s) (beginR s) := by
  have eP : plainRI s = plainR s := by unfold plainRI; rfl
  have eC : ctlI s = ctlR s := by unfold ctlI; rfl
  have eM : metaI s = metaR s := by unfold metaI; rfl
  unfold nextV beginR
  rw [eP, eC, eM]
  by_cases h0 : byteAt s 0 = 27
  · simp only [if_pos h0]
    by_cases h1 : (s.size : Int) = 1
    · rw [if_neg (by omega), if_pos h1]
      unfold bareV
      rw [if_pos h0, if_pos h1]
      exact ⟨rfl, fun h => (by cases h), fun _ => ⟨rfl, rfl⟩⟩
    rw [if_pos (show 1 < (s.size : Int) by omega), if_neg h1]
    by_cases h91 : byteAt s 1 = 91
    · rw [if_pos h91, if_pos h91]
      exact ctl_alike (by omega) hs (fun n hn hl => find_alike h0 h91 n hn hl)
    rw [if_neg h91, if_neg h91]
    by_cases h79 : byteAt s 1 = 79
    · rw [if_pos h79, if_pos h79]
      by_cases h3 : (s.size : Int) < 3
      · rw [if_pos h3, if_pos h3]
        exact ⟨rfl, fun h => (by cases h), fun _ => ⟨rfl, rfl⟩⟩
      rw [if_neg h3, if_neg h3, letter_eq s (by omega)]
      cases hk : lSI (s.extract 2 3) with
      | some c =>
        have hc : c ≠ 0 := by
          have hl := letter_eq s (show 2 < s.size by omega)
          rw [hk] at hl
          simp only [] at hl
          have hv := letter_valid (byteAt s 2) (by rw [hl])
          intro hc
          rw [hl, hc] at hv
          exact absurd hv (by decide)
        exact ⟨rfl, fun _ => ⟨rfl, rfl, hc⟩, fun h => (by cases h)⟩
      | none => exact ⟨rfl, fun h => (by cases h), fun _ => ⟨rfl, rfl⟩⟩
    rw [if_neg h79, if_neg h79]
    exact meta_alike (by omega) h0 (by omega)
  · simp only [if_neg h0]
    have eb : bareV s = plainV s := by unfold bareV; rw [if_neg h0]
    have := plain_alike hp
    rw [← eb] at this
    split
    · exact this
    · exact this
end Go.Proofs.YtkbpnmgkdodcmaaDoor.M
