import Derived.Test.YtkbpnmgkdodcmaaDoorD12
set_option linter.unusedVariables false
set_option linter.unusedSimpArgs false
set_option maxRecDepth 100000
namespace Go.Proofs.YtkbpnmgkdodcmaaDoor.M
open Go Go.Hp

/-! ### Searches are lookups in tables -/
def look {α : Type} (t : List UInt8) : List (List UInt8 × α) → Option α
  | [] => none
  | p :: l => if (p.1 == t) = true then some p.2 else look t l
theorem look_mem {α : Type} {t : List UInt8} : ∀ {l : List (List UInt8 × α)} {x : α}, look t l = some x → t ∈ l.map (·.1)
  | [], x, h => by cases h
  | p :: l, x, h => by
    unfold look at h
    split at h
    · rename_i hc
      simp only [beq_iff_eq] at hc
      simp [hc]
    · exact List.mem_cons_of_mem _ (look_mem h)
def tabA (l : List (Int × Int)) : List (List UInt8 × (Int × Int)) := l.filterMap fun k => if 16777217 ≤ k.1 ∧ ref21_Valid k.1 k.2 = true then some ((bytesI k.1 k.2).data.toList, k) else none
theorem fa_look (t : ByteArray) : ∀ l : List (Int × Int), fa t l = look t.data.toList (tabA l)
  | [] => rfl
  | k :: l => by
    unfold fa tabA
    rw [List.filterMap_cons]
    by_cases h : 16777217 ≤ k.1 ∧ ref21_Valid k.1 k.2 = true
    · rw [if_pos h]
      simp only []
      unfold look
      by_cases hb : ((bytesI k.1 k.2).data.toList == t.data.toList) = true
      · rw [if_pos ⟨h.1, h.2, hb⟩, if_pos hb]
      · rw [if_neg (fun hh => hb hh.2.2), if_neg hb]
        exact fa_look t l
    · rw [if_neg h, if_neg (fun hh => h ⟨hh.1, hh.2.1⟩)]
      exact fa_look t l
end Go.Proofs.YtkbpnmgkdodcmaaDoor.M
