import Derived.Test.YtkbpnmgkdodcmaaDoorF1
set_option linter.unusedVariables false
set_option linter.unusedSimpArgs false
set_option maxRecDepth 100000
namespace Go.Proofs.YtkbpnmgkdodcmaaDoor.M
open Go Go.Hp

theorem next_sp1 : ∀ c : Fin 22, ∀ m : Fin 8, nextV (spV (16777217 + c.val) m.val false) = (16777217 + (c.val : Int), (m.val : Int), true, ((spV (16777217 + c.val) m.val false).size : Int)) := by decide +kernel
theorem next_sp2 : ∀ c : Fin 22, nextV (spV (16777217 + c.val) 0 true) = (16777217 + (c.val : Int), 0, true, ((spV (16777217 + c.val) 0 true).size : Int)) := by decide +kernel
theorem sp_app : ∀ c : Fin 22, ∀ m : Fin 8, m.val ≠ 0 → spV (16777217 + c.val) m.val true = spV (16777217 + c.val) m.val false := by decide +kernel
theorem sp_pos : ∀ c : Fin 22, ∀ m : Fin 8, 0 < (spV (16777217 + c.val) m.val false).size ∧ 0 < (spV (16777217 + c.val) m.val true).size := by decide +kernel
end Go.Proofs.YtkbpnmgkdodcmaaDoor.M
