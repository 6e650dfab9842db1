/-
  DERIVED. GIVEN WITH THE SEED: THE CARDS: each row of YthjdnhhifjpidaaDoorRows.lean that lists a variable, with what it lists TIED to the program's text (the seventh form; the later family's looks); each row that meets fmt, with fmt's text TOLD by the authors' own Lean function (tested against real Go, not proved from fmt's source: count such statements apart). THE CARD IS WHAT COUNTS. Prove the row's statement (the work); the ties are given (YthjdnhhifjpidaaDoorTie.lean); close each card by the builder's one call (the guide's Derived/Test/ToyasCard.lean, 'card_holds'). Laid BY PROGRAM, IN A SANDBOX (cutbox-door.mjs). By AI agents, Wed Nov 11 2026. No macro, syntax, notation, axiom, sorry.
-/
import Derived.Test.YthjdnhhifjpidaaDoorRows
import GoSem.ClaimSeven
namespace Go.Proofs.YthjdnhhifjpidaaDoor
namespace Rows

/-- THE TIED CARD OF 'mullionlaw19.VtWidths'. -/
def vtWidthsCard : Claim7 := { stood := { row := vtWidthsRow, standIns := [], harness := (true, "a06003dcb3df8cf4713de19abb189049b5b0e9aa74ea2ba3223cfa7c22961908"), looks := false }, kinds := [], alts := [], laidByText := true, laidKinds := [.data, .data, .data, .data, .pinned], laidTests := true, laidLooks := .later }
def VtWidthsCardSaid : Prop := Claim7.holds Tryd.pinned (.plain (OpenSpec.ofChange vtWidthsSpec)) vtWidthsCard

/-- THE TIED CARD OF 'mullionlaw19.VtReset'. -/
def vtResetCard : Claim7 := { stood := { row := vtResetRow, standIns := [], harness := (true, "a06003dcb3df8cf4713de19abb189049b5b0e9aa74ea2ba3223cfa7c22961908"), looks := false }, kinds := [], alts := [], laidByText := true, laidKinds := [.data, .data, .data, .data, .pinned], laidTests := true, laidLooks := .later }
def VtResetCardSaid : Prop := Claim7.holds Tryd.pinned (.plain (OpenSpec.ofChange vtResetSpec)) vtResetCard

/-- THE SECOND FORM's CARD OF 'mullionlaw19.VtWidths'. -/
def vtWidthsUptoCard : Claim7 := { stood := { row := vtWidthsUptoRow, standIns := [], harness := (true, "a06003dcb3df8cf4713de19abb189049b5b0e9aa74ea2ba3223cfa7c22961908"), looks := false }, kinds := [], alts := [], laidByText := true, laidKinds := [.data, .data, .data, .data, .pinned], laidTests := true, laidLooks := .later }
def VtWidthsUptoCardSaid : Prop := Claim7.holds Tryd.pinned (.plain (OpenSpec.upto vtWidthsSpec)) vtWidthsUptoCard

/-- THE SECOND FORM's CARD OF 'mullionlaw19.VtReset'. -/
def vtResetUptoCard : Claim7 := { stood := { row := vtResetUptoRow, standIns := [], harness := (true, "a06003dcb3df8cf4713de19abb189049b5b0e9aa74ea2ba3223cfa7c22961908"), looks := false }, kinds := [], alts := [], laidByText := true, laidKinds := [.data, .data, .data, .data, .pinned], laidTests := true, laidLooks := .later }
def VtResetUptoCardSaid : Prop := Claim7.holds Tryd.pinned (.plain (OpenSpec.upto vtResetSpec)) vtResetUptoCard
end Rows
end Go.Proofs.YthjdnhhifjpidaaDoor
