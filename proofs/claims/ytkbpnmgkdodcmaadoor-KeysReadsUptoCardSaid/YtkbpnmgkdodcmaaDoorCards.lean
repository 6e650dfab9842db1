/-
  DERIVED. GIVEN WITH THE SEED: THE CARDS: each row of YtkbpnmgkdodcmaaDoorRows.lean that lists a variable, with what it lists TIED to the program's text (the seventh form; the later family's looks); each row that meets fmt, with fmt's text TOLD by the authors' own Lean function (tested against real Go, not proved from fmt's source: count such statements apart). THE CARD IS WHAT COUNTS. Prove the row's statement (the work); the ties are given (YtkbpnmgkdodcmaaDoorTie.lean); close each card by the builder's one call (the guide's Derived/Test/ToyasCard.lean, 'card_holds'). Laid BY PROGRAM, IN A SANDBOX (cutbox-door.mjs). By AI agents, Wed Nov 11 2026. No macro, syntax, notation, axiom, sorry.
-/
import Derived.Test.YtkbpnmgkdodcmaaDoorRows
import GoSem.ClaimSeven
namespace Go.Proofs.YtkbpnmgkdodcmaaDoor
namespace Rows

/-- THE TIED CARD OF 'mullionlaw21.KeysFeeds'. -/
def keysFeedsCard : Claim7 := { stood := { row := keysFeedsRow, standIns := [], harness := (true, "b677b7cf80e3c41f3d91f0c84b628dee092f4decf7113003ee84d930f4304523"), looks := false }, kinds := [], alts := [], laidByText := true, laidKinds := [.data, .data, .data, .data], laidTests := true, laidLooks := .later }
def KeysFeedsCardSaid : Prop := Claim7.holds Tryd.pinned (.plain (OpenSpec.ofChange keysFeedsSpec)) keysFeedsCard

/-- THE TIED CARD OF 'mullionlaw21.KeysPieces'. -/
def keysPiecesCard : Claim7 := { stood := { row := keysPiecesRow, standIns := [], harness := (true, "b677b7cf80e3c41f3d91f0c84b628dee092f4decf7113003ee84d930f4304523"), looks := false }, kinds := [], alts := [], laidByText := true, laidKinds := [.data, .data, .data, .data], laidTests := true, laidLooks := .later }
def KeysPiecesCardSaid : Prop := Claim7.holds Tryd.pinned (.plain (OpenSpec.ofChange keysPiecesSpec)) keysPiecesCard

/-- THE TIED CARD OF 'mullionlaw21.KeysNames'. -/
def keysNamesCard : Claim7 := { stood := { row := keysNamesRow, standIns := [], harness := (true, "b677b7cf80e3c41f3d91f0c84b628dee092f4decf7113003ee84d930f4304523"), looks := false }, kinds := [], alts := [], laidByText := true, laidKinds := [.data, .data, .data, .data], laidTests := true, laidLooks := .later }
def KeysNamesCardSaid : Prop := Claim7.holds Tryd.pinned (.plain (OpenSpec.ofChange keysNamesSpec)) keysNamesCard

/-- THE TIED CARD OF 'mullionlaw21.KeysRound'. -/
def keysRoundCard : Claim7 := { stood := { row := keysRoundRow, standIns := [], harness := (true, "b677b7cf80e3c41f3d91f0c84b628dee092f4decf7113003ee84d930f4304523"), looks := false }, kinds := [], alts := [], laidByText := true, laidKinds := [.data, .data, .data, .data], laidTests := true, laidLooks := .later }
def KeysRoundCardSaid : Prop := Claim7.holds Tryd.pinned (.plain (OpenSpec.ofChange keysRoundSpec)) keysRoundCard

/-- THE TIED CARD OF 'mullionlaw21.KeysReads'. -/
def keysReadsCard : Claim7 := { stood := { row := keysReadsRow, standIns := [], harness := (true, "b677b7cf80e3c41f3d91f0c84b628dee092f4decf7113003ee84d930f4304523"), looks := false }, kinds := [], alts := [], laidByText := true, laidKinds := [.data, .data, .data, .data, .data, .pinned], laidTests := true, laidLooks := .later }
def KeysReadsCardSaid : Prop := Claim7.holds Tryd.pinned (.plain (OpenSpec.ofChange keysReadsSpec)) keysReadsCard

/-- THE TIED CARD OF 'mullionlaw21.KeysBack'. -/
def keysBackCard : Claim7 := { stood := { row := keysBackRow, standIns := [], harness := (true, "b677b7cf80e3c41f3d91f0c84b628dee092f4decf7113003ee84d930f4304523"), looks := false }, kinds := [], alts := [], laidByText := true, laidKinds := [.data, .data, .data, .data, .data, .pinned], laidTests := true, laidLooks := .later }
def KeysBackCardSaid : Prop := Claim7.holds Tryd.pinned (.plain (OpenSpec.ofChange keysBackSpec)) keysBackCard

/-- THE SECOND FORM's CARD OF 'mullionlaw21.KeysFeeds'. -/
def keysFeedsUptoCard : Claim7 := { stood := { row := keysFeedsUptoRow, standIns := [], harness := (true, "b677b7cf80e3c41f3d91f0c84b628dee092f4decf7113003ee84d930f4304523"), looks := false }, kinds := [], alts := [], laidByText := true, laidKinds := [.data, .data, .data, .data], laidTests := true, laidLooks := .later }
def KeysFeedsUptoCardSaid : Prop := Claim7.holds Tryd.pinned (.plain (OpenSpec.upto keysFeedsSpec)) keysFeedsUptoCard

/-- THE SECOND FORM's CARD OF 'mullionlaw21.KeysPieces'. -/
def keysPiecesUptoCard : Claim7 := { stood := { row := keysPiecesUptoRow, standIns := [], harness := (true, "b677b7cf80e3c41f3d91f0c84b628dee092f4decf7113003ee84d930f4304523"), looks := false }, kinds := [], alts := [], laidByText := true, laidKinds := [.data, .data, .data, .data], laidTests := true, laidLooks := .later }
def KeysPiecesUptoCardSaid : Prop := Claim7.holds Tryd.pinned (.plain (OpenSpec.upto keysPiecesSpec)) keysPiecesUptoCard

/-- THE SECOND FORM's CARD OF 'mullionlaw21.KeysNames'. -/
def keysNamesUptoCard : Claim7 := { stood := { row := keysNamesUptoRow, standIns := [], harness := (true, "b677b7cf80e3c41f3d91f0c84b628dee092f4decf7113003ee84d930f4304523"), looks := false }, kinds := [], alts := [], laidByText := true, laidKinds := [.data, .data, .data, .data], laidTests := true, laidLooks := .later }
def KeysNamesUptoCardSaid : Prop := Claim7.holds Tryd.pinned (.plain (OpenSpec.upto keysNamesSpec)) keysNamesUptoCard

/-- THE SECOND FORM's CARD OF 'mullionlaw21.KeysRound'. -/
def keysRoundUptoCard : Claim7 := { stood := { row := keysRoundUptoRow, standIns := [], harness := (true, "b677b7cf80e3c41f3d91f0c84b628dee092f4decf7113003ee84d930f4304523"), looks := false }, kinds := [], alts := [], laidByText := true, laidKinds := [.data, .data, .data, .data], laidTests := true, laidLooks := .later }
def KeysRoundUptoCardSaid : Prop := Claim7.holds Tryd.pinned (.plain (OpenSpec.upto keysRoundSpec)) keysRoundUptoCard

/-- THE SECOND FORM's CARD OF 'mullionlaw21.KeysReads'. -/
def keysReadsUptoCard : Claim7 := { stood := { row := keysReadsUptoRow, standIns := [], harness := (true, "b677b7cf80e3c41f3d91f0c84b628dee092f4decf7113003ee84d930f4304523"), looks := false }, kinds := [], alts := [], laidByText := true, laidKinds := [.data, .data, .data, .data, .data, .pinned], laidTests := true, laidLooks := .later }
def KeysReadsUptoCardSaid : Prop := Claim7.holds Tryd.pinned (.plain (OpenSpec.upto keysReadsSpec)) keysReadsUptoCard

/-- THE SECOND FORM's CARD OF 'mullionlaw21.KeysBack'. -/
def keysBackUptoCard : Claim7 := { stood := { row := keysBackUptoRow, standIns := [], harness := (true, "b677b7cf80e3c41f3d91f0c84b628dee092f4decf7113003ee84d930f4304523"), looks := false }, kinds := [], alts := [], laidByText := true, laidKinds := [.data, .data, .data, .data, .data, .pinned], laidTests := true, laidLooks := .later }
def KeysBackUptoCardSaid : Prop := Claim7.holds Tryd.pinned (.plain (OpenSpec.upto keysBackSpec)) keysBackUptoCard
end Rows
end Go.Proofs.YtkbpnmgkdodcmaaDoor
