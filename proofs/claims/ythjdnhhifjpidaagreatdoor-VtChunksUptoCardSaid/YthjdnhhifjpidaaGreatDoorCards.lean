/-
  DERIVED. GIVEN WITH THE SEED: THE CARDS: each row of YthjdnhhifjpidaaGreatDoorRows.lean that lists a variable, with what it lists TIED to the program's text (the seventh form; the later family's looks); each row that meets fmt, with fmt's text TOLD by the authors' own Lean function (tested against real Go, not proved from fmt's source: count such statements apart). THE CARD IS WHAT COUNTS. Prove the row's statement (the work); the ties are given (YthjdnhhifjpidaaGreatDoorTie.lean); close each card by the builder's one call (the guide's Derived/Test/ToyasCard.lean, 'card_holds'). Laid BY PROGRAM, IN A SANDBOX (cutbox-door.mjs). By AI agents, Wed Nov 11 2026. No macro, syntax, notation, axiom, sorry.
-/
import Derived.Test.YthjdnhhifjpidaaGreatDoorRows
import GoSem.ClaimSeven
namespace Go.Proofs.YthjdnhhifjpidaaGreatDoor
namespace Rows

/-- THE TIED CARD OF 'mullionlaw19.VtBounds'. -/
def vtBoundsCard : Claim7 := { stood := { row := vtBoundsRow, standIns := [], harness := (true, "55b5e9a9aded3f23109104676faec56ff2610fb5c5edf8089e43fa046910c941"), looks := false }, kinds := [], alts := [], laidByText := true, laidKinds := [.data, .data, .data, .data, .pinned], laidTests := true, laidLooks := .later }
def VtBoundsCardSaid : Prop := Claim7.holds Tryz.pinned (.plain (OpenSpec.ofChange vtBoundsSpec)) vtBoundsCard

/-- THE TIED CARD OF 'mullionlaw19.VtPlays'. -/
def vtPlaysCard : Claim7 := { stood := { row := vtPlaysRow, standIns := [], harness := (true, "55b5e9a9aded3f23109104676faec56ff2610fb5c5edf8089e43fa046910c941"), looks := false }, kinds := [], alts := [], laidByText := true, laidKinds := [.data, .data, .data, .data, .pinned], laidTests := true, laidLooks := .later }
def VtPlaysCardSaid : Prop := Claim7.holds Tryz.pinned (.plain (OpenSpec.ofChange vtPlaysSpec)) vtPlaysCard

/-- THE TIED CARD OF 'mullionlaw19.VtPlain'. -/
def vtPlainCard : Claim7 := { stood := { row := vtPlainRow, standIns := [], harness := (true, "55b5e9a9aded3f23109104676faec56ff2610fb5c5edf8089e43fa046910c941"), looks := false }, kinds := [], alts := [], laidByText := true, laidKinds := [.data, .data, .data, .data, .pinned], laidTests := true, laidLooks := .later }
def VtPlainCardSaid : Prop := Claim7.holds Tryz.pinned (.plain (OpenSpec.ofChange vtPlainSpec)) vtPlainCard

/-- THE TIED CARD OF 'mullionlaw19.VtOwn'. -/
def vtOwnCard : Claim7 := { stood := { row := vtOwnRow, standIns := [], harness := (true, "55b5e9a9aded3f23109104676faec56ff2610fb5c5edf8089e43fa046910c941"), looks := false }, kinds := [], alts := [], laidByText := true, laidKinds := [.data, .data, .data, .data, .pinned], laidTests := true, laidLooks := .later }
def VtOwnCardSaid : Prop := Claim7.holds Tryz.pinned (.plain (OpenSpec.ofChange vtOwnSpec)) vtOwnCard

/-- THE TIED CARD OF 'mullionlaw19.VtFeeds'. -/
def vtFeedsCard : Claim7 := { stood := { row := vtFeedsRow, standIns := [], harness := (true, "55b5e9a9aded3f23109104676faec56ff2610fb5c5edf8089e43fa046910c941"), looks := false }, kinds := [], alts := [], laidByText := true, laidKinds := [.data, .data, .data, .data, .pinned], laidTests := true, laidLooks := .later }
def VtFeedsCardSaid : Prop := Claim7.holds Tryz.pinned (.plain (OpenSpec.ofChange vtFeedsSpec)) vtFeedsCard

/-- THE TIED CARD OF 'mullionlaw19.VtChunks'. -/
def vtChunksCard : Claim7 := { stood := { row := vtChunksRow, standIns := [], harness := (true, "55b5e9a9aded3f23109104676faec56ff2610fb5c5edf8089e43fa046910c941"), looks := false }, kinds := [], alts := [], laidByText := true, laidKinds := [.data, .data, .data, .data, .pinned], laidTests := true, laidLooks := .later }
def VtChunksCardSaid : Prop := Claim7.holds Tryz.pinned (.plain (OpenSpec.ofChange vtChunksSpec)) vtChunksCard

/-- THE TIED CARD OF 'mullionlaw19.VtNews'. -/
def vtNewsCard : Claim7 := { stood := { row := vtNewsRow, standIns := [], harness := (true, "55b5e9a9aded3f23109104676faec56ff2610fb5c5edf8089e43fa046910c941"), looks := false }, kinds := [], alts := [], laidByText := true, laidKinds := [.data, .data, .data, .data, .pinned], laidTests := true, laidLooks := .later }
def VtNewsCardSaid : Prop := Claim7.holds Tryz.pinned (.plain (OpenSpec.ofChange vtNewsSpec)) vtNewsCard

/-- THE SECOND FORM's CARD OF 'mullionlaw19.VtBounds'. -/
def vtBoundsUptoCard : Claim7 := { stood := { row := vtBoundsUptoRow, standIns := [], harness := (true, "55b5e9a9aded3f23109104676faec56ff2610fb5c5edf8089e43fa046910c941"), looks := false }, kinds := [], alts := [], laidByText := true, laidKinds := [.data, .data, .data, .data, .pinned], laidTests := true, laidLooks := .later }
def VtBoundsUptoCardSaid : Prop := Claim7.holds Tryz.pinned (.plain (OpenSpec.upto vtBoundsSpec)) vtBoundsUptoCard

/-- THE SECOND FORM's CARD OF 'mullionlaw19.VtPlays'. -/
def vtPlaysUptoCard : Claim7 := { stood := { row := vtPlaysUptoRow, standIns := [], harness := (true, "55b5e9a9aded3f23109104676faec56ff2610fb5c5edf8089e43fa046910c941"), looks := false }, kinds := [], alts := [], laidByText := true, laidKinds := [.data, .data, .data, .data, .pinned], laidTests := true, laidLooks := .later }
def VtPlaysUptoCardSaid : Prop := Claim7.holds Tryz.pinned (.plain (OpenSpec.upto vtPlaysSpec)) vtPlaysUptoCard

/-- THE SECOND FORM's CARD OF 'mullionlaw19.VtPlain'. -/
def vtPlainUptoCard : Claim7 := { stood := { row := vtPlainUptoRow, standIns := [], harness := (true, "55b5e9a9aded3f23109104676faec56ff2610fb5c5edf8089e43fa046910c941"), looks := false }, kinds := [], alts := [], laidByText := true, laidKinds := [.data, .data, .data, .data, .pinned], laidTests := true, laidLooks := .later }
def VtPlainUptoCardSaid : Prop := Claim7.holds Tryz.pinned (.plain (OpenSpec.upto vtPlainSpec)) vtPlainUptoCard

/-- THE SECOND FORM's CARD OF 'mullionlaw19.VtOwn'. -/
def vtOwnUptoCard : Claim7 := { stood := { row := vtOwnUptoRow, standIns := [], harness := (true, "55b5e9a9aded3f23109104676faec56ff2610fb5c5edf8089e43fa046910c941"), looks := false }, kinds := [], alts := [], laidByText := true, laidKinds := [.data, .data, .data, .data, .pinned], laidTests := true, laidLooks := .later }
def VtOwnUptoCardSaid : Prop := Claim7.holds Tryz.pinned (.plain (OpenSpec.upto vtOwnSpec)) vtOwnUptoCard

/-- THE SECOND FORM's CARD OF 'mullionlaw19.VtFeeds'. -/
def vtFeedsUptoCard : Claim7 := { stood := { row := vtFeedsUptoRow, standIns := [], harness := (true, "55b5e9a9aded3f23109104676faec56ff2610fb5c5edf8089e43fa046910c941"), looks := false }, kinds := [], alts := [], laidByText := true, laidKinds := [.data, .data, .data, .data, .pinned], laidTests := true, laidLooks := .later }
def VtFeedsUptoCardSaid : Prop := Claim7.holds Tryz.pinned (.plain (OpenSpec.upto vtFeedsSpec)) vtFeedsUptoCard

/-- THE SECOND FORM's CARD OF 'mullionlaw19.VtChunks'. -/
def vtChunksUptoCard : Claim7 := { stood := { row := vtChunksUptoRow, standIns := [], harness := (true, "55b5e9a9aded3f23109104676faec56ff2610fb5c5edf8089e43fa046910c941"), looks := false }, kinds := [], alts := [], laidByText := true, laidKinds := [.data, .data, .data, .data, .pinned], laidTests := true, laidLooks := .later }
def VtChunksUptoCardSaid : Prop := Claim7.holds Tryz.pinned (.plain (OpenSpec.upto vtChunksSpec)) vtChunksUptoCard

/-- THE SECOND FORM's CARD OF 'mullionlaw19.VtNews'. -/
def vtNewsUptoCard : Claim7 := { stood := { row := vtNewsUptoRow, standIns := [], harness := (true, "55b5e9a9aded3f23109104676faec56ff2610fb5c5edf8089e43fa046910c941"), looks := false }, kinds := [], alts := [], laidByText := true, laidKinds := [.data, .data, .data, .data, .pinned], laidTests := true, laidLooks := .later }
def VtNewsUptoCardSaid : Prop := Claim7.holds Tryz.pinned (.plain (OpenSpec.upto vtNewsSpec)) vtNewsUptoCard
end Rows
end Go.Proofs.YthjdnhhifjpidaaGreatDoor
