/-
  NARROWER THAN 'FOR EVERY INPUT', by the rows' own cells (each row's printed sentence says how): KeysFeeds: laid · KeysPieces: laid · KeysNames: laid · KeysRound: laid · KeysReads: laid · KeysBack: laid.
  DERIVED. THE GIVEN ROWS OF THIS SEAT. 6 by the template 'for every input the law returns true; each argument reads behind the call as it read before'; 0 by the template 'total and deterministic' (their statements: YtkbpnmgkdodcmaaDoorTotals.lean).
  GIVEN WITH THE SEED: the statements are not yours to turn. If you find one false, say at which input.
  Laid BY PROGRAM, IN A SANDBOX (cutbox-rows.mjs): the forced cells as the released guide's own fill.sh prints them over the translation b3ac08f6f5e3a8cb… (all of the seat's roots in one cut). By AI agents, Wed Nov 11 2026. No macro, syntax, notation, axiom, sorry.
-/
import Derived.Test.YtkbpnmgkdodcmaaDoorChecked
import GoSem.PinnedTables
import GoSem.Claim
import GoSem.ClaimJoined
import GoSem.ClaimMapViews
import Derived.JoinedTies
import Derived.KernelRfl
namespace Go.Proofs.YtkbpnmgkdodcmaaDoor
/- THE CELL 'sum', in the pinned program and in every row, IS THE sha256 OF THE DUMP (.gsa) THAT YtkbpnmgkdodcmaaDoorProg.lean LOADS. Nothing in Lean hashes anything: it is a label: what it is worth is what the hold of that sum in a sandbox is worth. -/
noncomputable def Tryd.pinned : Pinned := { name := "ytkbpnmgkdodcmaadoor", sum := "b3ac08f6f5e3a8cb0295d6087b857f219e4767ea5a0000862df8d3da1c61089d", checked := Tryd.checked }
namespace Rows
def none {H : Type} : Left H := { results := [], args := [] }

/- WHAT THE LISTED PACKAGE-LEVEL VARIABLES READ AS WHEN THE CALL BEGINS. Each datum BY PROGRAM (the guide's laid-datum.mjs) off the statement by which the dump's own 'gosem.cut.vars' lays the variable. In a bare row this is a premise. The card (YtkbpnmgkdodcmaaDoorCards.lean) ties it to the program's text. -/
def laid_math_bits_deBruijn32tab {H : Type} : DataW H := .agg [.lit (.int .u8 0), .lit (.int .u8 1), .lit (.int .u8 28), .lit (.int .u8 2), .lit (.int .u8 29), .lit (.int .u8 14), .lit (.int .u8 24), .lit (.int .u8 3), .lit (.int .u8 30), .lit (.int .u8 22), .lit (.int .u8 20), .lit (.int .u8 15), .lit (.int .u8 25), .lit (.int .u8 17), .lit (.int .u8 4), .lit (.int .u8 8), .lit (.int .u8 31), .lit (.int .u8 27), .lit (.int .u8 13), .lit (.int .u8 23), .lit (.int .u8 21), .lit (.int .u8 19), .lit (.int .u8 16), .lit (.int .u8 7), .lit (.int .u8 26), .lit (.int .u8 12), .lit (.int .u8 18), .lit (.int .u8 6), .lit (.int .u8 11), .lit (.int .u8 5), .lit (.int .u8 10), .lit (.int .u8 9)]
def laid_math_bits_deBruijn64tab {H : Type} : DataW H := .agg [.lit (.int .u8 0), .lit (.int .u8 1), .lit (.int .u8 56), .lit (.int .u8 2), .lit (.int .u8 57), .lit (.int .u8 49), .lit (.int .u8 28), .lit (.int .u8 3), .lit (.int .u8 61), .lit (.int .u8 58), .lit (.int .u8 42), .lit (.int .u8 50), .lit (.int .u8 38), .lit (.int .u8 29), .lit (.int .u8 17), .lit (.int .u8 4), .lit (.int .u8 62), .lit (.int .u8 47), .lit (.int .u8 59), .lit (.int .u8 36), .lit (.int .u8 45), .lit (.int .u8 43), .lit (.int .u8 51), .lit (.int .u8 22), .lit (.int .u8 53), .lit (.int .u8 39), .lit (.int .u8 33), .lit (.int .u8 30), .lit (.int .u8 24), .lit (.int .u8 18), .lit (.int .u8 12), .lit (.int .u8 5), .lit (.int .u8 63), .lit (.int .u8 55), .lit (.int .u8 48), .lit (.int .u8 27), .lit (.int .u8 60), .lit (.int .u8 41), .lit (.int .u8 37), .lit (.int .u8 16), .lit (.int .u8 46), .lit (.int .u8 35), .lit (.int .u8 44), .lit (.int .u8 21), .lit (.int .u8 52), .lit (.int .u8 32), .lit (.int .u8 23), .lit (.int .u8 11), .lit (.int .u8 54), .lit (.int .u8 26), .lit (.int .u8 40), .lit (.int .u8 15), .lit (.int .u8 34), .lit (.int .u8 20), .lit (.int .u8 31), .lit (.int .u8 10), .lit (.int .u8 25), .lit (.int .u8 14), .lit (.int .u8 19), .lit (.int .u8 9), .lit (.int .u8 13), .lit (.int .u8 8), .lit (.int .u8 7), .lit (.int .u8 6)]
def laid_internal_strconv_uint64pow10 {H : Type} : DataW H := .agg [.lit (.int .u64 1), .lit (.int .u64 10), .lit (.int .u64 100), .lit (.int .u64 1000), .lit (.int .u64 10000), .lit (.int .u64 100000), .lit (.int .u64 1000000), .lit (.int .u64 10000000), .lit (.int .u64 100000000), .lit (.int .u64 1000000000), .lit (.int .u64 10000000000), .lit (.int .u64 100000000000), .lit (.int .u64 1000000000000), .lit (.int .u64 10000000000000), .lit (.int .u64 100000000000000), .lit (.int .u64 1000000000000000), .lit (.int .u64 10000000000000000), .lit (.int .u64 100000000000000000), .lit (.int .u64 1000000000000000000), .lit (.int .u64 10000000000000000000)]
def laid_mullion_keys_shapes {H : Type} : DataW H := .agg [.agg [.lit (.string [85, 112]), .lit (.int .u8 65), .lit (.int .i64 0), .lit (.bool false)], .agg [.lit (.string [68, 111, 119, 110]), .lit (.int .u8 66), .lit (.int .i64 0), .lit (.bool false)], .agg [.lit (.string [82, 105, 103, 104, 116]), .lit (.int .u8 67), .lit (.int .i64 0), .lit (.bool false)], .agg [.lit (.string [76, 101, 102, 116]), .lit (.int .u8 68), .lit (.int .i64 0), .lit (.bool false)], .agg [.lit (.string [72, 111, 109, 101]), .lit (.int .u8 72), .lit (.int .i64 0), .lit (.bool false)], .agg [.lit (.string [69, 110, 100]), .lit (.int .u8 70), .lit (.int .i64 0), .lit (.bool false)], .agg [.lit (.string [73, 110, 115, 101, 114, 116]), .lit (.int .u8 0), .lit (.int .i64 2), .lit (.bool false)], .agg [.lit (.string [68, 101, 108, 101, 116, 101]), .lit (.int .u8 0), .lit (.int .i64 3), .lit (.bool false)], .agg [.lit (.string [80, 97, 103, 101, 85, 112]), .lit (.int .u8 0), .lit (.int .i64 5), .lit (.bool false)], .agg [.lit (.string [80, 97, 103, 101, 68, 111, 119, 110]), .lit (.int .u8 0), .lit (.int .i64 6), .lit (.bool false)], .agg [.lit (.string [70, 49]), .lit (.int .u8 80), .lit (.int .i64 0), .lit (.bool true)], .agg [.lit (.string [70, 50]), .lit (.int .u8 81), .lit (.int .i64 0), .lit (.bool true)], .agg [.lit (.string [70, 51]), .lit (.int .u8 82), .lit (.int .i64 0), .lit (.bool true)], .agg [.lit (.string [70, 52]), .lit (.int .u8 83), .lit (.int .i64 0), .lit (.bool true)], .agg [.lit (.string [70, 53]), .lit (.int .u8 0), .lit (.int .i64 15), .lit (.bool false)], .agg [.lit (.string [70, 54]), .lit (.int .u8 0), .lit (.int .i64 17), .lit (.bool false)], .agg [.lit (.string [70, 55]), .lit (.int .u8 0), .lit (.int .i64 18), .lit (.bool false)], .agg [.lit (.string [70, 56]), .lit (.int .u8 0), .lit (.int .i64 19), .lit (.bool false)], .agg [.lit (.string [70, 57]), .lit (.int .u8 0), .lit (.int .i64 20), .lit (.bool false)], .agg [.lit (.string [70, 49, 48]), .lit (.int .u8 0), .lit (.int .i64 21), .lit (.bool false)], .agg [.lit (.string [70, 49, 49]), .lit (.int .u8 0), .lit (.int .i64 23), .lit (.bool false)], .agg [.lit (.string [70, 49, 50]), .lit (.int .u8 0), .lit (.int .i64 24), .lit (.bool false)]]
def laid_unicode_utf8_acceptRanges {H : Type} : DataW H := .agg [.agg [.lit (.int .u8 128), .lit (.int .u8 191)], .agg [.lit (.int .u8 160), .lit (.int .u8 191)], .agg [.lit (.int .u8 128), .lit (.int .u8 159)], .agg [.lit (.int .u8 144), .lit (.int .u8 191)], .agg [.lit (.int .u8 128), .lit (.int .u8 143)], .agg [.lit (.int .u8 0), .lit (.int .u8 0)], .agg [.lit (.int .u8 0), .lit (.int .u8 0)], .agg [.lit (.int .u8 0), .lit (.int .u8 0)], .agg [.lit (.int .u8 0), .lit (.int .u8 0)], .agg [.lit (.int .u8 0), .lit (.int .u8 0)], .agg [.lit (.int .u8 0), .lit (.int .u8 0)], .agg [.lit (.int .u8 0), .lit (.int .u8 0)], .agg [.lit (.int .u8 0), .lit (.int .u8 0)], .agg [.lit (.int .u8 0), .lit (.int .u8 0)], .agg [.lit (.int .u8 0), .lit (.int .u8 0)], .agg [.lit (.int .u8 0), .lit (.int .u8 0)]]
/-- One of Go's own tables, pinned by name: the form's constant. -/
def laid_unicode_utf8_first : DataW Unit := Go.Pinned.utf8First

/-- 'mullionlaw21.KeysFeeds': WHATEVER THE INPUT: true; the input reads as it did. -/
def keysFeedsSpec : ChangeSpec := { name := "keysFeeds", fn := fun _ => fun
  | [d] => { results := [.lit (.bool true)], args := [d] }
  | _ => none }
def keysFeedsRow : OpenClaim := { program := "ytkbpnmgkdodcmaadoor", sum := "b3ac08f6f5e3a8cb0295d6087b857f219e4767ea5a0000862df8d3da1c61089d", func := "mullion/mullionlaw21.KeysFeeds", spec := "keysFeeds", recurses := true, named := ["mullion/keys.shapes", "internal/strconv.uint64pow10", "math/bits.deBruijn32tab", "math/bits.deBruijn64tab"], apart := false, laid := [("math/bits.deBruijn32tab", laid_math_bits_deBruijn32tab), ("math/bits.deBruijn64tab", laid_math_bits_deBruijn64tab), ("internal/strconv.uint64pow10", laid_internal_strconv_uint64pow10), ("mullion/keys.shapes", laid_mullion_keys_shapes)] }
def KeysFeedsSaid : Prop := keysFeedsRow.holds Tryd.pinned (OpenSpec.ofChange keysFeedsSpec)

/-- ITS FALSE NEIGHBOUR: 'it returns false'. Refute it at one input. -/
def keysFeedsWrong : ChangeSpec := { name := "keysFeeds", fn := fun _ => fun
  | [d] => { results := [.lit (.bool false)], args := [d] }
  | _ => none }
def KeysFeedsWrongFalsely : Prop := keysFeedsRow.holds Tryd.pinned (OpenSpec.ofChange keysFeedsWrong)

/-- 'mullionlaw21.KeysPieces': WHATEVER THE INPUT: true; the input reads as it did. -/
def keysPiecesSpec : ChangeSpec := { name := "keysPieces", fn := fun _ => fun
  | [d1, d2] => { results := [.lit (.bool true)], args := [d1, d2] }
  | _ => none }
def keysPiecesRow : OpenClaim := { program := "ytkbpnmgkdodcmaadoor", sum := "b3ac08f6f5e3a8cb0295d6087b857f219e4767ea5a0000862df8d3da1c61089d", func := "mullion/mullionlaw21.KeysPieces", spec := "keysPieces", named := ["mullion/keys.shapes", "internal/strconv.uint64pow10", "math/bits.deBruijn32tab", "math/bits.deBruijn64tab"], apart := false, laid := [("math/bits.deBruijn32tab", laid_math_bits_deBruijn32tab), ("math/bits.deBruijn64tab", laid_math_bits_deBruijn64tab), ("internal/strconv.uint64pow10", laid_internal_strconv_uint64pow10), ("mullion/keys.shapes", laid_mullion_keys_shapes)] }
def KeysPiecesSaid : Prop := keysPiecesRow.holds Tryd.pinned (OpenSpec.ofChange keysPiecesSpec)

/-- ITS FALSE NEIGHBOUR: 'it returns false'. Refute it at one input. -/
def keysPiecesWrong : ChangeSpec := { name := "keysPieces", fn := fun _ => fun
  | [d1, d2] => { results := [.lit (.bool false)], args := [d1, d2] }
  | _ => none }
def KeysPiecesWrongFalsely : Prop := keysPiecesRow.holds Tryd.pinned (OpenSpec.ofChange keysPiecesWrong)

/-- 'mullionlaw21.KeysNames': WHATEVER THE INPUT: true; the input reads as it did. -/
def keysNamesSpec : ChangeSpec := { name := "keysNames", fn := fun _ => fun
  | [d1, d2] => { results := [.lit (.bool true)], args := [d1, d2] }
  | _ => none }
def keysNamesRow : OpenClaim := { program := "ytkbpnmgkdodcmaadoor", sum := "b3ac08f6f5e3a8cb0295d6087b857f219e4767ea5a0000862df8d3da1c61089d", func := "mullion/mullionlaw21.KeysNames", spec := "keysNames", recurses := true, named := ["mullion/keys.shapes", "internal/strconv.uint64pow10", "math/bits.deBruijn32tab", "math/bits.deBruijn64tab"], apart := false, laid := [("math/bits.deBruijn32tab", laid_math_bits_deBruijn32tab), ("math/bits.deBruijn64tab", laid_math_bits_deBruijn64tab), ("internal/strconv.uint64pow10", laid_internal_strconv_uint64pow10), ("mullion/keys.shapes", laid_mullion_keys_shapes)] }
def KeysNamesSaid : Prop := keysNamesRow.holds Tryd.pinned (OpenSpec.ofChange keysNamesSpec)

/-- ITS FALSE NEIGHBOUR: 'it returns false'. Refute it at one input. -/
def keysNamesWrong : ChangeSpec := { name := "keysNames", fn := fun _ => fun
  | [d1, d2] => { results := [.lit (.bool false)], args := [d1, d2] }
  | _ => none }
def KeysNamesWrongFalsely : Prop := keysNamesRow.holds Tryd.pinned (OpenSpec.ofChange keysNamesWrong)

/-- 'mullionlaw21.KeysRound': WHATEVER THE INPUT: true; the input reads as it did. -/
def keysRoundSpec : ChangeSpec := { name := "keysRound", fn := fun _ => fun
  | [d1, d2] => { results := [.lit (.bool true)], args := [d1, d2] }
  | _ => none }
def keysRoundRow : OpenClaim := { program := "ytkbpnmgkdodcmaadoor", sum := "b3ac08f6f5e3a8cb0295d6087b857f219e4767ea5a0000862df8d3da1c61089d", func := "mullion/mullionlaw21.KeysRound", spec := "keysRound", named := ["mullion/keys.shapes", "internal/strconv.uint64pow10", "math/bits.deBruijn32tab", "math/bits.deBruijn64tab"], apart := false, laid := [("math/bits.deBruijn32tab", laid_math_bits_deBruijn32tab), ("math/bits.deBruijn64tab", laid_math_bits_deBruijn64tab), ("internal/strconv.uint64pow10", laid_internal_strconv_uint64pow10), ("mullion/keys.shapes", laid_mullion_keys_shapes)] }
def KeysRoundSaid : Prop := keysRoundRow.holds Tryd.pinned (OpenSpec.ofChange keysRoundSpec)

/-- ITS FALSE NEIGHBOUR: 'it returns false'. Refute it at one input. -/
def keysRoundWrong : ChangeSpec := { name := "keysRound", fn := fun _ => fun
  | [d1, d2] => { results := [.lit (.bool false)], args := [d1, d2] }
  | _ => none }
def KeysRoundWrongFalsely : Prop := keysRoundRow.holds Tryd.pinned (OpenSpec.ofChange keysRoundWrong)

/-- 'mullionlaw21.KeysReads': WHATEVER THE INPUT: true; the input reads as it did. -/
def keysReadsSpec : ChangeSpec := { name := "keysReads", fn := fun _ => fun
  | [d] => { results := [.lit (.bool true)], args := [d] }
  | _ => none }
def keysReadsRow : OpenClaim := { program := "ytkbpnmgkdodcmaadoor", sum := "b3ac08f6f5e3a8cb0295d6087b857f219e4767ea5a0000862df8d3da1c61089d", func := "mullion/mullionlaw21.KeysReads", spec := "keysReads", named := ["mullion/keys.shapes", "unicode/utf8.first", "unicode/utf8.acceptRanges", "internal/strconv.uint64pow10", "math/bits.deBruijn32tab", "math/bits.deBruijn64tab"], apart := false, laid := [("math/bits.deBruijn32tab", laid_math_bits_deBruijn32tab), ("math/bits.deBruijn64tab", laid_math_bits_deBruijn64tab), ("internal/strconv.uint64pow10", laid_internal_strconv_uint64pow10), ("unicode/utf8.acceptRanges", laid_unicode_utf8_acceptRanges), ("mullion/keys.shapes", laid_mullion_keys_shapes), ("unicode/utf8.first", laid_unicode_utf8_first)] }
def KeysReadsSaid : Prop := keysReadsRow.holds Tryd.pinned (OpenSpec.ofChange keysReadsSpec)

/-- ITS FALSE NEIGHBOUR: 'it returns false'. Refute it at one input. -/
def keysReadsWrong : ChangeSpec := { name := "keysReads", fn := fun _ => fun
  | [d] => { results := [.lit (.bool false)], args := [d] }
  | _ => none }
def KeysReadsWrongFalsely : Prop := keysReadsRow.holds Tryd.pinned (OpenSpec.ofChange keysReadsWrong)

/-- 'mullionlaw21.KeysBack': WHATEVER THE INPUT: true; the input reads as it did. -/
def keysBackSpec : ChangeSpec := { name := "keysBack", fn := fun _ => fun
  | [d1, d2] => { results := [.lit (.bool true)], args := [d1, d2] }
  | _ => none }
def keysBackRow : OpenClaim := { program := "ytkbpnmgkdodcmaadoor", sum := "b3ac08f6f5e3a8cb0295d6087b857f219e4767ea5a0000862df8d3da1c61089d", func := "mullion/mullionlaw21.KeysBack", spec := "keysBack", named := ["mullion/keys.shapes", "unicode/utf8.first", "unicode/utf8.acceptRanges", "internal/strconv.uint64pow10", "math/bits.deBruijn32tab", "math/bits.deBruijn64tab"], apart := false, laid := [("math/bits.deBruijn32tab", laid_math_bits_deBruijn32tab), ("math/bits.deBruijn64tab", laid_math_bits_deBruijn64tab), ("internal/strconv.uint64pow10", laid_internal_strconv_uint64pow10), ("unicode/utf8.acceptRanges", laid_unicode_utf8_acceptRanges), ("mullion/keys.shapes", laid_mullion_keys_shapes), ("unicode/utf8.first", laid_unicode_utf8_first)] }
def KeysBackSaid : Prop := keysBackRow.holds Tryd.pinned (OpenSpec.ofChange keysBackSpec)

/-- ITS FALSE NEIGHBOUR: 'it returns false'. Refute it at one input. -/
def keysBackWrong : ChangeSpec := { name := "keysBack", fn := fun _ => fun
  | [d1, d2] => { results := [.lit (.bool false)], args := [d1, d2] }
  | _ => none }
def KeysBackWrongFalsely : Prop := keysBackRow.holds Tryd.pinned (OpenSpec.ofChange keysBackWrong)

/- THE SECOND FORM. 'bulk': how many values and letters a reading holds, each counted each time it is reached (what is shared counts as often as it is met; a slice's spare places count too). A statement '..UptoSaid' is the law's where the arguments, and the package variables that the reading takes, are together of bulk at most 1048576: NARROWER than '..Said'. Prove '..Said' where nothing that the law and all that it calls make is longer than what came in: it says more and counts as full. Else prove '..UptoSaid'. A law counts once. -/
mutual
def uptoBulk {H : Type} : DataW H → Nat
  | .lit (.string bytes) => bytes.length + 1
  | .lit _ => 1
  | .nil => 1
  | .ptr d => uptoBulk d + 1
  | .slice elems spare => uptoBulkAll elems + uptoBulkAll spare + 1
  | .agg parts => uptoBulkAll parts + 1
  | .iface _ d => uptoBulk d + 1
  | .map entries => uptoBulkEntries entries + 1
  | .held _ => 1
def uptoBulkAll {H : Type} : List (DataW H) → Nat
  | [] => 0
  | d :: r => uptoBulk d + uptoBulkAll r
def uptoBulkEntries {H : Type} : List (Lit × DataW H) → Nat
  | [] => 0
  | x :: r => uptoBulkEntry x + uptoBulkEntries r
def uptoBulkEntry {H : Type} : Lit × DataW H → Nat
  | (.string bytes, d) => bytes.length + uptoBulk d + 1
  | (_, d) => uptoBulk d + 1
 end
def uptoSmall : (H : Type) → List (DataW H) → Bool := fun _ ds => decide (uptoBulkAll ds ≤ 1048576)
def OpenSpec.upto (s : _root_.Go.ChangeSpec) : _root_.Go.OpenSpec := { _root_.Go.OpenSpec.ofChange s with cond := some uptoSmall }

/-- 'mullionlaw21.KeysFeeds', WHERE WHAT IT READS IS OF BULK AT MOST 1048576: true; the input reads as it did. -/
def keysFeedsUptoRow : OpenClaim := { program := "ytkbpnmgkdodcmaadoor", sum := "b3ac08f6f5e3a8cb0295d6087b857f219e4767ea5a0000862df8d3da1c61089d", func := "mullion/mullionlaw21.KeysFeeds", spec := "keysFeeds", recurses := true, named := ["mullion/keys.shapes", "internal/strconv.uint64pow10", "math/bits.deBruijn32tab", "math/bits.deBruijn64tab"], apart := false, laid := [("math/bits.deBruijn32tab", laid_math_bits_deBruijn32tab), ("math/bits.deBruijn64tab", laid_math_bits_deBruijn64tab), ("internal/strconv.uint64pow10", laid_internal_strconv_uint64pow10), ("mullion/keys.shapes", laid_mullion_keys_shapes)], narrowed := true }
def KeysFeedsUptoSaid : Prop := keysFeedsUptoRow.holds Tryd.pinned (OpenSpec.upto keysFeedsSpec)

/-- 'mullionlaw21.KeysPieces', WHERE WHAT IT READS IS OF BULK AT MOST 1048576: true; the input reads as it did. -/
def keysPiecesUptoRow : OpenClaim := { program := "ytkbpnmgkdodcmaadoor", sum := "b3ac08f6f5e3a8cb0295d6087b857f219e4767ea5a0000862df8d3da1c61089d", func := "mullion/mullionlaw21.KeysPieces", spec := "keysPieces", named := ["mullion/keys.shapes", "internal/strconv.uint64pow10", "math/bits.deBruijn32tab", "math/bits.deBruijn64tab"], apart := false, laid := [("math/bits.deBruijn32tab", laid_math_bits_deBruijn32tab), ("math/bits.deBruijn64tab", laid_math_bits_deBruijn64tab), ("internal/strconv.uint64pow10", laid_internal_strconv_uint64pow10), ("mullion/keys.shapes", laid_mullion_keys_shapes)], narrowed := true }
def KeysPiecesUptoSaid : Prop := keysPiecesUptoRow.holds Tryd.pinned (OpenSpec.upto keysPiecesSpec)

/-- 'mullionlaw21.KeysNames', WHERE WHAT IT READS IS OF BULK AT MOST 1048576: true; the input reads as it did. -/
def keysNamesUptoRow : OpenClaim := { program := "ytkbpnmgkdodcmaadoor", sum := "b3ac08f6f5e3a8cb0295d6087b857f219e4767ea5a0000862df8d3da1c61089d", func := "mullion/mullionlaw21.KeysNames", spec := "keysNames", recurses := true, named := ["mullion/keys.shapes", "internal/strconv.uint64pow10", "math/bits.deBruijn32tab", "math/bits.deBruijn64tab"], apart := false, laid := [("math/bits.deBruijn32tab", laid_math_bits_deBruijn32tab), ("math/bits.deBruijn64tab", laid_math_bits_deBruijn64tab), ("internal/strconv.uint64pow10", laid_internal_strconv_uint64pow10), ("mullion/keys.shapes", laid_mullion_keys_shapes)], narrowed := true }
def KeysNamesUptoSaid : Prop := keysNamesUptoRow.holds Tryd.pinned (OpenSpec.upto keysNamesSpec)

/-- 'mullionlaw21.KeysRound', WHERE WHAT IT READS IS OF BULK AT MOST 1048576: true; the input reads as it did. -/
def keysRoundUptoRow : OpenClaim := { program := "ytkbpnmgkdodcmaadoor", sum := "b3ac08f6f5e3a8cb0295d6087b857f219e4767ea5a0000862df8d3da1c61089d", func := "mullion/mullionlaw21.KeysRound", spec := "keysRound", named := ["mullion/keys.shapes", "internal/strconv.uint64pow10", "math/bits.deBruijn32tab", "math/bits.deBruijn64tab"], apart := false, laid := [("math/bits.deBruijn32tab", laid_math_bits_deBruijn32tab), ("math/bits.deBruijn64tab", laid_math_bits_deBruijn64tab), ("internal/strconv.uint64pow10", laid_internal_strconv_uint64pow10), ("mullion/keys.shapes", laid_mullion_keys_shapes)], narrowed := true }
def KeysRoundUptoSaid : Prop := keysRoundUptoRow.holds Tryd.pinned (OpenSpec.upto keysRoundSpec)

/-- 'mullionlaw21.KeysReads', WHERE WHAT IT READS IS OF BULK AT MOST 1048576: true; the input reads as it did. -/
def keysReadsUptoRow : OpenClaim := { program := "ytkbpnmgkdodcmaadoor", sum := "b3ac08f6f5e3a8cb0295d6087b857f219e4767ea5a0000862df8d3da1c61089d", func := "mullion/mullionlaw21.KeysReads", spec := "keysReads", named := ["mullion/keys.shapes", "unicode/utf8.first", "unicode/utf8.acceptRanges", "internal/strconv.uint64pow10", "math/bits.deBruijn32tab", "math/bits.deBruijn64tab"], apart := false, laid := [("math/bits.deBruijn32tab", laid_math_bits_deBruijn32tab), ("math/bits.deBruijn64tab", laid_math_bits_deBruijn64tab), ("internal/strconv.uint64pow10", laid_internal_strconv_uint64pow10), ("unicode/utf8.acceptRanges", laid_unicode_utf8_acceptRanges), ("mullion/keys.shapes", laid_mullion_keys_shapes), ("unicode/utf8.first", laid_unicode_utf8_first)], narrowed := true }
def KeysReadsUptoSaid : Prop := keysReadsUptoRow.holds Tryd.pinned (OpenSpec.upto keysReadsSpec)

/-- 'mullionlaw21.KeysBack', WHERE WHAT IT READS IS OF BULK AT MOST 1048576: true; the input reads as it did. -/
def keysBackUptoRow : OpenClaim := { program := "ytkbpnmgkdodcmaadoor", sum := "b3ac08f6f5e3a8cb0295d6087b857f219e4767ea5a0000862df8d3da1c61089d", func := "mullion/mullionlaw21.KeysBack", spec := "keysBack", named := ["mullion/keys.shapes", "unicode/utf8.first", "unicode/utf8.acceptRanges", "internal/strconv.uint64pow10", "math/bits.deBruijn32tab", "math/bits.deBruijn64tab"], apart := false, laid := [("math/bits.deBruijn32tab", laid_math_bits_deBruijn32tab), ("math/bits.deBruijn64tab", laid_math_bits_deBruijn64tab), ("internal/strconv.uint64pow10", laid_internal_strconv_uint64pow10), ("unicode/utf8.acceptRanges", laid_unicode_utf8_acceptRanges), ("mullion/keys.shapes", laid_mullion_keys_shapes), ("unicode/utf8.first", laid_unicode_utf8_first)], narrowed := true }
def KeysBackUptoSaid : Prop := keysBackUptoRow.holds Tryd.pinned (OpenSpec.upto keysBackSpec)

end Rows
end Go.Proofs.YtkbpnmgkdodcmaaDoor
