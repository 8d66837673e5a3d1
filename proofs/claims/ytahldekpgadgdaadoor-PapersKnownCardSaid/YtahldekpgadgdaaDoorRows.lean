/-
  NARROWER THAN 'FOR EVERY INPUT', by the rows' own cells (each row's printed sentence says how): PapersWritten: laid · PapersJoined: laid · PapersReadings: laid · PapersNot: laid · PapersMeans: laid · PapersTrue: laid · PapersClear: laid · PapersCourt: laid · PapersKnown: laid.
  DERIVED. THE GIVEN ROWS OF THIS SEAT. 9 by the template 'for every input the law returns true; each argument reads behind the call as it read before'; 0 by the template 'total and deterministic' (their statements: YtahldekpgadgdaaDoorTotals.lean).
  GIVEN WITH THE SEED: the statements are not yours to turn. If you find one false, say at which input.
  Laid BY PROGRAM, IN A SANDBOX (cutbox-rows.mjs): the forced cells as the released guide's own fill.sh prints them over the translation fce9251c11c23ef7… (all of the seat's roots in one cut). By AI agents, Wed Nov 11 2026. No macro, syntax, notation, axiom, sorry.
-/
import Derived.Test.YtahldekpgadgdaaDoorChecked
import GoSem.PinnedTables
import GoSem.Claim
import GoSem.ClaimJoined
import GoSem.ClaimMapViews
import Derived.JoinedTies
import Derived.KernelRfl
namespace Go.Proofs.YtahldekpgadgdaaDoor
/- THE CELL 'sum', in the pinned program and in every row, IS THE sha256 OF THE DUMP (.gsa) THAT YtahldekpgadgdaaDoorProg.lean LOADS. Nothing in Lean hashes anything: it is a label: what it is worth is what the hold of that sum in a sandbox is worth. -/
noncomputable def Tryd.pinned : Pinned := { name := "ytahldekpgadgdaadoor", sum := "fce9251c11c23ef7c31ceb683837b287606c57dedb9629f38b7ed036009a04eb", checked := Tryd.checked }
namespace Rows
def none {H : Type} : Left H := { results := [], args := [] }

/- WHAT THE LISTED PACKAGE-LEVEL VARIABLES READ AS WHEN THE CALL BEGINS. Each datum BY PROGRAM (the guide's laid-datum.mjs) off the statement by which the dump's own 'gosem.cut.vars' lays the variable. In a bare row this is a premise. The card (YtahldekpgadgdaaDoorCards.lean) ties it to the program's text. -/
def laid_unicode_utf8_acceptRanges {H : Type} : DataW H := .agg [.agg [.lit (.int .u8 128), .lit (.int .u8 191)], .agg [.lit (.int .u8 160), .lit (.int .u8 191)], .agg [.lit (.int .u8 128), .lit (.int .u8 159)], .agg [.lit (.int .u8 144), .lit (.int .u8 191)], .agg [.lit (.int .u8 128), .lit (.int .u8 143)], .agg [.lit (.int .u8 0), .lit (.int .u8 0)], .agg [.lit (.int .u8 0), .lit (.int .u8 0)], .agg [.lit (.int .u8 0), .lit (.int .u8 0)], .agg [.lit (.int .u8 0), .lit (.int .u8 0)], .agg [.lit (.int .u8 0), .lit (.int .u8 0)], .agg [.lit (.int .u8 0), .lit (.int .u8 0)], .agg [.lit (.int .u8 0), .lit (.int .u8 0)], .agg [.lit (.int .u8 0), .lit (.int .u8 0)], .agg [.lit (.int .u8 0), .lit (.int .u8 0)], .agg [.lit (.int .u8 0), .lit (.int .u8 0)], .agg [.lit (.int .u8 0), .lit (.int .u8 0)]]
/-- One of Go's own tables, pinned by name: the form's constant. -/
def laid_unicode_utf8_first : DataW Unit := Go.Pinned.utf8First

/-- 'shacklelaw13.PapersWritten': WHATEVER THE INPUT: true; the input reads as it did. -/
def papersWrittenSpec : ChangeSpec := { name := "papersWritten", fn := fun _ => fun
  | [d] => { results := [.lit (.bool true)], args := [d] }
  | _ => none }
def papersWrittenRow : OpenClaim := { program := "ytahldekpgadgdaadoor", sum := "fce9251c11c23ef7c31ceb683837b287606c57dedb9629f38b7ed036009a04eb", func := "shackle/shacklelaw13.PapersWritten", spec := "papersWritten", inPlace := ["internal/bytealg.CountString", "internal/bytealg.IndexByteString", "internal/bytealg.IndexString"], recurses := true, named := ["unicode/utf8.first", "unicode/utf8.acceptRanges", "internal/bytealg.MaxLen"], apart := false, laid := [("unicode/utf8.acceptRanges", laid_unicode_utf8_acceptRanges), ("unicode/utf8.first", laid_unicode_utf8_first)] }
def PapersWrittenSaid : Prop := papersWrittenRow.holds Tryd.pinned (OpenSpec.ofChange papersWrittenSpec)

/-- ITS FALSE NEIGHBOUR: 'it returns false'. Refute it at one input. -/
def papersWrittenWrong : ChangeSpec := { name := "papersWritten", fn := fun _ => fun
  | [d] => { results := [.lit (.bool false)], args := [d] }
  | _ => none }
def PapersWrittenWrongFalsely : Prop := papersWrittenRow.holds Tryd.pinned (OpenSpec.ofChange papersWrittenWrong)

/-- 'shacklelaw13.PapersJoined': WHATEVER THE INPUT: true; the input reads as it did. -/
def papersJoinedSpec : ChangeSpec := { name := "papersJoined", fn := fun _ => fun
  | [d1, d2] => { results := [.lit (.bool true)], args := [d1, d2] }
  | _ => none }
def papersJoinedRow : OpenClaim := { program := "ytahldekpgadgdaadoor", sum := "fce9251c11c23ef7c31ceb683837b287606c57dedb9629f38b7ed036009a04eb", func := "shackle/shacklelaw13.PapersJoined", spec := "papersJoined", inPlace := ["internal/bytealg.CountString", "internal/bytealg.IndexByteString", "internal/bytealg.IndexString"], recurses := true, named := ["unicode/utf8.first", "unicode/utf8.acceptRanges", "internal/bytealg.MaxLen"], apart := false, laid := [("unicode/utf8.acceptRanges", laid_unicode_utf8_acceptRanges), ("unicode/utf8.first", laid_unicode_utf8_first)] }
def PapersJoinedSaid : Prop := papersJoinedRow.holds Tryd.pinned (OpenSpec.ofChange papersJoinedSpec)

/-- ITS FALSE NEIGHBOUR: 'it returns false'. Refute it at one input. -/
def papersJoinedWrong : ChangeSpec := { name := "papersJoined", fn := fun _ => fun
  | [d1, d2] => { results := [.lit (.bool false)], args := [d1, d2] }
  | _ => none }
def PapersJoinedWrongFalsely : Prop := papersJoinedRow.holds Tryd.pinned (OpenSpec.ofChange papersJoinedWrong)

/-- 'shacklelaw13.PapersReadings': WHATEVER THE INPUT: true; the input reads as it did. -/
def papersReadingsSpec : ChangeSpec := { name := "papersReadings", fn := fun _ => fun
  | [d1, d2] => { results := [.lit (.bool true)], args := [d1, d2] }
  | _ => none }
def papersReadingsRow : OpenClaim := { program := "ytahldekpgadgdaadoor", sum := "fce9251c11c23ef7c31ceb683837b287606c57dedb9629f38b7ed036009a04eb", func := "shackle/shacklelaw13.PapersReadings", spec := "papersReadings", inPlace := ["internal/bytealg.CountString", "internal/bytealg.IndexByteString", "internal/bytealg.IndexString"], recurses := true, named := ["unicode/utf8.first", "unicode/utf8.acceptRanges", "internal/bytealg.MaxLen"], apart := false, laid := [("unicode/utf8.acceptRanges", laid_unicode_utf8_acceptRanges), ("unicode/utf8.first", laid_unicode_utf8_first)] }
def PapersReadingsSaid : Prop := papersReadingsRow.holds Tryd.pinned (OpenSpec.ofChange papersReadingsSpec)

/-- ITS FALSE NEIGHBOUR: 'it returns false'. Refute it at one input. -/
def papersReadingsWrong : ChangeSpec := { name := "papersReadings", fn := fun _ => fun
  | [d1, d2] => { results := [.lit (.bool false)], args := [d1, d2] }
  | _ => none }
def PapersReadingsWrongFalsely : Prop := papersReadingsRow.holds Tryd.pinned (OpenSpec.ofChange papersReadingsWrong)

/-- 'shacklelaw13.PapersNot': WHATEVER THE INPUT: true; the input reads as it did. -/
def papersNotSpec : ChangeSpec := { name := "papersNot", fn := fun _ => fun
  | [d] => { results := [.lit (.bool true)], args := [d] }
  | _ => none }
def papersNotRow : OpenClaim := { program := "ytahldekpgadgdaadoor", sum := "fce9251c11c23ef7c31ceb683837b287606c57dedb9629f38b7ed036009a04eb", func := "shackle/shacklelaw13.PapersNot", spec := "papersNot", inPlace := ["internal/bytealg.CountString", "internal/bytealg.IndexByteString", "internal/bytealg.IndexString"], recurses := true, named := ["unicode/utf8.first", "unicode/utf8.acceptRanges", "internal/bytealg.MaxLen"], apart := false, laid := [("unicode/utf8.acceptRanges", laid_unicode_utf8_acceptRanges), ("unicode/utf8.first", laid_unicode_utf8_first)] }
def PapersNotSaid : Prop := papersNotRow.holds Tryd.pinned (OpenSpec.ofChange papersNotSpec)

/-- ITS FALSE NEIGHBOUR: 'it returns false'. Refute it at one input. -/
def papersNotWrong : ChangeSpec := { name := "papersNot", fn := fun _ => fun
  | [d] => { results := [.lit (.bool false)], args := [d] }
  | _ => none }
def PapersNotWrongFalsely : Prop := papersNotRow.holds Tryd.pinned (OpenSpec.ofChange papersNotWrong)

/-- 'shacklelaw13.PapersMeans': WHATEVER THE INPUT: true; the input reads as it did. -/
def papersMeansSpec : ChangeSpec := { name := "papersMeans", fn := fun _ => fun
  | [d1, d2] => { results := [.lit (.bool true)], args := [d1, d2] }
  | _ => none }
def papersMeansRow : OpenClaim := { program := "ytahldekpgadgdaadoor", sum := "fce9251c11c23ef7c31ceb683837b287606c57dedb9629f38b7ed036009a04eb", func := "shackle/shacklelaw13.PapersMeans", spec := "papersMeans", inPlace := ["internal/bytealg.CountString", "internal/bytealg.IndexByteString", "internal/bytealg.IndexString"], recurses := true, named := ["unicode/utf8.first", "unicode/utf8.acceptRanges", "internal/bytealg.MaxLen"], apart := false, laid := [("unicode/utf8.acceptRanges", laid_unicode_utf8_acceptRanges), ("unicode/utf8.first", laid_unicode_utf8_first)] }
def PapersMeansSaid : Prop := papersMeansRow.holds Tryd.pinned (OpenSpec.ofChange papersMeansSpec)

/-- ITS FALSE NEIGHBOUR: 'it returns false'. Refute it at one input. -/
def papersMeansWrong : ChangeSpec := { name := "papersMeans", fn := fun _ => fun
  | [d1, d2] => { results := [.lit (.bool false)], args := [d1, d2] }
  | _ => none }
def PapersMeansWrongFalsely : Prop := papersMeansRow.holds Tryd.pinned (OpenSpec.ofChange papersMeansWrong)

/-- 'shacklelaw13.PapersTrue': WHATEVER THE INPUT: true; the input reads as it did. -/
def papersTrueSpec : ChangeSpec := { name := "papersTrue", fn := fun _ => fun
  | [d1, d2] => { results := [.lit (.bool true)], args := [d1, d2] }
  | _ => none }
def papersTrueRow : OpenClaim := { program := "ytahldekpgadgdaadoor", sum := "fce9251c11c23ef7c31ceb683837b287606c57dedb9629f38b7ed036009a04eb", func := "shackle/shacklelaw13.PapersTrue", spec := "papersTrue", inPlace := ["internal/bytealg.CountString", "internal/bytealg.IndexByteString", "internal/bytealg.IndexString"], recurses := true, named := ["unicode/utf8.first", "unicode/utf8.acceptRanges", "internal/bytealg.MaxLen"], apart := false, laid := [("unicode/utf8.acceptRanges", laid_unicode_utf8_acceptRanges), ("unicode/utf8.first", laid_unicode_utf8_first)] }
def PapersTrueSaid : Prop := papersTrueRow.holds Tryd.pinned (OpenSpec.ofChange papersTrueSpec)

/-- ITS FALSE NEIGHBOUR: 'it returns false'. Refute it at one input. -/
def papersTrueWrong : ChangeSpec := { name := "papersTrue", fn := fun _ => fun
  | [d1, d2] => { results := [.lit (.bool false)], args := [d1, d2] }
  | _ => none }
def PapersTrueWrongFalsely : Prop := papersTrueRow.holds Tryd.pinned (OpenSpec.ofChange papersTrueWrong)

/-- 'shacklelaw13.PapersClear': WHATEVER THE INPUT: true; the input reads as it did. -/
def papersClearSpec : ChangeSpec := { name := "papersClear", fn := fun _ => fun
  | [d] => { results := [.lit (.bool true)], args := [d] }
  | _ => none }
def papersClearRow : OpenClaim := { program := "ytahldekpgadgdaadoor", sum := "fce9251c11c23ef7c31ceb683837b287606c57dedb9629f38b7ed036009a04eb", func := "shackle/shacklelaw13.PapersClear", spec := "papersClear", inPlace := ["internal/bytealg.CountString", "internal/bytealg.IndexByteString", "internal/bytealg.IndexString"], recurses := true, named := ["unicode/utf8.first", "unicode/utf8.acceptRanges", "internal/bytealg.MaxLen"], apart := false, laid := [("unicode/utf8.acceptRanges", laid_unicode_utf8_acceptRanges), ("unicode/utf8.first", laid_unicode_utf8_first)] }
def PapersClearSaid : Prop := papersClearRow.holds Tryd.pinned (OpenSpec.ofChange papersClearSpec)

/-- ITS FALSE NEIGHBOUR: 'it returns false'. Refute it at one input. -/
def papersClearWrong : ChangeSpec := { name := "papersClear", fn := fun _ => fun
  | [d] => { results := [.lit (.bool false)], args := [d] }
  | _ => none }
def PapersClearWrongFalsely : Prop := papersClearRow.holds Tryd.pinned (OpenSpec.ofChange papersClearWrong)

/-- 'shacklelaw13.PapersCourt': WHATEVER THE INPUT: true; the input reads as it did. -/
def papersCourtSpec : ChangeSpec := { name := "papersCourt", fn := fun _ => fun
  | [d] => { results := [.lit (.bool true)], args := [d] }
  | _ => none }
def papersCourtRow : OpenClaim := { program := "ytahldekpgadgdaadoor", sum := "fce9251c11c23ef7c31ceb683837b287606c57dedb9629f38b7ed036009a04eb", func := "shackle/shacklelaw13.PapersCourt", spec := "papersCourt", inPlace := ["internal/bytealg.CountString", "internal/bytealg.IndexByteString", "internal/bytealg.IndexString"], recurses := true, named := ["unicode/utf8.first", "unicode/utf8.acceptRanges", "internal/bytealg.MaxLen"], apart := false, laid := [("unicode/utf8.acceptRanges", laid_unicode_utf8_acceptRanges), ("unicode/utf8.first", laid_unicode_utf8_first)] }
def PapersCourtSaid : Prop := papersCourtRow.holds Tryd.pinned (OpenSpec.ofChange papersCourtSpec)

/-- ITS FALSE NEIGHBOUR: 'it returns false'. Refute it at one input. -/
def papersCourtWrong : ChangeSpec := { name := "papersCourt", fn := fun _ => fun
  | [d] => { results := [.lit (.bool false)], args := [d] }
  | _ => none }
def PapersCourtWrongFalsely : Prop := papersCourtRow.holds Tryd.pinned (OpenSpec.ofChange papersCourtWrong)

/-- 'shacklelaw13.PapersKnown': WHATEVER THE INPUT: true; the input reads as it did. -/
def papersKnownSpec : ChangeSpec := { name := "papersKnown", fn := fun _ => fun
  | [d1, d2] => { results := [.lit (.bool true)], args := [d1, d2] }
  | _ => none }
def papersKnownRow : OpenClaim := { program := "ytahldekpgadgdaadoor", sum := "fce9251c11c23ef7c31ceb683837b287606c57dedb9629f38b7ed036009a04eb", func := "shackle/shacklelaw13.PapersKnown", spec := "papersKnown", inPlace := ["internal/bytealg.CountString", "internal/bytealg.IndexByteString", "internal/bytealg.IndexString"], recurses := true, named := ["unicode/utf8.first", "unicode/utf8.acceptRanges", "internal/bytealg.MaxLen"], apart := false, laid := [("unicode/utf8.acceptRanges", laid_unicode_utf8_acceptRanges), ("unicode/utf8.first", laid_unicode_utf8_first)] }
def PapersKnownSaid : Prop := papersKnownRow.holds Tryd.pinned (OpenSpec.ofChange papersKnownSpec)

/-- ITS FALSE NEIGHBOUR: 'it returns false'. Refute it at one input. -/
def papersKnownWrong : ChangeSpec := { name := "papersKnown", fn := fun _ => fun
  | [d1, d2] => { results := [.lit (.bool false)], args := [d1, d2] }
  | _ => none }
def PapersKnownWrongFalsely : Prop := papersKnownRow.holds Tryd.pinned (OpenSpec.ofChange papersKnownWrong)

/- THE SECOND FORM. 'bulk': how many values and letters a reading holds, each counted each time it is reached (what is shared counts as often as it is met; a slice's spare places count too). A statement '..UptoSaid' is the law's where the arguments, and the package variables that the reading takes, are together of bulk at most 1048576: NARROWER than '..Said'. Prove '..Said' where nothing that the law and all that it calls make is longer than what came in: it says more and counts as full. Else prove '..UptoSaid'. A law counts once. -/
mutual
def uptoBulk {H : Type} : DataW H → Nat
  | .lit (.string bytes) => bytes.length + 1
  | .lit _ => 1
  | .nil => 1
  | .ptr d => uptoBulk d + 1
  | .slice elems spare => uptoBulkAll elems + uptoBulkAll spare + 1
  | .agg parts => uptoBulkAll parts + 1
  | .iface _ d => uptoBulk d + 1
  | .map entries => uptoBulkEntries entries + 1
  | .held _ => 1
def uptoBulkAll {H : Type} : List (DataW H) → Nat
  | [] => 0
  | d :: r => uptoBulk d + uptoBulkAll r
def uptoBulkEntries {H : Type} : List (Lit × DataW H) → Nat
  | [] => 0
  | x :: r => uptoBulkEntry x + uptoBulkEntries r
def uptoBulkEntry {H : Type} : Lit × DataW H → Nat
  | (.string bytes, d) => bytes.length + uptoBulk d + 1
  | (_, d) => uptoBulk d + 1
 end
def uptoSmall : (H : Type) → List (DataW H) → Bool := fun _ ds => decide (uptoBulkAll ds ≤ 1048576)
def OpenSpec.upto (s : _root_.Go.ChangeSpec) : _root_.Go.OpenSpec := { _root_.Go.OpenSpec.ofChange s with cond := some uptoSmall }

/-- 'shacklelaw13.PapersWritten', WHERE WHAT IT READS IS OF BULK AT MOST 1048576: true; the input reads as it did. -/
def papersWrittenUptoRow : OpenClaim := { program := "ytahldekpgadgdaadoor", sum := "fce9251c11c23ef7c31ceb683837b287606c57dedb9629f38b7ed036009a04eb", func := "shackle/shacklelaw13.PapersWritten", spec := "papersWritten", inPlace := ["internal/bytealg.CountString", "internal/bytealg.IndexByteString", "internal/bytealg.IndexString"], recurses := true, named := ["unicode/utf8.first", "unicode/utf8.acceptRanges", "internal/bytealg.MaxLen"], apart := false, laid := [("unicode/utf8.acceptRanges", laid_unicode_utf8_acceptRanges), ("unicode/utf8.first", laid_unicode_utf8_first)], narrowed := true }
def PapersWrittenUptoSaid : Prop := papersWrittenUptoRow.holds Tryd.pinned (OpenSpec.upto papersWrittenSpec)

/-- 'shacklelaw13.PapersJoined', WHERE WHAT IT READS IS OF BULK AT MOST 1048576: true; the input reads as it did. -/
def papersJoinedUptoRow : OpenClaim := { program := "ytahldekpgadgdaadoor", sum := "fce9251c11c23ef7c31ceb683837b287606c57dedb9629f38b7ed036009a04eb", func := "shackle/shacklelaw13.PapersJoined", spec := "papersJoined", inPlace := ["internal/bytealg.CountString", "internal/bytealg.IndexByteString", "internal/bytealg.IndexString"], recurses := true, named := ["unicode/utf8.first", "unicode/utf8.acceptRanges", "internal/bytealg.MaxLen"], apart := false, laid := [("unicode/utf8.acceptRanges", laid_unicode_utf8_acceptRanges), ("unicode/utf8.first", laid_unicode_utf8_first)], narrowed := true }
def PapersJoinedUptoSaid : Prop := papersJoinedUptoRow.holds Tryd.pinned (OpenSpec.upto papersJoinedSpec)

/-- 'shacklelaw13.PapersReadings', WHERE WHAT IT READS IS OF BULK AT MOST 1048576: true; the input reads as it did. -/
def papersReadingsUptoRow : OpenClaim := { program := "ytahldekpgadgdaadoor", sum := "fce9251c11c23ef7c31ceb683837b287606c57dedb9629f38b7ed036009a04eb", func := "shackle/shacklelaw13.PapersReadings", spec := "papersReadings", inPlace := ["internal/bytealg.CountString", "internal/bytealg.IndexByteString", "internal/bytealg.IndexString"], recurses := true, named := ["unicode/utf8.first", "unicode/utf8.acceptRanges", "internal/bytealg.MaxLen"], apart := false, laid := [("unicode/utf8.acceptRanges", laid_unicode_utf8_acceptRanges), ("unicode/utf8.first", laid_unicode_utf8_first)], narrowed := true }
def PapersReadingsUptoSaid : Prop := papersReadingsUptoRow.holds Tryd.pinned (OpenSpec.upto papersReadingsSpec)

/-- 'shacklelaw13.PapersNot', WHERE WHAT IT READS IS OF BULK AT MOST 1048576: true; the input reads as it did. -/
def papersNotUptoRow : OpenClaim := { program := "ytahldekpgadgdaadoor", sum := "fce9251c11c23ef7c31ceb683837b287606c57dedb9629f38b7ed036009a04eb", func := "shackle/shacklelaw13.PapersNot", spec := "papersNot", inPlace := ["internal/bytealg.CountString", "internal/bytealg.IndexByteString", "internal/bytealg.IndexString"], recurses := true, named := ["unicode/utf8.first", "unicode/utf8.acceptRanges", "internal/bytealg.MaxLen"], apart := false, laid := [("unicode/utf8.acceptRanges", laid_unicode_utf8_acceptRanges), ("unicode/utf8.first", laid_unicode_utf8_first)], narrowed := true }
def PapersNotUptoSaid : Prop := papersNotUptoRow.holds Tryd.pinned (OpenSpec.upto papersNotSpec)

/-- 'shacklelaw13.PapersMeans', WHERE WHAT IT READS IS OF BULK AT MOST 1048576: true; the input reads as it did. -/
def papersMeansUptoRow : OpenClaim := { program := "ytahldekpgadgdaadoor", sum := "fce9251c11c23ef7c31ceb683837b287606c57dedb9629f38b7ed036009a04eb", func := "shackle/shacklelaw13.PapersMeans", spec := "papersMeans", inPlace := ["internal/bytealg.CountString", "internal/bytealg.IndexByteString", "internal/bytealg.IndexString"], recurses := true, named := ["unicode/utf8.first", "unicode/utf8.acceptRanges", "internal/bytealg.MaxLen"], apart := false, laid := [("unicode/utf8.acceptRanges", laid_unicode_utf8_acceptRanges), ("unicode/utf8.first", laid_unicode_utf8_first)], narrowed := true }
def PapersMeansUptoSaid : Prop := papersMeansUptoRow.holds Tryd.pinned (OpenSpec.upto papersMeansSpec)

/-- 'shacklelaw13.PapersTrue', WHERE WHAT IT READS IS OF BULK AT MOST 1048576: true; the input reads as it did. -/
def papersTrueUptoRow : OpenClaim := { program := "ytahldekpgadgdaadoor", sum := "fce9251c11c23ef7c31ceb683837b287606c57dedb9629f38b7ed036009a04eb", func := "shackle/shacklelaw13.PapersTrue", spec := "papersTrue", inPlace := ["internal/bytealg.CountString", "internal/bytealg.IndexByteString", "internal/bytealg.IndexString"], recurses := true, named := ["unicode/utf8.first", "unicode/utf8.acceptRanges", "internal/bytealg.MaxLen"], apart := false, laid := [("unicode/utf8.acceptRanges", laid_unicode_utf8_acceptRanges), ("unicode/utf8.first", laid_unicode_utf8_first)], narrowed := true }
def PapersTrueUptoSaid : Prop := papersTrueUptoRow.holds Tryd.pinned (OpenSpec.upto papersTrueSpec)

/-- 'shacklelaw13.PapersClear', WHERE WHAT IT READS IS OF BULK AT MOST 1048576: true; the input reads as it did. -/
def papersClearUptoRow : OpenClaim := { program := "ytahldekpgadgdaadoor", sum := "fce9251c11c23ef7c31ceb683837b287606c57dedb9629f38b7ed036009a04eb", func := "shackle/shacklelaw13.PapersClear", spec := "papersClear", inPlace := ["internal/bytealg.CountString", "internal/bytealg.IndexByteString", "internal/bytealg.IndexString"], recurses := true, named := ["unicode/utf8.first", "unicode/utf8.acceptRanges", "internal/bytealg.MaxLen"], apart := false, laid := [("unicode/utf8.acceptRanges", laid_unicode_utf8_acceptRanges), ("unicode/utf8.first", laid_unicode_utf8_first)], narrowed := true }
def PapersClearUptoSaid : Prop := papersClearUptoRow.holds Tryd.pinned (OpenSpec.upto papersClearSpec)

/-- 'shacklelaw13.PapersCourt', WHERE WHAT IT READS IS OF BULK AT MOST 1048576: true; the input reads as it did. -/
def papersCourtUptoRow : OpenClaim := { program := "ytahldekpgadgdaadoor", sum := "fce9251c11c23ef7c31ceb683837b287606c57dedb9629f38b7ed036009a04eb", func := "shackle/shacklelaw13.PapersCourt", spec := "papersCourt", inPlace := ["internal/bytealg.CountString", "internal/bytealg.IndexByteString", "internal/bytealg.IndexString"], recurses := true, named := ["unicode/utf8.first", "unicode/utf8.acceptRanges", "internal/bytealg.MaxLen"], apart := false, laid := [("unicode/utf8.acceptRanges", laid_unicode_utf8_acceptRanges), ("unicode/utf8.first", laid_unicode_utf8_first)], narrowed := true }
def PapersCourtUptoSaid : Prop := papersCourtUptoRow.holds Tryd.pinned (OpenSpec.upto papersCourtSpec)

/-- 'shacklelaw13.PapersKnown', WHERE WHAT IT READS IS OF BULK AT MOST 1048576: true; the input reads as it did. -/
def papersKnownUptoRow : OpenClaim := { program := "ytahldekpgadgdaadoor", sum := "fce9251c11c23ef7c31ceb683837b287606c57dedb9629f38b7ed036009a04eb", func := "shackle/shacklelaw13.PapersKnown", spec := "papersKnown", inPlace := ["internal/bytealg.CountString", "internal/bytealg.IndexByteString", "internal/bytealg.IndexString"], recurses := true, named := ["unicode/utf8.first", "unicode/utf8.acceptRanges", "internal/bytealg.MaxLen"], apart := false, laid := [("unicode/utf8.acceptRanges", laid_unicode_utf8_acceptRanges), ("unicode/utf8.first", laid_unicode_utf8_first)], narrowed := true }
def PapersKnownUptoSaid : Prop := papersKnownUptoRow.holds Tryd.pinned (OpenSpec.upto papersKnownSpec)

end Rows
end Go.Proofs.YtahldekpgadgdaaDoor
