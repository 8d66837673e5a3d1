/-
  DERIVED. GIVEN WITH THE SEED: THE CARDS: each row of YtpiohpigfaahcaaGreatDoorRows.lean that lists a variable, with what it lists TIED to the program's text (the seventh form; the later family's looks); each row that meets fmt, with fmt's text TOLD by the authors' own Lean function (tested against real Go, not proved from fmt's source: count such statements apart). THE CARD IS WHAT COUNTS. Prove the row's statement (the work); the ties are given (YtpiohpigfaahcaaGreatDoorTie.lean); close each card by the builder's one call (the guide's Derived/Test/ToyasCard.lean, 'card_holds'). Laid BY PROGRAM, IN A SANDBOX (cutbox-door.mjs). By AI agents, Wed Nov 11 2026. No macro, syntax, notation, axiom, sorry.
-/
import Derived.Test.YtpiohpigfaahcaaGreatDoorRows
import GoSem.ClaimSeven
namespace Go.Proofs.YtpiohpigfaahcaaGreatDoor
namespace Rows

/-- THE TIED CARD OF 'shacklelaw14.BooksReplay'. -/
def booksReplayCard : Claim7 := { stood := { row := booksReplayRow, standIns := [], harness := (true, "463c8234730a52e7550edfe3027c4b17fcc05193e7e3f7ef6e6690c83bbcd42d"), looks := true }, kinds := [], alts := [], laidByText := true, laidKinds := [.data, .data, .data, .data, .sentinel, .sentinel, .pinned], laidTests := true, laidLooks := .later }
def BooksReplayCardSaid : Prop := Claim7.holds Tryz.pinned (.plain (OpenSpec.ofChange booksReplaySpec)) booksReplayCard

/-- THE SECOND FORM's CARD OF 'shacklelaw14.BooksReplay'. -/
def booksReplayUptoCard : Claim7 := { stood := { row := booksReplayUptoRow, standIns := [], harness := (true, "463c8234730a52e7550edfe3027c4b17fcc05193e7e3f7ef6e6690c83bbcd42d"), looks := true }, kinds := [], alts := [], laidByText := true, laidKinds := [.data, .data, .data, .data, .sentinel, .sentinel, .pinned], laidTests := true, laidLooks := .later }
def BooksReplayUptoCardSaid : Prop := Claim7.holds Tryz.pinned (.plain (OpenSpec.upto booksReplaySpec)) booksReplayUptoCard
end Rows
end Go.Proofs.YtpiohpigfaahcaaGreatDoor
