/-
  DERIVED. GIVEN WITH THE SEED: THE CARDS: each row of YtcdbenehbakjgaaGreatDoorRows.lean that lists a variable, with what it lists TIED to the program's text (the seventh form; the later family's looks); each row that meets fmt, with fmt's text TOLD by the authors' own Lean function (tested against real Go, not proved from fmt's source: count such statements apart). THE CARD IS WHAT COUNTS. Prove the row's statement (the work); the ties are given (YtcdbenehbakjgaaGreatDoorTie.lean); close each card by the builder's one call (the guide's Derived/Test/ToyasCard.lean, 'card_holds'). Laid BY PROGRAM, IN A SANDBOX (cutbox-door.mjs). By AI agents, Wed Nov 11 2026. No macro, syntax, notation, axiom, sorry.
-/
import Derived.Test.YtcdbenehbakjgaaGreatDoorRows
import GoSem.ClaimSeven
namespace Go.Proofs.YtcdbenehbakjgaaGreatDoor
namespace Rows

/-- THE TIED CARD OF 'shacklelaw14.BooksHouse'. -/
def booksHouseCard : Claim7 := { stood := { row := booksHouseRow, standIns := [], harness := (true, "7a96464e1bed91cf2420f3091084554315a195a65c06ccd70c5cdd01b077dd75"), looks := true }, kinds := [], alts := [], laidByText := true, laidKinds := [.data, .data, .data, .data, .sentinel, .sentinel, .pinned], laidTests := true, laidLooks := .later }
def BooksHouseCardSaid : Prop := Claim7.holds Tryz.pinned (.plain (OpenSpec.ofChange booksHouseSpec)) booksHouseCard

/-- THE SECOND FORM's CARD OF 'shacklelaw14.BooksHouse'. -/
def booksHouseUptoCard : Claim7 := { stood := { row := booksHouseUptoRow, standIns := [], harness := (true, "7a96464e1bed91cf2420f3091084554315a195a65c06ccd70c5cdd01b077dd75"), looks := true }, kinds := [], alts := [], laidByText := true, laidKinds := [.data, .data, .data, .data, .sentinel, .sentinel, .pinned], laidTests := true, laidLooks := .later }
def BooksHouseUptoCardSaid : Prop := Claim7.holds Tryz.pinned (.plain (OpenSpec.upto booksHouseSpec)) booksHouseUptoCard
end Rows
end Go.Proofs.YtcdbenehbakjgaaGreatDoor
