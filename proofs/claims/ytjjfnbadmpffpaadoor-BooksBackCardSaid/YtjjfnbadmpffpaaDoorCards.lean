/-
  DERIVED. GIVEN WITH THE SEED: THE CARDS: each row of YtjjfnbadmpffpaaDoorRows.lean that lists a variable, with what it lists TIED to the program's text (the seventh form; the later family's looks); each row that meets fmt, with fmt's text TOLD by the authors' own Lean function (tested against real Go, not proved from fmt's source: count such statements apart). THE CARD IS WHAT COUNTS. Prove the row's statement (the work); the ties are given (YtjjfnbadmpffpaaDoorTie.lean); close each card by the builder's one call (the guide's Derived/Test/ToyasCard.lean, 'card_holds'). Laid BY PROGRAM, IN A SANDBOX (cutbox-door.mjs). By AI agents, Wed Nov 11 2026. No macro, syntax, notation, axiom, sorry.
-/
import Derived.Test.YtjjfnbadmpffpaaDoorRows
import GoSem.ClaimSeven
namespace Go.Proofs.YtjjfnbadmpffpaaDoor
namespace Rows

/-- THE TIED CARD OF 'shacklelaw14.BooksWrite'. -/
def booksWriteCard : Claim7 := { stood := { row := booksWriteRow, standIns := [], harness := (true, "6d69357c353fd5c26344541bffd8c6b74480c7ca1709818cf461b4909a60a08f"), looks := false }, kinds := [], alts := [], laidByText := true, laidKinds := [.data, .pinned], laidTests := true, laidLooks := .later }
def BooksWriteCardSaid : Prop := Claim7.holds Tryd.pinned (.plain (OpenSpec.ofChange booksWriteSpec)) booksWriteCard

/-- THE TIED CARD OF 'shacklelaw14.BooksByte'. -/
def booksByteCard : Claim7 := { stood := { row := booksByteRow, standIns := [], harness := (true, "6d69357c353fd5c26344541bffd8c6b74480c7ca1709818cf461b4909a60a08f"), looks := false }, kinds := [], alts := [], laidByText := true, laidKinds := [.data, .pinned], laidTests := true, laidLooks := .later }
def BooksByteCardSaid : Prop := Claim7.holds Tryd.pinned (.plain (OpenSpec.ofChange booksByteSpec)) booksByteCard

/-- THE TIED CARD OF 'shacklelaw14.BooksOrder'. -/
def booksOrderCard : Claim7 := { stood := { row := booksOrderRow, standIns := [], harness := (true, "6d69357c353fd5c26344541bffd8c6b74480c7ca1709818cf461b4909a60a08f"), looks := false }, kinds := [], alts := [], laidByText := true, laidKinds := [.data, .pinned], laidTests := true, laidLooks := .later }
def BooksOrderCardSaid : Prop := Claim7.holds Tryd.pinned (.plain (OpenSpec.ofChange booksOrderSpec)) booksOrderCard

/-- THE TIED CARD OF 'shacklelaw14.BooksJoin'. -/
def booksJoinCard : Claim7 := { stood := { row := booksJoinRow, standIns := [], harness := (true, "6d69357c353fd5c26344541bffd8c6b74480c7ca1709818cf461b4909a60a08f"), looks := false }, kinds := [], alts := [], laidByText := true, laidKinds := [.data, .pinned], laidTests := true, laidLooks := .later }
def BooksJoinCardSaid : Prop := Claim7.holds Tryd.pinned (.plain (OpenSpec.ofChange booksJoinSpec)) booksJoinCard

/-- THE TIED CARD OF 'shacklelaw14.BooksCopies'. -/
def booksCopiesCard : Claim7 := { stood := { row := booksCopiesRow, standIns := [], harness := (true, "6d69357c353fd5c26344541bffd8c6b74480c7ca1709818cf461b4909a60a08f"), looks := false }, kinds := [], alts := [], laidByText := true, laidKinds := [.data, .pinned], laidTests := true, laidLooks := .later }
def BooksCopiesCardSaid : Prop := Claim7.holds Tryd.pinned (.plain (OpenSpec.ofChange booksCopiesSpec)) booksCopiesCard

/-- THE TIED CARD OF 'shacklelaw14.BooksLost'. -/
def booksLostCard : Claim7 := { stood := { row := booksLostRow, standIns := [], harness := (true, "6d69357c353fd5c26344541bffd8c6b74480c7ca1709818cf461b4909a60a08f"), looks := false }, kinds := [], alts := [], laidByText := true, laidKinds := [.data, .pinned], laidTests := true, laidLooks := .later }
def BooksLostCardSaid : Prop := Claim7.holds Tryd.pinned (.plain (OpenSpec.ofChange booksLostSpec)) booksLostCard

/-- THE TIED CARD OF 'shacklelaw14.BooksClash'. -/
def booksClashCard : Claim7 := { stood := { row := booksClashRow, standIns := [], harness := (true, "6d69357c353fd5c26344541bffd8c6b74480c7ca1709818cf461b4909a60a08f"), looks := false }, kinds := [], alts := [], laidByText := true, laidKinds := [.data, .pinned], laidTests := true, laidLooks := .later }
def BooksClashCardSaid : Prop := Claim7.holds Tryd.pinned (.plain (OpenSpec.ofChange booksClashSpec)) booksClashCard

/-- THE TIED CARD OF 'shacklelaw14.BooksRead'. -/
def booksReadCard : Claim7 := { stood := { row := booksReadRow, standIns := [], harness := (true, "6d69357c353fd5c26344541bffd8c6b74480c7ca1709818cf461b4909a60a08f"), looks := false }, kinds := [], alts := [], laidByText := true, laidKinds := [.data, .pinned], laidTests := true, laidLooks := .later }
def BooksReadCardSaid : Prop := Claim7.holds Tryd.pinned (.plain (OpenSpec.ofChange booksReadSpec)) booksReadCard

/-- THE TIED CARD OF 'shacklelaw14.BooksBack'. -/
def booksBackCard : Claim7 := { stood := { row := booksBackRow, standIns := [], harness := (true, "6d69357c353fd5c26344541bffd8c6b74480c7ca1709818cf461b4909a60a08f"), looks := false }, kinds := [], alts := [], laidByText := true, laidKinds := [.data, .pinned], laidTests := true, laidLooks := .later }
def BooksBackCardSaid : Prop := Claim7.holds Tryd.pinned (.plain (OpenSpec.ofChange booksBackSpec)) booksBackCard

/-- THE SECOND FORM's CARD OF 'shacklelaw14.BooksWrite'. -/
def booksWriteUptoCard : Claim7 := { stood := { row := booksWriteUptoRow, standIns := [], harness := (true, "6d69357c353fd5c26344541bffd8c6b74480c7ca1709818cf461b4909a60a08f"), looks := false }, kinds := [], alts := [], laidByText := true, laidKinds := [.data, .pinned], laidTests := true, laidLooks := .later }
def BooksWriteUptoCardSaid : Prop := Claim7.holds Tryd.pinned (.plain (OpenSpec.upto booksWriteSpec)) booksWriteUptoCard

/-- THE SECOND FORM's CARD OF 'shacklelaw14.BooksByte'. -/
def booksByteUptoCard : Claim7 := { stood := { row := booksByteUptoRow, standIns := [], harness := (true, "6d69357c353fd5c26344541bffd8c6b74480c7ca1709818cf461b4909a60a08f"), looks := false }, kinds := [], alts := [], laidByText := true, laidKinds := [.data, .pinned], laidTests := true, laidLooks := .later }
def BooksByteUptoCardSaid : Prop := Claim7.holds Tryd.pinned (.plain (OpenSpec.upto booksByteSpec)) booksByteUptoCard

/-- THE SECOND FORM's CARD OF 'shacklelaw14.BooksOrder'. -/
def booksOrderUptoCard : Claim7 := { stood := { row := booksOrderUptoRow, standIns := [], harness := (true, "6d69357c353fd5c26344541bffd8c6b74480c7ca1709818cf461b4909a60a08f"), looks := false }, kinds := [], alts := [], laidByText := true, laidKinds := [.data, .pinned], laidTests := true, laidLooks := .later }
def BooksOrderUptoCardSaid : Prop := Claim7.holds Tryd.pinned (.plain (OpenSpec.upto booksOrderSpec)) booksOrderUptoCard

/-- THE SECOND FORM's CARD OF 'shacklelaw14.BooksJoin'. -/
def booksJoinUptoCard : Claim7 := { stood := { row := booksJoinUptoRow, standIns := [], harness := (true, "6d69357c353fd5c26344541bffd8c6b74480c7ca1709818cf461b4909a60a08f"), looks := false }, kinds := [], alts := [], laidByText := true, laidKinds := [.data, .pinned], laidTests := true, laidLooks := .later }
def BooksJoinUptoCardSaid : Prop := Claim7.holds Tryd.pinned (.plain (OpenSpec.upto booksJoinSpec)) booksJoinUptoCard

/-- THE SECOND FORM's CARD OF 'shacklelaw14.BooksCopies'. -/
def booksCopiesUptoCard : Claim7 := { stood := { row := booksCopiesUptoRow, standIns := [], harness := (true, "6d69357c353fd5c26344541bffd8c6b74480c7ca1709818cf461b4909a60a08f"), looks := false }, kinds := [], alts := [], laidByText := true, laidKinds := [.data, .pinned], laidTests := true, laidLooks := .later }
def BooksCopiesUptoCardSaid : Prop := Claim7.holds Tryd.pinned (.plain (OpenSpec.upto booksCopiesSpec)) booksCopiesUptoCard

/-- THE SECOND FORM's CARD OF 'shacklelaw14.BooksLost'. -/
def booksLostUptoCard : Claim7 := { stood := { row := booksLostUptoRow, standIns := [], harness := (true, "6d69357c353fd5c26344541bffd8c6b74480c7ca1709818cf461b4909a60a08f"), looks := false }, kinds := [], alts := [], laidByText := true, laidKinds := [.data, .pinned], laidTests := true, laidLooks := .later }
def BooksLostUptoCardSaid : Prop := Claim7.holds Tryd.pinned (.plain (OpenSpec.upto booksLostSpec)) booksLostUptoCard

/-- THE SECOND FORM's CARD OF 'shacklelaw14.BooksClash'. -/
def booksClashUptoCard : Claim7 := { stood := { row := booksClashUptoRow, standIns := [], harness := (true, "6d69357c353fd5c26344541bffd8c6b74480c7ca1709818cf461b4909a60a08f"), looks := false }, kinds := [], alts := [], laidByText := true, laidKinds := [.data, .pinned], laidTests := true, laidLooks := .later }
def BooksClashUptoCardSaid : Prop := Claim7.holds Tryd.pinned (.plain (OpenSpec.upto booksClashSpec)) booksClashUptoCard

/-- THE SECOND FORM's CARD OF 'shacklelaw14.BooksRead'. -/
def booksReadUptoCard : Claim7 := { stood := { row := booksReadUptoRow, standIns := [], harness := (true, "6d69357c353fd5c26344541bffd8c6b74480c7ca1709818cf461b4909a60a08f"), looks := false }, kinds := [], alts := [], laidByText := true, laidKinds := [.data, .pinned], laidTests := true, laidLooks := .later }
def BooksReadUptoCardSaid : Prop := Claim7.holds Tryd.pinned (.plain (OpenSpec.upto booksReadSpec)) booksReadUptoCard

/-- THE SECOND FORM's CARD OF 'shacklelaw14.BooksBack'. -/
def booksBackUptoCard : Claim7 := { stood := { row := booksBackUptoRow, standIns := [], harness := (true, "6d69357c353fd5c26344541bffd8c6b74480c7ca1709818cf461b4909a60a08f"), looks := false }, kinds := [], alts := [], laidByText := true, laidKinds := [.data, .pinned], laidTests := true, laidLooks := .later }
def BooksBackUptoCardSaid : Prop := Claim7.holds Tryd.pinned (.plain (OpenSpec.upto booksBackSpec)) booksBackUptoCard
end Rows
end Go.Proofs.YtjjfnbadmpffpaaDoor
