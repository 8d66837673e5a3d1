/-
  DERIVED. GIVEN WITH THE SEED: THE CARDS: each row of YtahldekpgadgdaaDoorRows.lean that lists a variable, with what it lists TIED to the program's text (the seventh form; the later family's looks); each row that meets fmt, with fmt's text TOLD by the authors' own Lean function (tested against real Go, not proved from fmt's source: count such statements apart). THE CARD IS WHAT COUNTS. Prove the row's statement (the work); the ties are given (YtahldekpgadgdaaDoorTie.lean); close each card by the builder's one call (the guide's Derived/Test/ToyasCard.lean, 'card_holds'). Laid BY PROGRAM, IN A SANDBOX (cutbox-door.mjs). By AI agents, Wed Nov 11 2026. No macro, syntax, notation, axiom, sorry.
-/
import Derived.Test.YtahldekpgadgdaaDoorRows
import GoSem.ClaimSeven
namespace Go.Proofs.YtahldekpgadgdaaDoor
namespace Rows

/-- THE TIED CARD OF 'shacklelaw13.PapersWritten'. -/
def papersWrittenCard : Claim7 := { stood := { row := papersWrittenRow, standIns := [], harness := (true, "6f5671cd98033be8a9ae44c3b25944481064af8189ad06757da522130430591e"), looks := false }, kinds := [], alts := [], laidByText := true, laidKinds := [.data, .pinned], laidTests := true, laidLooks := .later }
def PapersWrittenCardSaid : Prop := Claim7.holds Tryd.pinned (.plain (OpenSpec.ofChange papersWrittenSpec)) papersWrittenCard

/-- THE TIED CARD OF 'shacklelaw13.PapersJoined'. -/
def papersJoinedCard : Claim7 := { stood := { row := papersJoinedRow, standIns := [], harness := (true, "6f5671cd98033be8a9ae44c3b25944481064af8189ad06757da522130430591e"), looks := false }, kinds := [], alts := [], laidByText := true, laidKinds := [.data, .pinned], laidTests := true, laidLooks := .later }
def PapersJoinedCardSaid : Prop := Claim7.holds Tryd.pinned (.plain (OpenSpec.ofChange papersJoinedSpec)) papersJoinedCard

/-- THE TIED CARD OF 'shacklelaw13.PapersReadings'. -/
def papersReadingsCard : Claim7 := { stood := { row := papersReadingsRow, standIns := [], harness := (true, "6f5671cd98033be8a9ae44c3b25944481064af8189ad06757da522130430591e"), looks := false }, kinds := [], alts := [], laidByText := true, laidKinds := [.data, .pinned], laidTests := true, laidLooks := .later }
def PapersReadingsCardSaid : Prop := Claim7.holds Tryd.pinned (.plain (OpenSpec.ofChange papersReadingsSpec)) papersReadingsCard

/-- THE TIED CARD OF 'shacklelaw13.PapersNot'. -/
def papersNotCard : Claim7 := { stood := { row := papersNotRow, standIns := [], harness := (true, "6f5671cd98033be8a9ae44c3b25944481064af8189ad06757da522130430591e"), looks := false }, kinds := [], alts := [], laidByText := true, laidKinds := [.data, .pinned], laidTests := true, laidLooks := .later }
def PapersNotCardSaid : Prop := Claim7.holds Tryd.pinned (.plain (OpenSpec.ofChange papersNotSpec)) papersNotCard

/-- THE TIED CARD OF 'shacklelaw13.PapersMeans'. -/
def papersMeansCard : Claim7 := { stood := { row := papersMeansRow, standIns := [], harness := (true, "6f5671cd98033be8a9ae44c3b25944481064af8189ad06757da522130430591e"), looks := false }, kinds := [], alts := [], laidByText := true, laidKinds := [.data, .pinned], laidTests := true, laidLooks := .later }
def PapersMeansCardSaid : Prop := Claim7.holds Tryd.pinned (.plain (OpenSpec.ofChange papersMeansSpec)) papersMeansCard

/-- THE TIED CARD OF 'shacklelaw13.PapersTrue'. -/
def papersTrueCard : Claim7 := { stood := { row := papersTrueRow, standIns := [], harness := (true, "6f5671cd98033be8a9ae44c3b25944481064af8189ad06757da522130430591e"), looks := false }, kinds := [], alts := [], laidByText := true, laidKinds := [.data, .pinned], laidTests := true, laidLooks := .later }
def PapersTrueCardSaid : Prop := Claim7.holds Tryd.pinned (.plain (OpenSpec.ofChange papersTrueSpec)) papersTrueCard

/-- THE TIED CARD OF 'shacklelaw13.PapersClear'. -/
def papersClearCard : Claim7 := { stood := { row := papersClearRow, standIns := [], harness := (true, "6f5671cd98033be8a9ae44c3b25944481064af8189ad06757da522130430591e"), looks := false }, kinds := [], alts := [], laidByText := true, laidKinds := [.data, .pinned], laidTests := true, laidLooks := .later }
def PapersClearCardSaid : Prop := Claim7.holds Tryd.pinned (.plain (OpenSpec.ofChange papersClearSpec)) papersClearCard

/-- THE TIED CARD OF 'shacklelaw13.PapersCourt'. -/
def papersCourtCard : Claim7 := { stood := { row := papersCourtRow, standIns := [], harness := (true, "6f5671cd98033be8a9ae44c3b25944481064af8189ad06757da522130430591e"), looks := false }, kinds := [], alts := [], laidByText := true, laidKinds := [.data, .pinned], laidTests := true, laidLooks := .later }
def PapersCourtCardSaid : Prop := Claim7.holds Tryd.pinned (.plain (OpenSpec.ofChange papersCourtSpec)) papersCourtCard

/-- THE TIED CARD OF 'shacklelaw13.PapersKnown'. -/
def papersKnownCard : Claim7 := { stood := { row := papersKnownRow, standIns := [], harness := (true, "6f5671cd98033be8a9ae44c3b25944481064af8189ad06757da522130430591e"), looks := false }, kinds := [], alts := [], laidByText := true, laidKinds := [.data, .pinned], laidTests := true, laidLooks := .later }
def PapersKnownCardSaid : Prop := Claim7.holds Tryd.pinned (.plain (OpenSpec.ofChange papersKnownSpec)) papersKnownCard

/-- THE SECOND FORM's CARD OF 'shacklelaw13.PapersWritten'. -/
def papersWrittenUptoCard : Claim7 := { stood := { row := papersWrittenUptoRow, standIns := [], harness := (true, "6f5671cd98033be8a9ae44c3b25944481064af8189ad06757da522130430591e"), looks := false }, kinds := [], alts := [], laidByText := true, laidKinds := [.data, .pinned], laidTests := true, laidLooks := .later }
def PapersWrittenUptoCardSaid : Prop := Claim7.holds Tryd.pinned (.plain (OpenSpec.upto papersWrittenSpec)) papersWrittenUptoCard

/-- THE SECOND FORM's CARD OF 'shacklelaw13.PapersJoined'. -/
def papersJoinedUptoCard : Claim7 := { stood := { row := papersJoinedUptoRow, standIns := [], harness := (true, "6f5671cd98033be8a9ae44c3b25944481064af8189ad06757da522130430591e"), looks := false }, kinds := [], alts := [], laidByText := true, laidKinds := [.data, .pinned], laidTests := true, laidLooks := .later }
def PapersJoinedUptoCardSaid : Prop := Claim7.holds Tryd.pinned (.plain (OpenSpec.upto papersJoinedSpec)) papersJoinedUptoCard

/-- THE SECOND FORM's CARD OF 'shacklelaw13.PapersReadings'. -/
def papersReadingsUptoCard : Claim7 := { stood := { row := papersReadingsUptoRow, standIns := [], harness := (true, "6f5671cd98033be8a9ae44c3b25944481064af8189ad06757da522130430591e"), looks := false }, kinds := [], alts := [], laidByText := true, laidKinds := [.data, .pinned], laidTests := true, laidLooks := .later }
def PapersReadingsUptoCardSaid : Prop := Claim7.holds Tryd.pinned (.plain (OpenSpec.upto papersReadingsSpec)) papersReadingsUptoCard

/-- THE SECOND FORM's CARD OF 'shacklelaw13.PapersNot'. -/
def papersNotUptoCard : Claim7 := { stood := { row := papersNotUptoRow, standIns := [], harness := (true, "6f5671cd98033be8a9ae44c3b25944481064af8189ad06757da522130430591e"), looks := false }, kinds := [], alts := [], laidByText := true, laidKinds := [.data, .pinned], laidTests := true, laidLooks := .later }
def PapersNotUptoCardSaid : Prop := Claim7.holds Tryd.pinned (.plain (OpenSpec.upto papersNotSpec)) papersNotUptoCard

/-- THE SECOND FORM's CARD OF 'shacklelaw13.PapersMeans'. -/
def papersMeansUptoCard : Claim7 := { stood := { row := papersMeansUptoRow, standIns := [], harness := (true, "6f5671cd98033be8a9ae44c3b25944481064af8189ad06757da522130430591e"), looks := false }, kinds := [], alts := [], laidByText := true, laidKinds := [.data, .pinned], laidTests := true, laidLooks := .later }
def PapersMeansUptoCardSaid : Prop := Claim7.holds Tryd.pinned (.plain (OpenSpec.upto papersMeansSpec)) papersMeansUptoCard

/-- THE SECOND FORM's CARD OF 'shacklelaw13.PapersTrue'. -/
def papersTrueUptoCard : Claim7 := { stood := { row := papersTrueUptoRow, standIns := [], harness := (true, "6f5671cd98033be8a9ae44c3b25944481064af8189ad06757da522130430591e"), looks := false }, kinds := [], alts := [], laidByText := true, laidKinds := [.data, .pinned], laidTests := true, laidLooks := .later }
def PapersTrueUptoCardSaid : Prop := Claim7.holds Tryd.pinned (.plain (OpenSpec.upto papersTrueSpec)) papersTrueUptoCard

/-- THE SECOND FORM's CARD OF 'shacklelaw13.PapersClear'. -/
def papersClearUptoCard : Claim7 := { stood := { row := papersClearUptoRow, standIns := [], harness := (true, "6f5671cd98033be8a9ae44c3b25944481064af8189ad06757da522130430591e"), looks := false }, kinds := [], alts := [], laidByText := true, laidKinds := [.data, .pinned], laidTests := true, laidLooks := .later }
def PapersClearUptoCardSaid : Prop := Claim7.holds Tryd.pinned (.plain (OpenSpec.upto papersClearSpec)) papersClearUptoCard

/-- THE SECOND FORM's CARD OF 'shacklelaw13.PapersCourt'. -/
def papersCourtUptoCard : Claim7 := { stood := { row := papersCourtUptoRow, standIns := [], harness := (true, "6f5671cd98033be8a9ae44c3b25944481064af8189ad06757da522130430591e"), looks := false }, kinds := [], alts := [], laidByText := true, laidKinds := [.data, .pinned], laidTests := true, laidLooks := .later }
def PapersCourtUptoCardSaid : Prop := Claim7.holds Tryd.pinned (.plain (OpenSpec.upto papersCourtSpec)) papersCourtUptoCard

/-- THE SECOND FORM's CARD OF 'shacklelaw13.PapersKnown'. -/
def papersKnownUptoCard : Claim7 := { stood := { row := papersKnownUptoRow, standIns := [], harness := (true, "6f5671cd98033be8a9ae44c3b25944481064af8189ad06757da522130430591e"), looks := false }, kinds := [], alts := [], laidByText := true, laidKinds := [.data, .pinned], laidTests := true, laidLooks := .later }
def PapersKnownUptoCardSaid : Prop := Claim7.holds Tryd.pinned (.plain (OpenSpec.upto papersKnownSpec)) papersKnownUptoCard
end Rows
end Go.Proofs.YtahldekpgadgdaaDoor
