/-
  DERIVED. GIVEN WITH THE SEED: THE CARDS: each row of YtjchdgaomencbaaGreatDoorRows.lean that lists a variable, with what it lists TIED to the program's text (the seventh form; the later family's looks); each row that meets fmt, with fmt's text TOLD by the authors' own Lean function (tested against real Go, not proved from fmt's source: count such statements apart). THE CARD IS WHAT COUNTS. Prove the row's statement (the work); the ties are given (YtjchdgaomencbaaGreatDoorTie.lean); close each card by the builder's one call (the guide's Derived/Test/ToyasCard.lean, 'card_holds'). Laid BY PROGRAM, IN A SANDBOX (cutbox-door.mjs). By AI agents, Wed Nov 11 2026. No macro, syntax, notation, axiom, sorry.
-/
import Derived.Test.YtjchdgaomencbaaGreatDoorRows
import GoSem.ClaimSeven
namespace Go.Proofs.YtjchdgaomencbaaGreatDoor
namespace Rows

/-- THE TIED CARD OF 'shacklelaw12.ProverNothing'. -/
def proverNothingCard : Claim7 := { stood := { row := proverNothingRow, standIns := [], harness := (true, "4be904c19a29827892f087a7091e0980331caee00edb45aaaff9a7ab0d5951f2"), looks := true }, kinds := [], alts := [], laidByText := true, laidKinds := [.data, .data, .data, .data, .sentinel, .sentinel, .pinned], laidTests := true, laidLooks := .later }
def ProverNothingCardSaid : Prop := Claim7.holds Tryz.pinned (.plain (OpenSpec.ofChange proverNothingSpec)) proverNothingCard

/-- THE TIED CARD OF 'shacklelaw12.ProverAsked'. -/
def proverAskedCard : Claim7 := { stood := { row := proverAskedRow, standIns := [], harness := (true, "4be904c19a29827892f087a7091e0980331caee00edb45aaaff9a7ab0d5951f2"), looks := true }, kinds := [], alts := [], laidByText := true, laidKinds := [.data, .data, .data, .data, .sentinel, .sentinel, .pinned], laidTests := true, laidLooks := .later }
def ProverAskedCardSaid : Prop := Claim7.holds Tryz.pinned (.plain (OpenSpec.ofChange proverAskedSpec)) proverAskedCard

/-- THE TIED CARD OF 'shacklelaw12.ProverUndone'. -/
def proverUndoneCard : Claim7 := { stood := { row := proverUndoneRow, standIns := [], harness := (true, "4be904c19a29827892f087a7091e0980331caee00edb45aaaff9a7ab0d5951f2"), looks := true }, kinds := [], alts := [], laidByText := true, laidKinds := [.data, .data, .data, .data, .sentinel, .sentinel, .pinned], laidTests := true, laidLooks := .later }
def ProverUndoneCardSaid : Prop := Claim7.holds Tryz.pinned (.plain (OpenSpec.ofChange proverUndoneSpec)) proverUndoneCard

/-- THE TIED CARD OF 'shacklelaw12.ProverWritten'. -/
def proverWrittenCard : Claim7 := { stood := { row := proverWrittenRow, standIns := [], harness := (true, "4be904c19a29827892f087a7091e0980331caee00edb45aaaff9a7ab0d5951f2"), looks := true }, kinds := [], alts := [], laidByText := true, laidKinds := [.data, .data, .data, .data, .sentinel, .sentinel, .pinned], laidTests := true, laidLooks := .later }
def ProverWrittenCardSaid : Prop := Claim7.holds Tryz.pinned (.plain (OpenSpec.ofChange proverWrittenSpec)) proverWrittenCard

/-- THE TIED CARD OF 'shacklelaw12.ProverOrder'. -/
def proverOrderCard : Claim7 := { stood := { row := proverOrderRow, standIns := [], harness := (true, "4be904c19a29827892f087a7091e0980331caee00edb45aaaff9a7ab0d5951f2"), looks := true }, kinds := [], alts := [], laidByText := true, laidKinds := [.data, .data, .data, .data, .sentinel, .sentinel, .pinned], laidTests := true, laidLooks := .later }
def ProverOrderCardSaid : Prop := Claim7.holds Tryz.pinned (.plain (OpenSpec.ofChange proverOrderSpec)) proverOrderCard

/-- THE TIED CARD OF 'shacklelaw12.ProverLast'. -/
def proverLastCard : Claim7 := { stood := { row := proverLastRow, standIns := [], harness := (true, "4be904c19a29827892f087a7091e0980331caee00edb45aaaff9a7ab0d5951f2"), looks := true }, kinds := [], alts := [], laidByText := true, laidKinds := [.data, .data, .data, .data, .sentinel, .sentinel, .pinned], laidTests := true, laidLooks := .later }
def ProverLastCardSaid : Prop := Claim7.holds Tryz.pinned (.plain (OpenSpec.ofChange proverLastSpec)) proverLastCard

/-- THE SECOND FORM's CARD OF 'shacklelaw12.ProverNothing'. -/
def proverNothingUptoCard : Claim7 := { stood := { row := proverNothingUptoRow, standIns := [], harness := (true, "4be904c19a29827892f087a7091e0980331caee00edb45aaaff9a7ab0d5951f2"), looks := true }, kinds := [], alts := [], laidByText := true, laidKinds := [.data, .data, .data, .data, .sentinel, .sentinel, .pinned], laidTests := true, laidLooks := .later }
def ProverNothingUptoCardSaid : Prop := Claim7.holds Tryz.pinned (.plain (OpenSpec.upto proverNothingSpec)) proverNothingUptoCard

/-- THE SECOND FORM's CARD OF 'shacklelaw12.ProverAsked'. -/
def proverAskedUptoCard : Claim7 := { stood := { row := proverAskedUptoRow, standIns := [], harness := (true, "4be904c19a29827892f087a7091e0980331caee00edb45aaaff9a7ab0d5951f2"), looks := true }, kinds := [], alts := [], laidByText := true, laidKinds := [.data, .data, .data, .data, .sentinel, .sentinel, .pinned], laidTests := true, laidLooks := .later }
def ProverAskedUptoCardSaid : Prop := Claim7.holds Tryz.pinned (.plain (OpenSpec.upto proverAskedSpec)) proverAskedUptoCard

/-- THE SECOND FORM's CARD OF 'shacklelaw12.ProverUndone'. -/
def proverUndoneUptoCard : Claim7 := { stood := { row := proverUndoneUptoRow, standIns := [], harness := (true, "4be904c19a29827892f087a7091e0980331caee00edb45aaaff9a7ab0d5951f2"), looks := true }, kinds := [], alts := [], laidByText := true, laidKinds := [.data, .data, .data, .data, .sentinel, .sentinel, .pinned], laidTests := true, laidLooks := .later }
def ProverUndoneUptoCardSaid : Prop := Claim7.holds Tryz.pinned (.plain (OpenSpec.upto proverUndoneSpec)) proverUndoneUptoCard

/-- THE SECOND FORM's CARD OF 'shacklelaw12.ProverWritten'. -/
def proverWrittenUptoCard : Claim7 := { stood := { row := proverWrittenUptoRow, standIns := [], harness := (true, "4be904c19a29827892f087a7091e0980331caee00edb45aaaff9a7ab0d5951f2"), looks := true }, kinds := [], alts := [], laidByText := true, laidKinds := [.data, .data, .data, .data, .sentinel, .sentinel, .pinned], laidTests := true, laidLooks := .later }
def ProverWrittenUptoCardSaid : Prop := Claim7.holds Tryz.pinned (.plain (OpenSpec.upto proverWrittenSpec)) proverWrittenUptoCard

/-- THE SECOND FORM's CARD OF 'shacklelaw12.ProverOrder'. -/
def proverOrderUptoCard : Claim7 := { stood := { row := proverOrderUptoRow, standIns := [], harness := (true, "4be904c19a29827892f087a7091e0980331caee00edb45aaaff9a7ab0d5951f2"), looks := true }, kinds := [], alts := [], laidByText := true, laidKinds := [.data, .data, .data, .data, .sentinel, .sentinel, .pinned], laidTests := true, laidLooks := .later }
def ProverOrderUptoCardSaid : Prop := Claim7.holds Tryz.pinned (.plain (OpenSpec.upto proverOrderSpec)) proverOrderUptoCard

/-- THE SECOND FORM's CARD OF 'shacklelaw12.ProverLast'. -/
def proverLastUptoCard : Claim7 := { stood := { row := proverLastUptoRow, standIns := [], harness := (true, "4be904c19a29827892f087a7091e0980331caee00edb45aaaff9a7ab0d5951f2"), looks := true }, kinds := [], alts := [], laidByText := true, laidKinds := [.data, .data, .data, .data, .sentinel, .sentinel, .pinned], laidTests := true, laidLooks := .later }
def ProverLastUptoCardSaid : Prop := Claim7.holds Tryz.pinned (.plain (OpenSpec.upto proverLastSpec)) proverLastUptoCard
end Rows
end Go.Proofs.YtjchdgaomencbaaGreatDoor
