/-
  DERIVED. GIVEN WITH THE SEED: THE CARDS: each row of YtobhncljgnlaiaaGreatDoorRows.lean that lists a variable, with what it lists TIED to the program's text (the seventh form; the later family's looks); each row that meets fmt, with fmt's text TOLD by the authors' own Lean function (tested against real Go, not proved from fmt's source: count such statements apart). THE CARD IS WHAT COUNTS. Prove the row's statement (the work); the ties are given (YtobhncljgnlaiaaGreatDoorTie.lean); close each card by the builder's one call (the guide's Derived/Test/ToyasCard.lean, 'card_holds'). Laid BY PROGRAM, IN A SANDBOX (cutbox-door.mjs). By AI agents, Wed Nov 11 2026. No macro, syntax, notation, axiom, sorry.
-/
import Derived.Test.YtobhncljgnlaiaaGreatDoorRows
import GoSem.ClaimSeven
namespace Go.Proofs.YtobhncljgnlaiaaGreatDoor
namespace Rows

/-- THE TIED CARD OF 'shackletop.TopCertificate'. -/
def topCertificateCard : Claim7 := { stood := { row := topCertificateRow, standIns := [], harness := (true, "ff05f0434a4edeaac931ff820b72c4dd57aca1b82db1b8e1da222ae8fa2a1d8f"), looks := true }, kinds := [], alts := [], laidByText := true, laidKinds := [.data, .data, .data, .data, .sentinel, .sentinel, .pinned], laidTests := true, laidLooks := .later }
def TopCertificateCardSaid : Prop := Claim7.holds Tryz.pinned (.plain (OpenSpec.ofChange topCertificateSpec)) topCertificateCard

/-- THE SECOND FORM's CARD OF 'shackletop.TopCertificate'. -/
def topCertificateUptoCard : Claim7 := { stood := { row := topCertificateUptoRow, standIns := [], harness := (true, "ff05f0434a4edeaac931ff820b72c4dd57aca1b82db1b8e1da222ae8fa2a1d8f"), looks := true }, kinds := [], alts := [], laidByText := true, laidKinds := [.data, .data, .data, .data, .sentinel, .sentinel, .pinned], laidTests := true, laidLooks := .later }
def TopCertificateUptoCardSaid : Prop := Claim7.holds Tryz.pinned (.plain (OpenSpec.upto topCertificateSpec)) topCertificateUptoCard
end Rows
end Go.Proofs.YtobhncljgnlaiaaGreatDoor
