/-
  DERIVED. GIVEN WITH THE SEED: THE CARDS: each row of YtmjdnhobojjjaaaGreatDoorRows.lean that lists a variable, with what it lists TIED to the program's text (the seventh form; the later family's looks); each row that meets fmt, with fmt's text TOLD by the authors' own Lean function (tested against real Go, not proved from fmt's source: count such statements apart). THE CARD IS WHAT COUNTS. Prove the row's statement (the work); the ties are given (YtmjdnhobojjjaaaGreatDoorTie.lean); close each card by the builder's one call (the guide's Derived/Test/ToyasCard.lean, 'card_holds'). Laid BY PROGRAM, IN A SANDBOX (cutbox-door.mjs). By AI agents, Wed Nov 11 2026. No macro, syntax, notation, axiom, sorry.
-/
import Derived.Test.YtmjdnhobojjjaaaGreatDoorRows
import GoSem.ClaimSeven
namespace Go.Proofs.YtmjdnhobojjjaaaGreatDoor
namespace Rows

/-- THE TIED CARD OF 'shackletop.TopWords'. -/
def topWordsCard : Claim7 := { stood := { row := topWordsRow, standIns := [], harness := (true, "156ba645e880ec91aa7bc437a7bc6982c301c986d9ae49b48d29b94aef0ba8c9"), looks := false }, kinds := [], alts := [], laidByText := true, laidKinds := [.data, .pinned], laidTests := true, laidLooks := .later }
def TopWordsCardSaid : Prop := Claim7.holds Tryz.pinned (.plain (OpenSpec.ofChange topWordsSpec)) topWordsCard

/-- THE TIED CARD OF 'shackletop.TopBlamed'. -/
def topBlamedCard : Claim7 := { stood := { row := topBlamedRow, standIns := [], harness := (true, "156ba645e880ec91aa7bc437a7bc6982c301c986d9ae49b48d29b94aef0ba8c9"), looks := false }, kinds := [], alts := [], laidByText := true, laidKinds := [.data, .pinned], laidTests := true, laidLooks := .later }
def TopBlamedCardSaid : Prop := Claim7.holds Tryz.pinned (.plain (OpenSpec.ofChange topBlamedSpec)) topBlamedCard

/-- THE SECOND FORM's CARD OF 'shackletop.TopWords'. -/
def topWordsUptoCard : Claim7 := { stood := { row := topWordsUptoRow, standIns := [], harness := (true, "156ba645e880ec91aa7bc437a7bc6982c301c986d9ae49b48d29b94aef0ba8c9"), looks := false }, kinds := [], alts := [], laidByText := true, laidKinds := [.data, .pinned], laidTests := true, laidLooks := .later }
def TopWordsUptoCardSaid : Prop := Claim7.holds Tryz.pinned (.plain (OpenSpec.upto topWordsSpec)) topWordsUptoCard

/-- THE SECOND FORM's CARD OF 'shackletop.TopBlamed'. -/
def topBlamedUptoCard : Claim7 := { stood := { row := topBlamedUptoRow, standIns := [], harness := (true, "156ba645e880ec91aa7bc437a7bc6982c301c986d9ae49b48d29b94aef0ba8c9"), looks := false }, kinds := [], alts := [], laidByText := true, laidKinds := [.data, .pinned], laidTests := true, laidLooks := .later }
def TopBlamedUptoCardSaid : Prop := Claim7.holds Tryz.pinned (.plain (OpenSpec.upto topBlamedSpec)) topBlamedUptoCard
end Rows
end Go.Proofs.YtmjdnhobojjjaaaGreatDoor
