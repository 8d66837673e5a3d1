/-
  DERIVED. GIVEN WITH THE SEED: THE CARDS: each row of YtenlhiebmnojhaaGreatDoorRows.lean that lists a variable, with what it lists TIED to the program's text (the seventh form; the later family's looks); each row that meets fmt, with fmt's text TOLD by the authors' own Lean function (tested against real Go, not proved from fmt's source: count such statements apart). THE CARD IS WHAT COUNTS. Prove the row's statement (the work); the ties are given (YtenlhiebmnojhaaGreatDoorTie.lean); close each card by the builder's one call (the guide's Derived/Test/ToyasCard.lean, 'card_holds'). Laid BY PROGRAM, IN A SANDBOX (cutbox-door.mjs). By AI agents, Wed Nov 11 2026. No macro, syntax, notation, axiom, sorry.
-/
import Derived.Test.YtenlhiebmnojhaaGreatDoorRows
import GoSem.ClaimSeven
namespace Go.Proofs.YtenlhiebmnojhaaGreatDoor
namespace Rows

/-- THE TIED CARD OF 'shackletop.TopSpots'. -/
def topSpotsCard : Claim7 := { stood := { row := topSpotsRow, standIns := [], harness := (true, "87aac49d19b258d56a9d0e16ed47fb19dc1ec5f81ac78c3dfa202eeef445e1a8"), looks := true }, kinds := [], alts := [], laidByText := true, laidKinds := [.data, .data, .data, .data, .sentinel, .sentinel, .pinned], laidTests := true, laidLooks := .later }
def TopSpotsCardSaid : Prop := Claim7.holds Tryz.pinned (.plain (OpenSpec.ofChange topSpotsSpec)) topSpotsCard

/-- THE TIED CARD OF 'shackletop.TopCable'. -/
def topCableCard : Claim7 := { stood := { row := topCableRow, standIns := [], harness := (true, "87aac49d19b258d56a9d0e16ed47fb19dc1ec5f81ac78c3dfa202eeef445e1a8"), looks := true }, kinds := [], alts := [], laidByText := true, laidKinds := [.data, .data, .data, .data, .sentinel, .sentinel, .pinned], laidTests := true, laidLooks := .later }
def TopCableCardSaid : Prop := Claim7.holds Tryz.pinned (.plain (OpenSpec.ofChange topCableSpec)) topCableCard

/-- THE SECOND FORM's CARD OF 'shackletop.TopSpots'. -/
def topSpotsUptoCard : Claim7 := { stood := { row := topSpotsUptoRow, standIns := [], harness := (true, "87aac49d19b258d56a9d0e16ed47fb19dc1ec5f81ac78c3dfa202eeef445e1a8"), looks := true }, kinds := [], alts := [], laidByText := true, laidKinds := [.data, .data, .data, .data, .sentinel, .sentinel, .pinned], laidTests := true, laidLooks := .later }
def TopSpotsUptoCardSaid : Prop := Claim7.holds Tryz.pinned (.plain (OpenSpec.upto topSpotsSpec)) topSpotsUptoCard

/-- THE SECOND FORM's CARD OF 'shackletop.TopCable'. -/
def topCableUptoCard : Claim7 := { stood := { row := topCableUptoRow, standIns := [], harness := (true, "87aac49d19b258d56a9d0e16ed47fb19dc1ec5f81ac78c3dfa202eeef445e1a8"), looks := true }, kinds := [], alts := [], laidByText := true, laidKinds := [.data, .data, .data, .data, .sentinel, .sentinel, .pinned], laidTests := true, laidLooks := .later }
def TopCableUptoCardSaid : Prop := Claim7.holds Tryz.pinned (.plain (OpenSpec.upto topCableSpec)) topCableUptoCard
end Rows
end Go.Proofs.YtenlhiebmnojhaaGreatDoor
