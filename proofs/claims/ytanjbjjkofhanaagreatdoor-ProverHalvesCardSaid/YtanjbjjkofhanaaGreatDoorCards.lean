/-
  DERIVED. GIVEN WITH THE SEED: THE CARDS: each row of YtanjbjjkofhanaaGreatDoorRows.lean that lists a variable, with what it lists TIED to the program's text (the seventh form; the later family's looks); each row that meets fmt, with fmt's text TOLD by the authors' own Lean function (tested against real Go, not proved from fmt's source: count such statements apart). THE CARD IS WHAT COUNTS. Prove the row's statement (the work); the ties are given (YtanjbjjkofhanaaGreatDoorTie.lean); close each card by the builder's one call (the guide's Derived/Test/ToyasCard.lean, 'card_holds'). Laid BY PROGRAM, IN A SANDBOX (cutbox-door.mjs). By AI agents, Wed Nov 11 2026. No macro, syntax, notation, axiom, sorry.
-/
import Derived.Test.YtanjbjjkofhanaaGreatDoorRows
import GoSem.ClaimSeven
namespace Go.Proofs.YtanjbjjkofhanaaGreatDoor
namespace Rows

/-- THE TIED CARD OF 'shacklelaw12.ProverAnswers'. -/
def proverAnswersCard : Claim7 := { stood := { row := proverAnswersRow, standIns := [], harness := (true, "fa50294131a23c01a5f1ac027bcd2d6a1e1176af9461409ac5f8a1ec67de6858"), looks := true }, kinds := [], alts := [], laidByText := true, laidKinds := [.data, .data, .data, .data, .sentinel, .sentinel, .pinned], laidTests := true, laidLooks := .later }
def ProverAnswersCardSaid : Prop := Claim7.holds Tryz.pinned (.plain (OpenSpec.ofChange proverAnswersSpec)) proverAnswersCard

/-- THE TIED CARD OF 'shacklelaw12.ProverAfter'. -/
def proverAfterCard : Claim7 := { stood := { row := proverAfterRow, standIns := [], harness := (true, "fa50294131a23c01a5f1ac027bcd2d6a1e1176af9461409ac5f8a1ec67de6858"), looks := true }, kinds := [], alts := [], laidByText := true, laidKinds := [.data, .data, .data, .data, .sentinel, .sentinel, .pinned], laidTests := true, laidLooks := .later }
def ProverAfterCardSaid : Prop := Claim7.holds Tryz.pinned (.plain (OpenSpec.ofChange proverAfterSpec)) proverAfterCard

/-- THE TIED CARD OF 'shacklelaw12.ProverLine'. -/
def proverLineCard : Claim7 := { stood := { row := proverLineRow, standIns := [], harness := (true, "fa50294131a23c01a5f1ac027bcd2d6a1e1176af9461409ac5f8a1ec67de6858"), looks := true }, kinds := [], alts := [], laidByText := true, laidKinds := [.data, .data, .data, .data, .sentinel, .sentinel, .pinned], laidTests := true, laidLooks := .later }
def ProverLineCardSaid : Prop := Claim7.holds Tryz.pinned (.plain (OpenSpec.ofChange proverLineSpec)) proverLineCard

/-- THE TIED CARD OF 'shacklelaw12.ProverHalves'. -/
def proverHalvesCard : Claim7 := { stood := { row := proverHalvesRow, standIns := [], harness := (true, "fa50294131a23c01a5f1ac027bcd2d6a1e1176af9461409ac5f8a1ec67de6858"), looks := true }, kinds := [], alts := [], laidByText := true, laidKinds := [.data, .data, .data, .data, .sentinel, .sentinel, .pinned], laidTests := true, laidLooks := .later }
def ProverHalvesCardSaid : Prop := Claim7.holds Tryz.pinned (.plain (OpenSpec.ofChange proverHalvesSpec)) proverHalvesCard

/-- THE SECOND FORM's CARD OF 'shacklelaw12.ProverAnswers'. -/
def proverAnswersUptoCard : Claim7 := { stood := { row := proverAnswersUptoRow, standIns := [], harness := (true, "fa50294131a23c01a5f1ac027bcd2d6a1e1176af9461409ac5f8a1ec67de6858"), looks := true }, kinds := [], alts := [], laidByText := true, laidKinds := [.data, .data, .data, .data, .sentinel, .sentinel, .pinned], laidTests := true, laidLooks := .later }
def ProverAnswersUptoCardSaid : Prop := Claim7.holds Tryz.pinned (.plain (OpenSpec.upto proverAnswersSpec)) proverAnswersUptoCard

/-- THE SECOND FORM's CARD OF 'shacklelaw12.ProverAfter'. -/
def proverAfterUptoCard : Claim7 := { stood := { row := proverAfterUptoRow, standIns := [], harness := (true, "fa50294131a23c01a5f1ac027bcd2d6a1e1176af9461409ac5f8a1ec67de6858"), looks := true }, kinds := [], alts := [], laidByText := true, laidKinds := [.data, .data, .data, .data, .sentinel, .sentinel, .pinned], laidTests := true, laidLooks := .later }
def ProverAfterUptoCardSaid : Prop := Claim7.holds Tryz.pinned (.plain (OpenSpec.upto proverAfterSpec)) proverAfterUptoCard

/-- THE SECOND FORM's CARD OF 'shacklelaw12.ProverLine'. -/
def proverLineUptoCard : Claim7 := { stood := { row := proverLineUptoRow, standIns := [], harness := (true, "fa50294131a23c01a5f1ac027bcd2d6a1e1176af9461409ac5f8a1ec67de6858"), looks := true }, kinds := [], alts := [], laidByText := true, laidKinds := [.data, .data, .data, .data, .sentinel, .sentinel, .pinned], laidTests := true, laidLooks := .later }
def ProverLineUptoCardSaid : Prop := Claim7.holds Tryz.pinned (.plain (OpenSpec.upto proverLineSpec)) proverLineUptoCard

/-- THE SECOND FORM's CARD OF 'shacklelaw12.ProverHalves'. -/
def proverHalvesUptoCard : Claim7 := { stood := { row := proverHalvesUptoRow, standIns := [], harness := (true, "fa50294131a23c01a5f1ac027bcd2d6a1e1176af9461409ac5f8a1ec67de6858"), looks := true }, kinds := [], alts := [], laidByText := true, laidKinds := [.data, .data, .data, .data, .sentinel, .sentinel, .pinned], laidTests := true, laidLooks := .later }
def ProverHalvesUptoCardSaid : Prop := Claim7.holds Tryz.pinned (.plain (OpenSpec.upto proverHalvesSpec)) proverHalvesUptoCard
end Rows
end Go.Proofs.YtanjbjjkofhanaaGreatDoor
