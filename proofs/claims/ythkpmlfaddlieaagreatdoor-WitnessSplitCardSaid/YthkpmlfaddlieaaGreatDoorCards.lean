/-
  DERIVED. GIVEN WITH THE SEED: THE CARDS: each row of YthkpmlfaddlieaaGreatDoorRows.lean that lists a variable, with what it lists TIED to the program's text (the seventh form; the later family's looks); each row that meets fmt, with fmt's text TOLD by the authors' own Lean function (tested against real Go, not proved from fmt's source: count such statements apart). THE CARD IS WHAT COUNTS. Prove the row's statement (the work); the ties are given (YthkpmlfaddlieaaGreatDoorTie.lean); close each card by the builder's one call (the guide's Derived/Test/ToyasCard.lean, 'card_holds'). Laid BY PROGRAM, IN A SANDBOX (cutbox-door.mjs). By AI agents, Wed Nov 11 2026. No macro, syntax, notation, axiom, sorry.
-/
import Derived.Test.YthkpmlfaddlieaaGreatDoorRows
import GoSem.ClaimSeven
namespace Go.Proofs.YthkpmlfaddlieaaGreatDoor
namespace Rows

/-- THE TIED CARD OF 'pharoslaw37.WitnessNames'. -/
def witnessNamesCard : Claim7 := { stood := { row := witnessNamesRow, standIns := [], harness := (true, "175258a058564790b1dc8915712ea1dbdca5b143aebd7f061136819c7b01131f"), looks := false }, kinds := [], alts := [], laidByText := true, laidKinds := [.data], laidTests := true, laidLooks := .later }
def WitnessNamesCardSaid : Prop := Claim7.holds Tryz.pinned (.plain (OpenSpec.ofChange witnessNamesSpec)) witnessNamesCard

/-- THE TIED CARD OF 'pharoslaw37.WitnessSplit'. -/
def witnessSplitCard : Claim7 := { stood := { row := witnessSplitRow, standIns := [], harness := (true, "175258a058564790b1dc8915712ea1dbdca5b143aebd7f061136819c7b01131f"), looks := false }, kinds := [], alts := [], laidByText := true, laidKinds := [.data], laidTests := true, laidLooks := .later }
def WitnessSplitCardSaid : Prop := Claim7.holds Tryz.pinned (.plain (OpenSpec.ofChange witnessSplitSpec)) witnessSplitCard

/-- THE SECOND FORM's CARD OF 'pharoslaw37.WitnessNames'. -/
def witnessNamesUptoCard : Claim7 := { stood := { row := witnessNamesUptoRow, standIns := [], harness := (true, "175258a058564790b1dc8915712ea1dbdca5b143aebd7f061136819c7b01131f"), looks := false }, kinds := [], alts := [], laidByText := true, laidKinds := [.data], laidTests := true, laidLooks := .later }
def WitnessNamesUptoCardSaid : Prop := Claim7.holds Tryz.pinned (.plain (OpenSpec.upto witnessNamesSpec)) witnessNamesUptoCard

/-- THE SECOND FORM's CARD OF 'pharoslaw37.WitnessSplit'. -/
def witnessSplitUptoCard : Claim7 := { stood := { row := witnessSplitUptoRow, standIns := [], harness := (true, "175258a058564790b1dc8915712ea1dbdca5b143aebd7f061136819c7b01131f"), looks := false }, kinds := [], alts := [], laidByText := true, laidKinds := [.data], laidTests := true, laidLooks := .later }
def WitnessSplitUptoCardSaid : Prop := Claim7.holds Tryz.pinned (.plain (OpenSpec.upto witnessSplitSpec)) witnessSplitUptoCard
end Rows
end Go.Proofs.YthkpmlfaddlieaaGreatDoor
