/-
  DERIVED. GIVEN WITH THE SEED: THE CARDS: each row of YtaedgfnfkacimaaDoorRows.lean that lists a variable, with what it lists TIED to the program's text (the seventh form; the later family's looks); each row that meets fmt, with fmt's text TOLD by the authors' own Lean function (tested against real Go, not proved from fmt's source: count such statements apart). THE CARD IS WHAT COUNTS. Prove the row's statement (the work); the ties are given (YtaedgfnfkacimaaDoorTie.lean); close each card by the builder's one call (the guide's Derived/Test/ToyasCard.lean, 'card_holds'). Laid BY PROGRAM, IN A SANDBOX (cutbox-door.mjs). By AI agents, Wed Nov 11 2026. No macro, syntax, notation, axiom, sorry.
-/
import Derived.Test.YtaedgfnfkacimaaDoorRows
import GoSem.ClaimSeven
namespace Go.Proofs.YtaedgfnfkacimaaDoor
namespace Rows

/-- THE TIED CARD OF 'pharoslaw33.TrustBack'. -/
def trustBackCard : Claim7 := { stood := { row := trustBackRow, standIns := [], harness := (true, "d4291f04984389e0695c05f85e186aca4c837d1beccf039c42078df9e593f5cf"), looks := true }, kinds := [], alts := [], laidByText := true, laidKinds := [.data], laidTests := true, laidLooks := .later }
def TrustBackCardSaid : Prop := Claim7.holds Tryd.pinned (.plain (OpenSpec.ofChange trustBackSpec)) trustBackCard

/-- THE SECOND FORM's CARD OF 'pharoslaw33.TrustBack'. -/
def trustBackUptoCard : Claim7 := { stood := { row := trustBackUptoRow, standIns := [], harness := (true, "d4291f04984389e0695c05f85e186aca4c837d1beccf039c42078df9e593f5cf"), looks := true }, kinds := [], alts := [], laidByText := true, laidKinds := [.data], laidTests := true, laidLooks := .later }
def TrustBackUptoCardSaid : Prop := Claim7.holds Tryd.pinned (.plain (OpenSpec.upto trustBackSpec)) trustBackUptoCard
end Rows
end Go.Proofs.YtaedgfnfkacimaaDoor
