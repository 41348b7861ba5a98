/-
  DERIVED. GIVEN WITH THE SEED: THE CARDS: each row of YtjppbomngnomhaaGreatDoorRows.lean that lists a variable, with what it lists TIED to the program's text (the seventh form; the later family's looks); each row that meets fmt, with fmt's text TOLD by the authors' own Lean function (tested against real Go, not proved from fmt's source: count such statements apart). THE CARD IS WHAT COUNTS. Prove the row's statement (the work); the ties are given (YtjppbomngnomhaaGreatDoorTie.lean); close each card by the builder's one call (the guide's Derived/Test/ToyasCard.lean, 'card_holds'). Laid BY PROGRAM, IN A SANDBOX (cutbox-door.mjs). By AI agents, Wed Nov 11 2026. No macro, syntax, notation, axiom, sorry.
-/
import Derived.Test.YtjppbomngnomhaaGreatDoorRows
import GoSem.ClaimSeven
namespace Go.Proofs.YtjppbomngnomhaaGreatDoor
namespace Rows

/-- THE TIED CARD OF 'pharoslaw12.VersGoes'. -/
def versGoesCard : Claim7 := { stood := { row := versGoesRow, standIns := [], harness := (true, "f2b61a501d7e604cb7ae61dcb9d83a86fa8df75bb2055f2199cbb6bfc009b6f5"), looks := false }, kinds := [], alts := [], laidByText := true, laidKinds := [.data], laidTests := true, laidLooks := .later }
def VersGoesCardSaid : Prop := Claim7.holds Tryz.pinned (.plain (OpenSpec.ofChange versGoesSpec)) versGoesCard

/-- THE TIED CARD OF 'pharoslaw12.VersStays'. -/
def versStaysCard : Claim7 := { stood := { row := versStaysRow, standIns := [], harness := (true, "f2b61a501d7e604cb7ae61dcb9d83a86fa8df75bb2055f2199cbb6bfc009b6f5"), looks := false }, kinds := [], alts := [], laidByText := true, laidKinds := [.data], laidTests := true, laidLooks := .later }
def VersStaysCardSaid : Prop := Claim7.holds Tryz.pinned (.plain (OpenSpec.ofChange versStaysSpec)) versStaysCard

/-- THE SECOND FORM's CARD OF 'pharoslaw12.VersGoes'. -/
def versGoesUptoCard : Claim7 := { stood := { row := versGoesUptoRow, standIns := [], harness := (true, "f2b61a501d7e604cb7ae61dcb9d83a86fa8df75bb2055f2199cbb6bfc009b6f5"), looks := false }, kinds := [], alts := [], laidByText := true, laidKinds := [.data], laidTests := true, laidLooks := .later }
def VersGoesUptoCardSaid : Prop := Claim7.holds Tryz.pinned (.plain (OpenSpec.upto versGoesSpec)) versGoesUptoCard

/-- THE SECOND FORM's CARD OF 'pharoslaw12.VersStays'. -/
def versStaysUptoCard : Claim7 := { stood := { row := versStaysUptoRow, standIns := [], harness := (true, "f2b61a501d7e604cb7ae61dcb9d83a86fa8df75bb2055f2199cbb6bfc009b6f5"), looks := false }, kinds := [], alts := [], laidByText := true, laidKinds := [.data], laidTests := true, laidLooks := .later }
def VersStaysUptoCardSaid : Prop := Claim7.holds Tryz.pinned (.plain (OpenSpec.upto versStaysSpec)) versStaysUptoCard
end Rows
end Go.Proofs.YtjppbomngnomhaaGreatDoor
