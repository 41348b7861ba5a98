/-
  DERIVED. GIVEN WITH THE SEED: THE CARDS: each row of YtdaihimdkgmboaaDoorRows.lean that lists a variable, with what it lists TIED to the program's text (the seventh form; the later family's looks); each row that meets fmt, with fmt's text TOLD by the authors' own Lean function (tested against real Go, not proved from fmt's source: count such statements apart). THE CARD IS WHAT COUNTS. Prove the row's statement (the work); the ties are given (YtdaihimdkgmboaaDoorTie.lean); close each card by the builder's one call (the guide's Derived/Test/ToyasCard.lean, 'card_holds'). Laid BY PROGRAM, IN A SANDBOX (cutbox-door.mjs). By AI agents, Wed Nov 11 2026. No macro, syntax, notation, axiom, sorry.
-/
import Derived.Test.YtdaihimdkgmboaaDoorRows
import GoSem.ClaimSeven
namespace Go.Proofs.YtdaihimdkgmboaaDoor
namespace Rows

/-- THE TIED CARD OF 'pharoslaw11.ScanBehind'. -/
def scanBehindCard : Claim7 := { stood := { row := scanBehindRow, standIns := [], harness := (true, "d03a93f8adc9da84b6b764d9169d6272e6da0a40ccc3bd62b81012dcd1d083a7"), looks := true }, kinds := [], alts := [], laidByText := true, laidKinds := [.data], laidTests := true, laidLooks := .later }
def ScanBehindCardSaid : Prop := Claim7.holds Tryd.pinned (.plain (OpenSpec.ofChange scanBehindSpec)) scanBehindCard

/-- THE TIED CARD OF 'pharoslaw11.ScanTells'. -/
def scanTellsCard : Claim7 := { stood := { row := scanTellsRow, standIns := [], harness := (true, "d03a93f8adc9da84b6b764d9169d6272e6da0a40ccc3bd62b81012dcd1d083a7"), looks := true }, kinds := [], alts := [], laidByText := true, laidKinds := [.data], laidTests := true, laidLooks := .later }
def ScanTellsCardSaid : Prop := Claim7.holds Tryd.pinned (.plain (OpenSpec.ofChange scanTellsSpec)) scanTellsCard

/-- THE TIED CARD OF 'pharoslaw11.ScanPages'. -/
def scanPagesCard : Claim7 := { stood := { row := scanPagesRow, standIns := [], harness := (true, "d03a93f8adc9da84b6b764d9169d6272e6da0a40ccc3bd62b81012dcd1d083a7"), looks := true }, kinds := [], alts := [], laidByText := true, laidKinds := [.data], laidTests := true, laidLooks := .later }
def ScanPagesCardSaid : Prop := Claim7.holds Tryd.pinned (.plain (OpenSpec.ofChange scanPagesSpec)) scanPagesCard

/-- THE TIED CARD OF 'pharoslaw11.ScanParts'. -/
def scanPartsCard : Claim7 := { stood := { row := scanPartsRow, standIns := [], harness := (true, "d03a93f8adc9da84b6b764d9169d6272e6da0a40ccc3bd62b81012dcd1d083a7"), looks := true }, kinds := [], alts := [], laidByText := true, laidKinds := [.data], laidTests := true, laidLooks := .later }
def ScanPartsCardSaid : Prop := Claim7.holds Tryd.pinned (.plain (OpenSpec.ofChange scanPartsSpec)) scanPartsCard

/-- THE TIED CARD OF 'pharoslaw33.TrustBack'. -/
def trustBackCard : Claim7 := { stood := { row := trustBackRow, standIns := [], harness := (true, "d03a93f8adc9da84b6b764d9169d6272e6da0a40ccc3bd62b81012dcd1d083a7"), looks := true }, kinds := [], alts := [], laidByText := true, laidKinds := [.data], laidTests := true, laidLooks := .later }
def TrustBackCardSaid : Prop := Claim7.holds Tryd.pinned (.plain (OpenSpec.ofChange trustBackSpec)) trustBackCard

/-- THE SECOND FORM's CARD OF 'pharoslaw11.ScanBehind'. -/
def scanBehindUptoCard : Claim7 := { stood := { row := scanBehindUptoRow, standIns := [], harness := (true, "d03a93f8adc9da84b6b764d9169d6272e6da0a40ccc3bd62b81012dcd1d083a7"), looks := true }, kinds := [], alts := [], laidByText := true, laidKinds := [.data], laidTests := true, laidLooks := .later }
def ScanBehindUptoCardSaid : Prop := Claim7.holds Tryd.pinned (.plain (OpenSpec.upto scanBehindSpec)) scanBehindUptoCard

/-- THE SECOND FORM's CARD OF 'pharoslaw11.ScanTells'. -/
def scanTellsUptoCard : Claim7 := { stood := { row := scanTellsUptoRow, standIns := [], harness := (true, "d03a93f8adc9da84b6b764d9169d6272e6da0a40ccc3bd62b81012dcd1d083a7"), looks := true }, kinds := [], alts := [], laidByText := true, laidKinds := [.data], laidTests := true, laidLooks := .later }
def ScanTellsUptoCardSaid : Prop := Claim7.holds Tryd.pinned (.plain (OpenSpec.upto scanTellsSpec)) scanTellsUptoCard

/-- THE SECOND FORM's CARD OF 'pharoslaw11.ScanPages'. -/
def scanPagesUptoCard : Claim7 := { stood := { row := scanPagesUptoRow, standIns := [], harness := (true, "d03a93f8adc9da84b6b764d9169d6272e6da0a40ccc3bd62b81012dcd1d083a7"), looks := true }, kinds := [], alts := [], laidByText := true, laidKinds := [.data], laidTests := true, laidLooks := .later }
def ScanPagesUptoCardSaid : Prop := Claim7.holds Tryd.pinned (.plain (OpenSpec.upto scanPagesSpec)) scanPagesUptoCard

/-- THE SECOND FORM's CARD OF 'pharoslaw11.ScanParts'. -/
def scanPartsUptoCard : Claim7 := { stood := { row := scanPartsUptoRow, standIns := [], harness := (true, "d03a93f8adc9da84b6b764d9169d6272e6da0a40ccc3bd62b81012dcd1d083a7"), looks := true }, kinds := [], alts := [], laidByText := true, laidKinds := [.data], laidTests := true, laidLooks := .later }
def ScanPartsUptoCardSaid : Prop := Claim7.holds Tryd.pinned (.plain (OpenSpec.upto scanPartsSpec)) scanPartsUptoCard

/-- THE SECOND FORM's CARD OF 'pharoslaw33.TrustBack'. -/
def trustBackUptoCard : Claim7 := { stood := { row := trustBackUptoRow, standIns := [], harness := (true, "d03a93f8adc9da84b6b764d9169d6272e6da0a40ccc3bd62b81012dcd1d083a7"), looks := true }, kinds := [], alts := [], laidByText := true, laidKinds := [.data], laidTests := true, laidLooks := .later }
def TrustBackUptoCardSaid : Prop := Claim7.holds Tryd.pinned (.plain (OpenSpec.upto trustBackSpec)) trustBackUptoCard
end Rows
end Go.Proofs.YtdaihimdkgmboaaDoor
