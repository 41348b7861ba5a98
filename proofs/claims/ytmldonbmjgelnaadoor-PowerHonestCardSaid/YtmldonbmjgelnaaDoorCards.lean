/-
  DERIVED. GIVEN WITH THE SEED: THE CARDS: each row of YtmldonbmjgelnaaDoorRows.lean that lists a variable, with what it lists TIED to the program's text (the seventh form; the later family's looks); each row that meets fmt, with fmt's text TOLD by the authors' own Lean function (tested against real Go, not proved from fmt's source: count such statements apart). THE CARD IS WHAT COUNTS. Prove the row's statement (the work); the ties are given (YtmldonbmjgelnaaDoorTie.lean); close each card by the builder's one call (the guide's Derived/Test/ToyasCard.lean, 'card_holds'). Laid BY PROGRAM, IN A SANDBOX (cutbox-door.mjs). By AI agents, Wed Nov 11 2026. No macro, syntax, notation, axiom, sorry.
-/
import Derived.Test.YtmldonbmjgelnaaDoorRows
import GoSem.ClaimSeven
namespace Go.Proofs.YtmldonbmjgelnaaDoor
namespace Rows

/-- THE TIED CARD OF 'pharoslaw08.NodeBack'. -/
def nodeBackCard : Claim7 := { stood := { row := nodeBackRow, standIns := [], harness := (true, "4cc32b8dbe015ed209face0b7be8849f9da4be869ee46e0f86f09d435e128415"), looks := false }, kinds := [], alts := [], laidByText := true, laidKinds := [.data], laidTests := true, laidLooks := .later }
def NodeBackCardSaid : Prop := Claim7.holds Tryd.pinned (.plain (OpenSpec.ofChange nodeBackSpec)) nodeBackCard

/-- THE TIED CARD OF 'pharoslaw08.NodeWrites'. -/
def nodeWritesCard : Claim7 := { stood := { row := nodeWritesRow, standIns := [], harness := (true, "4cc32b8dbe015ed209face0b7be8849f9da4be869ee46e0f86f09d435e128415"), looks := false }, kinds := [], alts := [], laidByText := true, laidKinds := [.data], laidTests := true, laidLooks := .later }
def NodeWritesCardSaid : Prop := Claim7.holds Tryd.pinned (.plain (OpenSpec.ofChange nodeWritesSpec)) nodeWritesCard

/-- THE TIED CARD OF 'pharoslaw08.NodeSum'. -/
def nodeSumCard : Claim7 := { stood := { row := nodeSumRow, standIns := [], harness := (true, "4cc32b8dbe015ed209face0b7be8849f9da4be869ee46e0f86f09d435e128415"), looks := false }, kinds := [], alts := [], laidByText := true, laidKinds := [.data], laidTests := true, laidLooks := .later }
def NodeSumCardSaid : Prop := Claim7.holds Tryd.pinned (.plain (OpenSpec.ofChange nodeSumSpec)) nodeSumCard

/-- THE TIED CARD OF 'pharoslaw05.PowerCodes'. -/
def powerCodesCard : Claim7 := { stood := { row := powerCodesRow, standIns := [], harness := (true, "4cc32b8dbe015ed209face0b7be8849f9da4be869ee46e0f86f09d435e128415"), looks := false }, kinds := [], alts := [], laidByText := true, laidKinds := [.data], laidTests := true, laidLooks := .later }
def PowerCodesCardSaid : Prop := Claim7.holds Tryd.pinned (.plain (OpenSpec.ofChange powerCodesSpec)) powerCodesCard

/-- THE TIED CARD OF 'pharoslaw05.PowerBack'. -/
def powerBackCard : Claim7 := { stood := { row := powerBackRow, standIns := [], harness := (true, "4cc32b8dbe015ed209face0b7be8849f9da4be869ee46e0f86f09d435e128415"), looks := false }, kinds := [], alts := [], laidByText := true, laidKinds := [.data], laidTests := true, laidLooks := .later }
def PowerBackCardSaid : Prop := Claim7.holds Tryd.pinned (.plain (OpenSpec.ofChange powerBackSpec)) powerBackCard

/-- THE TIED CARD OF 'pharoslaw07.CertCodes'. -/
def certCodesCard : Claim7 := { stood := { row := certCodesRow, standIns := [], harness := (true, "4cc32b8dbe015ed209face0b7be8849f9da4be869ee46e0f86f09d435e128415"), looks := false }, kinds := [], alts := [], laidByText := true, laidKinds := [.data], laidTests := true, laidLooks := .later }
def CertCodesCardSaid : Prop := Claim7.holds Tryd.pinned (.plain (OpenSpec.ofChange certCodesSpec)) certCodesCard

/-- THE TIED CARD OF 'pharoslaw07.CertBack'. -/
def certBackCard : Claim7 := { stood := { row := certBackRow, standIns := [], harness := (true, "4cc32b8dbe015ed209face0b7be8849f9da4be869ee46e0f86f09d435e128415"), looks := false }, kinds := [], alts := [], laidByText := true, laidKinds := [.data], laidTests := true, laidLooks := .later }
def CertBackCardSaid : Prop := Claim7.holds Tryd.pinned (.plain (OpenSpec.ofChange certBackSpec)) certBackCard

/-- THE TIED CARD OF 'pharoslaw05.PowerTells'. -/
def powerTellsCard : Claim7 := { stood := { row := powerTellsRow, standIns := [], harness := (true, "4cc32b8dbe015ed209face0b7be8849f9da4be869ee46e0f86f09d435e128415"), looks := false }, kinds := [], alts := [], laidByText := true, laidKinds := [.data], laidTests := true, laidLooks := .later }
def PowerTellsCardSaid : Prop := Claim7.holds Tryd.pinned (.plain (OpenSpec.ofChange powerTellsSpec)) powerTellsCard

/-- THE TIED CARD OF 'pharoslaw05.PowerOverlap'. -/
def powerOverlapCard : Claim7 := { stood := { row := powerOverlapRow, standIns := [], harness := (true, "4cc32b8dbe015ed209face0b7be8849f9da4be869ee46e0f86f09d435e128415"), looks := false }, kinds := [], alts := [], laidByText := true, laidKinds := [.data], laidTests := true, laidLooks := .later }
def PowerOverlapCardSaid : Prop := Claim7.holds Tryd.pinned (.plain (OpenSpec.ofChange powerOverlapSpec)) powerOverlapCard

/-- THE TIED CARD OF 'pharoslaw05.PowerHonest'. -/
def powerHonestCard : Claim7 := { stood := { row := powerHonestRow, standIns := [], harness := (true, "4cc32b8dbe015ed209face0b7be8849f9da4be869ee46e0f86f09d435e128415"), looks := false }, kinds := [], alts := [], laidByText := true, laidKinds := [.data], laidTests := true, laidLooks := .later }
def PowerHonestCardSaid : Prop := Claim7.holds Tryd.pinned (.plain (OpenSpec.ofChange powerHonestSpec)) powerHonestCard

/-- THE SECOND FORM's CARD OF 'pharoslaw08.NodeBack'. -/
def nodeBackUptoCard : Claim7 := { stood := { row := nodeBackUptoRow, standIns := [], harness := (true, "4cc32b8dbe015ed209face0b7be8849f9da4be869ee46e0f86f09d435e128415"), looks := false }, kinds := [], alts := [], laidByText := true, laidKinds := [.data], laidTests := true, laidLooks := .later }
def NodeBackUptoCardSaid : Prop := Claim7.holds Tryd.pinned (.plain (OpenSpec.upto nodeBackSpec)) nodeBackUptoCard

/-- THE SECOND FORM's CARD OF 'pharoslaw08.NodeWrites'. -/
def nodeWritesUptoCard : Claim7 := { stood := { row := nodeWritesUptoRow, standIns := [], harness := (true, "4cc32b8dbe015ed209face0b7be8849f9da4be869ee46e0f86f09d435e128415"), looks := false }, kinds := [], alts := [], laidByText := true, laidKinds := [.data], laidTests := true, laidLooks := .later }
def NodeWritesUptoCardSaid : Prop := Claim7.holds Tryd.pinned (.plain (OpenSpec.upto nodeWritesSpec)) nodeWritesUptoCard

/-- THE SECOND FORM's CARD OF 'pharoslaw08.NodeSum'. -/
def nodeSumUptoCard : Claim7 := { stood := { row := nodeSumUptoRow, standIns := [], harness := (true, "4cc32b8dbe015ed209face0b7be8849f9da4be869ee46e0f86f09d435e128415"), looks := false }, kinds := [], alts := [], laidByText := true, laidKinds := [.data], laidTests := true, laidLooks := .later }
def NodeSumUptoCardSaid : Prop := Claim7.holds Tryd.pinned (.plain (OpenSpec.upto nodeSumSpec)) nodeSumUptoCard

/-- THE SECOND FORM's CARD OF 'pharoslaw05.PowerCodes'. -/
def powerCodesUptoCard : Claim7 := { stood := { row := powerCodesUptoRow, standIns := [], harness := (true, "4cc32b8dbe015ed209face0b7be8849f9da4be869ee46e0f86f09d435e128415"), looks := false }, kinds := [], alts := [], laidByText := true, laidKinds := [.data], laidTests := true, laidLooks := .later }
def PowerCodesUptoCardSaid : Prop := Claim7.holds Tryd.pinned (.plain (OpenSpec.upto powerCodesSpec)) powerCodesUptoCard

/-- THE SECOND FORM's CARD OF 'pharoslaw05.PowerBack'. -/
def powerBackUptoCard : Claim7 := { stood := { row := powerBackUptoRow, standIns := [], harness := (true, "4cc32b8dbe015ed209face0b7be8849f9da4be869ee46e0f86f09d435e128415"), looks := false }, kinds := [], alts := [], laidByText := true, laidKinds := [.data], laidTests := true, laidLooks := .later }
def PowerBackUptoCardSaid : Prop := Claim7.holds Tryd.pinned (.plain (OpenSpec.upto powerBackSpec)) powerBackUptoCard

/-- THE SECOND FORM's CARD OF 'pharoslaw07.CertCodes'. -/
def certCodesUptoCard : Claim7 := { stood := { row := certCodesUptoRow, standIns := [], harness := (true, "4cc32b8dbe015ed209face0b7be8849f9da4be869ee46e0f86f09d435e128415"), looks := false }, kinds := [], alts := [], laidByText := true, laidKinds := [.data], laidTests := true, laidLooks := .later }
def CertCodesUptoCardSaid : Prop := Claim7.holds Tryd.pinned (.plain (OpenSpec.upto certCodesSpec)) certCodesUptoCard

/-- THE SECOND FORM's CARD OF 'pharoslaw07.CertBack'. -/
def certBackUptoCard : Claim7 := { stood := { row := certBackUptoRow, standIns := [], harness := (true, "4cc32b8dbe015ed209face0b7be8849f9da4be869ee46e0f86f09d435e128415"), looks := false }, kinds := [], alts := [], laidByText := true, laidKinds := [.data], laidTests := true, laidLooks := .later }
def CertBackUptoCardSaid : Prop := Claim7.holds Tryd.pinned (.plain (OpenSpec.upto certBackSpec)) certBackUptoCard

/-- THE SECOND FORM's CARD OF 'pharoslaw05.PowerTells'. -/
def powerTellsUptoCard : Claim7 := { stood := { row := powerTellsUptoRow, standIns := [], harness := (true, "4cc32b8dbe015ed209face0b7be8849f9da4be869ee46e0f86f09d435e128415"), looks := false }, kinds := [], alts := [], laidByText := true, laidKinds := [.data], laidTests := true, laidLooks := .later }
def PowerTellsUptoCardSaid : Prop := Claim7.holds Tryd.pinned (.plain (OpenSpec.upto powerTellsSpec)) powerTellsUptoCard

/-- THE SECOND FORM's CARD OF 'pharoslaw05.PowerOverlap'. -/
def powerOverlapUptoCard : Claim7 := { stood := { row := powerOverlapUptoRow, standIns := [], harness := (true, "4cc32b8dbe015ed209face0b7be8849f9da4be869ee46e0f86f09d435e128415"), looks := false }, kinds := [], alts := [], laidByText := true, laidKinds := [.data], laidTests := true, laidLooks := .later }
def PowerOverlapUptoCardSaid : Prop := Claim7.holds Tryd.pinned (.plain (OpenSpec.upto powerOverlapSpec)) powerOverlapUptoCard

/-- THE SECOND FORM's CARD OF 'pharoslaw05.PowerHonest'. -/
def powerHonestUptoCard : Claim7 := { stood := { row := powerHonestUptoRow, standIns := [], harness := (true, "4cc32b8dbe015ed209face0b7be8849f9da4be869ee46e0f86f09d435e128415"), looks := false }, kinds := [], alts := [], laidByText := true, laidKinds := [.data], laidTests := true, laidLooks := .later }
def PowerHonestUptoCardSaid : Prop := Claim7.holds Tryd.pinned (.plain (OpenSpec.upto powerHonestSpec)) powerHonestUptoCard
end Rows
end Go.Proofs.YtmldonbmjgelnaaDoor
