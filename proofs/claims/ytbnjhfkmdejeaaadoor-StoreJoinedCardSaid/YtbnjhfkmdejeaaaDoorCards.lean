/-
  DERIVED. GIVEN WITH THE SEED: THE CARDS: each row of YtbnjhfkmdejeaaaDoorRows.lean that lists a variable, with what it lists TIED to the program's text (the seventh form; the later family's looks); each row that meets fmt, with fmt's text TOLD by the authors' own Lean function (tested against real Go, not proved from fmt's source: count such statements apart). THE CARD IS WHAT COUNTS. Prove the row's statement (the work); the ties are given (YtbnjhfkmdejeaaaDoorTie.lean); close each card by the builder's one call (the guide's Derived/Test/ToyasCard.lean, 'card_holds'). Laid BY PROGRAM, IN A SANDBOX (cutbox-door.mjs). By AI agents, Wed Nov 11 2026. No macro, syntax, notation, axiom, sorry.
-/
import Derived.Test.YtbnjhfkmdejeaaaDoorRows
import GoSem.ClaimSeven
namespace Go.Proofs.YtbnjhfkmdejeaaaDoor
namespace Rows

/-- THE TIED CARD OF 'pharoslaw07.CertChecks'. -/
def certChecksCard : Claim7 := { stood := { row := certChecksRow, standIns := [], harness := (true, "cdbdc6075c461fdbb47639a556f9841efab54319b7b3f56826e502b24b1dd9b1"), looks := true }, kinds := [], alts := [], laidByText := true, laidKinds := [.data], laidTests := true, laidLooks := .later }
def CertChecksCardSaid : Prop := Claim7.holds Tryd.pinned (.plain (OpenSpec.ofChange certChecksSpec)) certChecksCard

/-- THE TIED CARD OF 'pharoslaw07.CertMore'. -/
def certMoreCard : Claim7 := { stood := { row := certMoreRow, standIns := [], harness := (true, "cdbdc6075c461fdbb47639a556f9841efab54319b7b3f56826e502b24b1dd9b1"), looks := true }, kinds := [], alts := [], laidByText := true, laidKinds := [.data], laidTests := true, laidLooks := .later }
def CertMoreCardSaid : Prop := Claim7.holds Tryd.pinned (.plain (OpenSpec.ofChange certMoreSpec)) certMoreCard

/-- THE TIED CARD OF 'pharoslaw07.CertGathers'. -/
def certGathersCard : Claim7 := { stood := { row := certGathersRow, standIns := [], harness := (true, "cdbdc6075c461fdbb47639a556f9841efab54319b7b3f56826e502b24b1dd9b1"), looks := true }, kinds := [], alts := [], laidByText := true, laidKinds := [.data], laidTests := true, laidLooks := .later }
def CertGathersCardSaid : Prop := Claim7.holds Tryd.pinned (.plain (OpenSpec.ofChange certGathersSpec)) certGathersCard

/-- THE TIED CARD OF 'pharoslaw07.CertBoth'. -/
def certBothCard : Claim7 := { stood := { row := certBothRow, standIns := [], harness := (true, "cdbdc6075c461fdbb47639a556f9841efab54319b7b3f56826e502b24b1dd9b1"), looks := true }, kinds := [], alts := [], laidByText := true, laidKinds := [.data], laidTests := true, laidLooks := .later }
def CertBothCardSaid : Prop := Claim7.holds Tryd.pinned (.plain (OpenSpec.ofChange certBothSpec)) certBothCard

/-- THE TIED CARD OF 'pharoslaw09.StoreSums'. -/
def storeSumsCard : Claim7 := { stood := { row := storeSumsRow, standIns := [], harness := (true, "cdbdc6075c461fdbb47639a556f9841efab54319b7b3f56826e502b24b1dd9b1"), looks := true }, kinds := [], alts := [], laidByText := true, laidKinds := [.data], laidTests := true, laidLooks := .later }
def StoreSumsCardSaid : Prop := Claim7.holds Tryd.pinned (.plain (OpenSpec.ofChange storeSumsSpec)) storeSumsCard

/-- THE TIED CARD OF 'pharoslaw09.StoreJoined'. -/
def storeJoinedCard : Claim7 := { stood := { row := storeJoinedRow, standIns := [], harness := (true, "cdbdc6075c461fdbb47639a556f9841efab54319b7b3f56826e502b24b1dd9b1"), looks := true }, kinds := [], alts := [], laidByText := true, laidKinds := [.data], laidTests := true, laidLooks := .later }
def StoreJoinedCardSaid : Prop := Claim7.holds Tryd.pinned (.plain (OpenSpec.ofChange storeJoinedSpec)) storeJoinedCard

/-- THE TIED CARD OF 'pharoslaw09.StoreKeeps'. -/
def storeKeepsCard : Claim7 := { stood := { row := storeKeepsRow, standIns := [], harness := (true, "cdbdc6075c461fdbb47639a556f9841efab54319b7b3f56826e502b24b1dd9b1"), looks := true }, kinds := [], alts := [], laidByText := true, laidKinds := [.data], laidTests := true, laidLooks := .later }
def StoreKeepsCardSaid : Prop := Claim7.holds Tryd.pinned (.plain (OpenSpec.ofChange storeKeepsSpec)) storeKeepsCard

/-- THE SECOND FORM's CARD OF 'pharoslaw07.CertChecks'. -/
def certChecksUptoCard : Claim7 := { stood := { row := certChecksUptoRow, standIns := [], harness := (true, "cdbdc6075c461fdbb47639a556f9841efab54319b7b3f56826e502b24b1dd9b1"), looks := true }, kinds := [], alts := [], laidByText := true, laidKinds := [.data], laidTests := true, laidLooks := .later }
def CertChecksUptoCardSaid : Prop := Claim7.holds Tryd.pinned (.plain (OpenSpec.upto certChecksSpec)) certChecksUptoCard

/-- THE SECOND FORM's CARD OF 'pharoslaw07.CertMore'. -/
def certMoreUptoCard : Claim7 := { stood := { row := certMoreUptoRow, standIns := [], harness := (true, "cdbdc6075c461fdbb47639a556f9841efab54319b7b3f56826e502b24b1dd9b1"), looks := true }, kinds := [], alts := [], laidByText := true, laidKinds := [.data], laidTests := true, laidLooks := .later }
def CertMoreUptoCardSaid : Prop := Claim7.holds Tryd.pinned (.plain (OpenSpec.upto certMoreSpec)) certMoreUptoCard

/-- THE SECOND FORM's CARD OF 'pharoslaw07.CertGathers'. -/
def certGathersUptoCard : Claim7 := { stood := { row := certGathersUptoRow, standIns := [], harness := (true, "cdbdc6075c461fdbb47639a556f9841efab54319b7b3f56826e502b24b1dd9b1"), looks := true }, kinds := [], alts := [], laidByText := true, laidKinds := [.data], laidTests := true, laidLooks := .later }
def CertGathersUptoCardSaid : Prop := Claim7.holds Tryd.pinned (.plain (OpenSpec.upto certGathersSpec)) certGathersUptoCard

/-- THE SECOND FORM's CARD OF 'pharoslaw07.CertBoth'. -/
def certBothUptoCard : Claim7 := { stood := { row := certBothUptoRow, standIns := [], harness := (true, "cdbdc6075c461fdbb47639a556f9841efab54319b7b3f56826e502b24b1dd9b1"), looks := true }, kinds := [], alts := [], laidByText := true, laidKinds := [.data], laidTests := true, laidLooks := .later }
def CertBothUptoCardSaid : Prop := Claim7.holds Tryd.pinned (.plain (OpenSpec.upto certBothSpec)) certBothUptoCard

/-- THE SECOND FORM's CARD OF 'pharoslaw09.StoreSums'. -/
def storeSumsUptoCard : Claim7 := { stood := { row := storeSumsUptoRow, standIns := [], harness := (true, "cdbdc6075c461fdbb47639a556f9841efab54319b7b3f56826e502b24b1dd9b1"), looks := true }, kinds := [], alts := [], laidByText := true, laidKinds := [.data], laidTests := true, laidLooks := .later }
def StoreSumsUptoCardSaid : Prop := Claim7.holds Tryd.pinned (.plain (OpenSpec.upto storeSumsSpec)) storeSumsUptoCard

/-- THE SECOND FORM's CARD OF 'pharoslaw09.StoreJoined'. -/
def storeJoinedUptoCard : Claim7 := { stood := { row := storeJoinedUptoRow, standIns := [], harness := (true, "cdbdc6075c461fdbb47639a556f9841efab54319b7b3f56826e502b24b1dd9b1"), looks := true }, kinds := [], alts := [], laidByText := true, laidKinds := [.data], laidTests := true, laidLooks := .later }
def StoreJoinedUptoCardSaid : Prop := Claim7.holds Tryd.pinned (.plain (OpenSpec.upto storeJoinedSpec)) storeJoinedUptoCard

/-- THE SECOND FORM's CARD OF 'pharoslaw09.StoreKeeps'. -/
def storeKeepsUptoCard : Claim7 := { stood := { row := storeKeepsUptoRow, standIns := [], harness := (true, "cdbdc6075c461fdbb47639a556f9841efab54319b7b3f56826e502b24b1dd9b1"), looks := true }, kinds := [], alts := [], laidByText := true, laidKinds := [.data], laidTests := true, laidLooks := .later }
def StoreKeepsUptoCardSaid : Prop := Claim7.holds Tryd.pinned (.plain (OpenSpec.upto storeKeepsSpec)) storeKeepsUptoCard
end Rows
end Go.Proofs.YtbnjhfkmdejeaaaDoor
