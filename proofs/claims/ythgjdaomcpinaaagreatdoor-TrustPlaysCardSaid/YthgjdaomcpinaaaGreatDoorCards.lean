/-
  DERIVED. GIVEN WITH THE SEED: THE CARDS: each row of YthgjdaomcpinaaaGreatDoorRows.lean that lists a variable, with what it lists TIED to the program's text (the seventh form; the later family's looks); each row that meets fmt, with fmt's text TOLD by the authors' own Lean function (tested against real Go, not proved from fmt's source: count such statements apart). THE CARD IS WHAT COUNTS. Prove the row's statement (the work); the ties are given (YthgjdaomcpinaaaGreatDoorTie.lean); close each card by the builder's one call (the guide's Derived/Test/ToyasCard.lean, 'card_holds'). Laid BY PROGRAM, IN A SANDBOX (cutbox-door.mjs). By AI agents, Wed Nov 11 2026. No macro, syntax, notation, axiom, sorry.
-/
import Derived.Test.YthgjdaomcpinaaaGreatDoorRows
import GoSem.ClaimSeven
namespace Go.Proofs.YthgjdaomcpinaaaGreatDoor
namespace Rows

/-- THE TIED CARD OF 'pharoslaw33.TrustCodes'. -/
def trustCodesCard : Claim7 := { stood := { row := trustCodesRow, standIns := [], harness := (true, "e29a61659c1a9aa6a41cecaae9443ac82a0a63f6f7bd27f5ef27d1fc695f82de"), looks := true }, kinds := [], alts := [], laidByText := true, laidKinds := [.data], laidTests := true, laidLooks := .later }
def TrustCodesCardSaid : Prop := Claim7.holds Tryz.pinned (.plain (OpenSpec.ofChange trustCodesSpec)) trustCodesCard

/-- THE TIED CARD OF 'pharoslaw33.TrustSafe'. -/
def trustSafeCard : Claim7 := { stood := { row := trustSafeRow, standIns := [], harness := (true, "e29a61659c1a9aa6a41cecaae9443ac82a0a63f6f7bd27f5ef27d1fc695f82de"), looks := true }, kinds := [], alts := [], laidByText := true, laidKinds := [.data], laidTests := true, laidLooks := .later }
def TrustSafeCardSaid : Prop := Claim7.holds Tryz.pinned (.plain (OpenSpec.ofChange trustSafeSpec)) trustSafeCard

/-- THE TIED CARD OF 'pharoslaw33.TrustTrims'. -/
def trustTrimsCard : Claim7 := { stood := { row := trustTrimsRow, standIns := [], harness := (true, "e29a61659c1a9aa6a41cecaae9443ac82a0a63f6f7bd27f5ef27d1fc695f82de"), looks := true }, kinds := [], alts := [], laidByText := true, laidKinds := [.data], laidTests := true, laidLooks := .later }
def TrustTrimsCardSaid : Prop := Claim7.holds Tryz.pinned (.plain (OpenSpec.ofChange trustTrimsSpec)) trustTrimsCard

/-- THE TIED CARD OF 'pharoslaw33.TrustStale'. -/
def trustStaleCard : Claim7 := { stood := { row := trustStaleRow, standIns := [], harness := (true, "e29a61659c1a9aa6a41cecaae9443ac82a0a63f6f7bd27f5ef27d1fc695f82de"), looks := true }, kinds := [], alts := [], laidByText := true, laidKinds := [.data], laidTests := true, laidLooks := .later }
def TrustStaleCardSaid : Prop := Claim7.holds Tryz.pinned (.plain (OpenSpec.ofChange trustStaleSpec)) trustStaleCard

/-- THE TIED CARD OF 'pharoslaw33.TrustPlays'. -/
def trustPlaysCard : Claim7 := { stood := { row := trustPlaysRow, standIns := [], harness := (true, "e29a61659c1a9aa6a41cecaae9443ac82a0a63f6f7bd27f5ef27d1fc695f82de"), looks := true }, kinds := [], alts := [], laidByText := true, laidKinds := [.data], laidTests := true, laidLooks := .later }
def TrustPlaysCardSaid : Prop := Claim7.holds Tryz.pinned (.plain (OpenSpec.ofChange trustPlaysSpec)) trustPlaysCard

/-- THE SECOND FORM's CARD OF 'pharoslaw33.TrustCodes'. -/
def trustCodesUptoCard : Claim7 := { stood := { row := trustCodesUptoRow, standIns := [], harness := (true, "e29a61659c1a9aa6a41cecaae9443ac82a0a63f6f7bd27f5ef27d1fc695f82de"), looks := true }, kinds := [], alts := [], laidByText := true, laidKinds := [.data], laidTests := true, laidLooks := .later }
def TrustCodesUptoCardSaid : Prop := Claim7.holds Tryz.pinned (.plain (OpenSpec.upto trustCodesSpec)) trustCodesUptoCard

/-- THE SECOND FORM's CARD OF 'pharoslaw33.TrustSafe'. -/
def trustSafeUptoCard : Claim7 := { stood := { row := trustSafeUptoRow, standIns := [], harness := (true, "e29a61659c1a9aa6a41cecaae9443ac82a0a63f6f7bd27f5ef27d1fc695f82de"), looks := true }, kinds := [], alts := [], laidByText := true, laidKinds := [.data], laidTests := true, laidLooks := .later }
def TrustSafeUptoCardSaid : Prop := Claim7.holds Tryz.pinned (.plain (OpenSpec.upto trustSafeSpec)) trustSafeUptoCard

/-- THE SECOND FORM's CARD OF 'pharoslaw33.TrustTrims'. -/
def trustTrimsUptoCard : Claim7 := { stood := { row := trustTrimsUptoRow, standIns := [], harness := (true, "e29a61659c1a9aa6a41cecaae9443ac82a0a63f6f7bd27f5ef27d1fc695f82de"), looks := true }, kinds := [], alts := [], laidByText := true, laidKinds := [.data], laidTests := true, laidLooks := .later }
def TrustTrimsUptoCardSaid : Prop := Claim7.holds Tryz.pinned (.plain (OpenSpec.upto trustTrimsSpec)) trustTrimsUptoCard

/-- THE SECOND FORM's CARD OF 'pharoslaw33.TrustStale'. -/
def trustStaleUptoCard : Claim7 := { stood := { row := trustStaleUptoRow, standIns := [], harness := (true, "e29a61659c1a9aa6a41cecaae9443ac82a0a63f6f7bd27f5ef27d1fc695f82de"), looks := true }, kinds := [], alts := [], laidByText := true, laidKinds := [.data], laidTests := true, laidLooks := .later }
def TrustStaleUptoCardSaid : Prop := Claim7.holds Tryz.pinned (.plain (OpenSpec.upto trustStaleSpec)) trustStaleUptoCard

/-- THE SECOND FORM's CARD OF 'pharoslaw33.TrustPlays'. -/
def trustPlaysUptoCard : Claim7 := { stood := { row := trustPlaysUptoRow, standIns := [], harness := (true, "e29a61659c1a9aa6a41cecaae9443ac82a0a63f6f7bd27f5ef27d1fc695f82de"), looks := true }, kinds := [], alts := [], laidByText := true, laidKinds := [.data], laidTests := true, laidLooks := .later }
def TrustPlaysUptoCardSaid : Prop := Claim7.holds Tryz.pinned (.plain (OpenSpec.upto trustPlaysSpec)) trustPlaysUptoCard
end Rows
end Go.Proofs.YthgjdaomcpinaaaGreatDoor
