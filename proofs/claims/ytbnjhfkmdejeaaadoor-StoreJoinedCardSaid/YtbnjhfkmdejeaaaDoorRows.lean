/-
  NARROWER THAN 'FOR EVERY INPUT', by the rows' own cells (each row's printed sentence says how): CertChecks: laid · CertMore: laid · CertGathers: laid · CertBoth: laid · StoreSums: laid · StoreJoined: laid · StoreKeeps: laid.
  DERIVED. THE GIVEN ROWS OF THIS SEAT. 7 by the template 'for every input the law returns true; each argument reads behind the call as it read before'; 0 by the template 'total and deterministic' (their statements: YtbnjhfkmdejeaaaDoorTotals.lean).
  GIVEN WITH THE SEED: the statements are not yours to turn. If you find one false, say at which input.
  Laid BY PROGRAM, IN A SANDBOX (cutbox-rows.mjs): the forced cells as the released guide's own fill.sh prints them over the translation 643d50e0655af7b6… (all of the seat's roots in one cut). By AI agents, Wed Nov 11 2026. No macro, syntax, notation, axiom, sorry.
-/
import Derived.Test.YtbnjhfkmdejeaaaDoorChecked
import GoSem.Claim
import GoSem.ClaimJoined
import GoSem.ClaimMapViews
import Derived.JoinedTies
import Derived.KernelRfl
namespace Go.Proofs.YtbnjhfkmdejeaaaDoor
/- THE CELL 'sum', in the pinned program and in every row, IS THE sha256 OF THE DUMP (.gsa) THAT YtbnjhfkmdejeaaaDoorProg.lean LOADS. Nothing in Lean hashes anything: it is a label: what it is worth is what the hold of that sum in a sandbox is worth. -/
noncomputable def Tryd.pinned : Pinned := { name := "ytbnjhfkmdejeaaadoor", sum := "643d50e0655af7b64d24e28b5e815fd4ba5cbba1ceb909986021cdb595634197", checked := Tryd.checked }
namespace Rows
def none {H : Type} : Left H := { results := [], args := [] }

/- WHAT THE LISTED PACKAGE-LEVEL VARIABLES READ AS WHEN THE CALL BEGINS. Each datum BY PROGRAM (the guide's laid-datum.mjs) off the statement by which the dump's own 'gosem.cut.vars' lays the variable. In a bare row this is a premise. The card (YtbnjhfkmdejeaaaDoorCards.lean) ties it to the program's text. -/
def laid_pharos_sha_k {H : Type} : DataW H := .agg [.lit (.int .u32 1116352408), .lit (.int .u32 1899447441), .lit (.int .u32 3049323471), .lit (.int .u32 3921009573), .lit (.int .u32 961987163), .lit (.int .u32 1508970993), .lit (.int .u32 2453635748), .lit (.int .u32 2870763221), .lit (.int .u32 3624381080), .lit (.int .u32 310598401), .lit (.int .u32 607225278), .lit (.int .u32 1426881987), .lit (.int .u32 1925078388), .lit (.int .u32 2162078206), .lit (.int .u32 2614888103), .lit (.int .u32 3248222580), .lit (.int .u32 3835390401), .lit (.int .u32 4022224774), .lit (.int .u32 264347078), .lit (.int .u32 604807628), .lit (.int .u32 770255983), .lit (.int .u32 1249150122), .lit (.int .u32 1555081692), .lit (.int .u32 1996064986), .lit (.int .u32 2554220882), .lit (.int .u32 2821834349), .lit (.int .u32 2952996808), .lit (.int .u32 3210313671), .lit (.int .u32 3336571891), .lit (.int .u32 3584528711), .lit (.int .u32 113926993), .lit (.int .u32 338241895), .lit (.int .u32 666307205), .lit (.int .u32 773529912), .lit (.int .u32 1294757372), .lit (.int .u32 1396182291), .lit (.int .u32 1695183700), .lit (.int .u32 1986661051), .lit (.int .u32 2177026350), .lit (.int .u32 2456956037), .lit (.int .u32 2730485921), .lit (.int .u32 2820302411), .lit (.int .u32 3259730800), .lit (.int .u32 3345764771), .lit (.int .u32 3516065817), .lit (.int .u32 3600352804), .lit (.int .u32 4094571909), .lit (.int .u32 275423344), .lit (.int .u32 430227734), .lit (.int .u32 506948616), .lit (.int .u32 659060556), .lit (.int .u32 883997877), .lit (.int .u32 958139571), .lit (.int .u32 1322822218), .lit (.int .u32 1537002063), .lit (.int .u32 1747873779), .lit (.int .u32 1955562222), .lit (.int .u32 2024104815), .lit (.int .u32 2227730452), .lit (.int .u32 2361852424), .lit (.int .u32 2428436474), .lit (.int .u32 2756734187), .lit (.int .u32 3204031479), .lit (.int .u32 3329325298)]

/-- 'pharoslaw07.CertChecks': WHATEVER THE INPUT: true; the input reads as it did. -/
def certChecksSpec : ChangeSpec := { name := "certChecks", fn := fun _ => fun
  | [d1, d2, d3] => { results := [.lit (.bool true)], args := [d1, d2, d3] }
  | _ => none }
def certChecksRow : OpenClaim := { program := "ytbnjhfkmdejeaaadoor", sum := "643d50e0655af7b64d24e28b5e815fd4ba5cbba1ceb909986021cdb595634197", func := "pharos/pharoslaw07.CertChecks", spec := "certChecks", unfollowed := true, recurses := true, named := ["pharos/sha.k"], plainKeys := false, apart := false, laid := [("pharos/sha.k", laid_pharos_sha_k)] }
def CertChecksSaid : Prop := certChecksRow.holds Tryd.pinned (OpenSpec.ofChange certChecksSpec)

/-- ITS FALSE NEIGHBOUR: 'it returns false'. Refute it at one input. -/
def certChecksWrong : ChangeSpec := { name := "certChecks", fn := fun _ => fun
  | [d1, d2, d3] => { results := [.lit (.bool false)], args := [d1, d2, d3] }
  | _ => none }
def CertChecksWrongFalsely : Prop := certChecksRow.holds Tryd.pinned (OpenSpec.ofChange certChecksWrong)

/-- 'pharoslaw07.CertMore': WHATEVER THE INPUT: true; the input reads as it did. -/
def certMoreSpec : ChangeSpec := { name := "certMore", fn := fun _ => fun
  | [d1, d2, d3] => { results := [.lit (.bool true)], args := [d1, d2, d3] }
  | _ => none }
def certMoreRow : OpenClaim := { program := "ytbnjhfkmdejeaaadoor", sum := "643d50e0655af7b64d24e28b5e815fd4ba5cbba1ceb909986021cdb595634197", func := "pharos/pharoslaw07.CertMore", spec := "certMore", unfollowed := true, recurses := true, named := ["pharos/sha.k"], plainKeys := false, apart := false, laid := [("pharos/sha.k", laid_pharos_sha_k)] }
def CertMoreSaid : Prop := certMoreRow.holds Tryd.pinned (OpenSpec.ofChange certMoreSpec)

/-- ITS FALSE NEIGHBOUR: 'it returns false'. Refute it at one input. -/
def certMoreWrong : ChangeSpec := { name := "certMore", fn := fun _ => fun
  | [d1, d2, d3] => { results := [.lit (.bool false)], args := [d1, d2, d3] }
  | _ => none }
def CertMoreWrongFalsely : Prop := certMoreRow.holds Tryd.pinned (OpenSpec.ofChange certMoreWrong)

/-- 'pharoslaw07.CertGathers': WHATEVER THE INPUT: true; the input reads as it did. -/
def certGathersSpec : ChangeSpec := { name := "certGathers", fn := fun _ => fun
  | [d1, d2] => { results := [.lit (.bool true)], args := [d1, d2] }
  | _ => none }
def certGathersRow : OpenClaim := { program := "ytbnjhfkmdejeaaadoor", sum := "643d50e0655af7b64d24e28b5e815fd4ba5cbba1ceb909986021cdb595634197", func := "pharos/pharoslaw07.CertGathers", spec := "certGathers", unfollowed := true, recurses := true, named := ["pharos/sha.k"], plainKeys := false, apart := false, laid := [("pharos/sha.k", laid_pharos_sha_k)] }
def CertGathersSaid : Prop := certGathersRow.holds Tryd.pinned (OpenSpec.ofChange certGathersSpec)

/-- ITS FALSE NEIGHBOUR: 'it returns false'. Refute it at one input. -/
def certGathersWrong : ChangeSpec := { name := "certGathers", fn := fun _ => fun
  | [d1, d2] => { results := [.lit (.bool false)], args := [d1, d2] }
  | _ => none }
def CertGathersWrongFalsely : Prop := certGathersRow.holds Tryd.pinned (OpenSpec.ofChange certGathersWrong)

/-- 'pharoslaw07.CertBoth': WHATEVER THE INPUT: true; the input reads as it did. -/
def certBothSpec : ChangeSpec := { name := "certBoth", fn := fun _ => fun
  | [d1, d2, d3] => { results := [.lit (.bool true)], args := [d1, d2, d3] }
  | _ => none }
def certBothRow : OpenClaim := { program := "ytbnjhfkmdejeaaadoor", sum := "643d50e0655af7b64d24e28b5e815fd4ba5cbba1ceb909986021cdb595634197", func := "pharos/pharoslaw07.CertBoth", spec := "certBoth", unfollowed := true, recurses := true, named := ["pharos/sha.k"], plainKeys := false, apart := false, laid := [("pharos/sha.k", laid_pharos_sha_k)] }
def CertBothSaid : Prop := certBothRow.holds Tryd.pinned (OpenSpec.ofChange certBothSpec)

/-- ITS FALSE NEIGHBOUR: 'it returns false'. Refute it at one input. -/
def certBothWrong : ChangeSpec := { name := "certBoth", fn := fun _ => fun
  | [d1, d2, d3] => { results := [.lit (.bool false)], args := [d1, d2, d3] }
  | _ => none }
def CertBothWrongFalsely : Prop := certBothRow.holds Tryd.pinned (OpenSpec.ofChange certBothWrong)

/-- 'pharoslaw09.StoreSums': WHATEVER THE INPUT: true; the input reads as it did. -/
def storeSumsSpec : ChangeSpec := { name := "storeSums", fn := fun _ => fun
  | [d] => { results := [.lit (.bool true)], args := [d] }
  | _ => none }
def storeSumsRow : OpenClaim := { program := "ytbnjhfkmdejeaaadoor", sum := "643d50e0655af7b64d24e28b5e815fd4ba5cbba1ceb909986021cdb595634197", func := "pharos/pharoslaw09.StoreSums", spec := "storeSums", unfollowed := true, recurses := true, named := ["pharos/sha.k"], plainKeys := false, apart := false, laid := [("pharos/sha.k", laid_pharos_sha_k)] }
def StoreSumsSaid : Prop := storeSumsRow.holds Tryd.pinned (OpenSpec.ofChange storeSumsSpec)

/-- ITS FALSE NEIGHBOUR: 'it returns false'. Refute it at one input. -/
def storeSumsWrong : ChangeSpec := { name := "storeSums", fn := fun _ => fun
  | [d] => { results := [.lit (.bool false)], args := [d] }
  | _ => none }
def StoreSumsWrongFalsely : Prop := storeSumsRow.holds Tryd.pinned (OpenSpec.ofChange storeSumsWrong)

/-- 'pharoslaw09.StoreJoined': WHATEVER THE INPUT: true; the input reads as it did. -/
def storeJoinedSpec : ChangeSpec := { name := "storeJoined", fn := fun _ => fun
  | [d1, d2, d3] => { results := [.lit (.bool true)], args := [d1, d2, d3] }
  | _ => none }
def storeJoinedRow : OpenClaim := { program := "ytbnjhfkmdejeaaadoor", sum := "643d50e0655af7b64d24e28b5e815fd4ba5cbba1ceb909986021cdb595634197", func := "pharos/pharoslaw09.StoreJoined", spec := "storeJoined", unfollowed := true, recurses := true, named := ["pharos/sha.k"], plainKeys := false, apart := false, laid := [("pharos/sha.k", laid_pharos_sha_k)] }
def StoreJoinedSaid : Prop := storeJoinedRow.holds Tryd.pinned (OpenSpec.ofChange storeJoinedSpec)

/-- ITS FALSE NEIGHBOUR: 'it returns false'. Refute it at one input. -/
def storeJoinedWrong : ChangeSpec := { name := "storeJoined", fn := fun _ => fun
  | [d1, d2, d3] => { results := [.lit (.bool false)], args := [d1, d2, d3] }
  | _ => none }
def StoreJoinedWrongFalsely : Prop := storeJoinedRow.holds Tryd.pinned (OpenSpec.ofChange storeJoinedWrong)

/-- 'pharoslaw09.StoreKeeps': WHATEVER THE INPUT: true; the input reads as it did. -/
def storeKeepsSpec : ChangeSpec := { name := "storeKeeps", fn := fun _ => fun
  | [d1, d2] => { results := [.lit (.bool true)], args := [d1, d2] }
  | _ => none }
def storeKeepsRow : OpenClaim := { program := "ytbnjhfkmdejeaaadoor", sum := "643d50e0655af7b64d24e28b5e815fd4ba5cbba1ceb909986021cdb595634197", func := "pharos/pharoslaw09.StoreKeeps", spec := "storeKeeps", inPlace := ["maps.clone"], unfollowed := true, recurses := true, named := ["pharos/sha.k"], plainKeys := false, apart := false, laid := [("pharos/sha.k", laid_pharos_sha_k)] }
def StoreKeepsSaid : Prop := storeKeepsRow.holds Tryd.pinned (OpenSpec.ofChange storeKeepsSpec)

/-- ITS FALSE NEIGHBOUR: 'it returns false'. Refute it at one input. -/
def storeKeepsWrong : ChangeSpec := { name := "storeKeeps", fn := fun _ => fun
  | [d1, d2] => { results := [.lit (.bool false)], args := [d1, d2] }
  | _ => none }
def StoreKeepsWrongFalsely : Prop := storeKeepsRow.holds Tryd.pinned (OpenSpec.ofChange storeKeepsWrong)

/- THE SECOND FORM. 'bulk': how many values and letters a reading holds, each counted each time it is reached (what is shared counts as often as it is met; a slice's spare places count too). A statement '..UptoSaid' is the law's where the arguments, and the package variables that the reading takes, are together of bulk at most 1048576: NARROWER than '..Said'. Prove '..Said' where nothing that the law and all that it calls make is longer than what came in: it says more and counts as full. Else prove '..UptoSaid'. A law counts once. -/
mutual
def uptoBulk {H : Type} : DataW H → Nat
  | .lit (.string bytes) => bytes.length + 1
  | .lit _ => 1
  | .nil => 1
  | .ptr d => uptoBulk d + 1
  | .slice elems spare => uptoBulkAll elems + uptoBulkAll spare + 1
  | .agg parts => uptoBulkAll parts + 1
  | .iface _ d => uptoBulk d + 1
  | .map entries => uptoBulkEntries entries + 1
  | .held _ => 1
def uptoBulkAll {H : Type} : List (DataW H) → Nat
  | [] => 0
  | d :: r => uptoBulk d + uptoBulkAll r
def uptoBulkEntries {H : Type} : List (Lit × DataW H) → Nat
  | [] => 0
  | x :: r => uptoBulkEntry x + uptoBulkEntries r
def uptoBulkEntry {H : Type} : Lit × DataW H → Nat
  | (.string bytes, d) => bytes.length + uptoBulk d + 1
  | (_, d) => uptoBulk d + 1
 end
def uptoSmall : (H : Type) → List (DataW H) → Bool := fun _ ds => decide (uptoBulkAll ds ≤ 1048576)
def OpenSpec.upto (s : _root_.Go.ChangeSpec) : _root_.Go.OpenSpec := { _root_.Go.OpenSpec.ofChange s with cond := some uptoSmall }

/-- 'pharoslaw07.CertChecks', WHERE WHAT IT READS IS OF BULK AT MOST 1048576: true; the input reads as it did. -/
def certChecksUptoRow : OpenClaim := { program := "ytbnjhfkmdejeaaadoor", sum := "643d50e0655af7b64d24e28b5e815fd4ba5cbba1ceb909986021cdb595634197", func := "pharos/pharoslaw07.CertChecks", spec := "certChecks", unfollowed := true, recurses := true, named := ["pharos/sha.k"], plainKeys := false, apart := false, laid := [("pharos/sha.k", laid_pharos_sha_k)], narrowed := true }
def CertChecksUptoSaid : Prop := certChecksUptoRow.holds Tryd.pinned (OpenSpec.upto certChecksSpec)

/-- 'pharoslaw07.CertMore', WHERE WHAT IT READS IS OF BULK AT MOST 1048576: true; the input reads as it did. -/
def certMoreUptoRow : OpenClaim := { program := "ytbnjhfkmdejeaaadoor", sum := "643d50e0655af7b64d24e28b5e815fd4ba5cbba1ceb909986021cdb595634197", func := "pharos/pharoslaw07.CertMore", spec := "certMore", unfollowed := true, recurses := true, named := ["pharos/sha.k"], plainKeys := false, apart := false, laid := [("pharos/sha.k", laid_pharos_sha_k)], narrowed := true }
def CertMoreUptoSaid : Prop := certMoreUptoRow.holds Tryd.pinned (OpenSpec.upto certMoreSpec)

/-- 'pharoslaw07.CertGathers', WHERE WHAT IT READS IS OF BULK AT MOST 1048576: true; the input reads as it did. -/
def certGathersUptoRow : OpenClaim := { program := "ytbnjhfkmdejeaaadoor", sum := "643d50e0655af7b64d24e28b5e815fd4ba5cbba1ceb909986021cdb595634197", func := "pharos/pharoslaw07.CertGathers", spec := "certGathers", unfollowed := true, recurses := true, named := ["pharos/sha.k"], plainKeys := false, apart := false, laid := [("pharos/sha.k", laid_pharos_sha_k)], narrowed := true }
def CertGathersUptoSaid : Prop := certGathersUptoRow.holds Tryd.pinned (OpenSpec.upto certGathersSpec)

/-- 'pharoslaw07.CertBoth', WHERE WHAT IT READS IS OF BULK AT MOST 1048576: true; the input reads as it did. -/
def certBothUptoRow : OpenClaim := { program := "ytbnjhfkmdejeaaadoor", sum := "643d50e0655af7b64d24e28b5e815fd4ba5cbba1ceb909986021cdb595634197", func := "pharos/pharoslaw07.CertBoth", spec := "certBoth", unfollowed := true, recurses := true, named := ["pharos/sha.k"], plainKeys := false, apart := false, laid := [("pharos/sha.k", laid_pharos_sha_k)], narrowed := true }
def CertBothUptoSaid : Prop := certBothUptoRow.holds Tryd.pinned (OpenSpec.upto certBothSpec)

/-- 'pharoslaw09.StoreSums', WHERE WHAT IT READS IS OF BULK AT MOST 1048576: true; the input reads as it did. -/
def storeSumsUptoRow : OpenClaim := { program := "ytbnjhfkmdejeaaadoor", sum := "643d50e0655af7b64d24e28b5e815fd4ba5cbba1ceb909986021cdb595634197", func := "pharos/pharoslaw09.StoreSums", spec := "storeSums", unfollowed := true, recurses := true, named := ["pharos/sha.k"], plainKeys := false, apart := false, laid := [("pharos/sha.k", laid_pharos_sha_k)], narrowed := true }
def StoreSumsUptoSaid : Prop := storeSumsUptoRow.holds Tryd.pinned (OpenSpec.upto storeSumsSpec)

/-- 'pharoslaw09.StoreJoined', WHERE WHAT IT READS IS OF BULK AT MOST 1048576: true; the input reads as it did. -/
def storeJoinedUptoRow : OpenClaim := { program := "ytbnjhfkmdejeaaadoor", sum := "643d50e0655af7b64d24e28b5e815fd4ba5cbba1ceb909986021cdb595634197", func := "pharos/pharoslaw09.StoreJoined", spec := "storeJoined", unfollowed := true, recurses := true, named := ["pharos/sha.k"], plainKeys := false, apart := false, laid := [("pharos/sha.k", laid_pharos_sha_k)], narrowed := true }
def StoreJoinedUptoSaid : Prop := storeJoinedUptoRow.holds Tryd.pinned (OpenSpec.upto storeJoinedSpec)

/-- 'pharoslaw09.StoreKeeps', WHERE WHAT IT READS IS OF BULK AT MOST 1048576: true; the input reads as it did. -/
def storeKeepsUptoRow : OpenClaim := { program := "ytbnjhfkmdejeaaadoor", sum := "643d50e0655af7b64d24e28b5e815fd4ba5cbba1ceb909986021cdb595634197", func := "pharos/pharoslaw09.StoreKeeps", spec := "storeKeeps", inPlace := ["maps.clone"], unfollowed := true, recurses := true, named := ["pharos/sha.k"], plainKeys := false, apart := false, laid := [("pharos/sha.k", laid_pharos_sha_k)], narrowed := true }
def StoreKeepsUptoSaid : Prop := storeKeepsUptoRow.holds Tryd.pinned (OpenSpec.upto storeKeepsSpec)

end Rows
end Go.Proofs.YtbnjhfkmdejeaaaDoor
