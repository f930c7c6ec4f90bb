/-
  NARROWER THAN 'FOR EVERY INPUT', by the rows' own cells (each row's printed sentence says how): IndexNone: laid · MoveNone: laid · MoveEmpty: laid · BucketPace: laid · BucketBound: laid · QueueFull: laid · QueueAll: laid · ShadowSame: laid · ShadowAll: laid · StoreOwn: laid · StoreSeq: laid · StoreScan: laid.
  DERIVED. THE GIVEN ROWS OF THIS SEAT. 12 by the template 'for every input the law returns true; each argument reads behind the call as it read before'; 0 by the template 'total and deterministic' (their statements: YtmpijgfndnikpaaGreatDoorTotals.lean).
  GIVEN WITH THE SEED: the statements are not yours to turn. If you find one false, say at which input.
  Laid BY PROGRAM, IN A SANDBOX (cutbox-rows.mjs): the forced cells as the released guide's own fill.sh prints them over the translation e725bbfef138de7e… (all of the seat's roots in one cut). By AI agents, Wed Nov 11 2026. No macro, syntax, notation, axiom, sorry.
-/
import Derived.Test.YtmpijgfndnikpaaGreatDoorChecked
import GoSem.Claim
import GoSem.ClaimJoined
import GoSem.ClaimMapViews
import Derived.JoinedTies
import Derived.KernelRfl
namespace Go.Proofs.YtmpijgfndnikpaaGreatDoor
/- THE CELL 'sum', in the pinned program and in every row, IS THE sha256 OF THE DUMP (.gsa) THAT YtmpijgfndnikpaaGreatDoorProg.lean LOADS. Nothing in Lean hashes anything: it is a label: what it is worth is what the hold of that sum in a sandbox is worth. -/
noncomputable def Tryz.pinned : Pinned := { name := "ytmpijgfndnikpaagreatdoor", sum := "e725bbfef138de7ef27209d0790cb0a9efd4970c7be9010b07c1887e22d0ed36", checked := Tryz.checked }
namespace Rows
def none {H : Type} : Left H := { results := [], args := [] }

/- WHAT THE LISTED PACKAGE-LEVEL VARIABLES READ AS WHEN THE CALL BEGINS. Each datum BY PROGRAM (the guide's laid-datum.mjs) off the statement by which the dump's own 'gosem.cut.vars' lays the variable. In a bare row this is a premise. The card (YtmpijgfndnikpaaGreatDoorCards.lean) ties it to the program's text. -/
def laid_math_bits_deBruijn32tab {H : Type} : DataW H := .agg [.lit (.int .u8 0), .lit (.int .u8 1), .lit (.int .u8 28), .lit (.int .u8 2), .lit (.int .u8 29), .lit (.int .u8 14), .lit (.int .u8 24), .lit (.int .u8 3), .lit (.int .u8 30), .lit (.int .u8 22), .lit (.int .u8 20), .lit (.int .u8 15), .lit (.int .u8 25), .lit (.int .u8 17), .lit (.int .u8 4), .lit (.int .u8 8), .lit (.int .u8 31), .lit (.int .u8 27), .lit (.int .u8 13), .lit (.int .u8 23), .lit (.int .u8 21), .lit (.int .u8 19), .lit (.int .u8 16), .lit (.int .u8 7), .lit (.int .u8 26), .lit (.int .u8 12), .lit (.int .u8 18), .lit (.int .u8 6), .lit (.int .u8 11), .lit (.int .u8 5), .lit (.int .u8 10), .lit (.int .u8 9)]
def laid_errors_errorType {H : Type} : DataW H := .iface "internal/reflectlite.rtype" (.agg [.ptr (.lit (.string [101, 114, 114, 111, 114]))])

/-- 'fieldfarelaw13.IndexNone': WHATEVER THE INPUT: true; the input reads as it did. -/
def indexNoneSpec : ChangeSpec := { name := "indexNone", fn := fun _ => fun
  | [] => { results := [.lit (.bool true)], args := [] }
  | _ => none }
def indexNoneRow : OpenClaim := { program := "ytmpijgfndnikpaagreatdoor", sum := "e725bbfef138de7ef27209d0790cb0a9efd4970c7be9010b07c1887e22d0ed36", func := "fieldfare/fieldfarelaw13.IndexNone", spec := "indexNone", inPlace := ["slices.overlaps[fieldfare/api.Hit]", "slices.overlaps[int]", "internal/reflectlite.ValueOf", "(internal/reflectlite.Value).Type", "(internal/reflectlite.Value).IsNil", "internal/reflectlite.TypeOf", "(internal/reflectlite.Value).Elem", "(internal/reflectlite.Value).Set"], unfollowed := true, recurses := true, named := ["math/bits.deBruijn32tab", "errors.errorType"], apart := false, laid := [("math/bits.deBruijn32tab", laid_math_bits_deBruijn32tab), ("errors.errorType", laid_errors_errorType)] }
def IndexNoneSaid : Prop := indexNoneRow.holds Tryz.pinned (OpenSpec.ofChange indexNoneSpec)

/-- ITS FALSE NEIGHBOUR: 'it returns false'. Refute it at one input. -/
def indexNoneWrong : ChangeSpec := { name := "indexNone", fn := fun _ => fun
  | [] => { results := [.lit (.bool false)], args := [] }
  | _ => none }
def IndexNoneWrongFalsely : Prop := indexNoneRow.holds Tryz.pinned (OpenSpec.ofChange indexNoneWrong)

/-- 'fieldfarelaw18.MoveNone': WHATEVER THE INPUT: true; the input reads as it did. -/
def moveNoneSpec : ChangeSpec := { name := "moveNone", fn := fun _ => fun
  | [] => { results := [.lit (.bool true)], args := [] }
  | _ => none }
def moveNoneRow : OpenClaim := { program := "ytmpijgfndnikpaagreatdoor", sum := "e725bbfef138de7ef27209d0790cb0a9efd4970c7be9010b07c1887e22d0ed36", func := "fieldfare/fieldfarelaw18.MoveNone", spec := "moveNone", inPlace := ["slices.overlaps[fieldfare/api.Hit]", "slices.overlaps[int]", "internal/reflectlite.ValueOf", "(internal/reflectlite.Value).Type", "(internal/reflectlite.Value).IsNil", "internal/reflectlite.TypeOf", "(internal/reflectlite.Value).Elem", "(internal/reflectlite.Value).Set"], unfollowed := true, recurses := true, named := ["math/bits.deBruijn32tab", "errors.errorType"], apart := false, laid := [("math/bits.deBruijn32tab", laid_math_bits_deBruijn32tab), ("errors.errorType", laid_errors_errorType)] }
def MoveNoneSaid : Prop := moveNoneRow.holds Tryz.pinned (OpenSpec.ofChange moveNoneSpec)

/-- ITS FALSE NEIGHBOUR: 'it returns false'. Refute it at one input. -/
def moveNoneWrong : ChangeSpec := { name := "moveNone", fn := fun _ => fun
  | [] => { results := [.lit (.bool false)], args := [] }
  | _ => none }
def MoveNoneWrongFalsely : Prop := moveNoneRow.holds Tryz.pinned (OpenSpec.ofChange moveNoneWrong)

/-- 'fieldfarelaw18.MoveEmpty': WHATEVER THE INPUT: true; the input reads as it did. -/
def moveEmptySpec : ChangeSpec := { name := "moveEmpty", fn := fun _ => fun
  | [d1, d2, d3, d4] => { results := [.lit (.bool true)], args := [d1, d2, d3, d4] }
  | _ => none }
def moveEmptyRow : OpenClaim := { program := "ytmpijgfndnikpaagreatdoor", sum := "e725bbfef138de7ef27209d0790cb0a9efd4970c7be9010b07c1887e22d0ed36", func := "fieldfare/fieldfarelaw18.MoveEmpty", spec := "moveEmpty", inPlace := ["slices.overlaps[fieldfare/api.Hit]", "slices.overlaps[int]", "internal/reflectlite.ValueOf", "(internal/reflectlite.Value).Type", "(internal/reflectlite.Value).IsNil", "internal/reflectlite.TypeOf", "(internal/reflectlite.Value).Elem", "(internal/reflectlite.Value).Set"], unfollowed := true, recurses := true, named := ["math/bits.deBruijn32tab", "errors.errorType"], apart := false, laid := [("math/bits.deBruijn32tab", laid_math_bits_deBruijn32tab), ("errors.errorType", laid_errors_errorType)] }
def MoveEmptySaid : Prop := moveEmptyRow.holds Tryz.pinned (OpenSpec.ofChange moveEmptySpec)

/-- ITS FALSE NEIGHBOUR: 'it returns false'. Refute it at one input. -/
def moveEmptyWrong : ChangeSpec := { name := "moveEmpty", fn := fun _ => fun
  | [d1, d2, d3, d4] => { results := [.lit (.bool false)], args := [d1, d2, d3, d4] }
  | _ => none }
def MoveEmptyWrongFalsely : Prop := moveEmptyRow.holds Tryz.pinned (OpenSpec.ofChange moveEmptyWrong)

/-- 'fieldfarelaw18.BucketPace': WHATEVER THE INPUT: true; the input reads as it did. -/
def bucketPaceSpec : ChangeSpec := { name := "bucketPace", fn := fun _ => fun
  | [d1, d2] => { results := [.lit (.bool true)], args := [d1, d2] }
  | _ => none }
def bucketPaceRow : OpenClaim := { program := "ytmpijgfndnikpaagreatdoor", sum := "e725bbfef138de7ef27209d0790cb0a9efd4970c7be9010b07c1887e22d0ed36", func := "fieldfare/fieldfarelaw18.BucketPace", spec := "bucketPace", inPlace := ["slices.overlaps[fieldfare/api.Hit]", "slices.overlaps[int]", "internal/reflectlite.ValueOf", "(internal/reflectlite.Value).Type", "(internal/reflectlite.Value).IsNil", "internal/reflectlite.TypeOf", "(internal/reflectlite.Value).Elem", "(internal/reflectlite.Value).Set"], unfollowed := true, recurses := true, named := ["math/bits.deBruijn32tab", "errors.errorType"], apart := false, laid := [("math/bits.deBruijn32tab", laid_math_bits_deBruijn32tab), ("errors.errorType", laid_errors_errorType)] }
def BucketPaceSaid : Prop := bucketPaceRow.holds Tryz.pinned (OpenSpec.ofChange bucketPaceSpec)

/-- ITS FALSE NEIGHBOUR: 'it returns false'. Refute it at one input. -/
def bucketPaceWrong : ChangeSpec := { name := "bucketPace", fn := fun _ => fun
  | [d1, d2] => { results := [.lit (.bool false)], args := [d1, d2] }
  | _ => none }
def BucketPaceWrongFalsely : Prop := bucketPaceRow.holds Tryz.pinned (OpenSpec.ofChange bucketPaceWrong)

/-- 'fieldfarelaw18.BucketBound': WHATEVER THE INPUT: true; the input reads as it did. -/
def bucketBoundSpec : ChangeSpec := { name := "bucketBound", fn := fun _ => fun
  | [d1, d2, d3] => { results := [.lit (.bool true)], args := [d1, d2, d3] }
  | _ => none }
def bucketBoundRow : OpenClaim := { program := "ytmpijgfndnikpaagreatdoor", sum := "e725bbfef138de7ef27209d0790cb0a9efd4970c7be9010b07c1887e22d0ed36", func := "fieldfare/fieldfarelaw18.BucketBound", spec := "bucketBound", inPlace := ["slices.overlaps[fieldfare/api.Hit]", "slices.overlaps[int]", "internal/reflectlite.ValueOf", "(internal/reflectlite.Value).Type", "(internal/reflectlite.Value).IsNil", "internal/reflectlite.TypeOf", "(internal/reflectlite.Value).Elem", "(internal/reflectlite.Value).Set"], unfollowed := true, recurses := true, named := ["math/bits.deBruijn32tab", "errors.errorType"], apart := false, laid := [("math/bits.deBruijn32tab", laid_math_bits_deBruijn32tab), ("errors.errorType", laid_errors_errorType)] }
def BucketBoundSaid : Prop := bucketBoundRow.holds Tryz.pinned (OpenSpec.ofChange bucketBoundSpec)

/-- ITS FALSE NEIGHBOUR: 'it returns false'. Refute it at one input. -/
def bucketBoundWrong : ChangeSpec := { name := "bucketBound", fn := fun _ => fun
  | [d1, d2, d3] => { results := [.lit (.bool false)], args := [d1, d2, d3] }
  | _ => none }
def BucketBoundWrongFalsely : Prop := bucketBoundRow.holds Tryz.pinned (OpenSpec.ofChange bucketBoundWrong)

/-- 'fieldfarelaw18.QueueFull': WHATEVER THE INPUT: true; the input reads as it did. -/
def queueFullSpec : ChangeSpec := { name := "queueFull", fn := fun _ => fun
  | [d1, d2] => { results := [.lit (.bool true)], args := [d1, d2] }
  | _ => none }
def queueFullRow : OpenClaim := { program := "ytmpijgfndnikpaagreatdoor", sum := "e725bbfef138de7ef27209d0790cb0a9efd4970c7be9010b07c1887e22d0ed36", func := "fieldfare/fieldfarelaw18.QueueFull", spec := "queueFull", inPlace := ["slices.overlaps[fieldfare/api.Hit]", "slices.overlaps[int]", "internal/reflectlite.ValueOf", "(internal/reflectlite.Value).Type", "(internal/reflectlite.Value).IsNil", "internal/reflectlite.TypeOf", "(internal/reflectlite.Value).Elem", "(internal/reflectlite.Value).Set"], unfollowed := true, recurses := true, named := ["math/bits.deBruijn32tab", "errors.errorType"], apart := false, laid := [("math/bits.deBruijn32tab", laid_math_bits_deBruijn32tab), ("errors.errorType", laid_errors_errorType)] }
def QueueFullSaid : Prop := queueFullRow.holds Tryz.pinned (OpenSpec.ofChange queueFullSpec)

/-- ITS FALSE NEIGHBOUR: 'it returns false'. Refute it at one input. -/
def queueFullWrong : ChangeSpec := { name := "queueFull", fn := fun _ => fun
  | [d1, d2] => { results := [.lit (.bool false)], args := [d1, d2] }
  | _ => none }
def QueueFullWrongFalsely : Prop := queueFullRow.holds Tryz.pinned (OpenSpec.ofChange queueFullWrong)

/-- 'fieldfarelaw18.QueueAll': WHATEVER THE INPUT: true; the input reads as it did. -/
def queueAllSpec : ChangeSpec := { name := "queueAll", fn := fun _ => fun
  | [d1, d2] => { results := [.lit (.bool true)], args := [d1, d2] }
  | _ => none }
def queueAllRow : OpenClaim := { program := "ytmpijgfndnikpaagreatdoor", sum := "e725bbfef138de7ef27209d0790cb0a9efd4970c7be9010b07c1887e22d0ed36", func := "fieldfare/fieldfarelaw18.QueueAll", spec := "queueAll", inPlace := ["slices.overlaps[fieldfare/api.Hit]", "slices.overlaps[int]", "internal/reflectlite.ValueOf", "(internal/reflectlite.Value).Type", "(internal/reflectlite.Value).IsNil", "internal/reflectlite.TypeOf", "(internal/reflectlite.Value).Elem", "(internal/reflectlite.Value).Set"], unfollowed := true, recurses := true, named := ["math/bits.deBruijn32tab", "errors.errorType"], apart := false, laid := [("math/bits.deBruijn32tab", laid_math_bits_deBruijn32tab), ("errors.errorType", laid_errors_errorType)] }
def QueueAllSaid : Prop := queueAllRow.holds Tryz.pinned (OpenSpec.ofChange queueAllSpec)

/-- ITS FALSE NEIGHBOUR: 'it returns false'. Refute it at one input. -/
def queueAllWrong : ChangeSpec := { name := "queueAll", fn := fun _ => fun
  | [d1, d2] => { results := [.lit (.bool false)], args := [d1, d2] }
  | _ => none }
def QueueAllWrongFalsely : Prop := queueAllRow.holds Tryz.pinned (OpenSpec.ofChange queueAllWrong)

/-- 'fieldfarelaw18.ShadowSame': WHATEVER THE INPUT: true; the input reads as it did. -/
def shadowSameSpec : ChangeSpec := { name := "shadowSame", fn := fun _ => fun
  | [d1, d2, d3] => { results := [.lit (.bool true)], args := [d1, d2, d3] }
  | _ => none }
def shadowSameRow : OpenClaim := { program := "ytmpijgfndnikpaagreatdoor", sum := "e725bbfef138de7ef27209d0790cb0a9efd4970c7be9010b07c1887e22d0ed36", func := "fieldfare/fieldfarelaw18.ShadowSame", spec := "shadowSame", inPlace := ["slices.overlaps[fieldfare/api.Hit]", "slices.overlaps[int]", "internal/reflectlite.ValueOf", "(internal/reflectlite.Value).Type", "(internal/reflectlite.Value).IsNil", "internal/reflectlite.TypeOf", "(internal/reflectlite.Value).Elem", "(internal/reflectlite.Value).Set"], unfollowed := true, recurses := true, named := ["math/bits.deBruijn32tab", "errors.errorType"], apart := false, laid := [("math/bits.deBruijn32tab", laid_math_bits_deBruijn32tab), ("errors.errorType", laid_errors_errorType)] }
def ShadowSameSaid : Prop := shadowSameRow.holds Tryz.pinned (OpenSpec.ofChange shadowSameSpec)

/-- ITS FALSE NEIGHBOUR: 'it returns false'. Refute it at one input. -/
def shadowSameWrong : ChangeSpec := { name := "shadowSame", fn := fun _ => fun
  | [d1, d2, d3] => { results := [.lit (.bool false)], args := [d1, d2, d3] }
  | _ => none }
def ShadowSameWrongFalsely : Prop := shadowSameRow.holds Tryz.pinned (OpenSpec.ofChange shadowSameWrong)

/-- 'fieldfarelaw18.ShadowAll': WHATEVER THE INPUT: true; the input reads as it did. -/
def shadowAllSpec : ChangeSpec := { name := "shadowAll", fn := fun _ => fun
  | [d1, d2, d3, d4] => { results := [.lit (.bool true)], args := [d1, d2, d3, d4] }
  | _ => none }
def shadowAllRow : OpenClaim := { program := "ytmpijgfndnikpaagreatdoor", sum := "e725bbfef138de7ef27209d0790cb0a9efd4970c7be9010b07c1887e22d0ed36", func := "fieldfare/fieldfarelaw18.ShadowAll", spec := "shadowAll", inPlace := ["slices.overlaps[fieldfare/api.Hit]", "slices.overlaps[int]", "internal/reflectlite.ValueOf", "(internal/reflectlite.Value).Type", "(internal/reflectlite.Value).IsNil", "internal/reflectlite.TypeOf", "(internal/reflectlite.Value).Elem", "(internal/reflectlite.Value).Set"], unfollowed := true, recurses := true, named := ["math/bits.deBruijn32tab", "errors.errorType"], apart := false, laid := [("math/bits.deBruijn32tab", laid_math_bits_deBruijn32tab), ("errors.errorType", laid_errors_errorType)] }
def ShadowAllSaid : Prop := shadowAllRow.holds Tryz.pinned (OpenSpec.ofChange shadowAllSpec)

/-- ITS FALSE NEIGHBOUR: 'it returns false'. Refute it at one input. -/
def shadowAllWrong : ChangeSpec := { name := "shadowAll", fn := fun _ => fun
  | [d1, d2, d3, d4] => { results := [.lit (.bool false)], args := [d1, d2, d3, d4] }
  | _ => none }
def ShadowAllWrongFalsely : Prop := shadowAllRow.holds Tryz.pinned (OpenSpec.ofChange shadowAllWrong)

/-- 'fieldfarelaw18.StoreOwn': WHATEVER THE INPUT: true; the input reads as it did. -/
def storeOwnSpec : ChangeSpec := { name := "storeOwn", fn := fun _ => fun
  | [d1, d2] => { results := [.lit (.bool true)], args := [d1, d2] }
  | _ => none }
def storeOwnRow : OpenClaim := { program := "ytmpijgfndnikpaagreatdoor", sum := "e725bbfef138de7ef27209d0790cb0a9efd4970c7be9010b07c1887e22d0ed36", func := "fieldfare/fieldfarelaw18.StoreOwn", spec := "storeOwn", inPlace := ["slices.overlaps[fieldfare/api.Hit]", "slices.overlaps[int]", "internal/reflectlite.ValueOf", "(internal/reflectlite.Value).Type", "(internal/reflectlite.Value).IsNil", "internal/reflectlite.TypeOf", "(internal/reflectlite.Value).Elem", "(internal/reflectlite.Value).Set"], unfollowed := true, recurses := true, named := ["math/bits.deBruijn32tab", "errors.errorType"], apart := false, laid := [("math/bits.deBruijn32tab", laid_math_bits_deBruijn32tab), ("errors.errorType", laid_errors_errorType)] }
def StoreOwnSaid : Prop := storeOwnRow.holds Tryz.pinned (OpenSpec.ofChange storeOwnSpec)

/-- ITS FALSE NEIGHBOUR: 'it returns false'. Refute it at one input. -/
def storeOwnWrong : ChangeSpec := { name := "storeOwn", fn := fun _ => fun
  | [d1, d2] => { results := [.lit (.bool false)], args := [d1, d2] }
  | _ => none }
def StoreOwnWrongFalsely : Prop := storeOwnRow.holds Tryz.pinned (OpenSpec.ofChange storeOwnWrong)

/-- 'fieldfarelaw18.StoreSeq': WHATEVER THE INPUT: true; the input reads as it did. -/
def storeSeqSpec : ChangeSpec := { name := "storeSeq", fn := fun _ => fun
  | [d1, d2, d3] => { results := [.lit (.bool true)], args := [d1, d2, d3] }
  | _ => none }
def storeSeqRow : OpenClaim := { program := "ytmpijgfndnikpaagreatdoor", sum := "e725bbfef138de7ef27209d0790cb0a9efd4970c7be9010b07c1887e22d0ed36", func := "fieldfare/fieldfarelaw18.StoreSeq", spec := "storeSeq", inPlace := ["slices.overlaps[fieldfare/api.Hit]", "slices.overlaps[int]", "internal/reflectlite.ValueOf", "(internal/reflectlite.Value).Type", "(internal/reflectlite.Value).IsNil", "internal/reflectlite.TypeOf", "(internal/reflectlite.Value).Elem", "(internal/reflectlite.Value).Set"], unfollowed := true, recurses := true, named := ["math/bits.deBruijn32tab", "errors.errorType"], apart := false, laid := [("math/bits.deBruijn32tab", laid_math_bits_deBruijn32tab), ("errors.errorType", laid_errors_errorType)] }
def StoreSeqSaid : Prop := storeSeqRow.holds Tryz.pinned (OpenSpec.ofChange storeSeqSpec)

/-- ITS FALSE NEIGHBOUR: 'it returns false'. Refute it at one input. -/
def storeSeqWrong : ChangeSpec := { name := "storeSeq", fn := fun _ => fun
  | [d1, d2, d3] => { results := [.lit (.bool false)], args := [d1, d2, d3] }
  | _ => none }
def StoreSeqWrongFalsely : Prop := storeSeqRow.holds Tryz.pinned (OpenSpec.ofChange storeSeqWrong)

/-- 'fieldfarelaw18.StoreScan': WHATEVER THE INPUT: true; the input reads as it did. -/
def storeScanSpec : ChangeSpec := { name := "storeScan", fn := fun _ => fun
  | [d1, d2] => { results := [.lit (.bool true)], args := [d1, d2] }
  | _ => none }
def storeScanRow : OpenClaim := { program := "ytmpijgfndnikpaagreatdoor", sum := "e725bbfef138de7ef27209d0790cb0a9efd4970c7be9010b07c1887e22d0ed36", func := "fieldfare/fieldfarelaw18.StoreScan", spec := "storeScan", inPlace := ["slices.overlaps[fieldfare/api.Hit]", "slices.overlaps[int]", "internal/reflectlite.ValueOf", "(internal/reflectlite.Value).Type", "(internal/reflectlite.Value).IsNil", "internal/reflectlite.TypeOf", "(internal/reflectlite.Value).Elem", "(internal/reflectlite.Value).Set"], unfollowed := true, recurses := true, named := ["math/bits.deBruijn32tab", "errors.errorType"], apart := false, laid := [("math/bits.deBruijn32tab", laid_math_bits_deBruijn32tab), ("errors.errorType", laid_errors_errorType)] }
def StoreScanSaid : Prop := storeScanRow.holds Tryz.pinned (OpenSpec.ofChange storeScanSpec)

/-- ITS FALSE NEIGHBOUR: 'it returns false'. Refute it at one input. -/
def storeScanWrong : ChangeSpec := { name := "storeScan", fn := fun _ => fun
  | [d1, d2] => { results := [.lit (.bool false)], args := [d1, d2] }
  | _ => none }
def StoreScanWrongFalsely : Prop := storeScanRow.holds Tryz.pinned (OpenSpec.ofChange storeScanWrong)

/- THE SECOND FORM. 'bulk': how many values and letters a reading holds, each counted each time it is reached (what is shared counts as often as it is met; a slice's spare places count too). A statement '..UptoSaid' is the law's where the arguments, and the package variables that the reading takes, are together of bulk at most 1048576: NARROWER than '..Said'. Prove '..Said' where nothing that the law and all that it calls make is longer than what came in: it says more and counts as full. Else prove '..UptoSaid'. A law counts once. -/
mutual
def uptoBulk {H : Type} : DataW H → Nat
  | .lit (.string bytes) => bytes.length + 1
  | .lit _ => 1
  | .nil => 1
  | .ptr d => uptoBulk d + 1
  | .slice elems spare => uptoBulkAll elems + uptoBulkAll spare + 1
  | .agg parts => uptoBulkAll parts + 1
  | .iface _ d => uptoBulk d + 1
  | .map entries => uptoBulkEntries entries + 1
  | .held _ => 1
def uptoBulkAll {H : Type} : List (DataW H) → Nat
  | [] => 0
  | d :: r => uptoBulk d + uptoBulkAll r
def uptoBulkEntries {H : Type} : List (Lit × DataW H) → Nat
  | [] => 0
  | x :: r => uptoBulkEntry x + uptoBulkEntries r
def uptoBulkEntry {H : Type} : Lit × DataW H → Nat
  | (.string bytes, d) => bytes.length + uptoBulk d + 1
  | (_, d) => uptoBulk d + 1
 end
def uptoSmall : (H : Type) → List (DataW H) → Bool := fun _ ds => decide (uptoBulkAll ds ≤ 1048576)
def OpenSpec.upto (s : _root_.Go.ChangeSpec) : _root_.Go.OpenSpec := { _root_.Go.OpenSpec.ofChange s with cond := some uptoSmall }

/-- 'fieldfarelaw13.IndexNone', WHERE WHAT IT READS IS OF BULK AT MOST 1048576: true; the input reads as it did. -/
def indexNoneUptoRow : OpenClaim := { program := "ytmpijgfndnikpaagreatdoor", sum := "e725bbfef138de7ef27209d0790cb0a9efd4970c7be9010b07c1887e22d0ed36", func := "fieldfare/fieldfarelaw13.IndexNone", spec := "indexNone", inPlace := ["slices.overlaps[fieldfare/api.Hit]", "slices.overlaps[int]", "internal/reflectlite.ValueOf", "(internal/reflectlite.Value).Type", "(internal/reflectlite.Value).IsNil", "internal/reflectlite.TypeOf", "(internal/reflectlite.Value).Elem", "(internal/reflectlite.Value).Set"], unfollowed := true, recurses := true, named := ["math/bits.deBruijn32tab", "errors.errorType"], apart := false, laid := [("math/bits.deBruijn32tab", laid_math_bits_deBruijn32tab), ("errors.errorType", laid_errors_errorType)], narrowed := true }
def IndexNoneUptoSaid : Prop := indexNoneUptoRow.holds Tryz.pinned (OpenSpec.upto indexNoneSpec)

/-- 'fieldfarelaw18.MoveNone', WHERE WHAT IT READS IS OF BULK AT MOST 1048576: true; the input reads as it did. -/
def moveNoneUptoRow : OpenClaim := { program := "ytmpijgfndnikpaagreatdoor", sum := "e725bbfef138de7ef27209d0790cb0a9efd4970c7be9010b07c1887e22d0ed36", func := "fieldfare/fieldfarelaw18.MoveNone", spec := "moveNone", inPlace := ["slices.overlaps[fieldfare/api.Hit]", "slices.overlaps[int]", "internal/reflectlite.ValueOf", "(internal/reflectlite.Value).Type", "(internal/reflectlite.Value).IsNil", "internal/reflectlite.TypeOf", "(internal/reflectlite.Value).Elem", "(internal/reflectlite.Value).Set"], unfollowed := true, recurses := true, named := ["math/bits.deBruijn32tab", "errors.errorType"], apart := false, laid := [("math/bits.deBruijn32tab", laid_math_bits_deBruijn32tab), ("errors.errorType", laid_errors_errorType)], narrowed := true }
def MoveNoneUptoSaid : Prop := moveNoneUptoRow.holds Tryz.pinned (OpenSpec.upto moveNoneSpec)

/-- 'fieldfarelaw18.MoveEmpty', WHERE WHAT IT READS IS OF BULK AT MOST 1048576: true; the input reads as it did. -/
def moveEmptyUptoRow : OpenClaim := { program := "ytmpijgfndnikpaagreatdoor", sum := "e725bbfef138de7ef27209d0790cb0a9efd4970c7be9010b07c1887e22d0ed36", func := "fieldfare/fieldfarelaw18.MoveEmpty", spec := "moveEmpty", inPlace := ["slices.overlaps[fieldfare/api.Hit]", "slices.overlaps[int]", "internal/reflectlite.ValueOf", "(internal/reflectlite.Value).Type", "(internal/reflectlite.Value).IsNil", "internal/reflectlite.TypeOf", "(internal/reflectlite.Value).Elem", "(internal/reflectlite.Value).Set"], unfollowed := true, recurses := true, named := ["math/bits.deBruijn32tab", "errors.errorType"], apart := false, laid := [("math/bits.deBruijn32tab", laid_math_bits_deBruijn32tab), ("errors.errorType", laid_errors_errorType)], narrowed := true }
def MoveEmptyUptoSaid : Prop := moveEmptyUptoRow.holds Tryz.pinned (OpenSpec.upto moveEmptySpec)

/-- 'fieldfarelaw18.BucketPace', WHERE WHAT IT READS IS OF BULK AT MOST 1048576: true; the input reads as it did. -/
def bucketPaceUptoRow : OpenClaim := { program := "ytmpijgfndnikpaagreatdoor", sum := "e725bbfef138de7ef27209d0790cb0a9efd4970c7be9010b07c1887e22d0ed36", func := "fieldfare/fieldfarelaw18.BucketPace", spec := "bucketPace", inPlace := ["slices.overlaps[fieldfare/api.Hit]", "slices.overlaps[int]", "internal/reflectlite.ValueOf", "(internal/reflectlite.Value).Type", "(internal/reflectlite.Value).IsNil", "internal/reflectlite.TypeOf", "(internal/reflectlite.Value).Elem", "(internal/reflectlite.Value).Set"], unfollowed := true, recurses := true, named := ["math/bits.deBruijn32tab", "errors.errorType"], apart := false, laid := [("math/bits.deBruijn32tab", laid_math_bits_deBruijn32tab), ("errors.errorType", laid_errors_errorType)], narrowed := true }
def BucketPaceUptoSaid : Prop := bucketPaceUptoRow.holds Tryz.pinned (OpenSpec.upto bucketPaceSpec)

/-- 'fieldfarelaw18.BucketBound', WHERE WHAT IT READS IS OF BULK AT MOST 1048576: true; the input reads as it did. -/
def bucketBoundUptoRow : OpenClaim := { program := "ytmpijgfndnikpaagreatdoor", sum := "e725bbfef138de7ef27209d0790cb0a9efd4970c7be9010b07c1887e22d0ed36", func := "fieldfare/fieldfarelaw18.BucketBound", spec := "bucketBound", inPlace := ["slices.overlaps[fieldfare/api.Hit]", "slices.overlaps[int]", "internal/reflectlite.ValueOf", "(internal/reflectlite.Value).Type", "(internal/reflectlite.Value).IsNil", "internal/reflectlite.TypeOf", "(internal/reflectlite.Value).Elem", "(internal/reflectlite.Value).Set"], unfollowed := true, recurses := true, named := ["math/bits.deBruijn32tab", "errors.errorType"], apart := false, laid := [("math/bits.deBruijn32tab", laid_math_bits_deBruijn32tab), ("errors.errorType", laid_errors_errorType)], narrowed := true }
def BucketBoundUptoSaid : Prop := bucketBoundUptoRow.holds Tryz.pinned (OpenSpec.upto bucketBoundSpec)

/-- 'fieldfarelaw18.QueueFull', WHERE WHAT IT READS IS OF BULK AT MOST 1048576: true; the input reads as it did. -/
def queueFullUptoRow : OpenClaim := { program := "ytmpijgfndnikpaagreatdoor", sum := "e725bbfef138de7ef27209d0790cb0a9efd4970c7be9010b07c1887e22d0ed36", func := "fieldfare/fieldfarelaw18.QueueFull", spec := "queueFull", inPlace := ["slices.overlaps[fieldfare/api.Hit]", "slices.overlaps[int]", "internal/reflectlite.ValueOf", "(internal/reflectlite.Value).Type", "(internal/reflectlite.Value).IsNil", "internal/reflectlite.TypeOf", "(internal/reflectlite.Value).Elem", "(internal/reflectlite.Value).Set"], unfollowed := true, recurses := true, named := ["math/bits.deBruijn32tab", "errors.errorType"], apart := false, laid := [("math/bits.deBruijn32tab", laid_math_bits_deBruijn32tab), ("errors.errorType", laid_errors_errorType)], narrowed := true }
def QueueFullUptoSaid : Prop := queueFullUptoRow.holds Tryz.pinned (OpenSpec.upto queueFullSpec)

/-- 'fieldfarelaw18.QueueAll', WHERE WHAT IT READS IS OF BULK AT MOST 1048576: true; the input reads as it did. -/
def queueAllUptoRow : OpenClaim := { program := "ytmpijgfndnikpaagreatdoor", sum := "e725bbfef138de7ef27209d0790cb0a9efd4970c7be9010b07c1887e22d0ed36", func := "fieldfare/fieldfarelaw18.QueueAll", spec := "queueAll", inPlace := ["slices.overlaps[fieldfare/api.Hit]", "slices.overlaps[int]", "internal/reflectlite.ValueOf", "(internal/reflectlite.Value).Type", "(internal/reflectlite.Value).IsNil", "internal/reflectlite.TypeOf", "(internal/reflectlite.Value).Elem", "(internal/reflectlite.Value).Set"], unfollowed := true, recurses := true, named := ["math/bits.deBruijn32tab", "errors.errorType"], apart := false, laid := [("math/bits.deBruijn32tab", laid_math_bits_deBruijn32tab), ("errors.errorType", laid_errors_errorType)], narrowed := true }
def QueueAllUptoSaid : Prop := queueAllUptoRow.holds Tryz.pinned (OpenSpec.upto queueAllSpec)

/-- 'fieldfarelaw18.ShadowSame', WHERE WHAT IT READS IS OF BULK AT MOST 1048576: true; the input reads as it did. -/
def shadowSameUptoRow : OpenClaim := { program := "ytmpijgfndnikpaagreatdoor", sum := "e725bbfef138de7ef27209d0790cb0a9efd4970c7be9010b07c1887e22d0ed36", func := "fieldfare/fieldfarelaw18.ShadowSame", spec := "shadowSame", inPlace := ["slices.overlaps[fieldfare/api.Hit]", "slices.overlaps[int]", "internal/reflectlite.ValueOf", "(internal/reflectlite.Value).Type", "(internal/reflectlite.Value).IsNil", "internal/reflectlite.TypeOf", "(internal/reflectlite.Value).Elem", "(internal/reflectlite.Value).Set"], unfollowed := true, recurses := true, named := ["math/bits.deBruijn32tab", "errors.errorType"], apart := false, laid := [("math/bits.deBruijn32tab", laid_math_bits_deBruijn32tab), ("errors.errorType", laid_errors_errorType)], narrowed := true }
def ShadowSameUptoSaid : Prop := shadowSameUptoRow.holds Tryz.pinned (OpenSpec.upto shadowSameSpec)

/-- 'fieldfarelaw18.ShadowAll', WHERE WHAT IT READS IS OF BULK AT MOST 1048576: true; the input reads as it did. -/
def shadowAllUptoRow : OpenClaim := { program := "ytmpijgfndnikpaagreatdoor", sum := "e725bbfef138de7ef27209d0790cb0a9efd4970c7be9010b07c1887e22d0ed36", func := "fieldfare/fieldfarelaw18.ShadowAll", spec := "shadowAll", inPlace := ["slices.overlaps[fieldfare/api.Hit]", "slices.overlaps[int]", "internal/reflectlite.ValueOf", "(internal/reflectlite.Value).Type", "(internal/reflectlite.Value).IsNil", "internal/reflectlite.TypeOf", "(internal/reflectlite.Value).Elem", "(internal/reflectlite.Value).Set"], unfollowed := true, recurses := true, named := ["math/bits.deBruijn32tab", "errors.errorType"], apart := false, laid := [("math/bits.deBruijn32tab", laid_math_bits_deBruijn32tab), ("errors.errorType", laid_errors_errorType)], narrowed := true }
def ShadowAllUptoSaid : Prop := shadowAllUptoRow.holds Tryz.pinned (OpenSpec.upto shadowAllSpec)

/-- 'fieldfarelaw18.StoreOwn', WHERE WHAT IT READS IS OF BULK AT MOST 1048576: true; the input reads as it did. -/
def storeOwnUptoRow : OpenClaim := { program := "ytmpijgfndnikpaagreatdoor", sum := "e725bbfef138de7ef27209d0790cb0a9efd4970c7be9010b07c1887e22d0ed36", func := "fieldfare/fieldfarelaw18.StoreOwn", spec := "storeOwn", inPlace := ["slices.overlaps[fieldfare/api.Hit]", "slices.overlaps[int]", "internal/reflectlite.ValueOf", "(internal/reflectlite.Value).Type", "(internal/reflectlite.Value).IsNil", "internal/reflectlite.TypeOf", "(internal/reflectlite.Value).Elem", "(internal/reflectlite.Value).Set"], unfollowed := true, recurses := true, named := ["math/bits.deBruijn32tab", "errors.errorType"], apart := false, laid := [("math/bits.deBruijn32tab", laid_math_bits_deBruijn32tab), ("errors.errorType", laid_errors_errorType)], narrowed := true }
def StoreOwnUptoSaid : Prop := storeOwnUptoRow.holds Tryz.pinned (OpenSpec.upto storeOwnSpec)

/-- 'fieldfarelaw18.StoreSeq', WHERE WHAT IT READS IS OF BULK AT MOST 1048576: true; the input reads as it did. -/
def storeSeqUptoRow : OpenClaim := { program := "ytmpijgfndnikpaagreatdoor", sum := "e725bbfef138de7ef27209d0790cb0a9efd4970c7be9010b07c1887e22d0ed36", func := "fieldfare/fieldfarelaw18.StoreSeq", spec := "storeSeq", inPlace := ["slices.overlaps[fieldfare/api.Hit]", "slices.overlaps[int]", "internal/reflectlite.ValueOf", "(internal/reflectlite.Value).Type", "(internal/reflectlite.Value).IsNil", "internal/reflectlite.TypeOf", "(internal/reflectlite.Value).Elem", "(internal/reflectlite.Value).Set"], unfollowed := true, recurses := true, named := ["math/bits.deBruijn32tab", "errors.errorType"], apart := false, laid := [("math/bits.deBruijn32tab", laid_math_bits_deBruijn32tab), ("errors.errorType", laid_errors_errorType)], narrowed := true }
def StoreSeqUptoSaid : Prop := storeSeqUptoRow.holds Tryz.pinned (OpenSpec.upto storeSeqSpec)

/-- 'fieldfarelaw18.StoreScan', WHERE WHAT IT READS IS OF BULK AT MOST 1048576: true; the input reads as it did. -/
def storeScanUptoRow : OpenClaim := { program := "ytmpijgfndnikpaagreatdoor", sum := "e725bbfef138de7ef27209d0790cb0a9efd4970c7be9010b07c1887e22d0ed36", func := "fieldfare/fieldfarelaw18.StoreScan", spec := "storeScan", inPlace := ["slices.overlaps[fieldfare/api.Hit]", "slices.overlaps[int]", "internal/reflectlite.ValueOf", "(internal/reflectlite.Value).Type", "(internal/reflectlite.Value).IsNil", "internal/reflectlite.TypeOf", "(internal/reflectlite.Value).Elem", "(internal/reflectlite.Value).Set"], unfollowed := true, recurses := true, named := ["math/bits.deBruijn32tab", "errors.errorType"], apart := false, laid := [("math/bits.deBruijn32tab", laid_math_bits_deBruijn32tab), ("errors.errorType", laid_errors_errorType)], narrowed := true }
def StoreScanUptoSaid : Prop := storeScanUptoRow.holds Tryz.pinned (OpenSpec.upto storeScanSpec)

end Rows
end Go.Proofs.YtmpijgfndnikpaaGreatDoor
