/-
  NARROWER THAN 'FOR EVERY INPUT', by the rows' own cells (each row's printed sentence says how): MoveNew: laid · StoreLoad: laid · StoreScan: laid · StoreAll: laid · StoreSweep: laid · StoreBack: laid.
  DERIVED. THE GIVEN ROWS OF THIS SEAT. 6 by the template 'for every input the law returns true; each argument reads behind the call as it read before'; 0 by the template 'total and deterministic' (their statements: YthkmcfiijooddaaGreatDoorTotals.lean).
  GIVEN WITH THE SEED: the statements are not yours to turn. If you find one false, say at which input.
  Laid BY PROGRAM, IN A SANDBOX (cutbox-rows.mjs): the forced cells as the released guide's own fill.sh prints them over the translation 1d0f081ec81c7ade… (all of the seat's roots in one cut). By AI agents, Wed Nov 11 2026. No macro, syntax, notation, axiom, sorry.
-/
import Derived.Test.YthkmcfiijooddaaGreatDoorChecked
import GoSem.Claim
import GoSem.ClaimJoined
import GoSem.ClaimMapViews
import Derived.JoinedTies
import Derived.KernelRfl
namespace Go.Proofs.YthkmcfiijooddaaGreatDoor
/- THE CELL 'sum', in the pinned program and in every row, IS THE sha256 OF THE DUMP (.gsa) THAT YthkmcfiijooddaaGreatDoorProg.lean LOADS. Nothing in Lean hashes anything: it is a label: what it is worth is what the hold of that sum in a sandbox is worth. -/
noncomputable def Tryz.pinned : Pinned := { name := "ythkmcfiijooddaagreatdoor", sum := "1d0f081ec81c7ade5c7d569c7a3589586cb08ba38b126ecd853331ed84f83837", checked := Tryz.checked }
namespace Rows
def none {H : Type} : Left H := { results := [], args := [] }

/- WHAT THE LISTED PACKAGE-LEVEL VARIABLES READ AS WHEN THE CALL BEGINS. Each datum BY PROGRAM (the guide's laid-datum.mjs) off the statement by which the dump's own 'gosem.cut.vars' lays the variable. In a bare row this is a premise. The card (YthkmcfiijooddaaGreatDoorCards.lean) ties it to the program's text. -/
def laid_math_bits_deBruijn32tab {H : Type} : DataW H := .agg [.lit (.int .u8 0), .lit (.int .u8 1), .lit (.int .u8 28), .lit (.int .u8 2), .lit (.int .u8 29), .lit (.int .u8 14), .lit (.int .u8 24), .lit (.int .u8 3), .lit (.int .u8 30), .lit (.int .u8 22), .lit (.int .u8 20), .lit (.int .u8 15), .lit (.int .u8 25), .lit (.int .u8 17), .lit (.int .u8 4), .lit (.int .u8 8), .lit (.int .u8 31), .lit (.int .u8 27), .lit (.int .u8 13), .lit (.int .u8 23), .lit (.int .u8 21), .lit (.int .u8 19), .lit (.int .u8 16), .lit (.int .u8 7), .lit (.int .u8 26), .lit (.int .u8 12), .lit (.int .u8 18), .lit (.int .u8 6), .lit (.int .u8 11), .lit (.int .u8 5), .lit (.int .u8 10), .lit (.int .u8 9)]
def laid_errors_errorType {H : Type} : DataW H := .iface "internal/reflectlite.rtype" (.agg [.ptr (.lit (.string [101, 114, 114, 111, 114]))])

/-- 'fieldfarelaw18.MoveNew': WHATEVER THE INPUT: true; the input reads as it did. -/
def moveNewSpec : ChangeSpec := { name := "moveNew", fn := fun _ => fun
  | [d1, d2, d3, d4, d5] => { results := [.lit (.bool true)], args := [d1, d2, d3, d4, d5] }
  | _ => none }
def moveNewRow : OpenClaim := { program := "ythkmcfiijooddaagreatdoor", sum := "1d0f081ec81c7ade5c7d569c7a3589586cb08ba38b126ecd853331ed84f83837", func := "fieldfare/fieldfarelaw18.MoveNew", spec := "moveNew", inPlace := ["slices.overlaps[fieldfare/api.Hit]", "slices.overlaps[int]", "internal/reflectlite.ValueOf", "(internal/reflectlite.Value).Type", "(internal/reflectlite.Value).IsNil", "internal/reflectlite.TypeOf", "(internal/reflectlite.Value).Elem", "(internal/reflectlite.Value).Set"], unfollowed := true, recurses := true, named := ["math/bits.deBruijn32tab", "errors.errorType"], apart := false, laid := [("math/bits.deBruijn32tab", laid_math_bits_deBruijn32tab), ("errors.errorType", laid_errors_errorType)] }
def MoveNewSaid : Prop := moveNewRow.holds Tryz.pinned (OpenSpec.ofChange moveNewSpec)

/-- ITS FALSE NEIGHBOUR: 'it returns false'. Refute it at one input. -/
def moveNewWrong : ChangeSpec := { name := "moveNew", fn := fun _ => fun
  | [d1, d2, d3, d4, d5] => { results := [.lit (.bool false)], args := [d1, d2, d3, d4, d5] }
  | _ => none }
def MoveNewWrongFalsely : Prop := moveNewRow.holds Tryz.pinned (OpenSpec.ofChange moveNewWrong)

/-- 'fieldfarelaw18.StoreLoad': WHATEVER THE INPUT: true; the input reads as it did. -/
def storeLoadSpec : ChangeSpec := { name := "storeLoad", fn := fun _ => fun
  | [d1, d2] => { results := [.lit (.bool true)], args := [d1, d2] }
  | _ => none }
def storeLoadRow : OpenClaim := { program := "ythkmcfiijooddaagreatdoor", sum := "1d0f081ec81c7ade5c7d569c7a3589586cb08ba38b126ecd853331ed84f83837", func := "fieldfare/fieldfarelaw18.StoreLoad", spec := "storeLoad", inPlace := ["slices.overlaps[fieldfare/api.Hit]", "slices.overlaps[int]", "internal/reflectlite.ValueOf", "(internal/reflectlite.Value).Type", "(internal/reflectlite.Value).IsNil", "internal/reflectlite.TypeOf", "(internal/reflectlite.Value).Elem", "(internal/reflectlite.Value).Set"], unfollowed := true, recurses := true, named := ["math/bits.deBruijn32tab", "errors.errorType"], apart := false, laid := [("math/bits.deBruijn32tab", laid_math_bits_deBruijn32tab), ("errors.errorType", laid_errors_errorType)] }
def StoreLoadSaid : Prop := storeLoadRow.holds Tryz.pinned (OpenSpec.ofChange storeLoadSpec)

/-- ITS FALSE NEIGHBOUR: 'it returns false'. Refute it at one input. -/
def storeLoadWrong : ChangeSpec := { name := "storeLoad", fn := fun _ => fun
  | [d1, d2] => { results := [.lit (.bool false)], args := [d1, d2] }
  | _ => none }
def StoreLoadWrongFalsely : Prop := storeLoadRow.holds Tryz.pinned (OpenSpec.ofChange storeLoadWrong)

/-- 'fieldfarelaw18.StoreScan': WHATEVER THE INPUT: true; the input reads as it did. -/
def storeScanSpec : ChangeSpec := { name := "storeScan", fn := fun _ => fun
  | [d1, d2] => { results := [.lit (.bool true)], args := [d1, d2] }
  | _ => none }
def storeScanRow : OpenClaim := { program := "ythkmcfiijooddaagreatdoor", sum := "1d0f081ec81c7ade5c7d569c7a3589586cb08ba38b126ecd853331ed84f83837", func := "fieldfare/fieldfarelaw18.StoreScan", spec := "storeScan", inPlace := ["slices.overlaps[fieldfare/api.Hit]", "slices.overlaps[int]", "internal/reflectlite.ValueOf", "(internal/reflectlite.Value).Type", "(internal/reflectlite.Value).IsNil", "internal/reflectlite.TypeOf", "(internal/reflectlite.Value).Elem", "(internal/reflectlite.Value).Set"], unfollowed := true, recurses := true, named := ["math/bits.deBruijn32tab", "errors.errorType"], apart := false, laid := [("math/bits.deBruijn32tab", laid_math_bits_deBruijn32tab), ("errors.errorType", laid_errors_errorType)] }
def StoreScanSaid : Prop := storeScanRow.holds Tryz.pinned (OpenSpec.ofChange storeScanSpec)

/-- ITS FALSE NEIGHBOUR: 'it returns false'. Refute it at one input. -/
def storeScanWrong : ChangeSpec := { name := "storeScan", fn := fun _ => fun
  | [d1, d2] => { results := [.lit (.bool false)], args := [d1, d2] }
  | _ => none }
def StoreScanWrongFalsely : Prop := storeScanRow.holds Tryz.pinned (OpenSpec.ofChange storeScanWrong)

/-- 'fieldfarelaw18.StoreAll': WHATEVER THE INPUT: true; the input reads as it did. -/
def storeAllSpec : ChangeSpec := { name := "storeAll", fn := fun _ => fun
  | [d1, d2] => { results := [.lit (.bool true)], args := [d1, d2] }
  | _ => none }
def storeAllRow : OpenClaim := { program := "ythkmcfiijooddaagreatdoor", sum := "1d0f081ec81c7ade5c7d569c7a3589586cb08ba38b126ecd853331ed84f83837", func := "fieldfare/fieldfarelaw18.StoreAll", spec := "storeAll", inPlace := ["slices.overlaps[fieldfare/api.Hit]", "slices.overlaps[int]", "internal/reflectlite.ValueOf", "(internal/reflectlite.Value).Type", "(internal/reflectlite.Value).IsNil", "internal/reflectlite.TypeOf", "(internal/reflectlite.Value).Elem", "(internal/reflectlite.Value).Set"], unfollowed := true, recurses := true, named := ["math/bits.deBruijn32tab", "errors.errorType"], apart := false, laid := [("math/bits.deBruijn32tab", laid_math_bits_deBruijn32tab), ("errors.errorType", laid_errors_errorType)] }
def StoreAllSaid : Prop := storeAllRow.holds Tryz.pinned (OpenSpec.ofChange storeAllSpec)

/-- ITS FALSE NEIGHBOUR: 'it returns false'. Refute it at one input. -/
def storeAllWrong : ChangeSpec := { name := "storeAll", fn := fun _ => fun
  | [d1, d2] => { results := [.lit (.bool false)], args := [d1, d2] }
  | _ => none }
def StoreAllWrongFalsely : Prop := storeAllRow.holds Tryz.pinned (OpenSpec.ofChange storeAllWrong)

/-- 'fieldfarelaw18.StoreSweep': WHATEVER THE INPUT: true; the input reads as it did. -/
def storeSweepSpec : ChangeSpec := { name := "storeSweep", fn := fun _ => fun
  | [d1, d2] => { results := [.lit (.bool true)], args := [d1, d2] }
  | _ => none }
def storeSweepRow : OpenClaim := { program := "ythkmcfiijooddaagreatdoor", sum := "1d0f081ec81c7ade5c7d569c7a3589586cb08ba38b126ecd853331ed84f83837", func := "fieldfare/fieldfarelaw18.StoreSweep", spec := "storeSweep", inPlace := ["slices.overlaps[fieldfare/api.Hit]", "slices.overlaps[int]", "internal/reflectlite.ValueOf", "(internal/reflectlite.Value).Type", "(internal/reflectlite.Value).IsNil", "internal/reflectlite.TypeOf", "(internal/reflectlite.Value).Elem", "(internal/reflectlite.Value).Set"], unfollowed := true, recurses := true, named := ["math/bits.deBruijn32tab", "errors.errorType"], apart := false, laid := [("math/bits.deBruijn32tab", laid_math_bits_deBruijn32tab), ("errors.errorType", laid_errors_errorType)] }
def StoreSweepSaid : Prop := storeSweepRow.holds Tryz.pinned (OpenSpec.ofChange storeSweepSpec)

/-- ITS FALSE NEIGHBOUR: 'it returns false'. Refute it at one input. -/
def storeSweepWrong : ChangeSpec := { name := "storeSweep", fn := fun _ => fun
  | [d1, d2] => { results := [.lit (.bool false)], args := [d1, d2] }
  | _ => none }
def StoreSweepWrongFalsely : Prop := storeSweepRow.holds Tryz.pinned (OpenSpec.ofChange storeSweepWrong)

/-- 'fieldfarelaw18.StoreBack': WHATEVER THE INPUT: true; the input reads as it did. -/
def storeBackSpec : ChangeSpec := { name := "storeBack", fn := fun _ => fun
  | [d1, d2] => { results := [.lit (.bool true)], args := [d1, d2] }
  | _ => none }
def storeBackRow : OpenClaim := { program := "ythkmcfiijooddaagreatdoor", sum := "1d0f081ec81c7ade5c7d569c7a3589586cb08ba38b126ecd853331ed84f83837", func := "fieldfare/fieldfarelaw18.StoreBack", spec := "storeBack", inPlace := ["slices.overlaps[fieldfare/api.Hit]", "slices.overlaps[int]", "internal/reflectlite.ValueOf", "(internal/reflectlite.Value).Type", "(internal/reflectlite.Value).IsNil", "internal/reflectlite.TypeOf", "(internal/reflectlite.Value).Elem", "(internal/reflectlite.Value).Set"], unfollowed := true, recurses := true, named := ["math/bits.deBruijn32tab", "errors.errorType"], apart := false, laid := [("math/bits.deBruijn32tab", laid_math_bits_deBruijn32tab), ("errors.errorType", laid_errors_errorType)] }
def StoreBackSaid : Prop := storeBackRow.holds Tryz.pinned (OpenSpec.ofChange storeBackSpec)

/-- ITS FALSE NEIGHBOUR: 'it returns false'. Refute it at one input. -/
def storeBackWrong : ChangeSpec := { name := "storeBack", fn := fun _ => fun
  | [d1, d2] => { results := [.lit (.bool false)], args := [d1, d2] }
  | _ => none }
def StoreBackWrongFalsely : Prop := storeBackRow.holds Tryz.pinned (OpenSpec.ofChange storeBackWrong)

/- THE SECOND FORM. 'bulk': how many values and letters a reading holds, each counted each time it is reached (what is shared counts as often as it is met; a slice's spare places count too). A statement '..UptoSaid' is the law's where the arguments, and the package variables that the reading takes, are together of bulk at most 1048576: NARROWER than '..Said'. Prove '..Said' where nothing that the law and all that it calls make is longer than what came in: it says more and counts as full. Else prove '..UptoSaid'. A law counts once. -/
mutual
def uptoBulk {H : Type} : DataW H → Nat
  | .lit (.string bytes) => bytes.length + 1
  | .lit _ => 1
  | .nil => 1
  | .ptr d => uptoBulk d + 1
  | .slice elems spare => uptoBulkAll elems + uptoBulkAll spare + 1
  | .agg parts => uptoBulkAll parts + 1
  | .iface _ d => uptoBulk d + 1
  | .map entries => uptoBulkEntries entries + 1
  | .held _ => 1
def uptoBulkAll {H : Type} : List (DataW H) → Nat
  | [] => 0
  | d :: r => uptoBulk d + uptoBulkAll r
def uptoBulkEntries {H : Type} : List (Lit × DataW H) → Nat
  | [] => 0
  | x :: r => uptoBulkEntry x + uptoBulkEntries r
def uptoBulkEntry {H : Type} : Lit × DataW H → Nat
  | (.string bytes, d) => bytes.length + uptoBulk d + 1
  | (_, d) => uptoBulk d + 1
 end
def uptoSmall : (H : Type) → List (DataW H) → Bool := fun _ ds => decide (uptoBulkAll ds ≤ 1048576)
def OpenSpec.upto (s : _root_.Go.ChangeSpec) : _root_.Go.OpenSpec := { _root_.Go.OpenSpec.ofChange s with cond := some uptoSmall }

/-- 'fieldfarelaw18.MoveNew', WHERE WHAT IT READS IS OF BULK AT MOST 1048576: true; the input reads as it did. -/
def moveNewUptoRow : OpenClaim := { program := "ythkmcfiijooddaagreatdoor", sum := "1d0f081ec81c7ade5c7d569c7a3589586cb08ba38b126ecd853331ed84f83837", func := "fieldfare/fieldfarelaw18.MoveNew", spec := "moveNew", inPlace := ["slices.overlaps[fieldfare/api.Hit]", "slices.overlaps[int]", "internal/reflectlite.ValueOf", "(internal/reflectlite.Value).Type", "(internal/reflectlite.Value).IsNil", "internal/reflectlite.TypeOf", "(internal/reflectlite.Value).Elem", "(internal/reflectlite.Value).Set"], unfollowed := true, recurses := true, named := ["math/bits.deBruijn32tab", "errors.errorType"], apart := false, laid := [("math/bits.deBruijn32tab", laid_math_bits_deBruijn32tab), ("errors.errorType", laid_errors_errorType)], narrowed := true }
def MoveNewUptoSaid : Prop := moveNewUptoRow.holds Tryz.pinned (OpenSpec.upto moveNewSpec)

/-- 'fieldfarelaw18.StoreLoad', WHERE WHAT IT READS IS OF BULK AT MOST 1048576: true; the input reads as it did. -/
def storeLoadUptoRow : OpenClaim := { program := "ythkmcfiijooddaagreatdoor", sum := "1d0f081ec81c7ade5c7d569c7a3589586cb08ba38b126ecd853331ed84f83837", func := "fieldfare/fieldfarelaw18.StoreLoad", spec := "storeLoad", inPlace := ["slices.overlaps[fieldfare/api.Hit]", "slices.overlaps[int]", "internal/reflectlite.ValueOf", "(internal/reflectlite.Value).Type", "(internal/reflectlite.Value).IsNil", "internal/reflectlite.TypeOf", "(internal/reflectlite.Value).Elem", "(internal/reflectlite.Value).Set"], unfollowed := true, recurses := true, named := ["math/bits.deBruijn32tab", "errors.errorType"], apart := false, laid := [("math/bits.deBruijn32tab", laid_math_bits_deBruijn32tab), ("errors.errorType", laid_errors_errorType)], narrowed := true }
def StoreLoadUptoSaid : Prop := storeLoadUptoRow.holds Tryz.pinned (OpenSpec.upto storeLoadSpec)

/-- 'fieldfarelaw18.StoreScan', WHERE WHAT IT READS IS OF BULK AT MOST 1048576: true; the input reads as it did. -/
def storeScanUptoRow : OpenClaim := { program := "ythkmcfiijooddaagreatdoor", sum := "1d0f081ec81c7ade5c7d569c7a3589586cb08ba38b126ecd853331ed84f83837", func := "fieldfare/fieldfarelaw18.StoreScan", spec := "storeScan", inPlace := ["slices.overlaps[fieldfare/api.Hit]", "slices.overlaps[int]", "internal/reflectlite.ValueOf", "(internal/reflectlite.Value).Type", "(internal/reflectlite.Value).IsNil", "internal/reflectlite.TypeOf", "(internal/reflectlite.Value).Elem", "(internal/reflectlite.Value).Set"], unfollowed := true, recurses := true, named := ["math/bits.deBruijn32tab", "errors.errorType"], apart := false, laid := [("math/bits.deBruijn32tab", laid_math_bits_deBruijn32tab), ("errors.errorType", laid_errors_errorType)], narrowed := true }
def StoreScanUptoSaid : Prop := storeScanUptoRow.holds Tryz.pinned (OpenSpec.upto storeScanSpec)

/-- 'fieldfarelaw18.StoreAll', WHERE WHAT IT READS IS OF BULK AT MOST 1048576: true; the input reads as it did. -/
def storeAllUptoRow : OpenClaim := { program := "ythkmcfiijooddaagreatdoor", sum := "1d0f081ec81c7ade5c7d569c7a3589586cb08ba38b126ecd853331ed84f83837", func := "fieldfare/fieldfarelaw18.StoreAll", spec := "storeAll", inPlace := ["slices.overlaps[fieldfare/api.Hit]", "slices.overlaps[int]", "internal/reflectlite.ValueOf", "(internal/reflectlite.Value).Type", "(internal/reflectlite.Value).IsNil", "internal/reflectlite.TypeOf", "(internal/reflectlite.Value).Elem", "(internal/reflectlite.Value).Set"], unfollowed := true, recurses := true, named := ["math/bits.deBruijn32tab", "errors.errorType"], apart := false, laid := [("math/bits.deBruijn32tab", laid_math_bits_deBruijn32tab), ("errors.errorType", laid_errors_errorType)], narrowed := true }
def StoreAllUptoSaid : Prop := storeAllUptoRow.holds Tryz.pinned (OpenSpec.upto storeAllSpec)

/-- 'fieldfarelaw18.StoreSweep', WHERE WHAT IT READS IS OF BULK AT MOST 1048576: true; the input reads as it did. -/
def storeSweepUptoRow : OpenClaim := { program := "ythkmcfiijooddaagreatdoor", sum := "1d0f081ec81c7ade5c7d569c7a3589586cb08ba38b126ecd853331ed84f83837", func := "fieldfare/fieldfarelaw18.StoreSweep", spec := "storeSweep", inPlace := ["slices.overlaps[fieldfare/api.Hit]", "slices.overlaps[int]", "internal/reflectlite.ValueOf", "(internal/reflectlite.Value).Type", "(internal/reflectlite.Value).IsNil", "internal/reflectlite.TypeOf", "(internal/reflectlite.Value).Elem", "(internal/reflectlite.Value).Set"], unfollowed := true, recurses := true, named := ["math/bits.deBruijn32tab", "errors.errorType"], apart := false, laid := [("math/bits.deBruijn32tab", laid_math_bits_deBruijn32tab), ("errors.errorType", laid_errors_errorType)], narrowed := true }
def StoreSweepUptoSaid : Prop := storeSweepUptoRow.holds Tryz.pinned (OpenSpec.upto storeSweepSpec)

/-- 'fieldfarelaw18.StoreBack', WHERE WHAT IT READS IS OF BULK AT MOST 1048576: true; the input reads as it did. -/
def storeBackUptoRow : OpenClaim := { program := "ythkmcfiijooddaagreatdoor", sum := "1d0f081ec81c7ade5c7d569c7a3589586cb08ba38b126ecd853331ed84f83837", func := "fieldfare/fieldfarelaw18.StoreBack", spec := "storeBack", inPlace := ["slices.overlaps[fieldfare/api.Hit]", "slices.overlaps[int]", "internal/reflectlite.ValueOf", "(internal/reflectlite.Value).Type", "(internal/reflectlite.Value).IsNil", "internal/reflectlite.TypeOf", "(internal/reflectlite.Value).Elem", "(internal/reflectlite.Value).Set"], unfollowed := true, recurses := true, named := ["math/bits.deBruijn32tab", "errors.errorType"], apart := false, laid := [("math/bits.deBruijn32tab", laid_math_bits_deBruijn32tab), ("errors.errorType", laid_errors_errorType)], narrowed := true }
def StoreBackUptoSaid : Prop := storeBackUptoRow.holds Tryz.pinned (OpenSpec.upto storeBackSpec)

end Rows
end Go.Proofs.YthkmcfiijooddaaGreatDoor
