/-
  NARROWER THAN 'FOR EVERY INPUT', by the rows' own cells (each row's printed sentence says how): FlatOrder: laid · IvfNear: laid · FlatAlone: laid · IvfLists: laid · IvfMove: laid · FlatAll: laid.
  DERIVED. THE GIVEN ROWS OF THIS SEAT. 6 by the template 'for every input the law returns true; each argument reads behind the call as it read before'; 0 by the template 'total and deterministic' (their statements: YtcnfbfiakkjabaaGreatDoorTotals.lean).
  GIVEN WITH THE SEED: the statements are not yours to turn. If you find one false, say at which input.
  Laid BY PROGRAM, IN A SANDBOX (cutbox-rows.mjs): the forced cells as the released guide's own fill.sh prints them over the translation 342b1454c95f0b54… (all of the seat's roots in one cut). By AI agents, Wed Nov 11 2026. No macro, syntax, notation, axiom, sorry.
-/
import Derived.Test.YtcnfbfiakkjabaaGreatDoorChecked
import GoSem.Claim
import GoSem.ClaimJoined
import GoSem.ClaimMapViews
import Derived.JoinedTies
import Derived.KernelRfl
namespace Go.Proofs.YtcnfbfiakkjabaaGreatDoor
/- THE CELL 'sum', in the pinned program and in every row, IS THE sha256 OF THE DUMP (.gsa) THAT YtcnfbfiakkjabaaGreatDoorProg.lean LOADS. Nothing in Lean hashes anything: it is a label: what it is worth is what the hold of that sum in a sandbox is worth. -/
noncomputable def Tryz.pinned : Pinned := { name := "ytcnfbfiakkjabaagreatdoor", sum := "342b1454c95f0b549899f4b527c7533e87125ee58034d0c5a5b6ca3313913dad", checked := Tryz.checked }
namespace Rows
def none {H : Type} : Left H := { results := [], args := [] }

/- WHAT THE LISTED PACKAGE-LEVEL VARIABLES READ AS WHEN THE CALL BEGINS. Each datum BY PROGRAM (the guide's laid-datum.mjs) off the statement by which the dump's own 'gosem.cut.vars' lays the variable. In a bare row this is a premise. The card (YtcnfbfiakkjabaaGreatDoorCards.lean) ties it to the program's text. -/
def laid_math_bits_deBruijn32tab {H : Type} : DataW H := .agg [.lit (.int .u8 0), .lit (.int .u8 1), .lit (.int .u8 28), .lit (.int .u8 2), .lit (.int .u8 29), .lit (.int .u8 14), .lit (.int .u8 24), .lit (.int .u8 3), .lit (.int .u8 30), .lit (.int .u8 22), .lit (.int .u8 20), .lit (.int .u8 15), .lit (.int .u8 25), .lit (.int .u8 17), .lit (.int .u8 4), .lit (.int .u8 8), .lit (.int .u8 31), .lit (.int .u8 27), .lit (.int .u8 13), .lit (.int .u8 23), .lit (.int .u8 21), .lit (.int .u8 19), .lit (.int .u8 16), .lit (.int .u8 7), .lit (.int .u8 26), .lit (.int .u8 12), .lit (.int .u8 18), .lit (.int .u8 6), .lit (.int .u8 11), .lit (.int .u8 5), .lit (.int .u8 10), .lit (.int .u8 9)]
def laid_errors_errorType {H : Type} : DataW H := .iface "internal/reflectlite.rtype" (.agg [.ptr (.lit (.string [101, 114, 114, 111, 114]))])

/-- 'fieldfarelaw13.FlatOrder': WHATEVER THE INPUT: true; the input reads as it did. -/
def flatOrderSpec : ChangeSpec := { name := "flatOrder", fn := fun _ => fun
  | [d1, d2, d3, d4] => { results := [.lit (.bool true)], args := [d1, d2, d3, d4] }
  | _ => none }
def flatOrderRow : OpenClaim := { program := "ytcnfbfiakkjabaagreatdoor", sum := "342b1454c95f0b549899f4b527c7533e87125ee58034d0c5a5b6ca3313913dad", func := "fieldfare/fieldfarelaw13.FlatOrder", spec := "flatOrder", inPlace := ["slices.overlaps[fieldfare/api.Hit]", "slices.overlaps[int]", "internal/reflectlite.ValueOf", "(internal/reflectlite.Value).Type", "(internal/reflectlite.Value).IsNil", "internal/reflectlite.TypeOf", "(internal/reflectlite.Value).Elem", "(internal/reflectlite.Value).Set"], unfollowed := true, recurses := true, named := ["math/bits.deBruijn32tab", "errors.errorType"], apart := false, laid := [("math/bits.deBruijn32tab", laid_math_bits_deBruijn32tab), ("errors.errorType", laid_errors_errorType)] }
def FlatOrderSaid : Prop := flatOrderRow.holds Tryz.pinned (OpenSpec.ofChange flatOrderSpec)

/-- ITS FALSE NEIGHBOUR: 'it returns false'. Refute it at one input. -/
def flatOrderWrong : ChangeSpec := { name := "flatOrder", fn := fun _ => fun
  | [d1, d2, d3, d4] => { results := [.lit (.bool false)], args := [d1, d2, d3, d4] }
  | _ => none }
def FlatOrderWrongFalsely : Prop := flatOrderRow.holds Tryz.pinned (OpenSpec.ofChange flatOrderWrong)

/-- 'fieldfarelaw13.IvfNear': WHATEVER THE INPUT: true; the input reads as it did. -/
def ivfNearSpec : ChangeSpec := { name := "ivfNear", fn := fun _ => fun
  | [d1, d2, d3, d4] => { results := [.lit (.bool true)], args := [d1, d2, d3, d4] }
  | _ => none }
def ivfNearRow : OpenClaim := { program := "ytcnfbfiakkjabaagreatdoor", sum := "342b1454c95f0b549899f4b527c7533e87125ee58034d0c5a5b6ca3313913dad", func := "fieldfare/fieldfarelaw13.IvfNear", spec := "ivfNear", inPlace := ["slices.overlaps[fieldfare/api.Hit]", "slices.overlaps[int]", "internal/reflectlite.ValueOf", "(internal/reflectlite.Value).Type", "(internal/reflectlite.Value).IsNil", "internal/reflectlite.TypeOf", "(internal/reflectlite.Value).Elem", "(internal/reflectlite.Value).Set"], unfollowed := true, recurses := true, named := ["math/bits.deBruijn32tab", "errors.errorType"], apart := false, laid := [("math/bits.deBruijn32tab", laid_math_bits_deBruijn32tab), ("errors.errorType", laid_errors_errorType)] }
def IvfNearSaid : Prop := ivfNearRow.holds Tryz.pinned (OpenSpec.ofChange ivfNearSpec)

/-- ITS FALSE NEIGHBOUR: 'it returns false'. Refute it at one input. -/
def ivfNearWrong : ChangeSpec := { name := "ivfNear", fn := fun _ => fun
  | [d1, d2, d3, d4] => { results := [.lit (.bool false)], args := [d1, d2, d3, d4] }
  | _ => none }
def IvfNearWrongFalsely : Prop := ivfNearRow.holds Tryz.pinned (OpenSpec.ofChange ivfNearWrong)

/-- 'fieldfarelaw13.FlatAlone': WHATEVER THE INPUT: true; the input reads as it did. -/
def flatAloneSpec : ChangeSpec := { name := "flatAlone", fn := fun _ => fun
  | [d1, d2] => { results := [.lit (.bool true)], args := [d1, d2] }
  | _ => none }
def flatAloneRow : OpenClaim := { program := "ytcnfbfiakkjabaagreatdoor", sum := "342b1454c95f0b549899f4b527c7533e87125ee58034d0c5a5b6ca3313913dad", func := "fieldfare/fieldfarelaw13.FlatAlone", spec := "flatAlone", inPlace := ["slices.overlaps[fieldfare/api.Hit]", "slices.overlaps[int]", "internal/reflectlite.ValueOf", "(internal/reflectlite.Value).Type", "(internal/reflectlite.Value).IsNil", "internal/reflectlite.TypeOf", "(internal/reflectlite.Value).Elem", "(internal/reflectlite.Value).Set"], unfollowed := true, recurses := true, named := ["math/bits.deBruijn32tab", "errors.errorType"], apart := false, laid := [("math/bits.deBruijn32tab", laid_math_bits_deBruijn32tab), ("errors.errorType", laid_errors_errorType)] }
def FlatAloneSaid : Prop := flatAloneRow.holds Tryz.pinned (OpenSpec.ofChange flatAloneSpec)

/-- ITS FALSE NEIGHBOUR: 'it returns false'. Refute it at one input. -/
def flatAloneWrong : ChangeSpec := { name := "flatAlone", fn := fun _ => fun
  | [d1, d2] => { results := [.lit (.bool false)], args := [d1, d2] }
  | _ => none }
def FlatAloneWrongFalsely : Prop := flatAloneRow.holds Tryz.pinned (OpenSpec.ofChange flatAloneWrong)

/-- 'fieldfarelaw13.IvfLists': WHATEVER THE INPUT: true; the input reads as it did. -/
def ivfListsSpec : ChangeSpec := { name := "ivfLists", fn := fun _ => fun
  | [d1, d2] => { results := [.lit (.bool true)], args := [d1, d2] }
  | _ => none }
def ivfListsRow : OpenClaim := { program := "ytcnfbfiakkjabaagreatdoor", sum := "342b1454c95f0b549899f4b527c7533e87125ee58034d0c5a5b6ca3313913dad", func := "fieldfare/fieldfarelaw13.IvfLists", spec := "ivfLists", inPlace := ["slices.overlaps[fieldfare/api.Hit]", "slices.overlaps[int]", "internal/reflectlite.ValueOf", "(internal/reflectlite.Value).Type", "(internal/reflectlite.Value).IsNil", "internal/reflectlite.TypeOf", "(internal/reflectlite.Value).Elem", "(internal/reflectlite.Value).Set"], unfollowed := true, recurses := true, named := ["math/bits.deBruijn32tab", "errors.errorType"], apart := false, laid := [("math/bits.deBruijn32tab", laid_math_bits_deBruijn32tab), ("errors.errorType", laid_errors_errorType)] }
def IvfListsSaid : Prop := ivfListsRow.holds Tryz.pinned (OpenSpec.ofChange ivfListsSpec)

/-- ITS FALSE NEIGHBOUR: 'it returns false'. Refute it at one input. -/
def ivfListsWrong : ChangeSpec := { name := "ivfLists", fn := fun _ => fun
  | [d1, d2] => { results := [.lit (.bool false)], args := [d1, d2] }
  | _ => none }
def IvfListsWrongFalsely : Prop := ivfListsRow.holds Tryz.pinned (OpenSpec.ofChange ivfListsWrong)

/-- 'fieldfarelaw13.IvfMove': WHATEVER THE INPUT: true; the input reads as it did. -/
def ivfMoveSpec : ChangeSpec := { name := "ivfMove", fn := fun _ => fun
  | [d1, d2, d3] => { results := [.lit (.bool true)], args := [d1, d2, d3] }
  | _ => none }
def ivfMoveRow : OpenClaim := { program := "ytcnfbfiakkjabaagreatdoor", sum := "342b1454c95f0b549899f4b527c7533e87125ee58034d0c5a5b6ca3313913dad", func := "fieldfare/fieldfarelaw13.IvfMove", spec := "ivfMove", inPlace := ["slices.overlaps[fieldfare/api.Hit]", "slices.overlaps[int]", "internal/reflectlite.ValueOf", "(internal/reflectlite.Value).Type", "(internal/reflectlite.Value).IsNil", "internal/reflectlite.TypeOf", "(internal/reflectlite.Value).Elem", "(internal/reflectlite.Value).Set"], unfollowed := true, recurses := true, named := ["math/bits.deBruijn32tab", "errors.errorType"], apart := false, laid := [("math/bits.deBruijn32tab", laid_math_bits_deBruijn32tab), ("errors.errorType", laid_errors_errorType)] }
def IvfMoveSaid : Prop := ivfMoveRow.holds Tryz.pinned (OpenSpec.ofChange ivfMoveSpec)

/-- ITS FALSE NEIGHBOUR: 'it returns false'. Refute it at one input. -/
def ivfMoveWrong : ChangeSpec := { name := "ivfMove", fn := fun _ => fun
  | [d1, d2, d3] => { results := [.lit (.bool false)], args := [d1, d2, d3] }
  | _ => none }
def IvfMoveWrongFalsely : Prop := ivfMoveRow.holds Tryz.pinned (OpenSpec.ofChange ivfMoveWrong)

/-- 'fieldfarelaw13.FlatAll': WHATEVER THE INPUT: true; the input reads as it did. -/
def flatAllSpec : ChangeSpec := { name := "flatAll", fn := fun _ => fun
  | [d1, d2, d3] => { results := [.lit (.bool true)], args := [d1, d2, d3] }
  | _ => none }
def flatAllRow : OpenClaim := { program := "ytcnfbfiakkjabaagreatdoor", sum := "342b1454c95f0b549899f4b527c7533e87125ee58034d0c5a5b6ca3313913dad", func := "fieldfare/fieldfarelaw13.FlatAll", spec := "flatAll", inPlace := ["slices.overlaps[fieldfare/api.Hit]", "slices.overlaps[int]", "internal/reflectlite.ValueOf", "(internal/reflectlite.Value).Type", "(internal/reflectlite.Value).IsNil", "internal/reflectlite.TypeOf", "(internal/reflectlite.Value).Elem", "(internal/reflectlite.Value).Set"], unfollowed := true, recurses := true, named := ["math/bits.deBruijn32tab", "errors.errorType"], apart := false, laid := [("math/bits.deBruijn32tab", laid_math_bits_deBruijn32tab), ("errors.errorType", laid_errors_errorType)] }
def FlatAllSaid : Prop := flatAllRow.holds Tryz.pinned (OpenSpec.ofChange flatAllSpec)

/-- ITS FALSE NEIGHBOUR: 'it returns false'. Refute it at one input. -/
def flatAllWrong : ChangeSpec := { name := "flatAll", fn := fun _ => fun
  | [d1, d2, d3] => { results := [.lit (.bool false)], args := [d1, d2, d3] }
  | _ => none }
def FlatAllWrongFalsely : Prop := flatAllRow.holds Tryz.pinned (OpenSpec.ofChange flatAllWrong)

/- THE SECOND FORM. 'bulk': how many values and letters a reading holds, each counted each time it is reached (what is shared counts as often as it is met; a slice's spare places count too). A statement '..UptoSaid' is the law's where the arguments, and the package variables that the reading takes, are together of bulk at most 1048576: NARROWER than '..Said'. Prove '..Said' where nothing that the law and all that it calls make is longer than what came in: it says more and counts as full. Else prove '..UptoSaid'. A law counts once. -/
mutual
def uptoBulk {H : Type} : DataW H → Nat
  | .lit (.string bytes) => bytes.length + 1
  | .lit _ => 1
  | .nil => 1
  | .ptr d => uptoBulk d + 1
  | .slice elems spare => uptoBulkAll elems + uptoBulkAll spare + 1
  | .agg parts => uptoBulkAll parts + 1
  | .iface _ d => uptoBulk d + 1
  | .map entries => uptoBulkEntries entries + 1
  | .held _ => 1
def uptoBulkAll {H : Type} : List (DataW H) → Nat
  | [] => 0
  | d :: r => uptoBulk d + uptoBulkAll r
def uptoBulkEntries {H : Type} : List (Lit × DataW H) → Nat
  | [] => 0
  | x :: r => uptoBulkEntry x + uptoBulkEntries r
def uptoBulkEntry {H : Type} : Lit × DataW H → Nat
  | (.string bytes, d) => bytes.length + uptoBulk d + 1
  | (_, d) => uptoBulk d + 1
 end
def uptoSmall : (H : Type) → List (DataW H) → Bool := fun _ ds => decide (uptoBulkAll ds ≤ 1048576)
def OpenSpec.upto (s : _root_.Go.ChangeSpec) : _root_.Go.OpenSpec := { _root_.Go.OpenSpec.ofChange s with cond := some uptoSmall }

/-- 'fieldfarelaw13.FlatOrder', WHERE WHAT IT READS IS OF BULK AT MOST 1048576: true; the input reads as it did. -/
def flatOrderUptoRow : OpenClaim := { program := "ytcnfbfiakkjabaagreatdoor", sum := "342b1454c95f0b549899f4b527c7533e87125ee58034d0c5a5b6ca3313913dad", func := "fieldfare/fieldfarelaw13.FlatOrder", spec := "flatOrder", inPlace := ["slices.overlaps[fieldfare/api.Hit]", "slices.overlaps[int]", "internal/reflectlite.ValueOf", "(internal/reflectlite.Value).Type", "(internal/reflectlite.Value).IsNil", "internal/reflectlite.TypeOf", "(internal/reflectlite.Value).Elem", "(internal/reflectlite.Value).Set"], unfollowed := true, recurses := true, named := ["math/bits.deBruijn32tab", "errors.errorType"], apart := false, laid := [("math/bits.deBruijn32tab", laid_math_bits_deBruijn32tab), ("errors.errorType", laid_errors_errorType)], narrowed := true }
def FlatOrderUptoSaid : Prop := flatOrderUptoRow.holds Tryz.pinned (OpenSpec.upto flatOrderSpec)

/-- 'fieldfarelaw13.IvfNear', WHERE WHAT IT READS IS OF BULK AT MOST 1048576: true; the input reads as it did. -/
def ivfNearUptoRow : OpenClaim := { program := "ytcnfbfiakkjabaagreatdoor", sum := "342b1454c95f0b549899f4b527c7533e87125ee58034d0c5a5b6ca3313913dad", func := "fieldfare/fieldfarelaw13.IvfNear", spec := "ivfNear", inPlace := ["slices.overlaps[fieldfare/api.Hit]", "slices.overlaps[int]", "internal/reflectlite.ValueOf", "(internal/reflectlite.Value).Type", "(internal/reflectlite.Value).IsNil", "internal/reflectlite.TypeOf", "(internal/reflectlite.Value).Elem", "(internal/reflectlite.Value).Set"], unfollowed := true, recurses := true, named := ["math/bits.deBruijn32tab", "errors.errorType"], apart := false, laid := [("math/bits.deBruijn32tab", laid_math_bits_deBruijn32tab), ("errors.errorType", laid_errors_errorType)], narrowed := true }
def IvfNearUptoSaid : Prop := ivfNearUptoRow.holds Tryz.pinned (OpenSpec.upto ivfNearSpec)

/-- 'fieldfarelaw13.FlatAlone', WHERE WHAT IT READS IS OF BULK AT MOST 1048576: true; the input reads as it did. -/
def flatAloneUptoRow : OpenClaim := { program := "ytcnfbfiakkjabaagreatdoor", sum := "342b1454c95f0b549899f4b527c7533e87125ee58034d0c5a5b6ca3313913dad", func := "fieldfare/fieldfarelaw13.FlatAlone", spec := "flatAlone", inPlace := ["slices.overlaps[fieldfare/api.Hit]", "slices.overlaps[int]", "internal/reflectlite.ValueOf", "(internal/reflectlite.Value).Type", "(internal/reflectlite.Value).IsNil", "internal/reflectlite.TypeOf", "(internal/reflectlite.Value).Elem", "(internal/reflectlite.Value).Set"], unfollowed := true, recurses := true, named := ["math/bits.deBruijn32tab", "errors.errorType"], apart := false, laid := [("math/bits.deBruijn32tab", laid_math_bits_deBruijn32tab), ("errors.errorType", laid_errors_errorType)], narrowed := true }
def FlatAloneUptoSaid : Prop := flatAloneUptoRow.holds Tryz.pinned (OpenSpec.upto flatAloneSpec)

/-- 'fieldfarelaw13.IvfLists', WHERE WHAT IT READS IS OF BULK AT MOST 1048576: true; the input reads as it did. -/
def ivfListsUptoRow : OpenClaim := { program := "ytcnfbfiakkjabaagreatdoor", sum := "342b1454c95f0b549899f4b527c7533e87125ee58034d0c5a5b6ca3313913dad", func := "fieldfare/fieldfarelaw13.IvfLists", spec := "ivfLists", inPlace := ["slices.overlaps[fieldfare/api.Hit]", "slices.overlaps[int]", "internal/reflectlite.ValueOf", "(internal/reflectlite.Value).Type", "(internal/reflectlite.Value).IsNil", "internal/reflectlite.TypeOf", "(internal/reflectlite.Value).Elem", "(internal/reflectlite.Value).Set"], unfollowed := true, recurses := true, named := ["math/bits.deBruijn32tab", "errors.errorType"], apart := false, laid := [("math/bits.deBruijn32tab", laid_math_bits_deBruijn32tab), ("errors.errorType", laid_errors_errorType)], narrowed := true }
def IvfListsUptoSaid : Prop := ivfListsUptoRow.holds Tryz.pinned (OpenSpec.upto ivfListsSpec)

/-- 'fieldfarelaw13.IvfMove', WHERE WHAT IT READS IS OF BULK AT MOST 1048576: true; the input reads as it did. -/
def ivfMoveUptoRow : OpenClaim := { program := "ytcnfbfiakkjabaagreatdoor", sum := "342b1454c95f0b549899f4b527c7533e87125ee58034d0c5a5b6ca3313913dad", func := "fieldfare/fieldfarelaw13.IvfMove", spec := "ivfMove", inPlace := ["slices.overlaps[fieldfare/api.Hit]", "slices.overlaps[int]", "internal/reflectlite.ValueOf", "(internal/reflectlite.Value).Type", "(internal/reflectlite.Value).IsNil", "internal/reflectlite.TypeOf", "(internal/reflectlite.Value).Elem", "(internal/reflectlite.Value).Set"], unfollowed := true, recurses := true, named := ["math/bits.deBruijn32tab", "errors.errorType"], apart := false, laid := [("math/bits.deBruijn32tab", laid_math_bits_deBruijn32tab), ("errors.errorType", laid_errors_errorType)], narrowed := true }
def IvfMoveUptoSaid : Prop := ivfMoveUptoRow.holds Tryz.pinned (OpenSpec.upto ivfMoveSpec)

/-- 'fieldfarelaw13.FlatAll', WHERE WHAT IT READS IS OF BULK AT MOST 1048576: true; the input reads as it did. -/
def flatAllUptoRow : OpenClaim := { program := "ytcnfbfiakkjabaagreatdoor", sum := "342b1454c95f0b549899f4b527c7533e87125ee58034d0c5a5b6ca3313913dad", func := "fieldfare/fieldfarelaw13.FlatAll", spec := "flatAll", inPlace := ["slices.overlaps[fieldfare/api.Hit]", "slices.overlaps[int]", "internal/reflectlite.ValueOf", "(internal/reflectlite.Value).Type", "(internal/reflectlite.Value).IsNil", "internal/reflectlite.TypeOf", "(internal/reflectlite.Value).Elem", "(internal/reflectlite.Value).Set"], unfollowed := true, recurses := true, named := ["math/bits.deBruijn32tab", "errors.errorType"], apart := false, laid := [("math/bits.deBruijn32tab", laid_math_bits_deBruijn32tab), ("errors.errorType", laid_errors_errorType)], narrowed := true }
def FlatAllUptoSaid : Prop := flatAllUptoRow.holds Tryz.pinned (OpenSpec.upto flatAllSpec)

end Rows
end Go.Proofs.YtcnfbfiakkjabaaGreatDoor
