/-
  NARROWER THAN 'FOR EVERY INPUT', by the rows' own cells (each row's printed sentence says how): GraphFew: laid · GraphEntry: laid · GraphWide: laid · CodedFew: laid · IndexFew: laid · TrueSelf: laid · GraphBoth: laid · CodedTrue: laid · IndexAll: laid · GraphAll: laid · IvfAll: laid · CodedAll: laid.
  DERIVED. THE GIVEN ROWS OF THIS SEAT. 12 by the template 'for every input the law returns true; each argument reads behind the call as it read before'; 0 by the template 'total and deterministic' (their statements: YtofikbfljjjgeaaGreatDoorTotals.lean).
  GIVEN WITH THE SEED: the statements are not yours to turn. If you find one false, say at which input.
  Laid BY PROGRAM, IN A SANDBOX (cutbox-rows.mjs): the forced cells as the released guide's own fill.sh prints them over the translation 1f6be6b486a3bd1f… (all of the seat's roots in one cut). By AI agents, Wed Nov 11 2026. No macro, syntax, notation, axiom, sorry.
-/
import Derived.Test.YtofikbfljjjgeaaGreatDoorChecked
import GoSem.Claim
import GoSem.ClaimJoined
import GoSem.ClaimMapViews
import Derived.JoinedTies
import Derived.KernelRfl
namespace Go.Proofs.YtofikbfljjjgeaaGreatDoor
/- THE CELL 'sum', in the pinned program and in every row, IS THE sha256 OF THE DUMP (.gsa) THAT YtofikbfljjjgeaaGreatDoorProg.lean LOADS. Nothing in Lean hashes anything: it is a label: what it is worth is what the hold of that sum in a sandbox is worth. -/
noncomputable def Tryz.pinned : Pinned := { name := "ytofikbfljjjgeaagreatdoor", sum := "1f6be6b486a3bd1fa389392f2fb80f5abace59aada2d6d796914a5792363e02a", checked := Tryz.checked }
namespace Rows
def none {H : Type} : Left H := { results := [], args := [] }

/- WHAT THE LISTED PACKAGE-LEVEL VARIABLES READ AS WHEN THE CALL BEGINS. Each datum BY PROGRAM (the guide's laid-datum.mjs) off the statement by which the dump's own 'gosem.cut.vars' lays the variable. In a bare row this is a premise. The card (YtofikbfljjjgeaaGreatDoorCards.lean) ties it to the program's text. -/
def laid_math_bits_deBruijn32tab {H : Type} : DataW H := .agg [.lit (.int .u8 0), .lit (.int .u8 1), .lit (.int .u8 28), .lit (.int .u8 2), .lit (.int .u8 29), .lit (.int .u8 14), .lit (.int .u8 24), .lit (.int .u8 3), .lit (.int .u8 30), .lit (.int .u8 22), .lit (.int .u8 20), .lit (.int .u8 15), .lit (.int .u8 25), .lit (.int .u8 17), .lit (.int .u8 4), .lit (.int .u8 8), .lit (.int .u8 31), .lit (.int .u8 27), .lit (.int .u8 13), .lit (.int .u8 23), .lit (.int .u8 21), .lit (.int .u8 19), .lit (.int .u8 16), .lit (.int .u8 7), .lit (.int .u8 26), .lit (.int .u8 12), .lit (.int .u8 18), .lit (.int .u8 6), .lit (.int .u8 11), .lit (.int .u8 5), .lit (.int .u8 10), .lit (.int .u8 9)]
def laid_errors_errorType {H : Type} : DataW H := .iface "internal/reflectlite.rtype" (.agg [.ptr (.lit (.string [101, 114, 114, 111, 114]))])

/-- 'fieldfarelaw13.GraphFew': WHATEVER THE INPUT: true; the input reads as it did. -/
def graphFewSpec : ChangeSpec := { name := "graphFew", fn := fun _ => fun
  | [d1, d2, d3, d4, d5] => { results := [.lit (.bool true)], args := [d1, d2, d3, d4, d5] }
  | _ => none }
def graphFewRow : OpenClaim := { program := "ytofikbfljjjgeaagreatdoor", sum := "1f6be6b486a3bd1fa389392f2fb80f5abace59aada2d6d796914a5792363e02a", func := "fieldfare/fieldfarelaw13.GraphFew", spec := "graphFew", inPlace := ["slices.overlaps[fieldfare/api.Hit]", "slices.overlaps[int]", "internal/reflectlite.ValueOf", "(internal/reflectlite.Value).Type", "(internal/reflectlite.Value).IsNil", "internal/reflectlite.TypeOf", "(internal/reflectlite.Value).Elem", "(internal/reflectlite.Value).Set"], unfollowed := true, recurses := true, named := ["math/bits.deBruijn32tab", "errors.errorType"], apart := false, laid := [("math/bits.deBruijn32tab", laid_math_bits_deBruijn32tab), ("errors.errorType", laid_errors_errorType)] }
def GraphFewSaid : Prop := graphFewRow.holds Tryz.pinned (OpenSpec.ofChange graphFewSpec)

/-- ITS FALSE NEIGHBOUR: 'it returns false'. Refute it at one input. -/
def graphFewWrong : ChangeSpec := { name := "graphFew", fn := fun _ => fun
  | [d1, d2, d3, d4, d5] => { results := [.lit (.bool false)], args := [d1, d2, d3, d4, d5] }
  | _ => none }
def GraphFewWrongFalsely : Prop := graphFewRow.holds Tryz.pinned (OpenSpec.ofChange graphFewWrong)

/-- 'fieldfarelaw13.GraphEntry': WHATEVER THE INPUT: true; the input reads as it did. -/
def graphEntrySpec : ChangeSpec := { name := "graphEntry", fn := fun _ => fun
  | [d1, d2] => { results := [.lit (.bool true)], args := [d1, d2] }
  | _ => none }
def graphEntryRow : OpenClaim := { program := "ytofikbfljjjgeaagreatdoor", sum := "1f6be6b486a3bd1fa389392f2fb80f5abace59aada2d6d796914a5792363e02a", func := "fieldfare/fieldfarelaw13.GraphEntry", spec := "graphEntry", inPlace := ["slices.overlaps[fieldfare/api.Hit]", "slices.overlaps[int]", "internal/reflectlite.ValueOf", "(internal/reflectlite.Value).Type", "(internal/reflectlite.Value).IsNil", "internal/reflectlite.TypeOf", "(internal/reflectlite.Value).Elem", "(internal/reflectlite.Value).Set"], unfollowed := true, recurses := true, named := ["math/bits.deBruijn32tab", "errors.errorType"], apart := false, laid := [("math/bits.deBruijn32tab", laid_math_bits_deBruijn32tab), ("errors.errorType", laid_errors_errorType)] }
def GraphEntrySaid : Prop := graphEntryRow.holds Tryz.pinned (OpenSpec.ofChange graphEntrySpec)

/-- ITS FALSE NEIGHBOUR: 'it returns false'. Refute it at one input. -/
def graphEntryWrong : ChangeSpec := { name := "graphEntry", fn := fun _ => fun
  | [d1, d2] => { results := [.lit (.bool false)], args := [d1, d2] }
  | _ => none }
def GraphEntryWrongFalsely : Prop := graphEntryRow.holds Tryz.pinned (OpenSpec.ofChange graphEntryWrong)

/-- 'fieldfarelaw13.GraphWide': WHATEVER THE INPUT: true; the input reads as it did. -/
def graphWideSpec : ChangeSpec := { name := "graphWide", fn := fun _ => fun
  | [d1, d2, d3, d4] => { results := [.lit (.bool true)], args := [d1, d2, d3, d4] }
  | _ => none }
def graphWideRow : OpenClaim := { program := "ytofikbfljjjgeaagreatdoor", sum := "1f6be6b486a3bd1fa389392f2fb80f5abace59aada2d6d796914a5792363e02a", func := "fieldfare/fieldfarelaw13.GraphWide", spec := "graphWide", inPlace := ["slices.overlaps[fieldfare/api.Hit]", "slices.overlaps[int]", "internal/reflectlite.ValueOf", "(internal/reflectlite.Value).Type", "(internal/reflectlite.Value).IsNil", "internal/reflectlite.TypeOf", "(internal/reflectlite.Value).Elem", "(internal/reflectlite.Value).Set"], unfollowed := true, recurses := true, named := ["math/bits.deBruijn32tab", "errors.errorType"], apart := false, laid := [("math/bits.deBruijn32tab", laid_math_bits_deBruijn32tab), ("errors.errorType", laid_errors_errorType)] }
def GraphWideSaid : Prop := graphWideRow.holds Tryz.pinned (OpenSpec.ofChange graphWideSpec)

/-- ITS FALSE NEIGHBOUR: 'it returns false'. Refute it at one input. -/
def graphWideWrong : ChangeSpec := { name := "graphWide", fn := fun _ => fun
  | [d1, d2, d3, d4] => { results := [.lit (.bool false)], args := [d1, d2, d3, d4] }
  | _ => none }
def GraphWideWrongFalsely : Prop := graphWideRow.holds Tryz.pinned (OpenSpec.ofChange graphWideWrong)

/-- 'fieldfarelaw13.CodedFew': WHATEVER THE INPUT: true; the input reads as it did. -/
def codedFewSpec : ChangeSpec := { name := "codedFew", fn := fun _ => fun
  | [d1, d2, d3, d4, d5] => { results := [.lit (.bool true)], args := [d1, d2, d3, d4, d5] }
  | _ => none }
def codedFewRow : OpenClaim := { program := "ytofikbfljjjgeaagreatdoor", sum := "1f6be6b486a3bd1fa389392f2fb80f5abace59aada2d6d796914a5792363e02a", func := "fieldfare/fieldfarelaw13.CodedFew", spec := "codedFew", inPlace := ["slices.overlaps[fieldfare/api.Hit]", "slices.overlaps[int]", "internal/reflectlite.ValueOf", "(internal/reflectlite.Value).Type", "(internal/reflectlite.Value).IsNil", "internal/reflectlite.TypeOf", "(internal/reflectlite.Value).Elem", "(internal/reflectlite.Value).Set"], unfollowed := true, recurses := true, named := ["math/bits.deBruijn32tab", "errors.errorType"], apart := false, laid := [("math/bits.deBruijn32tab", laid_math_bits_deBruijn32tab), ("errors.errorType", laid_errors_errorType)] }
def CodedFewSaid : Prop := codedFewRow.holds Tryz.pinned (OpenSpec.ofChange codedFewSpec)

/-- ITS FALSE NEIGHBOUR: 'it returns false'. Refute it at one input. -/
def codedFewWrong : ChangeSpec := { name := "codedFew", fn := fun _ => fun
  | [d1, d2, d3, d4, d5] => { results := [.lit (.bool false)], args := [d1, d2, d3, d4, d5] }
  | _ => none }
def CodedFewWrongFalsely : Prop := codedFewRow.holds Tryz.pinned (OpenSpec.ofChange codedFewWrong)

/-- 'fieldfarelaw13.IndexFew': WHATEVER THE INPUT: true; the input reads as it did. -/
def indexFewSpec : ChangeSpec := { name := "indexFew", fn := fun _ => fun
  | [d1, d2, d3, d4, d5] => { results := [.lit (.bool true)], args := [d1, d2, d3, d4, d5] }
  | _ => none }
def indexFewRow : OpenClaim := { program := "ytofikbfljjjgeaagreatdoor", sum := "1f6be6b486a3bd1fa389392f2fb80f5abace59aada2d6d796914a5792363e02a", func := "fieldfare/fieldfarelaw13.IndexFew", spec := "indexFew", inPlace := ["slices.overlaps[fieldfare/api.Hit]", "slices.overlaps[int]", "internal/reflectlite.ValueOf", "(internal/reflectlite.Value).Type", "(internal/reflectlite.Value).IsNil", "internal/reflectlite.TypeOf", "(internal/reflectlite.Value).Elem", "(internal/reflectlite.Value).Set"], unfollowed := true, recurses := true, named := ["math/bits.deBruijn32tab", "errors.errorType"], apart := false, laid := [("math/bits.deBruijn32tab", laid_math_bits_deBruijn32tab), ("errors.errorType", laid_errors_errorType)] }
def IndexFewSaid : Prop := indexFewRow.holds Tryz.pinned (OpenSpec.ofChange indexFewSpec)

/-- ITS FALSE NEIGHBOUR: 'it returns false'. Refute it at one input. -/
def indexFewWrong : ChangeSpec := { name := "indexFew", fn := fun _ => fun
  | [d1, d2, d3, d4, d5] => { results := [.lit (.bool false)], args := [d1, d2, d3, d4, d5] }
  | _ => none }
def IndexFewWrongFalsely : Prop := indexFewRow.holds Tryz.pinned (OpenSpec.ofChange indexFewWrong)

/-- 'fieldfarelaw13.TrueSelf': WHATEVER THE INPUT: true; the input reads as it did. -/
def trueSelfSpec : ChangeSpec := { name := "trueSelf", fn := fun _ => fun
  | [d1, d2, d3] => { results := [.lit (.bool true)], args := [d1, d2, d3] }
  | _ => none }
def trueSelfRow : OpenClaim := { program := "ytofikbfljjjgeaagreatdoor", sum := "1f6be6b486a3bd1fa389392f2fb80f5abace59aada2d6d796914a5792363e02a", func := "fieldfare/fieldfarelaw13.TrueSelf", spec := "trueSelf", inPlace := ["slices.overlaps[fieldfare/api.Hit]", "slices.overlaps[int]", "internal/reflectlite.ValueOf", "(internal/reflectlite.Value).Type", "(internal/reflectlite.Value).IsNil", "internal/reflectlite.TypeOf", "(internal/reflectlite.Value).Elem", "(internal/reflectlite.Value).Set"], unfollowed := true, recurses := true, named := ["math/bits.deBruijn32tab", "errors.errorType"], apart := false, laid := [("math/bits.deBruijn32tab", laid_math_bits_deBruijn32tab), ("errors.errorType", laid_errors_errorType)] }
def TrueSelfSaid : Prop := trueSelfRow.holds Tryz.pinned (OpenSpec.ofChange trueSelfSpec)

/-- ITS FALSE NEIGHBOUR: 'it returns false'. Refute it at one input. -/
def trueSelfWrong : ChangeSpec := { name := "trueSelf", fn := fun _ => fun
  | [d1, d2, d3] => { results := [.lit (.bool false)], args := [d1, d2, d3] }
  | _ => none }
def TrueSelfWrongFalsely : Prop := trueSelfRow.holds Tryz.pinned (OpenSpec.ofChange trueSelfWrong)

/-- 'fieldfarelaw13.GraphBoth': WHATEVER THE INPUT: true; the input reads as it did. -/
def graphBothSpec : ChangeSpec := { name := "graphBoth", fn := fun _ => fun
  | [d] => { results := [.lit (.bool true)], args := [d] }
  | _ => none }
def graphBothRow : OpenClaim := { program := "ytofikbfljjjgeaagreatdoor", sum := "1f6be6b486a3bd1fa389392f2fb80f5abace59aada2d6d796914a5792363e02a", func := "fieldfare/fieldfarelaw13.GraphBoth", spec := "graphBoth", inPlace := ["slices.overlaps[fieldfare/api.Hit]", "slices.overlaps[int]", "internal/reflectlite.ValueOf", "(internal/reflectlite.Value).Type", "(internal/reflectlite.Value).IsNil", "internal/reflectlite.TypeOf", "(internal/reflectlite.Value).Elem", "(internal/reflectlite.Value).Set"], unfollowed := true, recurses := true, named := ["math/bits.deBruijn32tab", "errors.errorType"], apart := false, laid := [("math/bits.deBruijn32tab", laid_math_bits_deBruijn32tab), ("errors.errorType", laid_errors_errorType)] }
def GraphBothSaid : Prop := graphBothRow.holds Tryz.pinned (OpenSpec.ofChange graphBothSpec)

/-- ITS FALSE NEIGHBOUR: 'it returns false'. Refute it at one input. -/
def graphBothWrong : ChangeSpec := { name := "graphBoth", fn := fun _ => fun
  | [d] => { results := [.lit (.bool false)], args := [d] }
  | _ => none }
def GraphBothWrongFalsely : Prop := graphBothRow.holds Tryz.pinned (OpenSpec.ofChange graphBothWrong)

/-- 'fieldfarelaw13.CodedTrue': WHATEVER THE INPUT: true; the input reads as it did. -/
def codedTrueSpec : ChangeSpec := { name := "codedTrue", fn := fun _ => fun
  | [d1, d2] => { results := [.lit (.bool true)], args := [d1, d2] }
  | _ => none }
def codedTrueRow : OpenClaim := { program := "ytofikbfljjjgeaagreatdoor", sum := "1f6be6b486a3bd1fa389392f2fb80f5abace59aada2d6d796914a5792363e02a", func := "fieldfare/fieldfarelaw13.CodedTrue", spec := "codedTrue", inPlace := ["slices.overlaps[fieldfare/api.Hit]", "slices.overlaps[int]", "internal/reflectlite.ValueOf", "(internal/reflectlite.Value).Type", "(internal/reflectlite.Value).IsNil", "internal/reflectlite.TypeOf", "(internal/reflectlite.Value).Elem", "(internal/reflectlite.Value).Set"], unfollowed := true, recurses := true, named := ["math/bits.deBruijn32tab", "errors.errorType"], apart := false, laid := [("math/bits.deBruijn32tab", laid_math_bits_deBruijn32tab), ("errors.errorType", laid_errors_errorType)] }
def CodedTrueSaid : Prop := codedTrueRow.holds Tryz.pinned (OpenSpec.ofChange codedTrueSpec)

/-- ITS FALSE NEIGHBOUR: 'it returns false'. Refute it at one input. -/
def codedTrueWrong : ChangeSpec := { name := "codedTrue", fn := fun _ => fun
  | [d1, d2] => { results := [.lit (.bool false)], args := [d1, d2] }
  | _ => none }
def CodedTrueWrongFalsely : Prop := codedTrueRow.holds Tryz.pinned (OpenSpec.ofChange codedTrueWrong)

/-- 'fieldfarelaw13.IndexAll': WHATEVER THE INPUT: true; the input reads as it did. -/
def indexAllSpec : ChangeSpec := { name := "indexAll", fn := fun _ => fun
  | [d1, d2, d3, d4, d5, d6] => { results := [.lit (.bool true)], args := [d1, d2, d3, d4, d5, d6] }
  | _ => none }
def indexAllRow : OpenClaim := { program := "ytofikbfljjjgeaagreatdoor", sum := "1f6be6b486a3bd1fa389392f2fb80f5abace59aada2d6d796914a5792363e02a", func := "fieldfare/fieldfarelaw13.IndexAll", spec := "indexAll", inPlace := ["slices.overlaps[fieldfare/api.Hit]", "slices.overlaps[int]", "internal/reflectlite.ValueOf", "(internal/reflectlite.Value).Type", "(internal/reflectlite.Value).IsNil", "internal/reflectlite.TypeOf", "(internal/reflectlite.Value).Elem", "(internal/reflectlite.Value).Set"], unfollowed := true, recurses := true, named := ["math/bits.deBruijn32tab", "errors.errorType"], apart := false, laid := [("math/bits.deBruijn32tab", laid_math_bits_deBruijn32tab), ("errors.errorType", laid_errors_errorType)] }
def IndexAllSaid : Prop := indexAllRow.holds Tryz.pinned (OpenSpec.ofChange indexAllSpec)

/-- ITS FALSE NEIGHBOUR: 'it returns false'. Refute it at one input. -/
def indexAllWrong : ChangeSpec := { name := "indexAll", fn := fun _ => fun
  | [d1, d2, d3, d4, d5, d6] => { results := [.lit (.bool false)], args := [d1, d2, d3, d4, d5, d6] }
  | _ => none }
def IndexAllWrongFalsely : Prop := indexAllRow.holds Tryz.pinned (OpenSpec.ofChange indexAllWrong)

/-- 'fieldfarelaw13.GraphAll': WHATEVER THE INPUT: true; the input reads as it did. -/
def graphAllSpec : ChangeSpec := { name := "graphAll", fn := fun _ => fun
  | [d1, d2, d3] => { results := [.lit (.bool true)], args := [d1, d2, d3] }
  | _ => none }
def graphAllRow : OpenClaim := { program := "ytofikbfljjjgeaagreatdoor", sum := "1f6be6b486a3bd1fa389392f2fb80f5abace59aada2d6d796914a5792363e02a", func := "fieldfare/fieldfarelaw13.GraphAll", spec := "graphAll", inPlace := ["slices.overlaps[fieldfare/api.Hit]", "slices.overlaps[int]", "internal/reflectlite.ValueOf", "(internal/reflectlite.Value).Type", "(internal/reflectlite.Value).IsNil", "internal/reflectlite.TypeOf", "(internal/reflectlite.Value).Elem", "(internal/reflectlite.Value).Set"], unfollowed := true, recurses := true, named := ["math/bits.deBruijn32tab", "errors.errorType"], apart := false, laid := [("math/bits.deBruijn32tab", laid_math_bits_deBruijn32tab), ("errors.errorType", laid_errors_errorType)] }
def GraphAllSaid : Prop := graphAllRow.holds Tryz.pinned (OpenSpec.ofChange graphAllSpec)

/-- ITS FALSE NEIGHBOUR: 'it returns false'. Refute it at one input. -/
def graphAllWrong : ChangeSpec := { name := "graphAll", fn := fun _ => fun
  | [d1, d2, d3] => { results := [.lit (.bool false)], args := [d1, d2, d3] }
  | _ => none }
def GraphAllWrongFalsely : Prop := graphAllRow.holds Tryz.pinned (OpenSpec.ofChange graphAllWrong)

/-- 'fieldfarelaw13.IvfAll': WHATEVER THE INPUT: true; the input reads as it did. -/
def ivfAllSpec : ChangeSpec := { name := "ivfAll", fn := fun _ => fun
  | [d1, d2, d3, d4] => { results := [.lit (.bool true)], args := [d1, d2, d3, d4] }
  | _ => none }
def ivfAllRow : OpenClaim := { program := "ytofikbfljjjgeaagreatdoor", sum := "1f6be6b486a3bd1fa389392f2fb80f5abace59aada2d6d796914a5792363e02a", func := "fieldfare/fieldfarelaw13.IvfAll", spec := "ivfAll", inPlace := ["slices.overlaps[fieldfare/api.Hit]", "slices.overlaps[int]", "internal/reflectlite.ValueOf", "(internal/reflectlite.Value).Type", "(internal/reflectlite.Value).IsNil", "internal/reflectlite.TypeOf", "(internal/reflectlite.Value).Elem", "(internal/reflectlite.Value).Set"], unfollowed := true, recurses := true, named := ["math/bits.deBruijn32tab", "errors.errorType"], apart := false, laid := [("math/bits.deBruijn32tab", laid_math_bits_deBruijn32tab), ("errors.errorType", laid_errors_errorType)] }
def IvfAllSaid : Prop := ivfAllRow.holds Tryz.pinned (OpenSpec.ofChange ivfAllSpec)

/-- ITS FALSE NEIGHBOUR: 'it returns false'. Refute it at one input. -/
def ivfAllWrong : ChangeSpec := { name := "ivfAll", fn := fun _ => fun
  | [d1, d2, d3, d4] => { results := [.lit (.bool false)], args := [d1, d2, d3, d4] }
  | _ => none }
def IvfAllWrongFalsely : Prop := ivfAllRow.holds Tryz.pinned (OpenSpec.ofChange ivfAllWrong)

/-- 'fieldfarelaw13.CodedAll': WHATEVER THE INPUT: true; the input reads as it did. -/
def codedAllSpec : ChangeSpec := { name := "codedAll", fn := fun _ => fun
  | [d1, d2, d3, d4] => { results := [.lit (.bool true)], args := [d1, d2, d3, d4] }
  | _ => none }
def codedAllRow : OpenClaim := { program := "ytofikbfljjjgeaagreatdoor", sum := "1f6be6b486a3bd1fa389392f2fb80f5abace59aada2d6d796914a5792363e02a", func := "fieldfare/fieldfarelaw13.CodedAll", spec := "codedAll", inPlace := ["slices.overlaps[fieldfare/api.Hit]", "slices.overlaps[int]", "internal/reflectlite.ValueOf", "(internal/reflectlite.Value).Type", "(internal/reflectlite.Value).IsNil", "internal/reflectlite.TypeOf", "(internal/reflectlite.Value).Elem", "(internal/reflectlite.Value).Set"], unfollowed := true, recurses := true, named := ["math/bits.deBruijn32tab", "errors.errorType"], apart := false, laid := [("math/bits.deBruijn32tab", laid_math_bits_deBruijn32tab), ("errors.errorType", laid_errors_errorType)] }
def CodedAllSaid : Prop := codedAllRow.holds Tryz.pinned (OpenSpec.ofChange codedAllSpec)

/-- ITS FALSE NEIGHBOUR: 'it returns false'. Refute it at one input. -/
def codedAllWrong : ChangeSpec := { name := "codedAll", fn := fun _ => fun
  | [d1, d2, d3, d4] => { results := [.lit (.bool false)], args := [d1, d2, d3, d4] }
  | _ => none }
def CodedAllWrongFalsely : Prop := codedAllRow.holds Tryz.pinned (OpenSpec.ofChange codedAllWrong)

/- THE SECOND FORM. 'bulk': how many values and letters a reading holds, each counted each time it is reached (what is shared counts as often as it is met; a slice's spare places count too). A statement '..UptoSaid' is the law's where the arguments, and the package variables that the reading takes, are together of bulk at most 1048576: NARROWER than '..Said'. Prove '..Said' where nothing that the law and all that it calls make is longer than what came in: it says more and counts as full. Else prove '..UptoSaid'. A law counts once. -/
mutual
def uptoBulk {H : Type} : DataW H → Nat
  | .lit (.string bytes) => bytes.length + 1
  | .lit _ => 1
  | .nil => 1
  | .ptr d => uptoBulk d + 1
  | .slice elems spare => uptoBulkAll elems + uptoBulkAll spare + 1
  | .agg parts => uptoBulkAll parts + 1
  | .iface _ d => uptoBulk d + 1
  | .map entries => uptoBulkEntries entries + 1
  | .held _ => 1
def uptoBulkAll {H : Type} : List (DataW H) → Nat
  | [] => 0
  | d :: r => uptoBulk d + uptoBulkAll r
def uptoBulkEntries {H : Type} : List (Lit × DataW H) → Nat
  | [] => 0
  | x :: r => uptoBulkEntry x + uptoBulkEntries r
def uptoBulkEntry {H : Type} : Lit × DataW H → Nat
  | (.string bytes, d) => bytes.length + uptoBulk d + 1
  | (_, d) => uptoBulk d + 1
 end
def uptoSmall : (H : Type) → List (DataW H) → Bool := fun _ ds => decide (uptoBulkAll ds ≤ 1048576)
def OpenSpec.upto (s : _root_.Go.ChangeSpec) : _root_.Go.OpenSpec := { _root_.Go.OpenSpec.ofChange s with cond := some uptoSmall }

/-- 'fieldfarelaw13.GraphFew', WHERE WHAT IT READS IS OF BULK AT MOST 1048576: true; the input reads as it did. -/
def graphFewUptoRow : OpenClaim := { program := "ytofikbfljjjgeaagreatdoor", sum := "1f6be6b486a3bd1fa389392f2fb80f5abace59aada2d6d796914a5792363e02a", func := "fieldfare/fieldfarelaw13.GraphFew", spec := "graphFew", inPlace := ["slices.overlaps[fieldfare/api.Hit]", "slices.overlaps[int]", "internal/reflectlite.ValueOf", "(internal/reflectlite.Value).Type", "(internal/reflectlite.Value).IsNil", "internal/reflectlite.TypeOf", "(internal/reflectlite.Value).Elem", "(internal/reflectlite.Value).Set"], unfollowed := true, recurses := true, named := ["math/bits.deBruijn32tab", "errors.errorType"], apart := false, laid := [("math/bits.deBruijn32tab", laid_math_bits_deBruijn32tab), ("errors.errorType", laid_errors_errorType)], narrowed := true }
def GraphFewUptoSaid : Prop := graphFewUptoRow.holds Tryz.pinned (OpenSpec.upto graphFewSpec)

/-- 'fieldfarelaw13.GraphEntry', WHERE WHAT IT READS IS OF BULK AT MOST 1048576: true; the input reads as it did. -/
def graphEntryUptoRow : OpenClaim := { program := "ytofikbfljjjgeaagreatdoor", sum := "1f6be6b486a3bd1fa389392f2fb80f5abace59aada2d6d796914a5792363e02a", func := "fieldfare/fieldfarelaw13.GraphEntry", spec := "graphEntry", inPlace := ["slices.overlaps[fieldfare/api.Hit]", "slices.overlaps[int]", "internal/reflectlite.ValueOf", "(internal/reflectlite.Value).Type", "(internal/reflectlite.Value).IsNil", "internal/reflectlite.TypeOf", "(internal/reflectlite.Value).Elem", "(internal/reflectlite.Value).Set"], unfollowed := true, recurses := true, named := ["math/bits.deBruijn32tab", "errors.errorType"], apart := false, laid := [("math/bits.deBruijn32tab", laid_math_bits_deBruijn32tab), ("errors.errorType", laid_errors_errorType)], narrowed := true }
def GraphEntryUptoSaid : Prop := graphEntryUptoRow.holds Tryz.pinned (OpenSpec.upto graphEntrySpec)

/-- 'fieldfarelaw13.GraphWide', WHERE WHAT IT READS IS OF BULK AT MOST 1048576: true; the input reads as it did. -/
def graphWideUptoRow : OpenClaim := { program := "ytofikbfljjjgeaagreatdoor", sum := "1f6be6b486a3bd1fa389392f2fb80f5abace59aada2d6d796914a5792363e02a", func := "fieldfare/fieldfarelaw13.GraphWide", spec := "graphWide", inPlace := ["slices.overlaps[fieldfare/api.Hit]", "slices.overlaps[int]", "internal/reflectlite.ValueOf", "(internal/reflectlite.Value).Type", "(internal/reflectlite.Value).IsNil", "internal/reflectlite.TypeOf", "(internal/reflectlite.Value).Elem", "(internal/reflectlite.Value).Set"], unfollowed := true, recurses := true, named := ["math/bits.deBruijn32tab", "errors.errorType"], apart := false, laid := [("math/bits.deBruijn32tab", laid_math_bits_deBruijn32tab), ("errors.errorType", laid_errors_errorType)], narrowed := true }
def GraphWideUptoSaid : Prop := graphWideUptoRow.holds Tryz.pinned (OpenSpec.upto graphWideSpec)

/-- 'fieldfarelaw13.CodedFew', WHERE WHAT IT READS IS OF BULK AT MOST 1048576: true; the input reads as it did. -/
def codedFewUptoRow : OpenClaim := { program := "ytofikbfljjjgeaagreatdoor", sum := "1f6be6b486a3bd1fa389392f2fb80f5abace59aada2d6d796914a5792363e02a", func := "fieldfare/fieldfarelaw13.CodedFew", spec := "codedFew", inPlace := ["slices.overlaps[fieldfare/api.Hit]", "slices.overlaps[int]", "internal/reflectlite.ValueOf", "(internal/reflectlite.Value).Type", "(internal/reflectlite.Value).IsNil", "internal/reflectlite.TypeOf", "(internal/reflectlite.Value).Elem", "(internal/reflectlite.Value).Set"], unfollowed := true, recurses := true, named := ["math/bits.deBruijn32tab", "errors.errorType"], apart := false, laid := [("math/bits.deBruijn32tab", laid_math_bits_deBruijn32tab), ("errors.errorType", laid_errors_errorType)], narrowed := true }
def CodedFewUptoSaid : Prop := codedFewUptoRow.holds Tryz.pinned (OpenSpec.upto codedFewSpec)

/-- 'fieldfarelaw13.IndexFew', WHERE WHAT IT READS IS OF BULK AT MOST 1048576: true; the input reads as it did. -/
def indexFewUptoRow : OpenClaim := { program := "ytofikbfljjjgeaagreatdoor", sum := "1f6be6b486a3bd1fa389392f2fb80f5abace59aada2d6d796914a5792363e02a", func := "fieldfare/fieldfarelaw13.IndexFew", spec := "indexFew", inPlace := ["slices.overlaps[fieldfare/api.Hit]", "slices.overlaps[int]", "internal/reflectlite.ValueOf", "(internal/reflectlite.Value).Type", "(internal/reflectlite.Value).IsNil", "internal/reflectlite.TypeOf", "(internal/reflectlite.Value).Elem", "(internal/reflectlite.Value).Set"], unfollowed := true, recurses := true, named := ["math/bits.deBruijn32tab", "errors.errorType"], apart := false, laid := [("math/bits.deBruijn32tab", laid_math_bits_deBruijn32tab), ("errors.errorType", laid_errors_errorType)], narrowed := true }
def IndexFewUptoSaid : Prop := indexFewUptoRow.holds Tryz.pinned (OpenSpec.upto indexFewSpec)

/-- 'fieldfarelaw13.TrueSelf', WHERE WHAT IT READS IS OF BULK AT MOST 1048576: true; the input reads as it did. -/
def trueSelfUptoRow : OpenClaim := { program := "ytofikbfljjjgeaagreatdoor", sum := "1f6be6b486a3bd1fa389392f2fb80f5abace59aada2d6d796914a5792363e02a", func := "fieldfare/fieldfarelaw13.TrueSelf", spec := "trueSelf", inPlace := ["slices.overlaps[fieldfare/api.Hit]", "slices.overlaps[int]", "internal/reflectlite.ValueOf", "(internal/reflectlite.Value).Type", "(internal/reflectlite.Value).IsNil", "internal/reflectlite.TypeOf", "(internal/reflectlite.Value).Elem", "(internal/reflectlite.Value).Set"], unfollowed := true, recurses := true, named := ["math/bits.deBruijn32tab", "errors.errorType"], apart := false, laid := [("math/bits.deBruijn32tab", laid_math_bits_deBruijn32tab), ("errors.errorType", laid_errors_errorType)], narrowed := true }
def TrueSelfUptoSaid : Prop := trueSelfUptoRow.holds Tryz.pinned (OpenSpec.upto trueSelfSpec)

/-- 'fieldfarelaw13.GraphBoth', WHERE WHAT IT READS IS OF BULK AT MOST 1048576: true; the input reads as it did. -/
def graphBothUptoRow : OpenClaim := { program := "ytofikbfljjjgeaagreatdoor", sum := "1f6be6b486a3bd1fa389392f2fb80f5abace59aada2d6d796914a5792363e02a", func := "fieldfare/fieldfarelaw13.GraphBoth", spec := "graphBoth", inPlace := ["slices.overlaps[fieldfare/api.Hit]", "slices.overlaps[int]", "internal/reflectlite.ValueOf", "(internal/reflectlite.Value).Type", "(internal/reflectlite.Value).IsNil", "internal/reflectlite.TypeOf", "(internal/reflectlite.Value).Elem", "(internal/reflectlite.Value).Set"], unfollowed := true, recurses := true, named := ["math/bits.deBruijn32tab", "errors.errorType"], apart := false, laid := [("math/bits.deBruijn32tab", laid_math_bits_deBruijn32tab), ("errors.errorType", laid_errors_errorType)], narrowed := true }
def GraphBothUptoSaid : Prop := graphBothUptoRow.holds Tryz.pinned (OpenSpec.upto graphBothSpec)

/-- 'fieldfarelaw13.CodedTrue', WHERE WHAT IT READS IS OF BULK AT MOST 1048576: true; the input reads as it did. -/
def codedTrueUptoRow : OpenClaim := { program := "ytofikbfljjjgeaagreatdoor", sum := "1f6be6b486a3bd1fa389392f2fb80f5abace59aada2d6d796914a5792363e02a", func := "fieldfare/fieldfarelaw13.CodedTrue", spec := "codedTrue", inPlace := ["slices.overlaps[fieldfare/api.Hit]", "slices.overlaps[int]", "internal/reflectlite.ValueOf", "(internal/reflectlite.Value).Type", "(internal/reflectlite.Value).IsNil", "internal/reflectlite.TypeOf", "(internal/reflectlite.Value).Elem", "(internal/reflectlite.Value).Set"], unfollowed := true, recurses := true, named := ["math/bits.deBruijn32tab", "errors.errorType"], apart := false, laid := [("math/bits.deBruijn32tab", laid_math_bits_deBruijn32tab), ("errors.errorType", laid_errors_errorType)], narrowed := true }
def CodedTrueUptoSaid : Prop := codedTrueUptoRow.holds Tryz.pinned (OpenSpec.upto codedTrueSpec)

/-- 'fieldfarelaw13.IndexAll', WHERE WHAT IT READS IS OF BULK AT MOST 1048576: true; the input reads as it did. -/
def indexAllUptoRow : OpenClaim := { program := "ytofikbfljjjgeaagreatdoor", sum := "1f6be6b486a3bd1fa389392f2fb80f5abace59aada2d6d796914a5792363e02a", func := "fieldfare/fieldfarelaw13.IndexAll", spec := "indexAll", inPlace := ["slices.overlaps[fieldfare/api.Hit]", "slices.overlaps[int]", "internal/reflectlite.ValueOf", "(internal/reflectlite.Value).Type", "(internal/reflectlite.Value).IsNil", "internal/reflectlite.TypeOf", "(internal/reflectlite.Value).Elem", "(internal/reflectlite.Value).Set"], unfollowed := true, recurses := true, named := ["math/bits.deBruijn32tab", "errors.errorType"], apart := false, laid := [("math/bits.deBruijn32tab", laid_math_bits_deBruijn32tab), ("errors.errorType", laid_errors_errorType)], narrowed := true }
def IndexAllUptoSaid : Prop := indexAllUptoRow.holds Tryz.pinned (OpenSpec.upto indexAllSpec)

/-- 'fieldfarelaw13.GraphAll', WHERE WHAT IT READS IS OF BULK AT MOST 1048576: true; the input reads as it did. -/
def graphAllUptoRow : OpenClaim := { program := "ytofikbfljjjgeaagreatdoor", sum := "1f6be6b486a3bd1fa389392f2fb80f5abace59aada2d6d796914a5792363e02a", func := "fieldfare/fieldfarelaw13.GraphAll", spec := "graphAll", inPlace := ["slices.overlaps[fieldfare/api.Hit]", "slices.overlaps[int]", "internal/reflectlite.ValueOf", "(internal/reflectlite.Value).Type", "(internal/reflectlite.Value).IsNil", "internal/reflectlite.TypeOf", "(internal/reflectlite.Value).Elem", "(internal/reflectlite.Value).Set"], unfollowed := true, recurses := true, named := ["math/bits.deBruijn32tab", "errors.errorType"], apart := false, laid := [("math/bits.deBruijn32tab", laid_math_bits_deBruijn32tab), ("errors.errorType", laid_errors_errorType)], narrowed := true }
def GraphAllUptoSaid : Prop := graphAllUptoRow.holds Tryz.pinned (OpenSpec.upto graphAllSpec)

/-- 'fieldfarelaw13.IvfAll', WHERE WHAT IT READS IS OF BULK AT MOST 1048576: true; the input reads as it did. -/
def ivfAllUptoRow : OpenClaim := { program := "ytofikbfljjjgeaagreatdoor", sum := "1f6be6b486a3bd1fa389392f2fb80f5abace59aada2d6d796914a5792363e02a", func := "fieldfare/fieldfarelaw13.IvfAll", spec := "ivfAll", inPlace := ["slices.overlaps[fieldfare/api.Hit]", "slices.overlaps[int]", "internal/reflectlite.ValueOf", "(internal/reflectlite.Value).Type", "(internal/reflectlite.Value).IsNil", "internal/reflectlite.TypeOf", "(internal/reflectlite.Value).Elem", "(internal/reflectlite.Value).Set"], unfollowed := true, recurses := true, named := ["math/bits.deBruijn32tab", "errors.errorType"], apart := false, laid := [("math/bits.deBruijn32tab", laid_math_bits_deBruijn32tab), ("errors.errorType", laid_errors_errorType)], narrowed := true }
def IvfAllUptoSaid : Prop := ivfAllUptoRow.holds Tryz.pinned (OpenSpec.upto ivfAllSpec)

/-- 'fieldfarelaw13.CodedAll', WHERE WHAT IT READS IS OF BULK AT MOST 1048576: true; the input reads as it did. -/
def codedAllUptoRow : OpenClaim := { program := "ytofikbfljjjgeaagreatdoor", sum := "1f6be6b486a3bd1fa389392f2fb80f5abace59aada2d6d796914a5792363e02a", func := "fieldfare/fieldfarelaw13.CodedAll", spec := "codedAll", inPlace := ["slices.overlaps[fieldfare/api.Hit]", "slices.overlaps[int]", "internal/reflectlite.ValueOf", "(internal/reflectlite.Value).Type", "(internal/reflectlite.Value).IsNil", "internal/reflectlite.TypeOf", "(internal/reflectlite.Value).Elem", "(internal/reflectlite.Value).Set"], unfollowed := true, recurses := true, named := ["math/bits.deBruijn32tab", "errors.errorType"], apart := false, laid := [("math/bits.deBruijn32tab", laid_math_bits_deBruijn32tab), ("errors.errorType", laid_errors_errorType)], narrowed := true }
def CodedAllUptoSaid : Prop := codedAllUptoRow.holds Tryz.pinned (OpenSpec.upto codedAllSpec)

end Rows
end Go.Proofs.YtofikbfljjjgeaaGreatDoor
