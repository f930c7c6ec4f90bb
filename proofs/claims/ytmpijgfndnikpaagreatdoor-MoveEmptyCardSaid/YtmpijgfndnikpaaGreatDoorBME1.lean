/- MoveEmpty: runs of the abstract machine from the index's making on. -/
import Derived.Test.YtmpijgfndnikpaaGreatDoorBS15
import Derived.Test.YtmpijgfndnikpaaGreatDoorBS16
import Derived.Test.YtmpijgfndnikpaaGreatDoorE27
set_option linter.unusedVariables false
set_option linter.unusedSimpArgs false
namespace Go.Ab.Seat
open Go.Extern Go.Proofs
set_option maxRecDepth 1000000

noncomputable def bodyOf (fn : Func) : Code := match fn.body with | some b => b | none => .skip
noncomputable def meTail : Code := Code.r (Code.r (Code.r (Code.r (Code.r (bodyOf Tryz.f5)))))
noncomputable def meKm : Nat := (kms[5]?).getD 0
noncomputable def meRun (f t m d : Nat) : Bool := isT (tailB C18 eg 5000 meKm (Code.l meTail) (Code.r meTail) (envOf meKm [.int .i64 (Int.ofNat f), .int .i64 (Int.ofNat t), .int .i64 (Int.ofNat m), .int .i64 (Int.ofNat d)]) Tryz.f5.results.toList s0)
noncomputable def meRow (f t m : Nat) : Bool := allB (fun d => meRun f t m (Nat.add d 1)) (List.range 8)
theorem meRow121 : meRow 1 2 1 = true := by kernel_rfl
theorem meRow122 : meRow 1 2 2 = true := by kernel_rfl
theorem meRow131 : meRow 1 3 1 = true := by kernel_rfl
theorem meRow132 : meRow 1 3 2 = true := by kernel_rfl
theorem meRow141 : meRow 1 4 1 = true := by kernel_rfl
theorem meRow142 : meRow 1 4 2 = true := by kernel_rfl
theorem meRow211 : meRow 2 1 1 = true := by kernel_rfl
theorem meRow212 : meRow 2 1 2 = true := by kernel_rfl
theorem meRow231 : meRow 2 3 1 = true := by kernel_rfl
theorem meRow232 : meRow 2 3 2 = true := by kernel_rfl
theorem meRow241 : meRow 2 4 1 = true := by kernel_rfl
theorem meRow242 : meRow 2 4 2 = true := by kernel_rfl
theorem meRow311 : meRow 3 1 1 = true := by kernel_rfl
theorem meRow312 : meRow 3 1 2 = true := by kernel_rfl
theorem meRow321 : meRow 3 2 1 = true := by kernel_rfl
theorem meRow322 : meRow 3 2 2 = true := by kernel_rfl
theorem meRow341 : meRow 3 4 1 = true := by kernel_rfl
theorem meRow342 : meRow 3 4 2 = true := by kernel_rfl
theorem meRow411 : meRow 4 1 1 = true := by kernel_rfl
theorem meRow412 : meRow 4 1 2 = true := by kernel_rfl
theorem meRow421 : meRow 4 2 1 = true := by kernel_rfl
theorem meRow422 : meRow 4 2 2 = true := by kernel_rfl
theorem meRow431 : meRow 4 3 1 = true := by kernel_rfl
theorem meRow432 : meRow 4 3 2 = true := by kernel_rfl

theorem meOk1 : codeOk C18 3 Tryz.f5.ntmps (Code.l meTail) = true := by kernel_rfl
theorem meOk2 : codeOk C18 3 Tryz.f5.ntmps (Code.r meTail) = true := by kernel_rfl
end Go.Ab.Seat
