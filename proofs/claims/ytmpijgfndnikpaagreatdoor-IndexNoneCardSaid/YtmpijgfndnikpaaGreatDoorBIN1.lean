/- IndexNone answers true and turns nothing that lay before, in a world in which the listed variables are as laid: one run of the abstract machine. -/
import Derived.Test.YtmpijgfndnikpaaGreatDoorBS14
set_option linter.unusedVariables false
set_option linter.unusedSimpArgs false
namespace Go.Ab.Seat
open Go.Extern Go.Proofs Go.RowKit
set_option maxRecDepth 1000000

def fIndexNone : Nat := 3
theorem indexNone_run : isTrue (callB C18 (exec C18 eg 10000) fIndexNone [] s0) = true := by kernel_rfl
theorem indexNone_walk {w : World} (hw : Laid w) : Calls Tryz.prog 3 #[] w fun e w' => e = .returned (.bool true) ∧ Below w.heap.size w w' :=
  Calls.mono (closed_true whole18 indexNone_run hw).2 fun _ _ h => ⟨h.1, h.2.os, h.2.tape, h.2.output, h.2.size, h.2.heap⟩
#print axioms indexNone_walk
end Go.Ab.Seat
