/- Law 13's begun answers true. -/
import Derived.Test.YtmpijgfndnikpaaGreatDoorBS11
set_option linter.unusedVariables false
set_option linter.unusedSimpArgs false
namespace Go.Ab.Seat
open Go.Extern Go.Proofs
set_option maxRecDepth 1000000

def fBegun13 : Nat := 25

noncomputable def sm13 : Nat → Option (List Value → M Value) := smIns fun f => bif Nat.beq f fSorted then some (sumSorted kindOf) else bif Nat.beq f fBegun7 then some gTrue else bif Nat.beq f fBegun4 then some gTrue else bif Nat.beq f fBegun1 then some gTrue else none
noncomputable def C13 : Ctx := Cs sm13
theorem whole13 : C13.Whole eg Tryz.prog 3 := whole _ (smOk _ (smIns_one (one_more smSorted (one_more begun7 (one_more begun4 (one_more begun1 fun f g hg => by cases hg))))))
theorem run13 : isTrue (callB C13 (exec C13 eg 10000) fBegun13 [] s0) = true := by kernel_rfl
theorem begun13_calls {w : World} (hw : Laid w) : Callable Tryz.prog fBegun13 ∧ Calls Tryz.prog fBegun13 #[] w fun e w' => e = .returned (.bool true) ∧ Left w w' := closed_true whole13 run13 hw
theorem begun13 : SmOne fBegun13 gTrue := known_true fun _ hw => begun13_calls hw
#print axioms begun13
end Go.Ab.Seat
