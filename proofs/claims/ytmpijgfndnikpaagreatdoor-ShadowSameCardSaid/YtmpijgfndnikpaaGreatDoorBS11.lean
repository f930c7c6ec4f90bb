/- Law 7's Begun answers true. -/
import Derived.Test.YtmpijgfndnikpaaGreatDoorBS10
set_option linter.unusedVariables false
set_option linter.unusedSimpArgs false
namespace Go.Ab.Seat
open Go.Extern Go.Proofs
set_option maxRecDepth 1000000

def fBegun7 : Nat := 102

noncomputable def sm7 : Nat → Option (List Value → M Value) := smIns fun f => bif Nat.beq f fSorted then some (sumSorted kindOf) else bif Nat.beq f fBegun4 then some gTrue else bif Nat.beq f fBegun1 then some gTrue else none
noncomputable def C7 : Ctx := Cs sm7
theorem whole7 : C7.Whole eg Tryz.prog 3 := whole _ (smOk _ (smIns_one (one_more smSorted (one_more begun4 (one_more begun1 fun f g hg => by cases hg)))))
theorem run7 : isTrue (callB C7 (exec C7 eg 10000) fBegun7 [] s0) = true := by kernel_rfl
theorem begun7 : SmOne fBegun7 gTrue := known_true fun _ hw => closed_true whole7 run7 hw
#print axioms begun7
end Go.Ab.Seat
