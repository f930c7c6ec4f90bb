/- Law 18's begun answers true. -/
import Derived.Test.YtmpijgfndnikpaaGreatDoorBS14
set_option linter.unusedVariables false
set_option linter.unusedSimpArgs false
namespace Go.Ab.Seat
open Go.Extern Go.Proofs
set_option maxRecDepth 1000000

theorem run18 : isTrue (callB C18 (exec C18 eg 10000) fBegun18 [] s0) = true := by kernel_rfl
theorem begun18_calls {w : World} (hw : Laid w) : Callable Tryz.prog fBegun18 ∧ Calls Tryz.prog fBegun18 #[] w fun e w' => e = .returned (.bool true) ∧ Left w w' := closed_true whole18 run18 hw
theorem begun18 : SmOne fBegun18 gTrue := known_true fun _ hw => begun18_calls hw
#print axioms begun18
end Go.Ab.Seat
