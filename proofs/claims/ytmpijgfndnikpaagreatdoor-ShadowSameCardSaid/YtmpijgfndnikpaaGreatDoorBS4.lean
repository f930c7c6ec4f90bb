/- The methods of reflectlite's rtype; all contracts together. -/
import Derived.Test.YtmpijgfndnikpaaGreatDoorBS3
set_option linter.unusedVariables false
set_option linter.unusedSimpArgs false
namespace Go.Ab.Seat
open Go.Extern Go.Proofs
set_option maxRecDepth 1000000

theorem cKindPE (w : World) : (callMethod (.iface tRt (.agg #[hd tPE])) "Kind" #[]).run Tryz.prog w = .ok (.value (.int .u8 22)) w := by kernel_rfl
theorem cKindE (w : World) : (callMethod (.iface tRt (.agg #[hd tErrno])) "Kind" #[]).run Tryz.prog w = .ok (.value (.int .u8 2)) w := by kernel_rfl
theorem cElemPE (w : World) : (callMethod (.iface tRt (.agg #[hd tPE])) "Elem" #[]).run Tryz.prog w = .ok (.value (rt tErrno)) w := by kernel_rfl
theorem cImpl (w : World) : (callMethod (.iface tRt (.agg #[hd tErrno])) "Implements" #[.iface tRt (.agg #[hd tErr])]).run Tryz.prog w = .ok (.value (.bool true)) w := by kernel_rfl
theorem cAssE (w : World) : (callMethod (.iface tRt (.agg #[hd tErrno])) "AssignableTo" #[.iface tRt (.agg #[hd tErrno])]).run Tryz.prog w = .ok (.value (.bool true)) w := by kernel_rfl
theorem cAssAt (w : World) : (callMethod (.iface tRt (.agg #[hd tAt])) "AssignableTo" #[.iface tRt (.agg #[hd tErrno])]).run Tryz.prog w = .ok (.value (.bool false)) w := by kernel_rfl
theorem cComp (w : World) : (callMethod (.iface tRt (.agg #[hd tErrno])) "Comparable" #[]).run Tryz.prog w = .ok (.value (.bool true)) w := by kernel_rfl
end Go.Ab.Seat
