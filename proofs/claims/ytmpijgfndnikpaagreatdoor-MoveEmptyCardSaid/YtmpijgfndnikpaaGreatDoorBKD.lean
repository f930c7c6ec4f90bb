/- Two unlike kinds. -/
import Derived.Test.YtmpijgfndnikpaaGreatDoorBS16
import Derived.Test.YtmpijgfndnikpaaGreatDoorE30
import Derived.WalkKit
set_option linter.unusedVariables false
set_option linter.unusedSimpArgs false
namespace Go.Proofs.YtmpijgfndnikpaaGreatDoor
open Go.RowKit Go.Ab Go.Ab.Seat
set_option maxHeartbeats 4000000 in
theorem kindsC (f t : Int) (w : World) : Calls Tryz.prog 64 #[.int .i64 f, .int .i64 t] w fun e w' => ∃ a b : Nat, e = .returned (.tuple #[.int .i64 (a : Int), .int .i64 (b : Int)]) ∧ w' = w ∧ 1 ≤ a ∧ a ≤ 4 ∧ 1 ≤ b ∧ b ≤ 4 ∧ a ≠ b := by
  obtain ⟨r, hr, er⟩ := and3 f
  obtain ⟨s, hs, es⟩ := and3 t
  have e1 : wrap64 (1 + (r : Int)) = ((r + 1 : Nat) : Int) := by rw [wrap64_id (by omega) (by omega)]; omega
  have e2 : wrap64 (1 + (s : Int)) = ((s + 1 : Nat) : Int) := by rw [wrap64_id (by omega) (by omega)]; omega
  generalize hA : r + 1 = A at e1
  generalize hB : s + 1 = B at e2
  have hA1 : 1 ≤ A ∧ A ≤ 4 := by omega
  have hB1 : 1 ≤ B ∧ B ≤ 4 := by omega
  clear hA hB hr hs
  by_cases hab : A = B
  · subst hab
    have ht : ((A : Int) == (A : Int)) = true := by simp
    have e3 : wrap64 (1 + (A : Int).tmod 4) = ((1 + A % 4 : Nat) : Int) := by
      have : (A : Int).tmod 4 = ((A % 4 : Nat) : Int) := by rw [Int.natCast_emod]; exact Int.tmod_eq_emod_of_nonneg (by omega)
      rw [this, wrap64_id (by omega) (by omega)]
      omega
    go_enter Tryz.func64, Tryz.ntmps64
    go_wp2
    refine bodyPost_ret (results_tmp2 rfl _ _ _) rfl ?_
    refine ⟨A, 1 + A % 4, ?_, rfl, hA1.1, hA1.2, by omega, by omega, by omega⟩
    show Ending.returned (Value.tuple #[.int .i64 (wrap64 (1 + (r : Int))), .int .i64 (1 + (A : Int) % 4)]) = _
    rw [e1, show ((1 + A % 4 : Nat) : Int) = 1 + (A : Int) % 4 by omega]
  · have ht : ((A : Int) == (B : Int)) = false := by simp; omega
    go_enter Tryz.func64, Tryz.ntmps64
    go_wp2
    refine bodyPost_ret (results_tmp2 rfl _ _ _) rfl ?_
    refine ⟨A, B, ?_, rfl, hA1.1, hA1.2, hB1.1, hB1.2, hab⟩
    show Ending.returned (Value.tuple #[.int .i64 (wrap64 (1 + (r : Int))), .int .i64 (wrap64 (1 + (s : Int)))]) = _
    rw [e1, e2]
#print axioms kindsC
end Go.Proofs.YtmpijgfndnikpaaGreatDoor
