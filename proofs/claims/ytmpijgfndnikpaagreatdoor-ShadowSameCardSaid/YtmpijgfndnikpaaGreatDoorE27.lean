/- Remainders as the laws take them. -/
import Derived.RowKit
import Derived.IntWalk
set_option linter.unusedVariables false
set_option linter.unusedSimpArgs false
namespace Go.Ab
open Go.RowKit

theorem wrap64_id {z : Int} (h0 : -9223372036854775808 ≤ z) (h1 : z ≤ 9223372036854775807) : wrap64 z = z := by
  have h := IntWalk.i64_in z ⟨h0, h1⟩
  rw [← h]
  simp only [wrap64, IntKind.wrap_i64]
  omega

theorem mod_range (n c : Int) (hc : 0 < c) (hb : c ≤ 100000) : 0 ≤ (wrap64 (n.tmod c + c)).tmod c ∧ (wrap64 (n.tmod c + c)).tmod c < c := by
  have h1 : n.tmod c < c := Int.tmod_lt_of_pos n hc
  have h2 : -c < n.tmod c := by
    have h3 := Int.tmod_lt_of_pos (-n) hc
    rw [Int.neg_tmod] at h3
    omega
  have h3 : wrap64 (n.tmod c + c) = n.tmod c + c := wrap64_id (by omega) (by omega)
  rw [h3]
  have h4 : 0 ≤ n.tmod c + c := by omega
  exact ⟨Int.tmod_nonneg c h4, Int.tmod_lt_of_pos _ hc⟩
end Go.Ab
