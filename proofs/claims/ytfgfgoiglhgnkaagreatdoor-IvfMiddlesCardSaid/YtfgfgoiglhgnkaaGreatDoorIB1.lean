/- IndexBlocks answers true and turns nothing that lay before: for every two integers, in a world in which the listed variables are as laid. -/
import Derived.Test.YtfgfgoiglhgnkaaGreatDoorS13
import Derived.WalkKit
set_option linter.unusedVariables false
set_option linter.unusedSimpArgs false
namespace Go.Proofs.YtfgfgoiglhgnkaaGreatDoor
open Go.RowKit

def bk (p m : Int) : Int := m / p + (if 0 < m % p then 1 else 0)

set_option maxHeartbeats 4000000 in
theorem blocks1 (n : Int) (w : World) (h0 : -6000 ≤ n) (h1 : n ≤ 6000) : Calls Tryz.prog 37 #[.int .i64 1, .int .i64 n] w fun e w' => e = .returned (.int .i64 (bk 8 (max n 0))) ∧ w' = w := by
  unfold bk
  go_enter Tryz.func37, Tryz.ntmps37
  go_wp2
  all_goals go_ret
  all_goals (refine ⟨?_, rfl⟩; simp [*])
set_option maxHeartbeats 4000000 in
theorem blocks2 (n : Int) (w : World) (h0 : -6000 ≤ n) (h1 : n ≤ 6000) : Calls Tryz.prog 37 #[.int .i64 2, .int .i64 n] w fun e w' => e = .returned (.int .i64 (bk 8 (max n 0) + 1)) ∧ w' = w := by
  unfold bk
  go_enter Tryz.func37, Tryz.ntmps37
  go_wp2
  all_goals go_ret
  all_goals (refine ⟨?_, rfl⟩; simp [*])
set_option maxHeartbeats 4000000 in
theorem blocks3 (n : Int) (w : World) (h0 : -6000 ≤ n) (h1 : n ≤ 6000) : Calls Tryz.prog 37 #[.int .i64 3, .int .i64 n] w fun e w' => e = .returned (.int .i64 (2 * (bk 8 (max n 0) + 1))) ∧ w' = w := by
  unfold bk
  go_enter Tryz.func37, Tryz.ntmps37
  go_wp2
  all_goals go_ret
  all_goals (refine ⟨?_, rfl⟩; simp [*])
set_option maxHeartbeats 4000000 in
theorem blocks4 (n : Int) (w : World) (h0 : -6000 ≤ n) (h1 : n ≤ 6000) : Calls Tryz.prog 37 #[.int .i64 4, .int .i64 n] w fun e w' => e = .returned (.int .i64 (bk 16 (max n 0) + 1)) ∧ w' = w := by
  unfold bk
  go_enter Tryz.func37, Tryz.ntmps37
  go_wp2
  all_goals go_ret
  all_goals (refine ⟨?_, rfl⟩; simp [*])
set_option maxHeartbeats 4000000 in
theorem blocks0 (n : Int) (w : World) : Calls Tryz.prog 37 #[.int .i64 0, .int .i64 n] w fun e w' => e = .returned (.int .i64 0) ∧ w' = w := by
  go_enter Tryz.func37, Tryz.ntmps37
  go_wp2
  all_goals go_ret
  all_goals exact ⟨rfl, rfl⟩
set_option maxHeartbeats 4000000 in
theorem blocks5 (n : Int) (w : World) : Calls Tryz.prog 37 #[.int .i64 5, .int .i64 n] w fun e w' => e = .returned (.int .i64 0) ∧ w' = w := by
  go_enter Tryz.func37, Tryz.ntmps37
  go_wp2
  all_goals go_ret
  all_goals exact ⟨rfl, rfl⟩

theorem wrap64_id {z : Int} (h0 : -9223372036854775808 ≤ z) (h1 : z ≤ 9223372036854775807) : wrap64 z = z := by
  have h := IntWalk.i64_in z ⟨h0, h1⟩
  rw [← h]
  simp only [wrap64, IntKind.wrap_i64]
  omega

theorem mod_range (n c : Int) (hc : 0 < c) (hb : c ≤ 100000) : 0 ≤ (wrap64 (n.tmod c + c)).tmod c ∧ (wrap64 (n.tmod c + c)).tmod c < c := by
  have h1 : n.tmod c < c := Int.tmod_lt_of_pos n hc
  have h2 : -c < n.tmod c := by
    have h3 := Int.tmod_lt_of_pos (-n) hc
    rw [Int.neg_tmod] at h3
    omega
  have h3 : wrap64 (n.tmod c + c) = n.tmod c + c := wrap64_id (by omega) (by omega)
  rw [h3]
  have h4 : 0 ≤ n.tmod c + c := by omega
  exact ⟨Int.tmod_nonneg c h4, Int.tmod_lt_of_pos _ hc⟩

abbrev Gives (k n r : Int) : Prop := ∀ w, Calls Tryz.prog 37 #[.int .i64 k, .int .i64 n] w fun e w' => e = .returned (.int .i64 r) ∧ w' = w

theorem bk8_mono {x y : Int} (h : x ≤ y) : bk 8 x ≤ bk 8 y := by unfold bk; split <;> split <;> omega
theorem bk16_mono {x y : Int} (h : x ≤ y) : bk 16 x ≤ bk 16 y := by unfold bk; split <;> split <;> omega
theorem bk8_bound {x : Int} (h0 : 0 ≤ x) (h : x ≤ 6000) : 0 ≤ bk 8 x ∧ bk 8 x ≤ 1000 ∧ x ≤ 8 * bk 8 x ∧ 8 * (bk 8 x - 1) < x + 1 ∧ (0 ≤ 8 * (bk 8 x - 1) → 8 * (bk 8 x - 1) < x) := by unfold bk; split <;> omega
theorem bk16_bound {x : Int} (h0 : 0 ≤ x) (h : x ≤ 6000) : 0 ≤ bk 16 x ∧ bk 16 x ≤ 1000 ∧ x ≤ 16 * bk 16 x := by unfold bk; split <;> omega

/-- The four calls of a round. -/
theorem four {k N M : Int} (hk1 : 1 ≤ k) (hk4 : k ≤ 4) (hN0 : 0 ≤ N) (hN1 : N < 5000) (hM0 : 0 ≤ M) (hM1 : M < 50) :
    ∃ a b z, ¬ b < a ∧ Gives k N a ∧ Gives k (N + M) b ∧ Gives k (-1 - N) z ∧ Gives k 0 z := by
  have e1 : max N 0 = N := by omega
  have e2 : max (N + M) 0 = N + M := by omega
  have e3 : max (-1 - N) 0 = max 0 0 := by omega
  have m8 := bk8_mono (show N ≤ N + M by omega)
  have m16 := bk16_mono (show N ≤ N + M by omega)
  have hk : k = 1 ∨ k = 2 ∨ k = 3 ∨ k = 4 := by omega
  rcases hk with rfl | rfl | rfl | rfl
  · exact ⟨bk 8 N, bk 8 (N + M), bk 8 (max 0 0), by omega, fun w => by simpa only [e1] using blocks1 N w (by omega) (by omega), fun w => by simpa only [e2] using blocks1 (N + M) w (by omega) (by omega), fun w => by simpa only [e3] using blocks1 (-1 - N) w (by omega) (by omega), fun w => blocks1 0 w (by omega) (by omega)⟩
  · exact ⟨bk 8 N + 1, bk 8 (N + M) + 1, bk 8 (max 0 0) + 1, by omega, fun w => by simpa only [e1] using blocks2 N w (by omega) (by omega), fun w => by simpa only [e2] using blocks2 (N + M) w (by omega) (by omega), fun w => by simpa only [e3] using blocks2 (-1 - N) w (by omega) (by omega), fun w => blocks2 0 w (by omega) (by omega)⟩
  · exact ⟨2 * (bk 8 N + 1), 2 * (bk 8 (N + M) + 1), 2 * (bk 8 (max 0 0) + 1), by omega, fun w => by simpa only [e1] using blocks3 N w (by omega) (by omega), fun w => by simpa only [e2] using blocks3 (N + M) w (by omega) (by omega), fun w => by simpa only [e3] using blocks3 (-1 - N) w (by omega) (by omega), fun w => blocks3 0 w (by omega) (by omega)⟩
  · exact ⟨bk 16 N + 1, bk 16 (N + M) + 1, bk 16 (max 0 0) + 1, by omega, fun w => by simpa only [e1] using blocks4 N w (by omega) (by omega), fun w => by simpa only [e2] using blocks4 (N + M) w (by omega) (by omega), fun w => by simpa only [e3] using blocks4 (-1 - N) w (by omega) (by omega), fun w => blocks4 0 w (by omega) (by omega)⟩

/-- The calls behind the loop. -/
theorem six {N : Int} (hN0 : 0 ≤ N) (hN1 : N < 5000) : ∃ a c, 0 ≤ a ∧ a ≤ 1000 ∧ N ≤ 8 * a ∧ 8 * (a - 1) < N ∧ 0 ≤ c ∧ c ≤ 1000 ∧ N ≤ 16 * c ∧ Gives 1 N a ∧ Gives 2 N (a + 1) ∧ Gives 3 N (2 * (a + 1)) ∧ Gives 4 N (c + 1) ∧ Gives 0 N 0 ∧ Gives 5 N 0 := by
  have e1 : max N 0 = N := by omega
  obtain ⟨h1, h2, h3, h4, h5⟩ := bk8_bound hN0 (by omega)
  obtain ⟨g1, g2, g3⟩ := bk16_bound hN0 (by omega)
  exact ⟨bk 8 N, bk 16 N, h1, h2, h3, by omega, g1, g2, g3, fun w => by simpa only [e1] using blocks1 N w (by omega) (by omega), fun w => by simpa only [e1] using blocks2 N w (by omega) (by omega), fun w => by simpa only [e1] using blocks3 N w (by omega) (by omega),
    fun w => by simpa only [e1] using blocks4 N w (by omega) (by omega), fun w => blocks0 N w, fun w => blocks5 N w⟩

set_option maxHeartbeats 8000000 in
theorem indexBlocks_walk (n more : Int) (w : World) (hw : Go.Ab.Seat.Laid w) : Calls Tryz.prog 9 #[.int .i64 n, .int .i64 more] w fun e w' => e = .returned (.bool true) ∧ Below w.heap.size w w' := by
  go_enter Tryz.func9, Tryz.ntmps9
  go_wp2_with (go_at_call 15; refine (Go.Ab.Seat.begun13_calls hw).2.mono ?_; rintro e w' ⟨rfl, hleft⟩)
  have hN := mod_range n 5000 (by omega) (by omega)
  have hM := mod_range more 50 (by omega) (by omega)
  generalize (wrap64 (n.tmod 5000 + 5000)).tmod 5000 = N at hN ⊢
  generalize (wrap64 (more.tmod 50 + 50)).tmod 50 = M at hM ⊢
  obtain ⟨hN0, hN1⟩ := hN
  obtain ⟨hM0, hM1⟩ := hM
  go_loopw [6] (fun i wr => ∃ k : Int, 1 ≤ k ∧ k ≤ 5 ∧ i = .int .i64 k ∧ wr = w') (fun i _ => (5 - Go.Lib.intOf i).toNat)
  case atStart => exact ⟨1, by omega, by omega, rfl, rfl⟩
  case round =>
    obtain ⟨k, hk1, hk5, rfl, rfl⟩ := hrel
    by_cases hk4 : k ≤ 4
    · obtain ⟨a, b, z, hab, c1, c2, c3, c4⟩ := four hk1 hk4 hN0 hN1 hM0 hM1
      go_wp2_with (go_at_call 37; (first | (with_reducible refine (c1 _).mono ?_) | (with_reducible refine (c2 _).mono ?_) | (with_reducible refine (c3 _).mono ?_) | (with_reducible refine (c4 _).mono ?_)); rintro e w2 ⟨rfl, rfl⟩)
      go_roundw
      case rel => exact ⟨k + 1, by omega, by omega, by first | go_num | trivial, by first | rfl | trivial⟩
      case measure => simp [Go.Lib.intOf]; omega
    · obtain ⟨a, c, ha0, ha1, ha2, ha3, hc0, hc1, hc2, d1, d2, d3, d4, d0, d5⟩ := six hN0 hN1
      go_wp2_with (go_at_call 37; (first | (with_reducible refine (d1 _).mono ?_) | (with_reducible refine (d2 _).mono ?_) | (with_reducible refine (d3 _).mono ?_) | (with_reducible refine (d4 _).mono ?_) | (with_reducible refine (d0 _).mono ?_) | (with_reducible refine (d5 _).mono ?_)); rintro e w2 ⟨rfl, rfl⟩)
      go_ret
      exact ⟨rfl, hleft.os, hleft.tape, hleft.output, hleft.size, hleft.heap⟩
#print axioms indexBlocks_walk
end Go.Proofs.YtfgfgoiglhgnkaaGreatDoor
