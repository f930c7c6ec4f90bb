/- The shadow's functions: what they give. -/
import Derived.Test.YtmpijgfndnikpaaGreatDoorBS16
import Derived.Test.YtmpijgfndnikpaaGreatDoorE27
import Derived.WalkKit
import Derived.Laws.Rows
set_option linter.unusedVariables false
set_option linter.unusedSimpArgs false
namespace Go.Proofs.YtmpijgfndnikpaaGreatDoor
open Go.RowKit Go.Ab Go.Ab.Seat

theorem size113 : (Tryz.prog.info? 113).map (·.size) = some 2 := by kernel_rfl

set_option maxHeartbeats 4000000 in
theorem misses_nil (v : Value) (w : World) : Calls Tryz.prog 75 #[.slice none 0 0, v] w fun e w' => e = .returned (.bool false) ∧ Below w.heap.size w w' := by
  go_enter Tryz.func75, Tryz.ntmps75
  go_wp2
  go_region
  go_wp2
  go_ret
  exact ⟨rfl, (Below.refl _ _).drew⟩

set_option maxHeartbeats 4000000 in
theorem misses_to_nil (a : Option Addr) (len cap : Nat) (w : World) : Calls Tryz.prog 75 #[.slice a len cap, .slice none 0 0] w fun e w' => e = .returned (.bool (decide (0 < len))) ∧ Below w.heap.size w w' := by
  by_cases h : 0 < len
  · have hl2 : (0 : Int) < len := by omega
    go_enter Tryz.func75, Tryz.ntmps75
    go_wp2
    go_region
    go_wp2
    go_ret
    exact ⟨by simp [h], (Below.refl _ _).drew⟩
  · have h0 : len = 0 := by omega
    subst h0
    go_enter Tryz.func75, Tryz.ntmps75
    go_wp2
    go_region
    go_wp2
    go_ret
    exact ⟨rfl, (Below.refl _ _).drew⟩

set_option maxHeartbeats 4000000 in
theorem misses_same (b o len cap : Nat) (s : Int) (w : World) (hc : 0 < len → w.cell? ⟨b, o + 1, none⟩ = some (.int .i64 s)) : Calls Tryz.prog 75 #[.slice (some ⟨b, o, none⟩) len cap, .slice (some ⟨b, o, none⟩) len cap] w fun e w' => e = .returned (.bool false) ∧ Below w.heap.size w w' := by
  by_cases h : 0 < len
  · have hcell := hc h
    have hl : ((len : Int) == 0) = false := by simp; omega
    have hl2 : (0 : Int) < len := by omega
    go_enter Tryz.func75, Tryz.ntmps75
    go_wp2
    go_region
    go_wp2
    go_ret
    exact ⟨rfl, (Below.refl _ _).drew⟩
  · have h0 : len = 0 := by omega
    subst h0
    go_enter Tryz.func75, Tryz.ntmps75
    go_wp2
    go_region
    go_wp2
    go_ret
    exact ⟨rfl, (Below.refl _ _).drew⟩

abbrev tally (t m : Int) : Value := .agg #[.int .i64 t, .int .i64 m]

set_option maxHeartbeats 4000000 in
/-- A comparison more. -/
theorem addC (t m : Int) (x y : Value) (w : World) (ht : 0 ≤ t ∧ t ≤ 1000000) (hm : 0 ≤ m ∧ m ≤ 1000000) (miss : Bool)
    (cM : ∀ w', Below w.heap.size w w' → Calls Tryz.prog 75 #[x, y] w' fun e w'' => e = .returned (.bool miss) ∧ Below w'.heap.size w' w'') :
    Calls Tryz.prog 73 #[tally t m, x, y] w fun e w' => e = .returned (tally (t + 1) (m + if miss then 1 else 0)) ∧ Below w.heap.size w w' := by
  have main : ∀ w2, Below ((w.alloc (.cells #[.int .i64 (t + 1), .int .i64 m] 113)).alloc (.cells #[.int .i64 0, .int .i64 0] 113)).heap.size ((w.alloc (.cells #[.int .i64 (t + 1), .int .i64 m] 113)).alloc (.cells #[.int .i64 0, .int .i64 0] 113)) w2 →
      w2.heap[w.heap.size]? = some (.cells #[.int .i64 (t + 1), .int .i64 m] 113 (0, 0)) ∧ w2.heap[w.heap.size + 1]? = some (.cells #[.int .i64 0, .int .i64 0] 113 (0, 0)) ∧ Below w.heap.size w w2 := by
    intro w2 hb
    refine ⟨?_, ?_, ((((Below.refl _ w).alloc (Nat.le_refl _) _).alloc (by simp) _).trans (hb.mono (by simp; omega)))⟩
    · rw [hb.block _ (by simp; omega), Below.heap_alloc _ _ _ (by simp)]
      exact World.alloc_heap_new w _
    · rw [hb.block _ (by simp)]
      have := World.alloc_heap_new (w.alloc (.cells #[.int .i64 (t + 1), .int .i64 m] 113)) (.cells #[.int .i64 0, .int .i64 0] 113)
      simpa using this
  have cells : ∀ w2 : World, w2.heap[w.heap.size]? = some (.cells #[.int .i64 (t + 1), .int .i64 m] 113 (0, 0)) → w2.heap[w.heap.size + 1]? = some (.cells #[.int .i64 0, .int .i64 0] 113 (0, 0)) →
      w2.cell? ⟨w.heap.size, 0, none⟩ = some (.int .i64 (t + 1)) ∧ w2.cell? ⟨w.heap.size, 1, none⟩ = some (.int .i64 m) ∧ w2.cell? ⟨w.heap.size + 1, 0, none⟩ = some (.int .i64 0) ∧ w2.cell? ⟨w.heap.size + 1, 1, none⟩ = some (.int .i64 0) ∧
        w2.frozen? ⟨w.heap.size, 1, none⟩ = false ∧ w2.frozen? ⟨w.heap.size + 1, 0, none⟩ = false ∧ w2.frozen? ⟨w.heap.size + 1, 1, none⟩ = false := by
    intro w2 h1 h2
    simp [World.cell?, World.frozen?, h1, h2]
  cases miss with
  | true =>
    go_enter Tryz.func73, Tryz.ntmps73
    go_wp2_with (go_at_call 75; (refine (cM _ (((Below.refl _ w).alloc (Nat.le_refl _) _).alloc (by simp) _)).mono ?_); rintro e w2 ⟨rfl, hb⟩; obtain ⟨k1, k2, k3⟩ := main w2 hb; obtain ⟨c0, c1, c2, c3, f1, f2, f3⟩ := cells w2 k1 k2)
    refine bodyPost_ret (results_cell_row (P := Tryz.prog) rfl _ _ (w.heap.size + 1) 113 #[.int .i64 (t + 1), .int .i64 (m + 1)] (0, 0) _ rfl ?_ Tryz.underlying113 rfl size113) rfl ⟨rfl, ?_⟩
    · have q1 := setCell_block (k := 0) (w := w2.setCell ⟨w.heap.size, 1, none⟩ (.int .i64 (m + 1))) (B := w.heap.size + 1) ((setCell_other _ (by omega)).trans k2) (.int .i64 (t + 1))
      exact (setCell_block (k := 1) q1 (.int .i64 (m + 1)))
    · exact ((k3.setCell (p := ⟨w.heap.size, 1, none⟩) (Nat.le_refl _) _).setCell (p := ⟨w.heap.size + 1, 0, none⟩) (by simp) _).setCell (p := ⟨w.heap.size + 1, 1, none⟩) (by simp) _
  | false =>
    go_enter Tryz.func73, Tryz.ntmps73
    go_wp2_with (go_at_call 75; (refine (cM _ (((Below.refl _ w).alloc (Nat.le_refl _) _).alloc (by simp) _)).mono ?_); rintro e w2 ⟨rfl, hb⟩; obtain ⟨k1, k2, k3⟩ := main w2 hb; obtain ⟨c0, c1, c2, c3, f1, f2, f3⟩ := cells w2 k1 k2)
    refine bodyPost_ret (results_cell_row (P := Tryz.prog) rfl _ _ (w.heap.size + 1) 113 #[.int .i64 (t + 1), .int .i64 m] (0, 0) _ rfl ?_ Tryz.underlying113 rfl size113) rfl ⟨by simp, ?_⟩
    · have q1 := setCell_block (k := 0) (w := w2) (B := w.heap.size + 1) k2 (.int .i64 (t + 1))
      exact (setCell_block (k := 1) q1 (.int .i64 m))
    · exact (k3.setCell (p := ⟨w.heap.size + 1, 0, none⟩) (by simp) _).setCell (p := ⟨w.heap.size + 1, 1, none⟩) (by simp) _

set_option maxHeartbeats 4000000 in
theorem verdictC (t m most : Int) (w : World) : Calls Tryz.prog 74 #[tally t m, .int .i64 most] w fun e w' => e = .returned (.int .i64 (if most < m then 2 else if 4 ≤ t then 1 else 0)) ∧ Below w.heap.size w w' := by
  by_cases h1 : most < m
  · go_enter Tryz.func74, Tryz.ntmps74
    go_wp2
    go_ret
    exact ⟨by simp [h1], (Below.refl _ w).alloc (Nat.le_refl _) _⟩
  · by_cases h2 : 4 ≤ t
    · go_enter Tryz.func74, Tryz.ntmps74
      go_wp2
      go_ret
      exact ⟨by simp [h1, h2], (Below.refl _ w).alloc (Nat.le_refl _) _⟩
    · go_enter Tryz.func74, Tryz.ntmps74
      go_wp2
      go_ret
      exact ⟨by simp [h1, h2], (Below.refl _ w).alloc (Nat.le_refl _) _⟩
end Go.Proofs.YtmpijgfndnikpaaGreatDoor
