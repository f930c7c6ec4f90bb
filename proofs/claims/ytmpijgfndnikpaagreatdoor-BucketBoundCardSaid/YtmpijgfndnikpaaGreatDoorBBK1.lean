/- The bucket's functions: what they give at every state that BucketBound comes to (runs of the abstract machine). -/
import Derived.Test.YtmpijgfndnikpaaGreatDoorBS16
set_option linter.unusedVariables false
set_option linter.unusedSimpArgs false
namespace Go.Ab.Seat
open Go.Extern Go.Proofs Go.RowKit
set_option maxRecDepth 1000000

noncomputable def bkA (m p h : Nat) : Value := .agg #[.int .i64 (Int.ofNat m), .int .i64 (Int.ofNat p), .int .i64 (Int.ofNat h)]
noncomputable def takeRun (m p h : Nat) : Bool :=
  givesV (callB C18 (exec C18 eg 200) 68 [bkA m p h] s0) (.tuple #[bkA m p (Nat.sub h 1), .bool (Nat.blt 0 h)])
noncomputable def stepRun (m p h : Nat) : Bool :=
  givesV (callB C18 (exec C18 eg 200) 69 [bkA m p h] s0) (bkA m p (bif Nat.ble (Nat.add h p) m then Nat.add h p else m))
noncomputable def bothRuns (m : Nat) : Bool := allB (fun p => allB (fun h => takeRun m p h && stepRun m p h) (List.range (Nat.add m 1))) (List.range 5)
theorem runs0 : bothRuns 0 = true := by kernel_rfl
theorem runs1 : bothRuns 1 = true := by kernel_rfl
theorem runs2 : bothRuns 2 = true := by kernel_rfl
theorem runs3 : bothRuns 3 = true := by kernel_rfl
theorem runs4 : bothRuns 4 = true := by kernel_rfl
theorem runs5 : bothRuns 5 = true := by kernel_rfl
theorem runs6 : bothRuns 6 = true := by kernel_rfl
theorem runs7 : bothRuns 7 = true := by kernel_rfl
theorem runs8 : bothRuns 8 = true := by kernel_rfl
theorem runs9 : bothRuns 9 = true := by kernel_rfl
theorem runs10 : bothRuns 10 = true := by kernel_rfl
theorem runs11 : bothRuns 11 = true := by kernel_rfl
theorem runs12 : bothRuns 12 = true := by kernel_rfl
theorem runs13 : bothRuns 13 = true := by kernel_rfl
theorem runs14 : bothRuns 14 = true := by kernel_rfl
theorem runs15 : bothRuns 15 = true := by kernel_rfl
theorem runs16 : bothRuns 16 = true := by kernel_rfl
theorem runs17 : bothRuns 17 = true := by kernel_rfl
theorem runs18 : bothRuns 18 = true := by kernel_rfl
theorem runs19 : bothRuns 19 = true := by kernel_rfl

theorem runsAll {m : Nat} (h : m < 20) : bothRuns m = true := by
  have hm : m = 0 ∨ m = 1 ∨ m = 2 ∨ m = 3 ∨ m = 4 ∨ m = 5 ∨ m = 6 ∨ m = 7 ∨ m = 8 ∨ m = 9 ∨ m = 10 ∨ m = 11 ∨ m = 12 ∨ m = 13 ∨ m = 14 ∨ m = 15 ∨ m = 16 ∨ m = 17 ∨ m = 18 ∨ m = 19 := by omega
  rcases hm with rfl | rfl | rfl | rfl | rfl | rfl | rfl | rfl | rfl | rfl | rfl | rfl | rfl | rfl | rfl | rfl | rfl | rfl | rfl | rfl
  · exact runs0
  · exact runs1
  · exact runs2
  · exact runs3
  · exact runs4
  · exact runs5
  · exact runs6
  · exact runs7
  · exact runs8
  · exact runs9
  · exact runs10
  · exact runs11
  · exact runs12
  · exact runs13
  · exact runs14
  · exact runs15
  · exact runs16
  · exact runs17
  · exact runs18
  · exact runs19

noncomputable def newRun (i j : Nat) : Bool :=
  givesV (callB C18 (exec C18 eg 200) 67 [.int .i64 (Int.subNatNat i 19), .int .i64 (Int.subNatNat j 4)] s0) (bkA (Nat.sub i 19) (Nat.sub j 4) (Nat.sub i 19))
theorem newRuns : allB (fun i => allB (fun j => newRun i j) (List.range 9)) (List.range 39) = true := by kernel_rfl

theorem newB {w : World} (hw : Laid w) {i j : Nat} (hi : i < 39) (hj : j < 9) : Calls Tryz.prog 67 #[.int .i64 (Int.subNatNat i 19), .int .i64 (Int.subNatNat j 4)] w fun e w' => e = .returned (bkA (i - 19) (j - 4) (i - 19)) ∧ Below w.heap.size w w' := by
  have h := newRuns
  rw [allB_eq, List.all_eq_true] at h
  have h2 := h i (List.mem_range.2 hi)
  rw [allB_eq, List.all_eq_true] at h2
  exact closed_gives whole18 (h2 j (List.mem_range.2 hj)) rfl hw

theorem bothB {m p h : Nat} (hm : m < 20) (hp : p < 5) (hh : h ≤ m) : takeRun m p h = true ∧ stepRun m p h = true := by
  have q := runsAll hm
  unfold bothRuns at q
  rw [allB_eq, List.all_eq_true] at q
  have q2 := q p (List.mem_range.2 hp)
  rw [allB_eq, List.all_eq_true] at q2
  have q3 := q2 h (List.mem_range.2 (by show h < m + 1; omega))
  rw [Bool.and_eq_true] at q3
  exact q3

theorem takeB {w : World} (hw : Laid w) {m p h : Nat} (hm : m < 20) (hp : p < 5) (hh : h ≤ m) : Calls Tryz.prog 68 #[bkA m p h] w fun e w' => e = .returned (.tuple #[bkA m p (h - 1), .bool (Nat.blt 0 h)]) ∧ Below w.heap.size w w' :=
  closed_gives whole18 (bothB hm hp hh).1 rfl hw

theorem stepB {w : World} (hw : Laid w) {m p h : Nat} (hm : m < 20) (hp : p < 5) (hh : h ≤ m) : Calls Tryz.prog 69 #[bkA m p h] w fun e w' => e = .returned (bkA m p (min (h + p) m)) ∧ Below w.heap.size w w' := by
  have q := (bothB hm hp hh).2
  have e : (bif Nat.ble (Nat.add h p) m then Nat.add h p else m) = min (h + p) m := by
    cases hb : Nat.ble (Nat.add h p) m with
    | true => have hb' : h + p ≤ m := ble_iff.1 hb; show h + p = _; omega
    | false => have hb' : m < h + p := ble_false.1 hb; show m = _; omega
  unfold stepRun at q
  rw [e] at q
  exact closed_gives whole18 q rfl hw
#print axioms stepB
end Go.Ab.Seat
