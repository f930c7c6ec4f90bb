/- MoveEmpty: all its runs. -/
import Derived.Test.YtmpijgfndnikpaaGreatDoorBME1
set_option linter.unusedVariables false
set_option linter.unusedSimpArgs false
namespace Go.Ab.Seat
theorem meKey {f t m : Nat} (hf : f = 1 ∨ f = 2 ∨ f = 3 ∨ f = 4) (ht : t = 1 ∨ t = 2 ∨ t = 3 ∨ t = 4) (hm : m = 1 ∨ m = 2) (hne : f ≠ t) : meRow f t m = true := by
  rcases hf with rfl | rfl | rfl | rfl
  · rcases ht with rfl | rfl | rfl | rfl
    · exact (hne rfl).elim
    · rcases hm with rfl | rfl
      · exact meRow121
      · exact meRow122
    · rcases hm with rfl | rfl
      · exact meRow131
      · exact meRow132
    · rcases hm with rfl | rfl
      · exact meRow141
      · exact meRow142
  · rcases ht with rfl | rfl | rfl | rfl
    · rcases hm with rfl | rfl
      · exact meRow211
      · exact meRow212
    · exact (hne rfl).elim
    · rcases hm with rfl | rfl
      · exact meRow231
      · exact meRow232
    · rcases hm with rfl | rfl
      · exact meRow241
      · exact meRow242
  · rcases ht with rfl | rfl | rfl | rfl
    · rcases hm with rfl | rfl
      · exact meRow311
      · exact meRow312
    · rcases hm with rfl | rfl
      · exact meRow321
      · exact meRow322
    · exact (hne rfl).elim
    · rcases hm with rfl | rfl
      · exact meRow341
      · exact meRow342
  · rcases ht with rfl | rfl | rfl | rfl
    · rcases hm with rfl | rfl
      · exact meRow411
      · exact meRow412
    · rcases hm with rfl | rfl
      · exact meRow421
      · exact meRow422
    · rcases hm with rfl | rfl
      · exact meRow431
      · exact meRow432
    · exact (hne rfl).elim

theorem meAll {f t m d : Nat} (hf : 1 ≤ f ∧ f ≤ 4) (ht : 1 ≤ t ∧ t ≤ 4) (hne : f ≠ t) (hm : 1 ≤ m ∧ m ≤ 2) (hd : 1 ≤ d ∧ d ≤ 8) : meRun f t m d = true := by
  have key : meRow f t m = true := meKey (by omega) (by omega) (by omega) hne
  unfold meRow at key
  rw [allB_eq, List.all_eq_true] at key
  have := key (d - 1) (List.mem_range.2 (by omega))
  have e : Nat.add (d - 1) 1 = d := by show d - 1 + 1 = d; omega
  rw [e] at this
  exact this
#print axioms meAll
end Go.Ab.Seat
