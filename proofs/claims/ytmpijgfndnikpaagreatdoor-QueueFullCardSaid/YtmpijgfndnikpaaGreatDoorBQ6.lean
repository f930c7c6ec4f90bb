/- QueueFull answers true and turns nothing that lay before. -/
import Derived.Test.YtmpijgfndnikpaaGreatDoorBQ5
set_option linter.unusedVariables false
set_option linter.unusedSimpArgs false
namespace Go.Ab.Seat
open Go.Extern Go.Proofs Go.RowKit

theorem s0_fresh : Fresh s0.h 3 := by
  intro b hb
  rw [s0_get, if_neg (by omega), if_neg (by omega)]
theorem s0_glob : Glob s0.h := ⟨by unfold Has; rw [s0_get, if_pos rfl], by unfold Has; rw [s0_get, if_neg (by omega), if_pos rfl]⟩

theorem FnTo.callB {C : Ctx} {f : Nat} {args : List Value} {s s' : St} {v : Value} (hsm : C.sm f = none) (hex : C.ex f = none) (h : FnTo C eg f args s v s') : ∃ n, callB C (exec C eg n) f args s = some (v, s') := by
  obtain ⟨n, h⟩ := h
  refine ⟨n, ?_⟩
  unfold callF at h
  rw [hsm] at h
  simp only at h
  rw [hex] at h
  exact h

/-- A run that answers true, from what is laid alone, as a contract. -/
theorem laid_true {f : Nat} {args : List Value} (hsm : smQ f = none) (hex : ex f = none) (h : ∃ v s', FnTo CQ eg f args ⟨s0.h, 3, [], []⟩ v s' ∧ v = .bool true) (hf : allB (flat 5) args = true) {w : World} (hl : Laid w) :
    Calls Tryz.prog f args.toArray w fun e w' => e = .returned (.bool true) ∧ Below w.heap.size w w' := by
  obtain ⟨v, s', h1, rfl⟩ := h
  obtain ⟨n, h2⟩ := FnTo.callB hsm hex h1
  rw [allB_eq, List.all_eq_true] at hf
  refine (calls_of_abs wholeQ n f (args' := args) h2 (VRl_flat _ 5 args hf) hl.hr (fun b h1 _ => ?_) fun v' w' ι' hv hp => ?_).2
  · show ι0 w b = none
    have : 3 ≤ b := h1
    exact if_neg (by omega)
  · cases hv
    exact ⟨rfl, hp.os, hp.tape, hp.output, hp.size, fun k hk => hp.frame k hk s0_owned⟩

theorem queueFull_walk (m n : Int) (w : World) (hw : Laid w) : Calls Tryz.prog 8 #[.int .i64 m, .int .i64 n] w fun e w' => e = .returned (.bool true) ∧ Below w.heap.size w w' :=
  laid_true (args := [.int .i64 m, .int .i64 n]) (stdQ 8 rfl) (ex8 (sm := smQ)) (queueFull_run m n s0_fresh s0_glob) rfl hw
#print axioms queueFull_walk
end Go.Ab.Seat
