/- MoveNone: the given statement, tied (the card): for every input; the listed package-level variables as the text lays them. -/
import Derived.Test.YtmpijgfndnikpaaGreatDoorBMN1
import Derived.Test.YtmpijgfndnikpaaGreatDoorBS13
import Derived.Test.YtmpijgfndnikpaaGreatDoorCards
import Derived.Test.YtmpijgfndnikpaaGreatDoorTie
import Derived.SevenTiedAt
set_option linter.unusedVariables false
set_option linter.unusedSimpArgs false
namespace Go.Proofs.YtmpijgfndnikpaaGreatDoor
open Go.ChangeShapes Go.WideShapes Go.RowKit Go.Ab Go.Ab.Seat

theorem moveNone_params : Tryz.f4.params.toList = [] := by rw [Tryz.params4]

set_option maxRecDepth 100000 in
theorem moveNone_lifted (os : Os) (started : os.Started) (H : Type) (enc : TypeId × Value → H) :
    ReturnsInHanded {} Tryz.checked os 4 .any (fun w args => (Rows.moveNoneSpec.pre enc Tryz.prog Tryz.f4 [] false w args ∧ laidMetH Tryz.prog laidVars w) ∧ sizedMet enc Tryz.prog Tryz.f4 (OpenSpec.ofChange Rows.moveNoneSpec) false w args)
      (Rows.moveNoneSpec.post enc Tryz.prog Tryz.f4 false true false false) := by
  refine law_lifts (C := Tryz.checked) (X := fun w _ => laidMetH Tryz.prog laidVars w) (tb := 4) (fun _ _ _ hh h => h.of_heap hh) own started (by kernel_rfl) Tryz.func4
    (ChangeSpec.witness_at (enc := enc) (C := Tryz.checked) (os := os) (X := fun w _ => laidMetH Tryz.prog laidVars w) false (laidWorld os) #[] 8 rfl (by kernel_rfl) (by kernel_rfl) (by kernel_rfl) (by kernel_rfl) (by kernel_rfl) (laidWorld_met os _))
    laidOut ?_ (by rfl) Tryz.underlying4 ?_ rfl ?_
  · intro t ht
    rw [moveNone_params] at ht
    cases ht
  · intro ds hds
    rw [moveNone_params] at hds
    match ds, hds with
    | [], _ => rfl
  · intro W base args ds ps hs hval hA _ hL
    have hlaid := laid_of hL hs
    have hA' := hA
    rw [show (Tryz.checked.prog) = Tryz.prog from rfl, moveNone_params] at hA' 
    obtain rfl : args = #[] := Array.toList_inj.1 (List.length_eq_zero_iff.1 (trodAll_len hA').2)
    exact (moveNone_walk hlaid)

theorem moveNone_band {a b : Bool} (h : a = true) (k : b = true) : (a && b) = true := by rw [h, k]; rfl

set_option maxHeartbeats 4000000 in
theorem moveNone_facts : joinedFacts Tryz.prog 4 Tryz.f4 Rows.moveNoneSpec Rows.moveNoneRow = true := by
  unfold joinedFacts
  repeat' (with_reducible refine moveNone_band ?_ ?_)
  all_goals (as_aux_lemma => kernel_rfl)

theorem moveNone_holds : Rows.MoveNoneSaid :=
  OpenClaim.holds_of_wide 4 Tryz.f4 rfl rfl rfl rfl rfl rfl rfl ⟨rfl, rfl, rfl, rfl, rfl⟩ rfl rfl rfl rfl rfl (by as_aux_lemma => kernel_rfl) Tryz.func4 moveNone_facts
    (of_decide_eq_true (by as_aux_lemma => kernel_rfl)) (by unfold Func.isWrapper; rw [if_neg (of_decide_eq_false (by as_aux_lemma => kernel_rfl))]; exact ⟨rfl, rfl⟩)
    (fun os started H enc _ => moveNone_lifted os started H enc)

theorem moveNoneCard_holds : Rows.MoveNoneCardSaid :=
  Claim7.holds_tied_plain_at .later [] [.data, .handle] true (true, "5a89125a6fd7d84907d8cc0c1b5b18a6e05b75fad46dac3b906d37505a0bc5f0") true
    moveNone_holds (fun _ h => by cases h) (by as_aux_lemma => kernel_rfl) (fun _ h => by cases h) moveNone_row_tie rfl ⟨rfl, rfl⟩ (by as_aux_lemma => kernel_rfl) rfl
    (fun f fn hf hfn => by
      obtain rfl : f = 4 := Option.some.inj ((show Tryz.prog.funcNamed "fieldfare/fieldfarelaw18.MoveNone" = some 4 by as_aux_lemma => kernel_rfl).symm.trans hf) |>.symm
      obtain rfl : fn = Tryz.f4 := (Option.some.inj (Tryz.func4.symm.trans hfn)).symm
      exact ⟨by as_aux_lemma => kernel_rfl, fun j t ht => by
        have hm : t ∈ Tryz.f4.params.toList := by
          rw [← Array.getElem?_toList] at ht
          exact List.mem_of_getElem? ht
        rw [moveNone_params] at hm
        cases hm⟩)
    (by as_aux_lemma => kernel_rfl)
#print axioms moveNoneCard_holds
end Go.Proofs.YtmpijgfndnikpaaGreatDoor
