/- CodedTrue: the given statement, tied (the card): for every input; the listed package-level variables as the text lays them. -/
import Derived.Test.YtofikbfljjjgeaaGreatDoorDYF
import Derived.Test.YtofikbfljjjgeaaGreatDoorCards
import Derived.Test.YtofikbfljjjgeaaGreatDoorTie
import Derived.SevenTiedAt
set_option linter.unusedVariables false
set_option linter.unusedSimpArgs false
namespace Go.Proofs.YtofikbfljjjgeaaGreatDoor
open Go.ChangeShapes Go.WideShapes Go.RowKit Go.Ab Go.Ab.Seat
theorem codedTrue_params : Tryz.f10.params.toList = [22, 22] := by rw [Tryz.params10]
set_option maxRecDepth 100000 in
theorem codedTrue_lifted (os : Os) (started : os.Started) (H : Type) (enc : TypeId × Value → H) :
  ReturnsInHanded {} Tryz.checked os 10 .any (fun w args => (Rows.codedTrueSpec.pre enc Tryz.prog Tryz.f10 [] false w args ∧ laidMetH Tryz.prog laidVars w) ∧ sizedMet enc Tryz.prog Tryz.f10 (OpenSpec.ofChange Rows.codedTrueSpec) false w args)
   (Rows.codedTrueSpec.post enc Tryz.prog Tryz.f10 false true false false) := by
 refine law_lifts (C := Tryz.checked) (X := fun w _ => laidMetH Tryz.prog laidVars w) (tb := 4) (fun _ _ _ hh h => h.of_heap hh) own started (by kernel_rfl) Tryz.func10
  (ChangeSpec.witness_at (enc := enc) (C := Tryz.checked) (os := os) (X := fun w _ => laidMetH Tryz.prog laidVars w) false (laidWorld os) #[.slice none 0 0, .slice none 0 0] 8 rfl (by kernel_rfl) (by kernel_rfl) (by kernel_rfl) (by kernel_rfl) (by kernel_rfl) (laidWorld_met os _))
  laidOut ?_ (by rfl) Tryz.underlying4 ?_ rfl ?_
 ·intro t ht
  rw [codedTrue_params] at ht
  have h3 : t = 22 := by
   simp only [List.mem_cons, List.not_mem_nil, or_false] at ht
   rcases ht with h | h <;> simp [h]
  rcases h3 with rfl
  all_goals exact ⟨by kernel_rfl, of_decide_eq_true (by kernel_rfl)⟩
 ·intro ds hds
  rw [codedTrue_params] at hds
  match ds, hds with
  | [d1, d2], _ => rfl
 ·intro W base args ds ps hs hval hA _ hL
  have hlaid := laid_of hL hs
  have hA' := hA
  rw [show (Tryz.checked.prog) = Tryz.prog from rfl, codedTrue_params] at hA'
  obtain ⟨v0, v1, d0, d1, p0, p1, rfl, rfl, _, h0, h1⟩ := trodAll_two hA'
  have hx := laidx_of hL hs
  obtain ⟨a0, l0, c0, rfl⟩ := okWide_slice Tryz.underlying22 (hval 0 22 v0 (by rw [Tryz.params10]; rfl) rfl)
  obtain ⟨a1, l1, c1, rfl⟩ := okWide_slice Tryz.underlying22 (hval 1 22 v1 (by rw [Tryz.params10]; rfl) rfl)
  obtain ⟨f0, g0⟩ := h0
  obtain ⟨f1, g1⟩ := h1
  exact codedTrue_walk hx g0 g1
theorem codedTrue_band {a b : Bool} (h : a = true) (k : b = true) : (a && b) = true := by rw [h, k]; rfl
set_option maxHeartbeats 4000000 in
theorem codedTrue_facts : joinedFacts Tryz.prog 10 Tryz.f10 Rows.codedTrueSpec Rows.codedTrueRow = true := by
 unfold joinedFacts
 repeat' (with_reducible refine codedTrue_band ?_ ?_)
 all_goals (as_aux_lemma => kernel_rfl)
theorem codedTrue_holds : Rows.CodedTrueSaid :=
 OpenClaim.holds_of_wide 10 Tryz.f10 rfl rfl rfl rfl rfl rfl rfl ⟨rfl, rfl, rfl, rfl, rfl⟩ rfl rfl rfl rfl rfl (by as_aux_lemma => kernel_rfl) Tryz.func10 codedTrue_facts
  (of_decide_eq_true (by as_aux_lemma => kernel_rfl)) (by unfold Func.isWrapper; rw [if_neg (of_decide_eq_false (by as_aux_lemma => kernel_rfl))]; exact ⟨rfl, rfl⟩)
  (fun os started H enc _ => codedTrue_lifted os started H enc)
theorem codedTrueCard_holds : Rows.CodedTrueCardSaid :=
 Claim7.holds_tied_plain_at .later [] [.data, .handle] true (true, "132025c619a3a68fa460bc3b1377c0be1b70f5e044035f08231230f8ad6d9feb") true
  codedTrue_holds (fun _ h => by cases h) (by as_aux_lemma => kernel_rfl) (fun _ h => by cases h) codedTrue_row_tie rfl ⟨rfl, rfl⟩ (by as_aux_lemma => kernel_rfl) rfl
  (fun f fn hf hfn => by
   obtain rfl : f = 10 := Option.some.inj ((show Tryz.prog.funcNamed "fieldfare/fieldfarelaw13.CodedTrue" = some 10 by as_aux_lemma => kernel_rfl).symm.trans hf) |>.symm
   obtain rfl : fn = Tryz.f10 := (Option.some.inj (Tryz.func10.symm.trans hfn)).symm
   exact ⟨by as_aux_lemma => kernel_rfl, fun j t ht => by
    have hm : t ∈ Tryz.f10.params.toList := by
     rw [← Array.getElem?_toList] at ht
     exact List.mem_of_getElem? ht
    rw [codedTrue_params] at hm
    have h3 : t = 22 := by
     simp only [List.mem_cons, List.not_mem_nil, or_false] at hm
     rcases hm with h | h <;> simp [h]
    rcases h3 with rfl
    all_goals (show Tryz.prog.wantsStandIn _ = false; as_aux_lemma => kernel_rfl)⟩)
  (by as_aux_lemma => kernel_rfl)
#print axioms codedTrueCard_holds
end Go.Proofs.YtofikbfljjjgeaaGreatDoor
