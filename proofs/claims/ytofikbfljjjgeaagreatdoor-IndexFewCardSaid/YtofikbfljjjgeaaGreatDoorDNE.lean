/- IndexFew: the given statement, tied (the card): for every input; the listed package-level variables as the text lays them. -/
import Derived.Test.YtofikbfljjjgeaaGreatDoorDND
import Derived.Test.YtofikbfljjjgeaaGreatDoorCards
import Derived.Test.YtofikbfljjjgeaaGreatDoorTie
import Derived.SevenTiedAt
set_option linter.unusedVariables false
set_option linter.unusedSimpArgs false
namespace Go.Proofs.YtofikbfljjjgeaaGreatDoor
open Go.ChangeShapes Go.WideShapes Go.RowKit Go.Ab Go.Ab.Seat
theorem indexFew_params : Tryz.f7.params.toList = [3, 22, 23, 25, 3] := by rw [Tryz.params7]
set_option maxRecDepth 100000 in
theorem indexFew_lifted (os : Os) (started : os.Started) (H : Type) (enc : TypeId × Value → H) :
  ReturnsInHanded {} Tryz.checked os 7 .any (fun w args => (Rows.indexFewSpec.pre enc Tryz.prog Tryz.f7 [] false w args ∧ laidMetH Tryz.prog laidVars w) ∧ sizedMet enc Tryz.prog Tryz.f7 (OpenSpec.ofChange Rows.indexFewSpec) false w args)
   (Rows.indexFewSpec.post enc Tryz.prog Tryz.f7 false true false false) := by
 refine law_lifts (C := Tryz.checked) (X := fun w _ => laidMetH Tryz.prog laidVars w) (tb := 4) (fun _ _ _ hh h => h.of_heap hh) own started (by kernel_rfl) Tryz.func7
  (ChangeSpec.witness_at (enc := enc) (C := Tryz.checked) (os := os) (X := fun w _ => laidMetH Tryz.prog laidVars w) false (laidWorld os) #[.int .i64 0, .slice none 0 0, .slice none 0 0, .slice none 0 0, .int .i64 0] 8 rfl (by kernel_rfl) (by kernel_rfl) (by kernel_rfl) (by kernel_rfl) (by kernel_rfl) (laidWorld_met os _))
  laidOut ?_ (by rfl) Tryz.underlying4 ?_ rfl ?_
 ·intro t ht
  rw [indexFew_params] at ht
  have h3 : t = 3 ∨ t = 22 ∨ t = 23 ∨ t = 25 := by
   simp only [List.mem_cons, List.not_mem_nil, or_false] at ht
   rcases ht with h | h | h | h | h <;> simp [h]
  rcases h3 with rfl | rfl | rfl | rfl
  all_goals exact ⟨by kernel_rfl, of_decide_eq_true (by kernel_rfl)⟩
 ·intro ds hds
  rw [indexFew_params] at hds
  match ds, hds with
  | [d1, d2, d3, d4, d5], _ => rfl
 ·intro W base args ds ps hs hval hA _ hL
  have hlaid := laid_of hL hs
  have hA' := hA
  rw [show (Tryz.checked.prog) = Tryz.prog from rfl, indexFew_params] at hA'
  obtain ⟨v0, v1, v2, v3, v4, d0, d1, d2, d3, d4, p0, p1, p2, p3, p4, rfl, rfl, _, h0, h1, h2, h3, h4⟩ := trodAll_five hA'
  have hx := laidx_of hL hs
  obtain ⟨m, rfl, _⟩ := open_int Tryz.underlying3 (hval 0 3 v0 (by rw [Tryz.params7]; rfl) rfl) h0
  obtain ⟨a1, l1, c1, rfl⟩ := okWide_slice Tryz.underlying22 (hval 1 22 v1 (by rw [Tryz.params7]; rfl) rfl)
  obtain ⟨a2, l2, c2, rfl⟩ := okWide_slice Tryz.underlying23 (hval 2 23 v2 (by rw [Tryz.params7]; rfl) rfl)
  obtain ⟨a3, l3, c3, rfl⟩ := okWide_slice Tryz.underlying25 (hval 3 25 v3 (by rw [Tryz.params7]; rfl) rfl)
  obtain ⟨k, rfl, _⟩ := open_int Tryz.underlying3 (hval 4 3 v4 (by rw [Tryz.params7]; rfl) rfl) h4
  obtain ⟨f1, g1⟩ := h1
  obtain ⟨f2, g2⟩ := h2
  obtain ⟨f3, g3⟩ := h3
  exact indexFew_walk hx g1 g2 g3
theorem indexFew_band {a b : Bool} (h : a = true) (k : b = true) : (a && b) = true := by rw [h, k]; rfl
set_option maxHeartbeats 4000000 in
theorem indexFew_facts : joinedFacts Tryz.prog 7 Tryz.f7 Rows.indexFewSpec Rows.indexFewRow = true := by
 unfold joinedFacts
 repeat' (with_reducible refine indexFew_band ?_ ?_)
 all_goals (as_aux_lemma => kernel_rfl)
theorem indexFew_holds : Rows.IndexFewSaid :=
 OpenClaim.holds_of_wide 7 Tryz.f7 rfl rfl rfl rfl rfl rfl rfl ⟨rfl, rfl, rfl, rfl, rfl⟩ rfl rfl rfl rfl rfl (by as_aux_lemma => kernel_rfl) Tryz.func7 indexFew_facts
  (of_decide_eq_true (by as_aux_lemma => kernel_rfl)) (by unfold Func.isWrapper; rw [if_neg (of_decide_eq_false (by as_aux_lemma => kernel_rfl))]; exact ⟨rfl, rfl⟩)
  (fun os started H enc _ => indexFew_lifted os started H enc)
theorem indexFewCard_holds : Rows.IndexFewCardSaid :=
 Claim7.holds_tied_plain_at .later [] [.data, .handle] true (true, "132025c619a3a68fa460bc3b1377c0be1b70f5e044035f08231230f8ad6d9feb") true
  indexFew_holds (fun _ h => by cases h) (by as_aux_lemma => kernel_rfl) (fun _ h => by cases h) indexFew_row_tie rfl ⟨rfl, rfl⟩ (by as_aux_lemma => kernel_rfl) rfl
  (fun f fn hf hfn => by
   obtain rfl : f = 7 := Option.some.inj ((show Tryz.prog.funcNamed "fieldfare/fieldfarelaw13.IndexFew" = some 7 by as_aux_lemma => kernel_rfl).symm.trans hf) |>.symm
   obtain rfl : fn = Tryz.f7 := (Option.some.inj (Tryz.func7.symm.trans hfn)).symm
   exact ⟨by as_aux_lemma => kernel_rfl, fun j t ht => by
    have hm : t ∈ Tryz.f7.params.toList := by
     rw [← Array.getElem?_toList] at ht
     exact List.mem_of_getElem? ht
    rw [indexFew_params] at hm
    have h3 : t = 3 ∨ t = 22 ∨ t = 23 ∨ t = 25 := by
     simp only [List.mem_cons, List.not_mem_nil, or_false] at hm
     rcases hm with h | h | h | h | h <;> simp [h]
    rcases h3 with rfl | rfl | rfl | rfl
    all_goals (show Tryz.prog.wantsStandIn _ = false; as_aux_lemma => kernel_rfl)⟩)
  (by as_aux_lemma => kernel_rfl)
#print axioms indexFewCard_holds
end Go.Proofs.YtofikbfljjjgeaaGreatDoor
