/- StoreSweep: the given statement, tied (the card): for every input; the listed package-level variables as the text lays them. -/
import Derived.Test.YthkmcfiijooddaaGreatDoorBSW2
import Derived.Test.YthkmcfiijooddaaGreatDoorCards
import Derived.Test.YthkmcfiijooddaaGreatDoorTie
import Derived.SevenTiedAt
set_option linter.unusedVariables false
set_option linter.unusedSimpArgs false
namespace Go.Proofs.YthkmcfiijooddaaGreatDoor
open Go.ChangeShapes Go.WideShapes Go.RowKit Go.Ab Go.Ab.Seat

theorem storeSweep_params : Tryz.f7.params.toList = [45, 2] := by rw [Tryz.params7]

set_option maxRecDepth 100000 in
theorem storeSweep_lifted (os : Os) (started : os.Started) (H : Type) (enc : TypeId × Value → H) :
    ReturnsInHanded {} Tryz.checked os 7 .any (fun w args => (Rows.storeSweepSpec.pre enc Tryz.prog Tryz.f7 [] false w args ∧ laidMetH Tryz.prog laidVars w) ∧ sizedMet enc Tryz.prog Tryz.f7 (OpenSpec.ofChange Rows.storeSweepSpec) false w args)
      (Rows.storeSweepSpec.post enc Tryz.prog Tryz.f7 false true false false) := by
  refine law_lifts (C := Tryz.checked) (X := fun w _ => laidMetH Tryz.prog laidVars w) (tb := 4) (fun _ _ _ hh h => h.of_heap hh) own started (by kernel_rfl) Tryz.func7
    (ChangeSpec.witness_at (enc := enc) (C := Tryz.checked) (os := os) (X := fun w _ => laidMetH Tryz.prog laidVars w) false (laidWorld os) #[.slice none 0 0, .int .i64 0] 8 rfl (by kernel_rfl) (by kernel_rfl) (by kernel_rfl) (by kernel_rfl) (by kernel_rfl) (laidWorld_met os _))
    laidOut ?_ (by rfl) Tryz.underlying4 ?_ rfl ?_
  · intro t ht
    rw [storeSweep_params] at ht
    have h3 : t = 2 ∨ t = 45 := by
      simp only [List.mem_cons, List.not_mem_nil, or_false] at ht
      rcases ht with h | h <;> simp [h]
    rcases h3 with rfl | rfl
    all_goals exact ⟨by kernel_rfl, of_decide_eq_true (by kernel_rfl)⟩
  · intro ds hds
    rw [storeSweep_params] at hds
    match ds, hds with
    | [d1, d2], _ => rfl
  · intro W base args ds ps hs hval hA _ hL
    have hlaid := laid_of hL hs
    have hA' := hA
    rw [show (Tryz.checked.prog) = Tryz.prog from rfl, storeSweep_params] at hA' 
    obtain ⟨v0, v1, d0, d1, p0, p1, rfl, rfl, _, h0, h1⟩ := trodAll_two hA'
    obtain ⟨a1, l1, k1, rfl⟩ := okWide_slice Tryz.underlying45 (hval 0 45 v0 (by rw [Tryz.params7]; rfl) rfl)
    obtain ⟨n, rfl, _⟩ := open_int Tryz.underlying2 (hval 1 2 v1 (by rw [Tryz.params7]; rfl) rfl) h1
    obtain ⟨m1, hm1⟩ := h0
    exact storeSweep_walk (laidx_of hL hs) n hm1

theorem storeSweep_band {a b : Bool} (h : a = true) (k : b = true) : (a && b) = true := by rw [h, k]; rfl

set_option maxHeartbeats 4000000 in
theorem storeSweep_facts : joinedFacts Tryz.prog 7 Tryz.f7 Rows.storeSweepSpec Rows.storeSweepRow = true := by
  unfold joinedFacts
  repeat' (with_reducible refine storeSweep_band ?_ ?_)
  all_goals (as_aux_lemma => kernel_rfl)

theorem storeSweep_holds : Rows.StoreSweepSaid :=
  OpenClaim.holds_of_wide 7 Tryz.f7 rfl rfl rfl rfl rfl rfl rfl ⟨rfl, rfl, rfl, rfl, rfl⟩ rfl rfl rfl rfl rfl (by as_aux_lemma => kernel_rfl) Tryz.func7 storeSweep_facts
    (of_decide_eq_true (by as_aux_lemma => kernel_rfl)) (by unfold Func.isWrapper; rw [if_neg (of_decide_eq_false (by as_aux_lemma => kernel_rfl))]; exact ⟨rfl, rfl⟩)
    (fun os started H enc _ => storeSweep_lifted os started H enc)

theorem storeSweepCard_holds : Rows.StoreSweepCardSaid :=
  Claim7.holds_tied_plain_at .later [] [.data, .handle] true (true, "b80c4a19a7312a99fb26ba642549ac01509e2f7203e259a58fb7777f4915bfc5") true
    storeSweep_holds (fun _ h => by cases h) (by as_aux_lemma => kernel_rfl) (fun _ h => by cases h) storeSweep_row_tie rfl ⟨rfl, rfl⟩ (by as_aux_lemma => kernel_rfl) rfl
    (fun f fn hf hfn => by
      obtain rfl : f = 7 := Option.some.inj ((show Tryz.prog.funcNamed "fieldfare/fieldfarelaw18.StoreSweep" = some 7 by as_aux_lemma => kernel_rfl).symm.trans hf) |>.symm
      obtain rfl : fn = Tryz.f7 := (Option.some.inj (Tryz.func7.symm.trans hfn)).symm
      exact ⟨by as_aux_lemma => kernel_rfl, fun j t ht => by
        have hm : t ∈ Tryz.f7.params.toList := by
          rw [← Array.getElem?_toList] at ht
          exact List.mem_of_getElem? ht
        rw [storeSweep_params] at hm
        have h3 : t = 2 ∨ t = 45 := by
          simp only [List.mem_cons, List.not_mem_nil, or_false] at hm
          rcases hm with h | h <;> simp [h]
        rcases h3 with rfl | rfl
        all_goals (show Tryz.prog.wantsStandIn _ = false; as_aux_lemma => kernel_rfl)⟩)
    (by as_aux_lemma => kernel_rfl)
#print axioms storeSweepCard_holds
end Go.Proofs.YthkmcfiijooddaaGreatDoor
