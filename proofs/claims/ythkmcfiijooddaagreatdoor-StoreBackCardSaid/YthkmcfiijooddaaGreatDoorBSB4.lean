/- StoreBack: the given statement, tied (the card): for every input; the listed package-level variables as the text lays them. -/
import Derived.Test.YthkmcfiijooddaaGreatDoorBSB3
import Derived.Test.YthkmcfiijooddaaGreatDoorCards
import Derived.Test.YthkmcfiijooddaaGreatDoorTie
import Derived.SevenTiedAt
set_option linter.unusedVariables false
set_option linter.unusedSimpArgs false
namespace Go.Proofs.YthkmcfiijooddaaGreatDoor
open Go.ChangeShapes Go.WideShapes Go.RowKit Go.Ab Go.Ab.Seat

theorem storeBack_params : Tryz.f8.params.toList = [68, 68] := by rw [Tryz.params8]

set_option maxRecDepth 100000 in
theorem storeBack_lifted (os : Os) (started : os.Started) (H : Type) (enc : TypeId × Value → H) :
    ReturnsInHanded {} Tryz.checked os 8 .any (fun w args => (Rows.storeBackSpec.pre enc Tryz.prog Tryz.f8 [] false w args ∧ laidMetH Tryz.prog laidVars w) ∧ sizedMet enc Tryz.prog Tryz.f8 (OpenSpec.ofChange Rows.storeBackSpec) false w args)
      (Rows.storeBackSpec.post enc Tryz.prog Tryz.f8 false true false false) := by
  refine law_lifts (C := Tryz.checked) (X := fun w _ => laidMetH Tryz.prog laidVars w) (tb := 4) (fun _ _ _ hh h => h.of_heap hh) own started (by kernel_rfl) Tryz.func8
    (ChangeSpec.witness_at (enc := enc) (C := Tryz.checked) (os := os) (X := fun w _ => laidMetH Tryz.prog laidVars w) false (laidWorld os) #[.slice none 0 0, .slice none 0 0] 8 rfl (by kernel_rfl) (by kernel_rfl) (by kernel_rfl) (by kernel_rfl) (by kernel_rfl) (laidWorld_met os _))
    laidOut ?_ (by rfl) Tryz.underlying4 ?_ rfl ?_
  · intro t ht
    rw [storeBack_params] at ht
    have h3 : t = 68 := by
      simp only [List.mem_cons, List.not_mem_nil, or_false] at ht
      rcases ht with h | h <;> simp [h]
    rcases h3 with rfl
    all_goals exact ⟨by kernel_rfl, of_decide_eq_true (by kernel_rfl)⟩
  · intro ds hds
    rw [storeBack_params] at hds
    match ds, hds with
    | [d1, d2], _ => rfl
  · intro W base args ds ps hs hval hA _ hL
    have hlaid := laid_of hL hs
    have hA' := hA
    rw [show (Tryz.checked.prog) = Tryz.prog from rfl, storeBack_params] at hA' 
    obtain ⟨v0, v1, d0, d1, p0, p1, rfl, rfl, _, h0, h1⟩ := trodAll_two hA'
    obtain ⟨a1, l1, k1, rfl⟩ := okWide_slice Tryz.underlying68 (hval 0 68 v0 (by rw [Tryz.params8]; rfl) rfl)
    obtain ⟨a2, l2, k2, rfl⟩ := okWide_slice Tryz.underlying68 (hval 1 68 v1 (by rw [Tryz.params8]; rfl) rfl)
    obtain ⟨m1, hm1⟩ := h0
    obtain ⟨m2, hm2⟩ := h1
    exact storeBack_walk (laidx_of hL hs) hm1 hm2

theorem storeBack_band {a b : Bool} (h : a = true) (k : b = true) : (a && b) = true := by rw [h, k]; rfl

set_option maxHeartbeats 4000000 in
theorem storeBack_facts : joinedFacts Tryz.prog 8 Tryz.f8 Rows.storeBackSpec Rows.storeBackRow = true := by
  unfold joinedFacts
  repeat' (with_reducible refine storeBack_band ?_ ?_)
  all_goals (as_aux_lemma => kernel_rfl)

theorem storeBack_holds : Rows.StoreBackSaid :=
  OpenClaim.holds_of_wide 8 Tryz.f8 rfl rfl rfl rfl rfl rfl rfl ⟨rfl, rfl, rfl, rfl, rfl⟩ rfl rfl rfl rfl rfl (by as_aux_lemma => kernel_rfl) Tryz.func8 storeBack_facts
    (of_decide_eq_true (by as_aux_lemma => kernel_rfl)) (by unfold Func.isWrapper; rw [if_neg (of_decide_eq_false (by as_aux_lemma => kernel_rfl))]; exact ⟨rfl, rfl⟩)
    (fun os started H enc _ => storeBack_lifted os started H enc)

theorem storeBackCard_holds : Rows.StoreBackCardSaid :=
  Claim7.holds_tied_plain_at .later [] [.data, .handle] true (true, "b80c4a19a7312a99fb26ba642549ac01509e2f7203e259a58fb7777f4915bfc5") true
    storeBack_holds (fun _ h => by cases h) (by as_aux_lemma => kernel_rfl) (fun _ h => by cases h) storeBack_row_tie rfl ⟨rfl, rfl⟩ (by as_aux_lemma => kernel_rfl) rfl
    (fun f fn hf hfn => by
      obtain rfl : f = 8 := Option.some.inj ((show Tryz.prog.funcNamed "fieldfare/fieldfarelaw18.StoreBack" = some 8 by as_aux_lemma => kernel_rfl).symm.trans hf) |>.symm
      obtain rfl : fn = Tryz.f8 := (Option.some.inj (Tryz.func8.symm.trans hfn)).symm
      exact ⟨by as_aux_lemma => kernel_rfl, fun j t ht => by
        have hm : t ∈ Tryz.f8.params.toList := by
          rw [← Array.getElem?_toList] at ht
          exact List.mem_of_getElem? ht
        rw [storeBack_params] at hm
        have h3 : t = 68 := by
          simp only [List.mem_cons, List.not_mem_nil, or_false] at hm
          rcases hm with h | h <;> simp [h]
        rcases h3 with rfl
        all_goals (show Tryz.prog.wantsStandIn _ = false; as_aux_lemma => kernel_rfl)⟩)
    (by as_aux_lemma => kernel_rfl)
#print axioms storeBackCard_holds
end Go.Proofs.YthkmcfiijooddaaGreatDoor
