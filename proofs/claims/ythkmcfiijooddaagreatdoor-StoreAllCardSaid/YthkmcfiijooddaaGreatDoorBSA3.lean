/- StoreAll: the given statement, tied (the card): for every input; the listed package-level variables as the text lays them. -/
import Derived.Test.YthkmcfiijooddaaGreatDoorBSA2
import Derived.Test.YthkmcfiijooddaaGreatDoorCards
import Derived.Test.YthkmcfiijooddaaGreatDoorTie
import Derived.SevenTiedAt
set_option linter.unusedVariables false
set_option linter.unusedSimpArgs false
namespace Go.Proofs.YthkmcfiijooddaaGreatDoor
open Go.ChangeShapes Go.WideShapes Go.RowKit Go.Ab Go.Ab.Seat

theorem storeAll_params : Tryz.f6.params.toList = [68, 3] := by rw [Tryz.params6]

set_option maxRecDepth 100000 in
theorem storeAll_lifted (os : Os) (started : os.Started) (H : Type) (enc : TypeId × Value → H) :
    ReturnsInHanded {} Tryz.checked os 6 .any (fun w args => (Rows.storeAllSpec.pre enc Tryz.prog Tryz.f6 [] false w args ∧ laidMetH Tryz.prog laidVars w) ∧ sizedMet enc Tryz.prog Tryz.f6 (OpenSpec.ofChange Rows.storeAllSpec) false w args)
      (Rows.storeAllSpec.post enc Tryz.prog Tryz.f6 false true false false) := by
  refine law_lifts (C := Tryz.checked) (X := fun w _ => laidMetH Tryz.prog laidVars w) (tb := 4) (fun _ _ _ hh h => h.of_heap hh) own started (by kernel_rfl) Tryz.func6
    (ChangeSpec.witness_at (enc := enc) (C := Tryz.checked) (os := os) (X := fun w _ => laidMetH Tryz.prog laidVars w) false (laidWorld os) #[.slice none 0 0, .int .i64 0] 8 rfl (by kernel_rfl) (by kernel_rfl) (by kernel_rfl) (by kernel_rfl) (by kernel_rfl) (laidWorld_met os _))
    laidOut ?_ (by rfl) Tryz.underlying4 ?_ rfl ?_
  · intro t ht
    rw [storeAll_params] at ht
    have h3 : t = 3 ∨ t = 68 := by
      simp only [List.mem_cons, List.not_mem_nil, or_false] at ht
      rcases ht with h | h <;> simp [h]
    rcases h3 with rfl | rfl
    all_goals exact ⟨by kernel_rfl, of_decide_eq_true (by kernel_rfl)⟩
  · intro ds hds
    rw [storeAll_params] at hds
    match ds, hds with
    | [d1, d2], _ => rfl
  · intro W base args ds ps hs hval hA _ hL
    have hlaid := laid_of hL hs
    have hA' := hA
    rw [show (Tryz.checked.prog) = Tryz.prog from rfl, storeAll_params] at hA' 
    obtain ⟨v0, v1, d0, d1, p0, p1, rfl, rfl, _, h0, h1⟩ := trodAll_two hA'
    obtain ⟨a1, l1, k1, rfl⟩ := okWide_slice Tryz.underlying68 (hval 0 68 v0 (by rw [Tryz.params6]; rfl) rfl)
    obtain ⟨n, rfl, _⟩ := open_int Tryz.underlying3 (hval 1 3 v1 (by rw [Tryz.params6]; rfl) rfl) h1
    obtain ⟨m1, hm1⟩ := h0
    exact storeAll_walk (laidx_of hL hs) n hm1

theorem storeAll_band {a b : Bool} (h : a = true) (k : b = true) : (a && b) = true := by rw [h, k]; rfl

set_option maxHeartbeats 4000000 in
theorem storeAll_facts : joinedFacts Tryz.prog 6 Tryz.f6 Rows.storeAllSpec Rows.storeAllRow = true := by
  unfold joinedFacts
  repeat' (with_reducible refine storeAll_band ?_ ?_)
  all_goals (as_aux_lemma => kernel_rfl)

theorem storeAll_holds : Rows.StoreAllSaid :=
  OpenClaim.holds_of_wide 6 Tryz.f6 rfl rfl rfl rfl rfl rfl rfl ⟨rfl, rfl, rfl, rfl, rfl⟩ rfl rfl rfl rfl rfl (by as_aux_lemma => kernel_rfl) Tryz.func6 storeAll_facts
    (of_decide_eq_true (by as_aux_lemma => kernel_rfl)) (by unfold Func.isWrapper; rw [if_neg (of_decide_eq_false (by as_aux_lemma => kernel_rfl))]; exact ⟨rfl, rfl⟩)
    (fun os started H enc _ => storeAll_lifted os started H enc)

theorem storeAllCard_holds : Rows.StoreAllCardSaid :=
  Claim7.holds_tied_plain_at .later [] [.data, .handle] true (true, "b80c4a19a7312a99fb26ba642549ac01509e2f7203e259a58fb7777f4915bfc5") true
    storeAll_holds (fun _ h => by cases h) (by as_aux_lemma => kernel_rfl) (fun _ h => by cases h) storeAll_row_tie rfl ⟨rfl, rfl⟩ (by as_aux_lemma => kernel_rfl) rfl
    (fun f fn hf hfn => by
      obtain rfl : f = 6 := Option.some.inj ((show Tryz.prog.funcNamed "fieldfare/fieldfarelaw18.StoreAll" = some 6 by as_aux_lemma => kernel_rfl).symm.trans hf) |>.symm
      obtain rfl : fn = Tryz.f6 := (Option.some.inj (Tryz.func6.symm.trans hfn)).symm
      exact ⟨by as_aux_lemma => kernel_rfl, fun j t ht => by
        have hm : t ∈ Tryz.f6.params.toList := by
          rw [← Array.getElem?_toList] at ht
          exact List.mem_of_getElem? ht
        rw [storeAll_params] at hm
        have h3 : t = 3 ∨ t = 68 := by
          simp only [List.mem_cons, List.not_mem_nil, or_false] at hm
          rcases hm with h | h <;> simp [h]
        rcases h3 with rfl | rfl
        all_goals (show Tryz.prog.wantsStandIn _ = false; as_aux_lemma => kernel_rfl)⟩)
    (by as_aux_lemma => kernel_rfl)
#print axioms storeAllCard_holds
end Go.Proofs.YthkmcfiijooddaaGreatDoor
