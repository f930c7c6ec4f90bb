/- ShadowSame: the given statement, tied (the card): for every input; the listed package-level variables as the text lays them. -/
import Derived.Test.YtmpijgfndnikpaaGreatDoorBSS2
import Derived.Test.YtmpijgfndnikpaaGreatDoorBSH1
import Derived.Test.YtmpijgfndnikpaaGreatDoorCards
import Derived.Test.YtmpijgfndnikpaaGreatDoorTie
import Derived.SevenTiedAt
set_option linter.unusedVariables false
set_option linter.unusedSimpArgs false
namespace Go.Proofs.YtmpijgfndnikpaaGreatDoor
open Go.ChangeShapes Go.WideShapes Go.RowKit Go.Ab Go.Ab.Seat

theorem shadowSame_params : Tryz.f10.params.toList = [37, 3, 3] := by rw [Tryz.params10]

set_option maxRecDepth 100000 in
theorem shadowSame_lifted (os : Os) (started : os.Started) (H : Type) (enc : TypeId × Value → H) :
    ReturnsInHanded {} Tryz.checked os 10 .any (fun w args => (Rows.shadowSameSpec.pre enc Tryz.prog Tryz.f10 [] false w args ∧ laidMetH Tryz.prog laidVars w) ∧ sizedMet enc Tryz.prog Tryz.f10 (OpenSpec.ofChange Rows.shadowSameSpec) false w args)
      (Rows.shadowSameSpec.post enc Tryz.prog Tryz.f10 false true false false) := by
  refine law_lifts (C := Tryz.checked) (X := fun w _ => laidMetH Tryz.prog laidVars w) (tb := 4) (fun _ _ _ hh h => h.of_heap hh) own started (by kernel_rfl) Tryz.func10
    (ChangeSpec.witness_at (enc := enc) (C := Tryz.checked) (os := os) (X := fun w _ => laidMetH Tryz.prog laidVars w) false (laidWorld os) #[.slice none 0 0, .int .i64 0, .int .i64 0] 8 rfl (by kernel_rfl) (by kernel_rfl) (by kernel_rfl) (by kernel_rfl) (by kernel_rfl) (laidWorld_met os _))
    laidOut ?_ (by rfl) Tryz.underlying4 ?_ rfl ?_
  · intro t ht
    rw [shadowSame_params] at ht
    have h3 : t = 3 ∨ t = 37 := by
      simp only [List.mem_cons, List.not_mem_nil, or_false] at ht
      rcases ht with h | h | h <;> simp [h]
    rcases h3 with rfl | rfl
    all_goals exact ⟨by kernel_rfl, of_decide_eq_true (by kernel_rfl)⟩
  · intro ds hds
    rw [shadowSame_params] at hds
    match ds, hds with
    | [d1, d2, d3], _ => rfl
  · intro W base args ds ps hs hval hA _ hL
    have hlaid := laid_of hL hs
    have hA' := hA
    rw [show (Tryz.checked.prog) = Tryz.prog from rfl, shadowSame_params] at hA' 
    obtain ⟨v0, v1, v2, d0, d1, d2, p0, p1, p2, rfl, rfl, _, h0, h1, h2⟩ := trodAll_three hA'
    obtain ⟨n, rfl, _⟩ := open_int Tryz.underlying3 (hval 1 3 v1 (by rw [Tryz.params10]; rfl) rfl) h1
    obtain ⟨m, rfl, _⟩ := open_int Tryz.underlying3 (hval 2 3 v2 (by rw [Tryz.params10]; rfl) rfl) h2
    obtain ⟨a0, len, cap, rfl⟩ := okWide_slice Tryz.underlying37 (hval 0 37 v0 (by rw [Tryz.params10]; rfl) rfl)
    obtain ⟨fuel, hf⟩ := h0
    obtain ⟨oa, len', cap', e, hl, hh⟩ := hits_of_trod Tryz.underlying37 Tryz.underlying117 (by kernel_rfl) rfl rfl Tryz.underlying2 (by kernel_rfl) hf
    cases e
    exact shadowSame_walk _ _ _ n m W hlaid hl (missSelf ⟨_, _, _, rfl, hl, hh⟩)

theorem shadowSame_band {a b : Bool} (h : a = true) (k : b = true) : (a && b) = true := by rw [h, k]; rfl

set_option maxHeartbeats 4000000 in
theorem shadowSame_facts : joinedFacts Tryz.prog 10 Tryz.f10 Rows.shadowSameSpec Rows.shadowSameRow = true := by
  unfold joinedFacts
  repeat' (with_reducible refine shadowSame_band ?_ ?_)
  all_goals (as_aux_lemma => kernel_rfl)

theorem shadowSame_holds : Rows.ShadowSameSaid :=
  OpenClaim.holds_of_wide 10 Tryz.f10 rfl rfl rfl rfl rfl rfl rfl ⟨rfl, rfl, rfl, rfl, rfl⟩ rfl rfl rfl rfl rfl (by as_aux_lemma => kernel_rfl) Tryz.func10 shadowSame_facts
    (of_decide_eq_true (by as_aux_lemma => kernel_rfl)) (by unfold Func.isWrapper; rw [if_neg (of_decide_eq_false (by as_aux_lemma => kernel_rfl))]; exact ⟨rfl, rfl⟩)
    (fun os started H enc _ => shadowSame_lifted os started H enc)

theorem shadowSameCard_holds : Rows.ShadowSameCardSaid :=
  Claim7.holds_tied_plain_at .later [] [.data, .handle] true (true, "5a89125a6fd7d84907d8cc0c1b5b18a6e05b75fad46dac3b906d37505a0bc5f0") true
    shadowSame_holds (fun _ h => by cases h) (by as_aux_lemma => kernel_rfl) (fun _ h => by cases h) shadowSame_row_tie rfl ⟨rfl, rfl⟩ (by as_aux_lemma => kernel_rfl) rfl
    (fun f fn hf hfn => by
      obtain rfl : f = 10 := Option.some.inj ((show Tryz.prog.funcNamed "fieldfare/fieldfarelaw18.ShadowSame" = some 10 by as_aux_lemma => kernel_rfl).symm.trans hf) |>.symm
      obtain rfl : fn = Tryz.f10 := (Option.some.inj (Tryz.func10.symm.trans hfn)).symm
      exact ⟨by as_aux_lemma => kernel_rfl, fun j t ht => by
        have hm : t ∈ Tryz.f10.params.toList := by
          rw [← Array.getElem?_toList] at ht
          exact List.mem_of_getElem? ht
        rw [shadowSame_params] at hm
        have h3 : t = 3 ∨ t = 37 := by
          simp only [List.mem_cons, List.not_mem_nil, or_false] at hm
          rcases hm with h | h | h <;> simp [h]
        rcases h3 with rfl | rfl
        all_goals (show Tryz.prog.wantsStandIn _ = false; as_aux_lemma => kernel_rfl)⟩)
    (by as_aux_lemma => kernel_rfl)
#print axioms shadowSameCard_holds
end Go.Proofs.YtmpijgfndnikpaaGreatDoor
