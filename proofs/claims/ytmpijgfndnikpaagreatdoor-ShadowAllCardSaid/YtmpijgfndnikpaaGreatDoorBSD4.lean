/- ShadowAll: the given statement, tied (the card): for every input; the listed package-level variables as the text lays them. -/
import Derived.Test.YtmpijgfndnikpaaGreatDoorBSD3
import Derived.Test.YtmpijgfndnikpaaGreatDoorCards
import Derived.Test.YtmpijgfndnikpaaGreatDoorTie
import Derived.SevenTiedAt
set_option linter.unusedVariables false
set_option linter.unusedSimpArgs false
namespace Go.Proofs.YtmpijgfndnikpaaGreatDoor
open Go.ChangeShapes Go.WideShapes Go.RowKit Go.Ab Go.Ab.Seat

theorem shadowAll_params : Tryz.f11.params.toList = [113, 120, 120, 3] := by rw [Tryz.params11]

set_option maxRecDepth 100000 in
theorem shadowAll_lifted (os : Os) (started : os.Started) (H : Type) (enc : TypeId × Value → H) :
    ReturnsInHanded {} Tryz.checked os 11 .any (fun w args => (Rows.shadowAllSpec.pre enc Tryz.prog Tryz.f11 [] false w args ∧ laidMetH Tryz.prog laidVars w) ∧ sizedMet enc Tryz.prog Tryz.f11 (OpenSpec.ofChange Rows.shadowAllSpec) false w args)
      (Rows.shadowAllSpec.post enc Tryz.prog Tryz.f11 false true false false) := by
  refine law_lifts (C := Tryz.checked) (X := fun w _ => laidMetH Tryz.prog laidVars w) (tb := 4) (fun _ _ _ hh h => h.of_heap hh) own started (by kernel_rfl) Tryz.func11
    (ChangeSpec.witness_at (enc := enc) (C := Tryz.checked) (os := os) (X := fun w _ => laidMetH Tryz.prog laidVars w) false (laidWorld os) #[.agg #[.int .i64 0, .int .i64 0], .slice none 0 0, .slice none 0 0, .int .i64 0] 8 rfl (by kernel_rfl) (by kernel_rfl) (by kernel_rfl) (by kernel_rfl) (by kernel_rfl) (laidWorld_met os _))
    laidOut ?_ (by rfl) Tryz.underlying4 ?_ rfl ?_
  · intro t ht
    rw [shadowAll_params] at ht
    have h3 : t = 3 ∨ t = 113 ∨ t = 120 := by
      simp only [List.mem_cons, List.not_mem_nil, or_false] at ht
      rcases ht with h | h | h | h <;> simp [h]
    rcases h3 with rfl | rfl | rfl
    all_goals exact ⟨by kernel_rfl, of_decide_eq_true (by kernel_rfl)⟩
  · intro ds hds
    rw [shadowAll_params] at hds
    match ds, hds with
    | [d1, d2, d3, d4], _ => rfl
  · intro W base args ds ps hs hval hA _ hL
    have hlaid := laid_of hL hs
    have hA' := hA
    rw [show (Tryz.checked.prog) = Tryz.prog from rfl, shadowAll_params] at hA' 
    obtain ⟨v0, v1, v2, v3, d0, d1, d2, d3, p0, p1, p2, p3, rfl, rfl, _, h0, h1, h2, h3⟩ := trodAll_four hA'
    obtain ⟨m0, hm0⟩ := h0
    obtain ⟨a, b, rfl, wa, wb⟩ := pair_of_trod Tryz.underlying113 (by kernel_rfl) rfl rfl rfl rfl Tryz.underlying3 c3 Tryz.underlying3 c3 hm0
    obtain ⟨n, rfl, _⟩ := open_int Tryz.underlying3 (hval 3 3 v3 (by rw [Tryz.params11]; rfl) rfl) h3
    obtain ⟨a1, l1, k1, rfl⟩ := okWide_slice Tryz.underlying120 (hval 1 120 v1 (by rw [Tryz.params11]; rfl) rfl)
    obtain ⟨a2, l2, k2, rfl⟩ := okWide_slice Tryz.underlying120 (hval 2 120 v2 (by rw [Tryz.params11]; rfl) rfl)
    obtain ⟨m1, hm1⟩ := h1
    obtain ⟨m2, hm2⟩ := h2
    exact shadowAll_walk (laidx_of hL hs) a b n wa wb hm1 hm2

theorem shadowAll_band {a b : Bool} (h : a = true) (k : b = true) : (a && b) = true := by rw [h, k]; rfl

set_option maxHeartbeats 4000000 in
theorem shadowAll_facts : joinedFacts Tryz.prog 11 Tryz.f11 Rows.shadowAllSpec Rows.shadowAllRow = true := by
  unfold joinedFacts
  repeat' (with_reducible refine shadowAll_band ?_ ?_)
  all_goals (as_aux_lemma => kernel_rfl)

theorem shadowAll_holds : Rows.ShadowAllSaid :=
  OpenClaim.holds_of_wide 11 Tryz.f11 rfl rfl rfl rfl rfl rfl rfl ⟨rfl, rfl, rfl, rfl, rfl⟩ rfl rfl rfl rfl rfl (by as_aux_lemma => kernel_rfl) Tryz.func11 shadowAll_facts
    (of_decide_eq_true (by as_aux_lemma => kernel_rfl)) (by unfold Func.isWrapper; rw [if_neg (of_decide_eq_false (by as_aux_lemma => kernel_rfl))]; exact ⟨rfl, rfl⟩)
    (fun os started H enc _ => shadowAll_lifted os started H enc)

theorem shadowAllCard_holds : Rows.ShadowAllCardSaid :=
  Claim7.holds_tied_plain_at .later [] [.data, .handle] true (true, "5a89125a6fd7d84907d8cc0c1b5b18a6e05b75fad46dac3b906d37505a0bc5f0") true
    shadowAll_holds (fun _ h => by cases h) (by as_aux_lemma => kernel_rfl) (fun _ h => by cases h) shadowAll_row_tie rfl ⟨rfl, rfl⟩ (by as_aux_lemma => kernel_rfl) rfl
    (fun f fn hf hfn => by
      obtain rfl : f = 11 := Option.some.inj ((show Tryz.prog.funcNamed "fieldfare/fieldfarelaw18.ShadowAll" = some 11 by as_aux_lemma => kernel_rfl).symm.trans hf) |>.symm
      obtain rfl : fn = Tryz.f11 := (Option.some.inj (Tryz.func11.symm.trans hfn)).symm
      exact ⟨by as_aux_lemma => kernel_rfl, fun j t ht => by
        have hm : t ∈ Tryz.f11.params.toList := by
          rw [← Array.getElem?_toList] at ht
          exact List.mem_of_getElem? ht
        rw [shadowAll_params] at hm
        have h3 : t = 3 ∨ t = 113 ∨ t = 120 := by
          simp only [List.mem_cons, List.not_mem_nil, or_false] at hm
          rcases hm with h | h | h | h <;> simp [h]
        rcases h3 with rfl | rfl | rfl
        all_goals (show Tryz.prog.wantsStandIn _ = false; as_aux_lemma => kernel_rfl)⟩)
    (by as_aux_lemma => kernel_rfl)
#print axioms shadowAllCard_holds
end Go.Proofs.YtmpijgfndnikpaaGreatDoor
