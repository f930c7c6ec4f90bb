/- StoreSeq: the given statement, tied (the card): for every input; the listed package-level variables as the text lays them. -/
import Derived.Test.YtmpijgfndnikpaaGreatDoorBSQ2
import Derived.Test.YtmpijgfndnikpaaGreatDoorCards
import Derived.Test.YtmpijgfndnikpaaGreatDoorTie
import Derived.SevenTiedAt
set_option linter.unusedVariables false
set_option linter.unusedSimpArgs false
namespace Go.Proofs.YtmpijgfndnikpaaGreatDoor
open Go.ChangeShapes Go.WideShapes Go.RowKit Go.Ab Go.Ab.Seat

theorem storeSeq_params : Tryz.f13.params.toList = [3, 125, 103] := by rw [Tryz.params13]

set_option maxRecDepth 100000 in
theorem storeSeq_lifted (os : Os) (started : os.Started) (H : Type) (enc : TypeId × Value → H) :
    ReturnsInHanded {} Tryz.checked os 13 .any (fun w args => (Rows.storeSeqSpec.pre enc Tryz.prog Tryz.f13 [] false w args ∧ laidMetH Tryz.prog laidVars w) ∧ sizedMet enc Tryz.prog Tryz.f13 (OpenSpec.ofChange Rows.storeSeqSpec) false w args)
      (Rows.storeSeqSpec.post enc Tryz.prog Tryz.f13 false true false false) := by
  refine law_lifts (C := Tryz.checked) (X := fun w _ => laidMetH Tryz.prog laidVars w) (tb := 4) (fun _ _ _ hh h => h.of_heap hh) own started (by kernel_rfl) Tryz.func13
    (ChangeSpec.witness_at (enc := enc) (C := Tryz.checked) (os := os) (X := fun w _ => laidMetH Tryz.prog laidVars w) false (laidWorld os) #[.int .i64 0, .slice none 0 0, .slice none 0 0] 8 rfl (by kernel_rfl) (by kernel_rfl) (by kernel_rfl) (by kernel_rfl) (by kernel_rfl) (laidWorld_met os _))
    laidOut ?_ (by rfl) Tryz.underlying4 ?_ rfl ?_
  · intro t ht
    rw [storeSeq_params] at ht
    have h3 : t = 3 ∨ t = 103 ∨ t = 125 := by
      simp only [List.mem_cons, List.not_mem_nil, or_false] at ht
      rcases ht with h | h | h <;> simp [h]
    rcases h3 with rfl | rfl | rfl
    all_goals exact ⟨by kernel_rfl, of_decide_eq_true (by kernel_rfl)⟩
  · intro ds hds
    rw [storeSeq_params] at hds
    match ds, hds with
    | [d1, d2, d3], _ => rfl
  · intro W base args ds ps hs hval hA _ hL
    have hlaid := laid_of hL hs
    have hA' := hA
    rw [show (Tryz.checked.prog) = Tryz.prog from rfl, storeSeq_params] at hA' 
    obtain ⟨v0, v1, v2, d0, d1, d2, p0, p1, p2, rfl, rfl, _, h0, h1, h2⟩ := trodAll_three hA'
    obtain ⟨n, rfl, _⟩ := open_int Tryz.underlying3 (hval 0 3 v0 (by rw [Tryz.params13]; rfl) rfl) h0
    obtain ⟨a1, l1, k1, rfl⟩ := okWide_slice Tryz.underlying125 (hval 1 125 v1 (by rw [Tryz.params13]; rfl) rfl)
    obtain ⟨a2, l2, k2, rfl⟩ := okWide_slice Tryz.underlying103 (hval 2 103 v2 (by rw [Tryz.params13]; rfl) rfl)
    obtain ⟨m1, hm1⟩ := h1
    obtain ⟨m2, hm2⟩ := h2
    exact storeSeq_walk (laidx_of hL hs) n hm1 hm2

theorem storeSeq_band {a b : Bool} (h : a = true) (k : b = true) : (a && b) = true := by rw [h, k]; rfl

set_option maxHeartbeats 4000000 in
theorem storeSeq_facts : joinedFacts Tryz.prog 13 Tryz.f13 Rows.storeSeqSpec Rows.storeSeqRow = true := by
  unfold joinedFacts
  repeat' (with_reducible refine storeSeq_band ?_ ?_)
  all_goals (as_aux_lemma => kernel_rfl)

theorem storeSeq_holds : Rows.StoreSeqSaid :=
  OpenClaim.holds_of_wide 13 Tryz.f13 rfl rfl rfl rfl rfl rfl rfl ⟨rfl, rfl, rfl, rfl, rfl⟩ rfl rfl rfl rfl rfl (by as_aux_lemma => kernel_rfl) Tryz.func13 storeSeq_facts
    (of_decide_eq_true (by as_aux_lemma => kernel_rfl)) (by unfold Func.isWrapper; rw [if_neg (of_decide_eq_false (by as_aux_lemma => kernel_rfl))]; exact ⟨rfl, rfl⟩)
    (fun os started H enc _ => storeSeq_lifted os started H enc)

theorem storeSeqCard_holds : Rows.StoreSeqCardSaid :=
  Claim7.holds_tied_plain_at .later [] [.data, .handle] true (true, "5a89125a6fd7d84907d8cc0c1b5b18a6e05b75fad46dac3b906d37505a0bc5f0") true
    storeSeq_holds (fun _ h => by cases h) (by as_aux_lemma => kernel_rfl) (fun _ h => by cases h) storeSeq_row_tie rfl ⟨rfl, rfl⟩ (by as_aux_lemma => kernel_rfl) rfl
    (fun f fn hf hfn => by
      obtain rfl : f = 13 := Option.some.inj ((show Tryz.prog.funcNamed "fieldfare/fieldfarelaw18.StoreSeq" = some 13 by as_aux_lemma => kernel_rfl).symm.trans hf) |>.symm
      obtain rfl : fn = Tryz.f13 := (Option.some.inj (Tryz.func13.symm.trans hfn)).symm
      exact ⟨by as_aux_lemma => kernel_rfl, fun j t ht => by
        have hm : t ∈ Tryz.f13.params.toList := by
          rw [← Array.getElem?_toList] at ht
          exact List.mem_of_getElem? ht
        rw [storeSeq_params] at hm
        have h3 : t = 3 ∨ t = 103 ∨ t = 125 := by
          simp only [List.mem_cons, List.not_mem_nil, or_false] at hm
          rcases hm with h | h | h <;> simp [h]
        rcases h3 with rfl | rfl | rfl
        all_goals (show Tryz.prog.wantsStandIn _ = false; as_aux_lemma => kernel_rfl)⟩)
    (by as_aux_lemma => kernel_rfl)
#print axioms storeSeqCard_holds
end Go.Proofs.YtmpijgfndnikpaaGreatDoor
