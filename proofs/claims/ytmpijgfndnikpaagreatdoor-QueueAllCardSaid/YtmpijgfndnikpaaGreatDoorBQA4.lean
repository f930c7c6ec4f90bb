/- QueueAll: the given statement, tied (the card): for every input; the listed package-level variables as the text lays them. -/
import Derived.Test.YtmpijgfndnikpaaGreatDoorBQA3
import Derived.Test.YtmpijgfndnikpaaGreatDoorCards
import Derived.Test.YtmpijgfndnikpaaGreatDoorTie
import Derived.SevenTiedAt
set_option linter.unusedVariables false
set_option linter.unusedSimpArgs false
namespace Go.Proofs.YtmpijgfndnikpaaGreatDoor
open Go.ChangeShapes Go.WideShapes Go.RowKit Go.Ab Go.Ab.Seat

theorem queueAll_params : Tryz.f9.params.toList = [3, 106] := by rw [Tryz.params9]

set_option maxRecDepth 100000 in
theorem queueAll_lifted (os : Os) (started : os.Started) (H : Type) (enc : TypeId × Value → H) :
    ReturnsInHanded {} Tryz.checked os 9 .any (fun w args => (Rows.queueAllSpec.pre enc Tryz.prog Tryz.f9 [] false w args ∧ laidMetH Tryz.prog laidVars w) ∧ sizedMet enc Tryz.prog Tryz.f9 (OpenSpec.ofChange Rows.queueAllSpec) false w args)
      (Rows.queueAllSpec.post enc Tryz.prog Tryz.f9 false true false false) := by
  refine law_lifts (C := Tryz.checked) (X := fun w _ => laidMetH Tryz.prog laidVars w) (tb := 4) (fun _ _ _ hh h => h.of_heap hh) own started (by kernel_rfl) Tryz.func9
    (ChangeSpec.witness_at (enc := enc) (C := Tryz.checked) (os := os) (X := fun w _ => laidMetH Tryz.prog laidVars w) false (laidWorld os) #[.int .i64 0, .slice none 0 0] 8 rfl (by kernel_rfl) (by kernel_rfl) (by kernel_rfl) (by kernel_rfl) (by kernel_rfl) (laidWorld_met os _))
    laidOut ?_ (by rfl) Tryz.underlying4 ?_ rfl ?_
  · intro t ht
    rw [queueAll_params] at ht
    have h3 : t = 3 ∨ t = 106 := by
      simp only [List.mem_cons, List.not_mem_nil, or_false] at ht
      rcases ht with h | h <;> simp [h]
    rcases h3 with rfl | rfl
    all_goals exact ⟨by kernel_rfl, of_decide_eq_true (by kernel_rfl)⟩
  · intro ds hds
    rw [queueAll_params] at hds
    match ds, hds with
    | [d1, d2], _ => rfl
  · intro W base args ds ps hs hval hA _ hL
    have hlaid := laid_of hL hs
    have hA' := hA
    rw [show (Tryz.checked.prog) = Tryz.prog from rfl, queueAll_params] at hA' 
    obtain ⟨v0, v1, d0, d1, p0, p1, rfl, rfl, _, h0, h1⟩ := trodAll_two hA'
    obtain ⟨n, rfl, _⟩ := open_int Tryz.underlying3 (hval 0 3 v0 (by rw [Tryz.params9]; rfl) rfl) h0
    obtain ⟨a1, l1, k1, rfl⟩ := okWide_slice Tryz.underlying106 (hval 1 106 v1 (by rw [Tryz.params9]; rfl) rfl)
    obtain ⟨m1, hm1⟩ := h1
    exact queueAll_walk (laidx_of hL hs) n hm1

theorem queueAll_band {a b : Bool} (h : a = true) (k : b = true) : (a && b) = true := by rw [h, k]; rfl

set_option maxHeartbeats 4000000 in
theorem queueAll_facts : joinedFacts Tryz.prog 9 Tryz.f9 Rows.queueAllSpec Rows.queueAllRow = true := by
  unfold joinedFacts
  repeat' (with_reducible refine queueAll_band ?_ ?_)
  all_goals (as_aux_lemma => kernel_rfl)

theorem queueAll_holds : Rows.QueueAllSaid :=
  OpenClaim.holds_of_wide 9 Tryz.f9 rfl rfl rfl rfl rfl rfl rfl ⟨rfl, rfl, rfl, rfl, rfl⟩ rfl rfl rfl rfl rfl (by as_aux_lemma => kernel_rfl) Tryz.func9 queueAll_facts
    (of_decide_eq_true (by as_aux_lemma => kernel_rfl)) (by unfold Func.isWrapper; rw [if_neg (of_decide_eq_false (by as_aux_lemma => kernel_rfl))]; exact ⟨rfl, rfl⟩)
    (fun os started H enc _ => queueAll_lifted os started H enc)

theorem queueAllCard_holds : Rows.QueueAllCardSaid :=
  Claim7.holds_tied_plain_at .later [] [.data, .handle] true (true, "5a89125a6fd7d84907d8cc0c1b5b18a6e05b75fad46dac3b906d37505a0bc5f0") true
    queueAll_holds (fun _ h => by cases h) (by as_aux_lemma => kernel_rfl) (fun _ h => by cases h) queueAll_row_tie rfl ⟨rfl, rfl⟩ (by as_aux_lemma => kernel_rfl) rfl
    (fun f fn hf hfn => by
      obtain rfl : f = 9 := Option.some.inj ((show Tryz.prog.funcNamed "fieldfare/fieldfarelaw18.QueueAll" = some 9 by as_aux_lemma => kernel_rfl).symm.trans hf) |>.symm
      obtain rfl : fn = Tryz.f9 := (Option.some.inj (Tryz.func9.symm.trans hfn)).symm
      exact ⟨by as_aux_lemma => kernel_rfl, fun j t ht => by
        have hm : t ∈ Tryz.f9.params.toList := by
          rw [← Array.getElem?_toList] at ht
          exact List.mem_of_getElem? ht
        rw [queueAll_params] at hm
        have h3 : t = 3 ∨ t = 106 := by
          simp only [List.mem_cons, List.not_mem_nil, or_false] at hm
          rcases hm with h | h <;> simp [h]
        rcases h3 with rfl | rfl
        all_goals (show Tryz.prog.wantsStandIn _ = false; as_aux_lemma => kernel_rfl)⟩)
    (by as_aux_lemma => kernel_rfl)
#print axioms queueAllCard_holds
end Go.Proofs.YtmpijgfndnikpaaGreatDoor
