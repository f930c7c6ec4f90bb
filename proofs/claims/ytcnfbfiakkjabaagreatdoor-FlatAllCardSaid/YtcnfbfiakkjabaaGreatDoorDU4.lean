/- FlatAll: the given statement, tied (the card): for every input; the listed package-level variables as the text lays them. -/
import Derived.Test.YtcnfbfiakkjabaaGreatDoorDU3
import Derived.Test.YtcnfbfiakkjabaaGreatDoorCards
import Derived.Test.YtcnfbfiakkjabaaGreatDoorTie
import Derived.SevenTiedAt
set_option linter.unusedVariables false
set_option linter.unusedSimpArgs false
namespace Go.Proofs.YtcnfbfiakkjabaaGreatDoor
open Go.ChangeShapes Go.WideShapes Go.RowKit Go.Ab Go.Ab.Seat

theorem flatAll_params : Tryz.f8.params.toList = [3, 3, 55] := by rw [Tryz.params8]

set_option maxRecDepth 100000 in
theorem flatAll_lifted (os : Os) (started : os.Started) (H : Type) (enc : TypeId × Value → H) :
    ReturnsInHanded {} Tryz.checked os 8 .any (fun w args => (Rows.flatAllSpec.pre enc Tryz.prog Tryz.f8 [] false w args ∧ laidMetH Tryz.prog laidVars w) ∧ sizedMet enc Tryz.prog Tryz.f8 (OpenSpec.ofChange Rows.flatAllSpec) false w args)
      (Rows.flatAllSpec.post enc Tryz.prog Tryz.f8 false true false false) := by
  refine law_lifts (C := Tryz.checked) (X := fun w _ => laidMetH Tryz.prog laidVars w) (tb := 4) (fun _ _ _ hh h => h.of_heap hh) own started (by kernel_rfl) Tryz.func8
    (ChangeSpec.witness_at (enc := enc) (C := Tryz.checked) (os := os) (X := fun w _ => laidMetH Tryz.prog laidVars w) false (laidWorld os) #[.int .i64 0, .int .i64 0, .slice none 0 0] 8 rfl (by kernel_rfl) (by kernel_rfl) (by kernel_rfl) (by kernel_rfl) (by kernel_rfl) (laidWorld_met os _))
    laidOut ?_ (by rfl) Tryz.underlying4 ?_ rfl ?_
  · intro t ht
    rw [flatAll_params] at ht
    have h3 : t = 3 ∨ t = 55 := by
      simp only [List.mem_cons, List.not_mem_nil, or_false] at ht
      rcases ht with h | h | h <;> simp [h]
    rcases h3 with rfl | rfl
    all_goals exact ⟨by kernel_rfl, of_decide_eq_true (by kernel_rfl)⟩
  · intro ds hds
    rw [flatAll_params] at hds
    match ds, hds with
    | [d1, d2, d3], _ => rfl
  · intro W base args ds ps hs hval hA _ hL
    have hlaid := laid_of hL hs
    have hA' := hA
    rw [show (Tryz.checked.prog) = Tryz.prog from rfl, flatAll_params] at hA' 
    obtain ⟨v0, v1, v2, d0, d1, d2, p0, p1, p2, rfl, rfl, _, h0, h1, h2⟩ := trodAll_three hA'
    have hx := laidx_of hL hs
    obtain ⟨m, rfl, _⟩ := open_int Tryz.underlying3 (hval 0 3 v0 (by rw [Tryz.params8]; rfl) rfl) h0
    obtain ⟨d, rfl, _⟩ := open_int Tryz.underlying3 (hval 1 3 v1 (by rw [Tryz.params8]; rfl) rfl) h1
    obtain ⟨a2, l2, c2, rfl⟩ := okWide_slice Tryz.underlying55 (hval 2 55 v2 (by rw [Tryz.params8]; rfl) rfl)
    obtain ⟨f2, g2⟩ := h2
    exact flatAll_walk hx g2

theorem flatAll_band {a b : Bool} (h : a = true) (k : b = true) : (a && b) = true := by rw [h, k]; rfl

set_option maxHeartbeats 4000000 in
theorem flatAll_facts : joinedFacts Tryz.prog 8 Tryz.f8 Rows.flatAllSpec Rows.flatAllRow = true := by
  unfold joinedFacts
  repeat' (with_reducible refine flatAll_band ?_ ?_)
  all_goals (as_aux_lemma => kernel_rfl)

theorem flatAll_holds : Rows.FlatAllSaid :=
  OpenClaim.holds_of_wide 8 Tryz.f8 rfl rfl rfl rfl rfl rfl rfl ⟨rfl, rfl, rfl, rfl, rfl⟩ rfl rfl rfl rfl rfl (by as_aux_lemma => kernel_rfl) Tryz.func8 flatAll_facts
    (of_decide_eq_true (by as_aux_lemma => kernel_rfl)) (by unfold Func.isWrapper; rw [if_neg (of_decide_eq_false (by as_aux_lemma => kernel_rfl))]; exact ⟨rfl, rfl⟩)
    (fun os started H enc _ => flatAll_lifted os started H enc)

theorem flatAllCard_holds : Rows.FlatAllCardSaid :=
  Claim7.holds_tied_plain_at .later [] [.data, .handle] true (true, "e04b4dc7c8377513c79669966fe69045d0029e156480d981b57976a9b3570c87") true
    flatAll_holds (fun _ h => by cases h) (by as_aux_lemma => kernel_rfl) (fun _ h => by cases h) flatAll_row_tie rfl ⟨rfl, rfl⟩ (by as_aux_lemma => kernel_rfl) rfl
    (fun f fn hf hfn => by
      obtain rfl : f = 8 := Option.some.inj ((show Tryz.prog.funcNamed "fieldfare/fieldfarelaw13.FlatAll" = some 8 by as_aux_lemma => kernel_rfl).symm.trans hf) |>.symm
      obtain rfl : fn = Tryz.f8 := (Option.some.inj (Tryz.func8.symm.trans hfn)).symm
      exact ⟨by as_aux_lemma => kernel_rfl, fun j t ht => by
        have hm : t ∈ Tryz.f8.params.toList := by
          rw [← Array.getElem?_toList] at ht
          exact List.mem_of_getElem? ht
        rw [flatAll_params] at hm
        have h3 : t = 3 ∨ t = 55 := by
          simp only [List.mem_cons, List.not_mem_nil, or_false] at hm
          rcases hm with h | h | h <;> simp [h]
        rcases h3 with rfl | rfl
        all_goals (show Tryz.prog.wantsStandIn _ = false; as_aux_lemma => kernel_rfl)⟩)
    (by as_aux_lemma => kernel_rfl)
#print axioms flatAllCard_holds
end Go.Proofs.YtcnfbfiakkjabaaGreatDoor
