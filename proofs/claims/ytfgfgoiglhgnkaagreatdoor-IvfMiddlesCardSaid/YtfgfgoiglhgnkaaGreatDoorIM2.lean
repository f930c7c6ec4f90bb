/- IvfMiddles: the given statement, tied (the card): for every input; the listed package-level variables as the text lays them. -/
import Derived.Test.YtfgfgoiglhgnkaaGreatDoorIM1
import Derived.Test.YtfgfgoiglhgnkaaGreatDoorCards
import Derived.Test.YtfgfgoiglhgnkaaGreatDoorTie
import Derived.SevenTiedAt
set_option linter.unusedVariables false
set_option linter.unusedSimpArgs false
namespace Go.Proofs.YtfgfgoiglhgnkaaGreatDoor
open Go.ChangeShapes Go.WideShapes Go.RowKit Go.Ab Go.Ab.Seat

theorem ivfMiddles_params : Tryz.f13.params.toList = [22, 3] := by rw [Tryz.params13]

set_option maxRecDepth 100000 in
theorem ivfMiddles_lifted (os : Os) (started : os.Started) (H : Type) (enc : TypeId × Value → H) :
    ReturnsInHanded {} Tryz.checked os 13 .any (fun w args => (Rows.ivfMiddlesSpec.pre enc Tryz.prog Tryz.f13 [] false w args ∧ laidMetH Tryz.prog laidVars w) ∧ sizedMet enc Tryz.prog Tryz.f13 (OpenSpec.ofChange Rows.ivfMiddlesSpec) false w args)
      (Rows.ivfMiddlesSpec.post enc Tryz.prog Tryz.f13 false true false false) := by
  refine law_lifts (C := Tryz.checked) (X := fun w _ => laidMetH Tryz.prog laidVars w) (tb := 4) (fun _ _ _ hh h => h.of_heap hh) own started (by kernel_rfl) Tryz.func13
    (ChangeSpec.witness_at (enc := enc) (C := Tryz.checked) (os := os) (X := fun w _ => laidMetH Tryz.prog laidVars w) false (laidWorld os) #[.slice none 0 0, .int .i64 0] 8 rfl (by kernel_rfl) (by kernel_rfl) (by kernel_rfl) (by kernel_rfl) (by kernel_rfl) (laidWorld_met os _))
    laidOut ?_ (by rfl) Tryz.underlying4 ?_ rfl ?_
  · intro t ht
    rw [ivfMiddles_params] at ht
    have h3 : t = 3 ∨ t = 22 := by
      simp only [List.mem_cons, List.not_mem_nil, or_false] at ht
      rcases ht with h | h <;> simp [h]
    rcases h3 with rfl | rfl
    all_goals exact ⟨by kernel_rfl, of_decide_eq_true (by kernel_rfl)⟩
  · intro ds hds
    rw [ivfMiddles_params] at hds
    match ds, hds with
    | [d1, d2], _ => rfl
  · intro W base args ds ps hs hval hA _ hL
    have hlaid := laid_of hL hs
    have hA' := hA
    rw [show (Tryz.checked.prog) = Tryz.prog from rfl, ivfMiddles_params] at hA' 
    obtain ⟨v0, v1, d0, d1, p0, p1, rfl, rfl, _, h0, h1⟩ := trodAll_two hA'
    obtain ⟨n, rfl, _⟩ := open_int Tryz.underlying3 (hval 1 3 v1 (by rw [Tryz.params13]; rfl) rfl) h1
    exact ivfMiddles_walk v0 n W hlaid

theorem ivfMiddles_band {a b : Bool} (h : a = true) (k : b = true) : (a && b) = true := by rw [h, k]; rfl

set_option maxHeartbeats 4000000 in
theorem ivfMiddles_facts : joinedFacts Tryz.prog 13 Tryz.f13 Rows.ivfMiddlesSpec Rows.ivfMiddlesRow = true := by
  unfold joinedFacts
  repeat' (with_reducible refine ivfMiddles_band ?_ ?_)
  all_goals (as_aux_lemma => kernel_rfl)

theorem ivfMiddles_holds : Rows.IvfMiddlesSaid :=
  OpenClaim.holds_of_wide 13 Tryz.f13 rfl rfl rfl rfl rfl rfl rfl ⟨rfl, rfl, rfl, rfl, rfl⟩ rfl rfl rfl rfl rfl (by kernel_rfl) Tryz.func13 ivfMiddles_facts
    (of_decide_eq_true (by kernel_rfl)) (by unfold Func.isWrapper; rw [if_neg (of_decide_eq_false (by kernel_rfl))]; exact ⟨rfl, rfl⟩)
    (fun os started H enc _ => ivfMiddles_lifted os started H enc)

theorem ivfMiddlesCard_holds : Rows.IvfMiddlesCardSaid :=
  Claim7.holds_tied_plain_at .later [] [.data, .handle] true (true, "287f31f69bca2712288606fd25dd071368c3af2fd927552af919a61afd61732a") true
    ivfMiddles_holds (fun _ h => by cases h) (by kernel_rfl) (fun _ h => by cases h) ivfMiddles_row_tie rfl ⟨rfl, rfl⟩ (by kernel_rfl) rfl
    (fun f fn hf hfn => by
      obtain rfl : f = 13 := Option.some.inj ((show Tryz.prog.funcNamed "fieldfare/fieldfarelaw13.IvfMiddles" = some 13 by kernel_rfl).symm.trans hf) |>.symm
      obtain rfl : fn = Tryz.f13 := (Option.some.inj (Tryz.func13.symm.trans hfn)).symm
      exact ⟨by kernel_rfl, fun j t ht => by
        have hm : t ∈ Tryz.f13.params.toList := by
          rw [← Array.getElem?_toList] at ht
          exact List.mem_of_getElem? ht
        rw [ivfMiddles_params] at hm
        have h3 : t = 3 ∨ t = 22 := by
          simp only [List.mem_cons, List.not_mem_nil, or_false] at hm
          rcases hm with h | h <;> simp [h]
        rcases h3 with rfl | rfl
        all_goals (show Tryz.prog.wantsStandIn _ = false; kernel_rfl)⟩)
    (by kernel_rfl)
#print axioms ivfMiddlesCard_holds
end Go.Proofs.YtfgfgoiglhgnkaaGreatDoor
