/- IndexBlocks: the given statement, tied (the card): for every two integers; the two package-level variables as the text lays them. -/
import Derived.Test.YtfgfgoiglhgnkaaGreatDoorIB1
import Derived.Test.YtfgfgoiglhgnkaaGreatDoorCards
import Derived.Test.YtfgfgoiglhgnkaaGreatDoorTie
import Derived.SevenTiedAt
set_option linter.unusedVariables false
set_option linter.unusedSimpArgs false
namespace Go.Proofs.YtfgfgoiglhgnkaaGreatDoor
open Go.ChangeShapes Go.WideShapes Go.RowKit Go.Ab Go.Ab.Seat

set_option maxRecDepth 100000 in
theorem indexBlocks_lifted (os : Os) (started : os.Started) (H : Type) (enc : TypeId × Value → H) :
    ReturnsInHanded {} Tryz.checked os 9 .any (fun w args => (Rows.indexBlocksSpec.pre enc Tryz.prog Tryz.f9 [] false w args ∧ laidMetH Tryz.prog laidVars w) ∧ sizedMet enc Tryz.prog Tryz.f9 (OpenSpec.ofChange Rows.indexBlocksSpec) false w args)
      (Rows.indexBlocksSpec.post enc Tryz.prog Tryz.f9 false true false false) := by
  refine law_lifts (C := Tryz.checked) (X := fun w _ => laidMetH Tryz.prog laidVars w) (tb := 4) (fun _ _ _ hh h => h.of_heap hh) own started (by kernel_rfl) Tryz.func9
    (ChangeSpec.witness_at (enc := enc) (C := Tryz.checked) (os := os) (X := fun w _ => laidMetH Tryz.prog laidVars w) false (laidWorld os) #[.int .i64 0, .int .i64 0] 8 rfl (by kernel_rfl) (by kernel_rfl) (by kernel_rfl) (by kernel_rfl) (by kernel_rfl) (laidWorld_met os _))
    laidOut ?_ (by rfl) Tryz.underlying4 ?_ rfl ?_
  · intro t ht
    have e : Tryz.f9.params.toList = [3, 3] := by rw [Tryz.params9]
    rw [e] at ht
    have : t = 3 := by simpa using ht
    subst this
    exact ⟨by kernel_rfl, of_decide_eq_true (by kernel_rfl)⟩
  · intro ds hds
    have e : Tryz.f9.params.toList = [3, 3] := by rw [Tryz.params9]
    rw [e] at hds
    match ds, hds with
    | [d1, d2], _ => rfl
  · intro W base args ds ps hs hval hA _ hL
    have hlaid := laid_of hL hs
    have e : Tryz.f9.params.toList = [3, 3] := by rw [Tryz.params9]
    have hA' := hA
    rw [show (Tryz.checked.prog) = Tryz.prog from rfl, e] at hA'
    obtain ⟨v0, v1, d0, d1, p0, p1, rfl, rfl, _, h0, h1⟩ := trodAll_two hA'
    obtain ⟨n, rfl, _⟩ := open_int Tryz.underlying3 (hval 0 3 v0 (by rw [Tryz.params9]; rfl) rfl) h0
    obtain ⟨m, rfl, _⟩ := open_int Tryz.underlying3 (hval 1 3 v1 (by rw [Tryz.params9]; rfl) rfl) h1
    exact indexBlocks_walk n m W hlaid

theorem band {a b : Bool} (h : a = true) (k : b = true) : (a && b) = true := by rw [h, k]; rfl

set_option maxHeartbeats 4000000 in
theorem indexBlocks_facts : joinedFacts Tryz.prog 9 Tryz.f9 Rows.indexBlocksSpec Rows.indexBlocksRow = true := by
  unfold joinedFacts
  repeat' (with_reducible refine band ?_ ?_)
  all_goals (as_aux_lemma => kernel_rfl)

theorem indexBlocks_holds : Rows.IndexBlocksSaid :=
  OpenClaim.holds_of_wide 9 Tryz.f9 rfl rfl rfl rfl rfl rfl rfl ⟨rfl, rfl, rfl, rfl, rfl⟩ rfl rfl rfl rfl rfl (by kernel_rfl) Tryz.func9 indexBlocks_facts
    (of_decide_eq_true (by kernel_rfl)) (by unfold Func.isWrapper; rw [if_neg (of_decide_eq_false (by kernel_rfl))]; exact ⟨rfl, rfl⟩)
    (fun os started H enc _ => indexBlocks_lifted os started H enc)

theorem indexBlocksCard_holds : Rows.IndexBlocksCardSaid :=
  Claim7.holds_tied_plain_at .later [] [.data, .handle] true (true, "287f31f69bca2712288606fd25dd071368c3af2fd927552af919a61afd61732a") true
    indexBlocks_holds (fun _ h => by cases h) (by kernel_rfl) (fun _ h => by cases h) indexBlocks_row_tie rfl ⟨rfl, rfl⟩ (by kernel_rfl) rfl
    (fun f fn hf hfn => by
      obtain rfl : f = 9 := Option.some.inj ((show Tryz.prog.funcNamed "fieldfare/fieldfarelaw13.IndexBlocks" = some 9 by kernel_rfl).symm.trans hf) |>.symm
      obtain rfl : fn = Tryz.f9 := (Option.some.inj (Tryz.func9.symm.trans hfn)).symm
      exact ⟨by kernel_rfl, fun j t ht => by
        rw [Tryz.params9] at ht
        have h3 : t = 3 := by
          rcases j with _ | _ | j
          · simpa using ht.symm
          · simpa using ht.symm
          · simp at ht
        subst h3
        exact (show Tryz.prog.wantsStandIn 3 = false by kernel_rfl)⟩)
    (by kernel_rfl)
#print axioms indexBlocksCard_holds
end Go.Proofs.YtfgfgoiglhgnkaaGreatDoor
