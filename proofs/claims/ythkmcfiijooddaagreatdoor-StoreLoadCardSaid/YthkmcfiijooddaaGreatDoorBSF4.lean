/- StoreLoad: the given statement, tied (the card): for every input; the listed package-level variables as the text lays them. -/
import Derived.Test.YthkmcfiijooddaaGreatDoorBSF3
import Derived.Test.YthkmcfiijooddaaGreatDoorCards
import Derived.Test.YthkmcfiijooddaaGreatDoorTie
import Derived.SevenTiedAt
set_option linter.unusedVariables false
set_option linter.unusedSimpArgs false
namespace Go.Proofs.YthkmcfiijooddaaGreatDoor
open Go.ChangeShapes Go.WideShapes Go.RowKit Go.Ab Go.Ab.Seat

theorem storeLoad_params : Tryz.f4.params.toList = [49, 3] := by rw [Tryz.params4]

set_option maxRecDepth 100000 in
theorem storeLoad_lifted (os : Os) (started : os.Started) (H : Type) (enc : TypeId × Value → H) :
    ReturnsInHanded {} Tryz.checked os 4 .any (fun w args => (Rows.storeLoadSpec.pre enc Tryz.prog Tryz.f4 [] false w args ∧ laidMetH Tryz.prog laidVars w) ∧ sizedMet enc Tryz.prog Tryz.f4 (OpenSpec.ofChange Rows.storeLoadSpec) false w args)
      (Rows.storeLoadSpec.post enc Tryz.prog Tryz.f4 false true false false) := by
  refine law_lifts (C := Tryz.checked) (X := fun w _ => laidMetH Tryz.prog laidVars w) (tb := 4) (fun _ _ _ hh h => h.of_heap hh) own started (by kernel_rfl) Tryz.func4
    (ChangeSpec.witness_at (enc := enc) (C := Tryz.checked) (os := os) (X := fun w _ => laidMetH Tryz.prog laidVars w) false (laidWorld os) #[.slice none 0 0, .int .i64 0] 8 rfl (by kernel_rfl) (by kernel_rfl) (by kernel_rfl) (by kernel_rfl) (by kernel_rfl) (laidWorld_met os _))
    laidOut ?_ (by rfl) Tryz.underlying4 ?_ rfl ?_
  · intro t ht
    rw [storeLoad_params] at ht
    have h3 : t = 3 ∨ t = 49 := by
      simp only [List.mem_cons, List.not_mem_nil, or_false] at ht
      rcases ht with h | h <;> simp [h]
    rcases h3 with rfl | rfl
    all_goals exact ⟨by kernel_rfl, of_decide_eq_true (by kernel_rfl)⟩
  · intro ds hds
    rw [storeLoad_params] at hds
    match ds, hds with
    | [d1, d2], _ => rfl
  · intro W base args ds ps hs hval hA hwt hL
    have hlaid := laid_of hL hs
    have hA' := hA
    rw [show (Tryz.checked.prog) = Tryz.prog from rfl, storeLoad_params] at hA' 
    obtain ⟨v0, v1, d0, d1, p0, p1, rfl, rfl, _, h0, h1⟩ := trodAll_two hA'
    obtain ⟨a1, l1, k1, rfl⟩ := okWide_slice Tryz.underlying49 (hval 0 49 v0 (by rw [Tryz.params4]; rfl) rfl)
    obtain ⟨n, rfl, _⟩ := open_int Tryz.underlying3 (hval 1 3 v1 (by rw [Tryz.params4]; rfl) rfl) h1
    obtain ⟨m1, hm1⟩ := h0
    exact storeLoad_walk (x := (d0, p0)) (laidx_of hL hs) n hm1 (fun n9 hn9 => of_decide_eq_true (List.all_eq_true.1 hwt n9 (wEach_mem (i := 0) (t := 49) (d := d0) (by rw [storeLoad_params]; rfl) rfl n9 hn9)))

theorem storeLoad_band {a b : Bool} (h : a = true) (k : b = true) : (a && b) = true := by rw [h, k]; rfl

set_option maxHeartbeats 4000000 in
theorem storeLoad_facts : joinedFacts Tryz.prog 4 Tryz.f4 Rows.storeLoadSpec Rows.storeLoadRow = true := by
  unfold joinedFacts
  repeat' (with_reducible refine storeLoad_band ?_ ?_)
  all_goals (as_aux_lemma => kernel_rfl)

theorem storeLoad_holds : Rows.StoreLoadSaid :=
  OpenClaim.holds_of_wide 4 Tryz.f4 rfl rfl rfl rfl rfl rfl rfl ⟨rfl, rfl, rfl, rfl, rfl⟩ rfl rfl rfl rfl rfl (by as_aux_lemma => kernel_rfl) Tryz.func4 storeLoad_facts
    (of_decide_eq_true (by as_aux_lemma => kernel_rfl)) (by unfold Func.isWrapper; rw [if_neg (of_decide_eq_false (by as_aux_lemma => kernel_rfl))]; exact ⟨rfl, rfl⟩)
    (fun os started H enc _ => storeLoad_lifted os started H enc)

theorem storeLoadCard_holds : Rows.StoreLoadCardSaid :=
  Claim7.holds_tied_plain_at .later [] [.data, .handle] true (true, "b80c4a19a7312a99fb26ba642549ac01509e2f7203e259a58fb7777f4915bfc5") true
    storeLoad_holds (fun _ h => by cases h) (by as_aux_lemma => kernel_rfl) (fun _ h => by cases h) storeLoad_row_tie rfl ⟨rfl, rfl⟩ (by as_aux_lemma => kernel_rfl) rfl
    (fun f fn hf hfn => by
      obtain rfl : f = 4 := Option.some.inj ((show Tryz.prog.funcNamed "fieldfare/fieldfarelaw18.StoreLoad" = some 4 by as_aux_lemma => kernel_rfl).symm.trans hf) |>.symm
      obtain rfl : fn = Tryz.f4 := (Option.some.inj (Tryz.func4.symm.trans hfn)).symm
      exact ⟨by as_aux_lemma => kernel_rfl, fun j t ht => by
        have hm : t ∈ Tryz.f4.params.toList := by
          rw [← Array.getElem?_toList] at ht
          exact List.mem_of_getElem? ht
        rw [storeLoad_params] at hm
        have h3 : t = 3 ∨ t = 49 := by
          simp only [List.mem_cons, List.not_mem_nil, or_false] at hm
          rcases hm with h | h <;> simp [h]
        rcases h3 with rfl | rfl
        all_goals (show Tryz.prog.wantsStandIn _ = false; as_aux_lemma => kernel_rfl)⟩)
    (by as_aux_lemma => kernel_rfl)
#print axioms storeLoadCard_holds
end Go.Proofs.YthkmcfiijooddaaGreatDoor
