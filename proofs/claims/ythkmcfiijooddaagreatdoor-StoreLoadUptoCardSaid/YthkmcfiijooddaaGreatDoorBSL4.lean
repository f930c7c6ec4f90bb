/- StoreLoad: the given statement, tied (the card), where what it reads is of bulk at most 1048576; the listed package-level variables as the text lays them. -/
import Derived.Test.YthkmcfiijooddaaGreatDoorBSL3
import Derived.Test.YthkmcfiijooddaaGreatDoorCards
import Derived.Test.YthkmcfiijooddaaGreatDoorTie
import Derived.SevenTiedAt
import Derived.Deep.DeepHandedRow
import Derived.OpenShut
set_option linter.unusedVariables false
set_option linter.unusedSimpArgs false
namespace Go.Proofs.YthkmcfiijooddaaGreatDoor
open Go.ChangeShapes Go.WideShapes Go.RowKit Go.Ab Go.Ab.Seat

theorem storeLoad_params : Tryz.f4.params.toList = [49, 3] := by rw [Tryz.params4]

theorem storeLoad_reads (os : Os) {H : Type} (enc : TypeId × Value → H) : ∃ places, DataW.whole enc Tryz.prog ((laidWorld os).forCall (fun _ _ => 0) ⟨#[], #[.slice none 0 0, .int .i64 0], []⟩).memory Tryz.f4.params.toList (Rows.OpenSpec.upto Rows.storeLoadSpec).vars false #[Value.slice none 0 0, .int .i64 0].toList 8 = some ([.nil, .lit (.int .i64 0)], [], places) :=
  ⟨[], by kernel_rfl⟩

set_option maxRecDepth 100000 in
theorem storeLoad_lifted (os : Os) (started : os.Started) (H : Type) (enc : TypeId × Value → H) (F : Stop.Interp) :
    ReturnsInHanded {} Tryz.checked os 4 .any ((Rows.OpenSpec.upto Rows.storeLoadSpec).preRow enc Tryz.prog Tryz.f4 Rows.storeLoadUptoRow.domain false Rows.storeLoadUptoRow.laid) (((Rows.OpenSpec.upto Rows.storeLoadSpec).at F).post enc Tryz.prog Tryz.f4 false true false false) := by
  obtain ⟨places, hx⟩ := storeLoad_reads os enc
  refine returnsInHanded_of_row (C := Tryz.checked) (s := Rows.OpenSpec.upto Rows.storeLoadSpec) own started (by kernel_rfl) Tryz.func4
    (witness_row_at (enc := enc) (C := Tryz.checked) false (laidWorld os) #[.slice none 0 0, .int .i64 0] rfl (by kernel_rfl) (by kernel_rfl) (by kernel_rfl)
      (OpenSpec.preRow_of_cond 8 hx (by kernel_rfl) (fun k hk => by cases hk; kernel_rfl) (by kernel_rfl) (laidWorld_met os _))) ?_
  intro W base args ds gs before hval hW _ hcond hwt hL hsh _
  have hW0 := hW
  obtain ⟨p, q, hA, hV, _, _, _⟩ := hW
  have hgs : gs = [] ∧ q = [] := by
    cases gs with
    | nil => exact ⟨rfl, hV⟩
    | cons g r => exact absurd hV (by intro h; cases h)
  obtain ⟨rfl, rfl⟩ := hgs
  have hlen := (trodAll_len hA).1
  have hA' := hA
  rw [show (Tryz.checked.prog) = Tryz.prog from rfl, storeLoad_params] at hA'
  obtain ⟨v0, v1, d0, d1, p0, p1, rfl, rfl, _, h0, h1⟩ := trodAll_two hA'
  obtain ⟨a1, l1, k1, rfl⟩ := okWide_slice Tryz.underlying49 (hval 0 49 v0 (by rw [Tryz.params4]; rfl) rfl)
  obtain ⟨n, rfl, _⟩ := open_int Tryz.underlying3 (hval 1 3 v1 (by rw [Tryz.params4]; rfl) rfl) h1
  obtain ⟨m1, hm1⟩ := h0
  have hk : Rows.uptoBulk d0 ≤ 1048576 := by
    have h9 := hcond _ rfl
    have h8 : Rows.uptoBulkAll ([d0, d1] ++ []) ≤ 1048576 := of_decide_eq_true h9
    exact Nat.le_trans (bulk_part (List.mem_cons_self ..)) h8
  refine (storeLoad_walk (x := (d0, p0)) (laidx_of hL hsh) n hm1 hk).mono fun e W' ⟨he, hb⟩ => ?_
  subst he
  refine ⟨_, rfl, [d0, d1], [], before, [], p, [], hW0, ?_, ?_, ?_, Below.frame hb _, fun h => by cases h⟩
  · exact trodAll_mk1 (shut_bool Tryz.underlying4 true)
  · exact trodAll_below laidOut hb (fun t ht => by
      rw [storeLoad_params] at ht
      have h3 : t = 49 ∨ t = 3 := by
        simp only [List.mem_cons, List.not_mem_nil, or_false] at ht
        exact ht
      rcases h3 with rfl | rfl
      all_goals exact ⟨by kernel_rfl, of_decide_eq_true (by kernel_rfl)⟩) hA
  · rfl

theorem storeLoad_said : Rows.StoreLoadUptoSaid :=
  OpenClaim.holds_of_cond 4 Tryz.f4 rfl rfl rfl rfl rfl rfl rfl ⟨rfl, rfl, rfl, rfl, rfl⟩ rfl rfl rfl rfl rfl (by as_aux_lemma => kernel_rfl) Tryz.func4 (by as_aux_lemma => kernel_rfl)
    (of_decide_eq_true (by as_aux_lemma => kernel_rfl)) (by unfold Func.isWrapper; rw [if_neg (of_decide_eq_false (by as_aux_lemma => kernel_rfl))]; exact ⟨rfl, rfl⟩)
    (fun os started H enc _ F => by rw [OpenClaim.pre_eq_preRow]; exact storeLoad_lifted os started H enc F)

theorem storeLoad_plain (f : FuncId) (fn : Func) (hf : Tryz.pinned.checked.prog.funcNamed "fieldfare/fieldfarelaw18.StoreLoad" = some f) (hfn : Tryz.pinned.checked.prog.funcs[f]? = some fn) :
    true = Tryz.pinned.checked.prog.looks [] ∧ ∀ (j : Nat) t, fn.params[j]? = some t → Tryz.pinned.checked.prog.wantsStandIn t = false := by
  obtain rfl : f = 4 := Option.some.inj ((show Tryz.prog.funcNamed "fieldfare/fieldfarelaw18.StoreLoad" = some 4 by as_aux_lemma => kernel_rfl).symm.trans hf) |>.symm
  obtain rfl : fn = Tryz.f4 := (Option.some.inj (Tryz.func4.symm.trans hfn)).symm
  refine ⟨by as_aux_lemma => kernel_rfl, fun j t ht => ?_⟩
  have hm : t ∈ Tryz.f4.params.toList := by
    rw [← Array.getElem?_toList] at ht
    exact List.mem_of_getElem? ht
  rw [storeLoad_params] at hm
  have h3 : t = 49 ∨ t = 3 := by
    simp only [List.mem_cons, List.not_mem_nil, or_false] at hm
    exact hm
  rcases h3 with rfl | rfl
  all_goals (show Tryz.prog.wantsStandIn _ = false; as_aux_lemma => kernel_rfl)

theorem storeLoadUptoCard_holds : Rows.StoreLoadUptoCardSaid :=
  Claim7.holds_tied_plain_at .later [] _ _ _ _ storeLoad_said (fun _ h => by cases h) (by as_aux_lemma => kernel_rfl) (fun _ h => by cases h) storeLoadUpto_row_tie rfl ⟨rfl, rfl⟩ (by as_aux_lemma => kernel_rfl) rfl storeLoad_plain (by as_aux_lemma => kernel_rfl)
#print axioms storeLoadUptoCard_holds
end Go.Proofs.YthkmcfiijooddaaGreatDoor
