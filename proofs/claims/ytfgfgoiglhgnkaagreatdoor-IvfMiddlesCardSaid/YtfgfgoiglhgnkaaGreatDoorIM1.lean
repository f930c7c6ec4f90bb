/- IvfMiddles answers true and turns nothing that lay before: for every slice value and integer, in a world in which the listed variables are as laid. -/
import Derived.Test.YtfgfgoiglhgnkaaGreatDoorIB1
import Derived.Test.YtfgfgoiglhgnkaaGreatDoorE26
import Derived.WalkKit
import Derived.Deep.Cut
set_option linter.unusedVariables false
set_option linter.unusedSimpArgs false
namespace Go.Proofs.YtfgfgoiglhgnkaaGreatDoor
open Go.RowKit Go.Ab Go.Ab.Seat

noncomputable def bodyOf (fn : Func) : Code := match fn.body with | some b => b | none => .skip
noncomputable def imTail : Code := Code.r (Code.r (Code.r (Code.r (bodyOf Tryz.f13))))
noncomputable def imKm : Nat := (kms[13]?).getD 0
noncomputable def imRun (r : Nat) : Bool := isT (tailB C13 eg 1000 imKm (Code.l imTail) (Code.r imTail) (envOf imKm [Ab.top, .int .i64 (Int.ofNat r)]) Tryz.f13.results.toList s0)

set_option maxRecDepth 1000000 in
theorem imRuns : allB imRun (List.range 20) = true := by kernel_rfl
set_option maxRecDepth 1000000 in
theorem imOk1 : codeOk C13 3 Tryz.f13.ntmps (Code.l imTail) = true := by kernel_rfl
set_option maxRecDepth 1000000 in
theorem imOk2 : codeOk C13 3 Tryz.f13.ntmps (Code.r imTail) = true := by kernel_rfl

set_option maxHeartbeats 4000000 in
theorem ivfMiddles_walk (vs : Value) (n : Int) (w : World) (hw : Laid w) : Calls Tryz.prog 13 #[vs, .int .i64 n] w fun e w' => e = .returned (.bool true) ∧ Below w.heap.size w w' := by
  go_enter Tryz.func13, Tryz.ntmps13
  go_upto_region 5 with (go_at_call 15; refine (begun13_calls hw).2.mono ?_; rintro e w' ⟨rfl, hleft⟩)
  have hN := mod_range n 20 (by omega) (by omega)
  generalize (wrap64 (n.tmod 20 + 20)).tmod 20 = N at hN ⊢
  obtain ⟨hN0, hN1⟩ := hN
  have hlaid : Laid w' := hw.left hleft
  obtain ⟨r, rfl⟩ : ∃ r : Nat, N = Int.ofNat r := ⟨N.toNat, (Int.toNat_of_nonneg hN0).symm⟩
  have hr : r < 20 := by have : (r : Int) < 20 := hN1; omega
  have hrun : imRun r = true := by
    have := imRuns
    rw [allB_eq, List.all_eq_true] at this
    exact this r (List.mem_range.2 hr)
  rename_i hK
  refine tail_true whole13 (fn := Tryz.f13) hrun imOk1 imOk2 (envOf_kept _ _) hlaid.hr (envAt ?_) rfl rfl (fun b hb => if_neg (by have : 3 ≤ b := hb; omega)) (fun k => s0_owned) hK ?_
  · intro t v ht
    match t, ht with
    | 0, ht => simp at ht; subst ht; exact .top _
    | 1, ht => simp at ht; subst ht; exact .int _ _
    | t + 2, ht => simp at ht
  · intro w2 hb
    refine ⟨rfl, (Below.trans ⟨hleft.os, hleft.tape, hleft.output, hleft.size, hleft.heap⟩ (hb.mono hleft.size))⟩
#print axioms ivfMiddles_walk
end Go.Proofs.YtfgfgoiglhgnkaaGreatDoor
