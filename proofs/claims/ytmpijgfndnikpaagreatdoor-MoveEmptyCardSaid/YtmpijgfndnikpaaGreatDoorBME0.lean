/- MoveEmpty answers true and turns nothing that lay before: for every four integers, in a world in which the listed variables are as laid. -/
import Derived.Test.YtmpijgfndnikpaaGreatDoorBKD
import Derived.Test.YtmpijgfndnikpaaGreatDoorBME3
import Derived.Test.YtmpijgfndnikpaaGreatDoorBS15
import Derived.Deep.Cut
set_option linter.unusedVariables false
set_option linter.unusedSimpArgs false
namespace Go.Proofs.YtmpijgfndnikpaaGreatDoor
open Go.RowKit Go.Ab Go.Ab.Seat
set_option maxHeartbeats 4000000 in
theorem dimC (n : Int) (w : World) : Calls Tryz.prog 65 #[.int .i64 n] w fun e w' => ∃ d : Nat, e = .returned (.int .i64 (d : Int)) ∧ w' = w ∧ 1 ≤ d ∧ d ≤ 8 := by
  have hr := mod_range n 8 (by omega) (by omega)
  generalize hX : (wrap64 (n.tmod 8 + 8)).tmod 8 = X at hr
  go_enter Tryz.func65, Tryz.ntmps65
  go_wp2
  go_ret
  refine ⟨(1 + X).toNat, ?_, rfl, by omega, by omega⟩
  show Ending.returned (.int .i64 (1 + X)) = _
  rw [Int.toNat_of_nonneg (by omega)]

set_option maxHeartbeats 4000000 in
theorem moveEmpty_walk (f t m d : Int) (w : World) (hw : Laid w) : Calls Tryz.prog 5 #[.int .i64 f, .int .i64 t, .int .i64 m, .int .i64 d] w fun e w' => e = .returned (.bool true) ∧ Below w.heap.size w w' := by
  obtain ⟨r, hr, er⟩ := and1 m
  have e1 : wrap64 (1 + (r : Int)) = ((r + 1 : Nat) : Int) := by rw [wrap64_id (by omega) (by omega)]; omega
  generalize hA : r + 1 = A at e1
  go_enter Tryz.func5, Tryz.ntmps5
  go_upto_region 6 with (first
    | (go_at_call 50; refine (begun18_calls hw).2.mono ?_; rintro e w' ⟨rfl, hleft⟩)
    | (go_at_call 64; refine (kindsC _ _ _).mono ?_; rintro e w2 ⟨a, b, rfl, rfl, ha1, ha4, hb1, hb4, hab⟩)
    | (go_at_call 65; refine (dimC _ _).mono ?_; rintro e w3 ⟨dd, rfl, rfl, hd1, hd8⟩))
  have hlaid : Laid w3 := hw.left hleft
  rename_i hK
  refine tail_true whole18 (fn := Tryz.f5) (meAll ⟨ha1, ha4⟩ ⟨hb1, hb4⟩ hab (m := r + 1) ⟨by omega, by omega⟩ ⟨hd1, hd8⟩) meOk1 meOk2 (envOf_kept _ _) hlaid.hr (envAt ?_) rfl rfl (fun b hb => if_neg (by have : 3 ≤ b := hb; omega)) (fun k => s0_owned) hK ?_
  · intro t v ht
    match t, ht with
    | 0, ht => simp at ht; subst ht; exact .int _ _
    | 1, ht => simp at ht; subst ht; exact .int _ _
    | 2, ht =>
      simp at ht
      subst ht
      have e3 : (1 + (r : Int)) = (r : Int) + 1 := by omega
      show VR _ _ (.int .i64 (1 + (r : Int)))
      rw [e3]
      exact .int _ _
    | 3, ht => simp at ht; subst ht; exact .int _ _
    | t + 4, ht => simp at ht
  · intro w4 hb
    exact ⟨rfl, (Below.trans ⟨hleft.os, hleft.tape, hleft.output, hleft.size, hleft.heap⟩ (hb.mono hleft.size))⟩
#print axioms moveEmpty_walk
end Go.Proofs.YtmpijgfndnikpaaGreatDoor
