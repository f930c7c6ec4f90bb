/- What the listed package-level variables hold; a world that meets the condition. -/
import Derived.Test.YtmpijgfndnikpaaGreatDoorBS12
import Derived.Test.YtmpijgfndnikpaaGreatDoorE25
import Derived.Test.YtmpijgfndnikpaaGreatDoorRows
set_option linter.unusedVariables false
set_option linter.unusedSimpArgs false
namespace Go.Proofs.YtmpijgfndnikpaaGreatDoor
open Go.ChangeShapes Go.WideShapes Go.RowKit Go.Ab Go.Ab.Seat

def laidVars : List (String × DataW Unit) := [("math/bits.deBruijn32tab", Rows.laid_math_bits_deBruijn32tab), ("errors.errorType", Rows.laid_errors_errorType)]

theorem own : ownKnob Tryz.prog.godebug = none := by kernel_rfl
theorem laidOut : laidOutB Tryz.prog = true := by kernel_rfl
theorem gTab : Tryz.prog.globalNamed "math/bits.deBruijn32tab" = some 1 := by kernel_rfl
theorem gEt : Tryz.prog.globalNamed "errors.errorType" = some 0 := by kernel_rfl
theorem rtNo : (Tryz.prog.cutTypes.find? (·.1 == "internal/reflectlite.rtype")).map (·.2) = some tRt := by kernel_rfl
theorem tSize : Tryz.prog.types.size = 414 := by kernel_rfl
theorem oneRow : ((List.range 414).filter fun t => Tryz.prog.rowNamed t [101, 114, 114, 111, 114]) = [tErr] := by kernel_rfl
theorem gType : (Tryz.prog.globals[1]?).map (·.type) = some 250 := by kernel_rfl
theorem uTab : Tryz.prog.underlying 250 = some (.array 32 5) := by kernel_rfl
theorem uU8 : Tryz.prog.underlying 5 = some (.int .u8) := by kernel_rfl
theorem cU8 : Tryz.prog.cellsOf 5 = 1 := by kernel_rfl
theorem begSize : 2 < (begin Tryz.prog (fun _ _ => 0) default).world.heap.size := by
  have h : decide (2 < (begin Tryz.prog (fun _ _ => 0) default).world.heap.size) = true := by kernel_rfl
  exact of_decide_eq_true h
theorem gSize : Tryz.prog.globals.size = 2 := by kernel_rfl

/-- What the row's condition gives. -/
theorem laid_of {W : World} (h : laidMetH Tryz.prog laidVars W) (hs : W.ShapedOpen Tryz.prog) : Laid W := by
  have h' : laidMet Tryz.prog [("math/bits.deBruijn32tab", Rows.laid_math_bits_deBruijn32tab)] W ∧ handlesMet Tryz.prog [("errors.errorType", Rows.laid_errors_errorType)] W := h
  refine ⟨?_, ?_, ?_⟩
  · obtain ⟨ps, ⟨g, t, cs, fuel, p, q, hg, ht, hvar, hd, _, _⟩, _⟩ := h'.1
    obtain rfl := Option.some.inj (gTab.symm.trans hg)
    obtain rfl := Option.some.inj (gType.symm.trans ht)
    obtain ⟨h1, h2⟩ := arr_of_trod uTab uU8 cU8 hd
    have hcell : ∀ (i : Nat) (x : Value), tab[i]? = some x → cs[i]? = some x := by
      intro i x hx
      have hx' : ([0, 1, 28, 2, 29, 14, 24, 3, 30, 22, 20, 15, 25, 17, 4, 8, 31, 27, 13, 23, 21, 19, 16, 7, 26, 12, 18, 6, 11, 5, 10, 9].map fun n : Int => Value.int .u8 n)[i]? = some x := hx
      rw [List.getElem?_map, Option.map_eq_some_iff] at hx'
      obtain ⟨m, hm, rfl⟩ := hx'
      have := h2 i m (by
        have e : ([0, 1, 28, 2, 29, 14, 24, 3, 30, 22, 20, 15, 25, 17, 4, 8, 31, 27, 13, 23, 21, 19, 16, 7, 26, 12, 18, 6, 11, 5, 10, 9].map fun n : Int => (DataW.lit (.int .u8 n) : DataW Unit))[i]? = some (.lit (.int .u8 m)) := by rw [List.getElem?_map, hm]; rfl
        exact e)
      rw [Array.getElem?_toList] at this
      exact this
    have hv := hvar
    unfold World.var? at hv
    rw [hg] at hv
    simp only [Option.bind_some] at hv
    split at hv
    · rename_i c t fr hH
      obtain rfl := Option.some.inj hv
      refine ⟨_, t, fr, hH, ?_, hcell⟩
      have h31 := (Array.getElem?_eq_some_iff.1 (hcell 31 (.int .u8 9) rfl)).1
      show 32 ≤ _
      omega
    · cases hv
  · obtain ⟨name, u, ty, e1, e2, e3, e4, e5⟩ := h'.2 _ (List.mem_singleton.2 rfl)
    have en : name = [101, 114, 114, 111, 114] := (Option.some.inj e1).symm
    subst en
    obtain rfl := Option.some.inj (rtNo.symm.trans e2)
    have hm : ty ∈ (List.range 414).filter fun t => Tryz.prog.rowNamed t [101, 114, 114, 111, 114] := List.mem_filter.2 ⟨List.mem_range.2 (by rw [← tSize]; exact e3), e4⟩
    rw [oneRow] at hm
    obtain rfl := List.mem_singleton.1 hm
    have hv := e5
    unfold World.var? at hv
    rw [gEt] at hv
    simp only [Option.bind_some] at hv
    split at hv
    · rename_i c t fr hH
      obtain rfl := Option.some.inj hv
      refine ⟨_, t, fr, hH, ?_⟩
      have hh : typeHandle Tryz.prog tErr = hd tErr := by unfold typeHandle; rw [gSize]; rfl
      rw [hh]
      rfl
    · cases hv
  · obtain ⟨o, _, h1, _⟩ := hs.2 2 (by rw [gSize]; exact Nat.le_refl _) begSize
    exact (Array.getElem?_eq_some_iff.1 h1).1

theorem _root_.Go.Ab.Seat.Laid.left {w w' : World} (h : Laid w) (hl : Go.Ab.Seat.Left w w') : Laid w' := by
  obtain ⟨⟨c, t, fr, h1, h2, h3⟩, ⟨c1, t1, fr1, h4, h5⟩, h6⟩ := h
  exact ⟨⟨c, t, fr, (hl.heap 1 (by omega)).trans h1, h2, h3⟩, ⟨c1, t1, fr1, (hl.heap 0 (by omega)).trans h4, h5⟩, Nat.lt_of_lt_of_le h6 hl.size⟩

/-- A world that meets the condition. -/
noncomputable def laidWorld (os : Os) : World :=
  let w0 := World.holding Tryz.prog os ⟨#[], #[], []⟩
  { w0 with heap := (w0.heap.modify 1 fun
      | .cells _ t frozen => .cells tab.toArray t frozen
      | o => o).modify 0 fun
      | .cells _ t frozen => .cells #[rt tErr] t frozen
      | o => o }

theorem laidWorld_met (os : Os) (args : Array Value) : laidMetH Tryz.prog laidVars ((laidWorld os).forCall (fun _ _ => 0) ⟨#[], args, []⟩).memory :=
  laidMetH_of_parts (laidMet_of_run (ps := (List.range 32).map fun i => .cell 1 i) 8 (by kernel_rfl) (by kernel_rfl) (by kernel_rfl)) (by kernel_rfl)
#print axioms laidWorld_met
#print axioms laid_of
end Go.Proofs.YtmpijgfndnikpaaGreatDoor
