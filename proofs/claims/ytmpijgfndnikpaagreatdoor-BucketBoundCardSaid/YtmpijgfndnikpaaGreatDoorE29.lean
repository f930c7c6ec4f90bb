/- A slice of bools as it comes in. -/
import Derived.ChangeArms
import Derived.ChangeSlices
set_option linter.unusedVariables false
set_option linter.unusedSimpArgs false
namespace Go.Ab

/-- A slice value of bools: nil, or cells that are there. -/
def Bools (w : World) (v : Value) : Prop := v = .slice none 0 0 ∨ ∃ a len cap, v = .slice (some a) len cap ∧ len ≤ maxLen ∧ ∀ i, i < len → a.block < w.heap.size ∧ ∃ b : Bool, w.cell? (a.add i) = some (.bool b)

theorem bools_of_trod {H : Type} {enc : TypeId × Value → H} {P : Program} {w : World} {base : Nat} {sp : Nat → Bool} {held : Bool} {t e : TypeId} (ht : P.underlying t = some (.slice e)) (he : P.underlying e = some .bool) (hc : P.cellsOf e = 1)
    {fuel : Nat} {v : Value} {x : DataW H × List MemPlace} (h : DataW.trod enc P w base sp held fuel t [v] = some x) : Bools w v := by
  rcases DataW.trod_slice ht h with ⟨h1, _⟩ | ⟨a, len, cap, elems, rest, n, _, hcs, _, _, hl, hm, hlen, hel, _⟩
  · have : v = .slice none 0 0 := by simpa using h1
    exact .inl this
  · have hv : v = .slice (some a) len cap := by simpa using hcs
    refine .inr ⟨a, len, cap, hv, Nat.le_trans hl hm, fun i hi => ?_⟩
    have hE := hel i hi
    rw [hc, Nat.mul_one] at hE
    have hy : elems[i]? = some elems[i] := List.getElem?_eq_getElem (by omega)
    rw [hy] at hE
    simp only [Option.bind_eq_some_iff] at hE
    obtain ⟨c1, hc1, hy1⟩ := hE
    obtain ⟨b, rfl, _⟩ := DataW.trod_bool he hy1
    have e0 : (a.add i).add 0 = a.add i := by simp [Addr.add]
    unfold World.cells? at hc1
    split at hc1
    · simp only [List.range_succ, List.range_zero, List.nil_append, List.mapM_cons, List.mapM_nil, e0] at hc1
      cases hcc : w.cell? (a.add i) with
      | none => simp [hcc] at hc1
      | some c =>
        simp [hcc] at hc1
        subst hc1
        refine ⟨?_, b, rfl⟩
        unfold World.cell? at hcc
        split at hcc
        · rename_i hH
          have := (Array.getElem?_eq_some_iff.1 hH).1
          have e1 : (a.add i).block = a.block := by unfold Addr.add; split <;> rfl
          rw [e1] at this
          exact this
        · cases hcc
    · cases hc1
end Go.Ab
