import Derived.Test.YtmpijgfndnikpaaGreatDoorBQ5
import Derived.Test.YtmpijgfndnikpaaGreatDoorE25
import Derived.ChangeArms
import Derived.ChangeSlices
set_option linter.unusedVariables false
set_option linter.unusedSimpArgs false
section
/- QueueFull answers true and turns nothing that lay before. -/
namespace Go.Ab.Seat
open Go.Extern Go.Proofs Go.RowKit

theorem s0_fresh : Fresh s0.h 3 := by
  intro b hb
  rw [s0_get, if_neg (by omega), if_neg (by omega)]
theorem s0_glob : Glob s0.h := ⟨by unfold Has; rw [s0_get, if_pos rfl], by unfold Has; rw [s0_get, if_neg (by omega), if_pos rfl]⟩

theorem FnTo.callB {C : Ctx} {f : Nat} {args : List Value} {s s' : St} {v : Value} (hsm : C.sm f = none) (hex : C.ex f = none) (h : FnTo C eg f args s v s') : ∃ n, callB C (exec C eg n) f args s = some (v, s') := by
  obtain ⟨n, h⟩ := h
  refine ⟨n, ?_⟩
  unfold callF at h
  rw [hsm] at h
  simp only at h
  rw [hex] at h
  exact h

/-- A run that answers true, from what is laid alone, as a contract. -/
theorem laid_true {f : Nat} {args : List Value} (hsm : smQ f = none) (hex : ex f = none) (h : ∃ v s', FnTo CQ eg f args ⟨s0.h, 3, [], []⟩ v s' ∧ v = .bool true) (hf : allB (flat 5) args = true) {w : World} (hl : Laid w) :
    Calls Tryz.prog f args.toArray w fun e w' => e = .returned (.bool true) ∧ Below w.heap.size w w' := by
  obtain ⟨v, s', h1, rfl⟩ := h
  obtain ⟨n, h2⟩ := FnTo.callB hsm hex h1
  rw [allB_eq, List.all_eq_true] at hf
  refine (calls_of_abs wholeQ n f (args' := args) h2 (VRl_flat _ 5 args hf) hl.hr (fun b h1 _ => ?_) fun v' w' ι' hv hp => ?_).2
  · show ι0 w b = none
    have : 3 ≤ b := h1
    exact if_neg (by omega)
  · cases hv
    exact ⟨rfl, hp.os, hp.tape, hp.output, hp.size, fun k hk => hp.frame k hk s0_owned⟩

theorem queueFull_walk (m n : Int) (w : World) (hw : Laid w) : Calls Tryz.prog 8 #[.int .i64 m, .int .i64 n] w fun e w' => e = .returned (.bool true) ∧ Below w.heap.size w w' :=
  laid_true (args := [.int .i64 m, .int .i64 n]) (stdQ 8 rfl) (ex8 (sm := smQ)) (queueFull_run m n s0_fresh s0_glob) rfl hw
#print axioms queueFull_walk
end Go.Ab.Seat
end
section
/- Slices of structs of two cells (an int and an int), and slices of such slices, as they come in. -/
namespace Go.Ab

theorem cells_get {w : World} {base : Nat} {a : Addr} {n : Nat} {cs : List Value} (h : w.cells? base a n = some cs) : cs.length = n ∧ ∀ i, i < n → ∃ y, cs[i]? = some y ∧ w.cell? (a.add i) = some y := by
  unfold World.cells? at h
  split at h
  · obtain ⟨h1, h2⟩ := mapM_each h
    simp only [List.length_range] at h1
    refine ⟨h1.symm, fun i hi => ?_⟩
    obtain ⟨y, hy, hc⟩ := h2 i i (by rw [List.getElem?_range hi])
    exact ⟨y, hy, hc⟩
  · cases h

theorem cell_plain {w : World} {a : Addr} {v : Value} (h : w.cell? a = some v) : a.spot = none ∧ a.block < w.heap.size := by
  unfold World.cell? at h
  split at h
  · rename_i hH
    have hb := (Array.getElem?_eq_some_iff.1 hH).1
    cases hs : a.spot with
    | none => exact ⟨rfl, hb⟩
    | some k => simp [hs] at h
  · cases h

/-- A slice of hits as it comes in: if it is not empty its first hit has a score. -/
def HitsV (w : World) (v : Value) : Prop := ∃ oa len cap, v = .slice oa len cap ∧ len ≤ maxLen ∧ (0 < len → ∃ b o sp s, oa = some ⟨b, o, sp⟩ ∧ b < w.heap.size ∧ w.cell? ⟨b, o + 1, none⟩ = some (.int .i64 s))

section
variable {H : Type} {enc : TypeId × Value → H} {P : Program} {w : World} {base : Nat} {sp : Nat → Bool} {held : Bool} {fuel : Nat}

theorem hits_of_trod {t e : TypeId} {fs : Array Field} {f1 : Field} (ht : P.underlying t = some (.slice e)) (he : P.underlying e = some (.struct fs)) (hc : P.cellsOf e = 2) (hf : fs[1]? = some f1) (ho : f1.offset = 1) (hft : P.underlying f1.type = some (.int .i64)) (hfc : P.cellsOf f1.type = 1)
    {v : Value} {x : DataW H × List MemPlace} (h : DataW.trod enc P w base sp held fuel t [v] = some x) : HitsV w v := by
  rcases DataW.trod_slice ht h with ⟨h1, _⟩ | ⟨a, len, cap, elems, rest, n, _, hcs, _, _, hl, hm, hlen, hel, _⟩
  · have : v = .slice none 0 0 := by simpa using h1
    exact ⟨none, 0, 0, this, Nat.zero_le _, fun h => absurd h (Nat.lt_irrefl 0)⟩
  · have hv : v = .slice (some a) len cap := by simpa using hcs
    refine ⟨some a, len, cap, hv, Nat.le_trans hl hm, fun hpos => ?_⟩
    have hE := hel 0 hpos
    rw [hc] at hE
    have hy : elems[0]? = some elems[0] := List.getElem?_eq_getElem (by omega)
    rw [hy] at hE
    simp only [Option.bind_eq_some_iff] at hE
    obtain ⟨c2, hc2, hy2⟩ := hE
    obtain ⟨q1, q2⟩ := cells_get hc2
    obtain ⟨xs, m, _, _, _, hxl, hfld⟩ := DataW.trod_struct he hy2
    have h3 := hfld 1 f1 hf
    have hx1 : xs[1]? = some (xs[1]'(by rw [hxl]; exact (Array.getElem?_eq_some_iff.1 hf).1)) := List.getElem?_eq_getElem _
    rw [hx1, ho, hfc] at h3
    obtain ⟨s, hs, _, _⟩ := DataW.trod_int hft h3
    obtain ⟨y0, _, hw0⟩ := q2 0 (by omega)
    obtain ⟨y1, hy1, hw1⟩ := q2 1 (by omega)
    have e0 : (a.add (0 * 2)).add 0 = a := by simp [Addr.add]
    rw [e0] at hw0
    obtain ⟨p1, p2⟩ := cell_plain hw0
    obtain ⟨b, o, spt⟩ := a
    simp only at p1 p2
    subst p1
    have e1 : (Addr.add ⟨b, o, none⟩ (0 * 2)).add 1 = ⟨b, o + 1, none⟩ := by simp [Addr.add]
    rw [e1] at hw1
    have h4 : ((c2.drop 1).take 1)[0]? = c2[1]? := by simp
    rw [hs] at h4
    simp only [List.getElem?_cons_zero] at h4
    rw [hy1] at h4
    cases h4
    exact ⟨b, o, none, s, rfl, p2, hw1⟩

/-- A slice of slices of hits. -/
def RowsV (w : World) (v : Value) : Prop := ∃ oa len cap, v = .slice oa len cap ∧ len ≤ maxLen ∧ ∀ i : Nat, i < len → ∃ b o x, oa = some ⟨b, o, none⟩ ∧ b < w.heap.size ∧ w.cell? ⟨b, o + i, none⟩ = some x ∧ HitsV w x

theorem rows_of_trod {tt t e : TypeId} {fs : Array Field} {f1 : Field} (htt : P.underlying tt = some (.slice t)) (hct : P.cellsOf t = 1) (ht : P.underlying t = some (.slice e)) (he : P.underlying e = some (.struct fs)) (hc : P.cellsOf e = 2) (hf : fs[1]? = some f1) (ho : f1.offset = 1) (hft : P.underlying f1.type = some (.int .i64)) (hfc : P.cellsOf f1.type = 1)
    {v : Value} {x : DataW H × List MemPlace} (h : DataW.trod enc P w base sp held fuel tt [v] = some x) : RowsV w v := by
  rcases DataW.trod_slice htt h with ⟨h1, _⟩ | ⟨a, len, cap, elems, rest, n, _, hcs, _, _, hl, hm, hlen, hel, _⟩
  · have : v = .slice none 0 0 := by simpa using h1
    exact ⟨none, 0, 0, this, Nat.zero_le _, fun i h => absurd h (Nat.not_lt_zero i)⟩
  · have hv : v = .slice (some a) len cap := by simpa using hcs
    have cellAt : ∀ i, i < len → ∃ y, w.cell? (a.add i) = some y ∧ HitsV w y := by
      intro i hi
      have hE := hel i hi
      rw [hct, Nat.mul_one] at hE
      have hy : elems[i]? = some elems[i] := List.getElem?_eq_getElem (by omega)
      rw [hy] at hE
      simp only [Option.bind_eq_some_iff] at hE
      obtain ⟨c1, hc1, hy1⟩ := hE
      obtain ⟨q1, q2⟩ := cells_get hc1
      obtain ⟨y, hy, hwy⟩ := q2 0 (by omega)
      have e0 : (a.add i).add 0 = a.add i := by simp [Addr.add]
      rw [e0] at hwy
      have hc1' : c1 = [y] := by
        match c1, q1, hy with
        | [z], _, hy => simp at hy; rw [hy]
      rw [hc1'] at hy1
      exact ⟨y, hwy, hits_of_trod ht he hc hf ho hft hfc hy1⟩
    refine ⟨some a, len, cap, hv, Nat.le_trans hl hm, fun i hi => ?_⟩
    obtain ⟨y0, h0, _⟩ := cellAt 0 (by omega)
    have e0 : a.add 0 = a := by simp [Addr.add]
    rw [e0] at h0
    obtain ⟨p1, p2⟩ := cell_plain h0
    obtain ⟨y, hwy, hh⟩ := cellAt i hi
    obtain ⟨b, o, spt⟩ := a
    simp only at p1 p2
    subst p1
    have e1 : Addr.add ⟨b, o, none⟩ i = ⟨b, o + i, none⟩ := by unfold Addr.add; split <;> simp_all
    rw [e1] at hwy
    exact ⟨b, o, y, rfl, p2, hwy, hh⟩

/-- A struct of two ints as it comes in. -/
theorem pair_of_trod {t : TypeId} {fs : Array Field} {f0 f1 : Field} (ht : P.underlying t = some (.struct fs)) (hc : P.cellsOf t = 2) (hf0 : fs[0]? = some f0) (hf1 : fs[1]? = some f1) (ho0 : f0.offset = 0) (ho1 : f1.offset = 1)
    (hft0 : P.underlying f0.type = some (.int .i64)) (hfc0 : P.cellsOf f0.type = 1) (hft1 : P.underlying f1.type = some (.int .i64)) (hfc1 : P.cellsOf f1.type = 1)
    {v : Value} {x : DataW H × List MemPlace} (h : DataW.trod enc P w base sp held fuel t v.cells.toList = some x) :
    ∃ a b : Int, v = .agg #[.int .i64 a, .int .i64 b] ∧ (Lit.int .i64 a).wf = true ∧ (Lit.int .i64 b).wf = true := by
  obtain ⟨xs, m, _, _, hlen, hxl, hfld⟩ := DataW.trod_struct ht h
  rw [hc] at hlen
  have hsz : fs.size = xs.length := hxl.symm
  have g0 := hfld 0 f0 hf0
  have g1 := hfld 1 f1 hf1
  have hx0 : xs[0]? = some (xs[0]'(by rw [hxl]; exact (Array.getElem?_eq_some_iff.1 hf0).1)) := List.getElem?_eq_getElem _
  have hx1 : xs[1]? = some (xs[1]'(by rw [hxl]; exact (Array.getElem?_eq_some_iff.1 hf1).1)) := List.getElem?_eq_getElem _
  rw [hx0, ho0, hfc0] at g0
  rw [hx1, ho1, hfc1] at g1
  obtain ⟨a, ha, _, wa⟩ := DataW.trod_int hft0 g0
  obtain ⟨b, hb, _, wb⟩ := DataW.trod_int hft1 g1
  refine ⟨a, b, ?_, wa, wb⟩
  have key : v.cells.toList = [.int .i64 a, .int .i64 b] := by
    match hv : v.cells.toList, hlen, ha, hb with
    | [p, q], _, ha, hb =>
      simp at ha hb
      rw [ha, hb]
  cases v with
  | agg cs =>
    have : cs.toList = [.int .i64 a, .int .i64 b] := key
    rw [show cs = #[.int .i64 a, .int .i64 b] from Array.toList_inj.1 this]
  | _ => simp [Value.cells] at key
end
end Go.Ab
end
