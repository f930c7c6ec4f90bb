import Derived.Test.YtofikbfljjjgeaaGreatDoorDO2
import Derived.Test.YtofikbfljjjgeaaGreatDoorE45
import Derived.Test.YtofikbfljjjgeaaGreatDoorDP0
import Derived.Test.YtofikbfljjjgeaaGreatDoorDYE
set_option linter.unusedVariables false
set_option linter.unusedSimpArgs false
section
/- Data that come in, as the abstract machine is shown them; a run that answers true. -/
namespace Go.Ab.Seat
open Go.Extern Go.Proofs Go.RowKit
theorem s0_glob : Glob s0.h := ⟨by unfold Has; rw [s0_get, if_neg (by omega), if_pos rfl], by unfold Has; rw [s0_get, if_pos rfl]⟩
end Go.Ab.Seat
namespace Go.Proofs.YtofikbfljjjgeaaGreatDoor
open Go.ChangeShapes Go.WideShapes Go.RowKit Go.Ab Go.Ab.Seat
theorem arr_len {H : Type} {enc : TypeId × Value → H} {P : Program} {w : World} {base : Nat} {sp : Nat → Bool} {held : Bool} {fuel : Nat} {t e n : Nat} (hu : P.underlying t = some (.array n e))
  {cs : List Value} {x : DataW H × List MemPlace} (h : DataW.trod enc P w base sp held fuel t cs = some x) : cs.length = P.cellsOf t := by
 cases fuel with
 | zero => simp [DataW.trod] at h
 | succ k =>
  rw [DataW.trod_step] at h
  unfold DataW.trodStep at h
  simp only [hu] at h
  split at h
  ·assumption
  ·cases h
theorem cTab : Tryz.prog.cellsOf 193 = 32 := by kernel_rfl
structure _root_.Go.Ab.Seat.LaidX (w : World) : Prop where
 laid : Laid w
 x0 : ∃ c t fr, w.heap[0]? = some (.cells c t fr) ∧ c.toList = tab
 x1 : ∃ c t fr, w.heap[1]? = some (.cells c t fr) ∧ c.toList = [rt tErr]
theorem laidx_of {W : World} (h : laidMetH Tryz.prog laidVars W) (hs : W.ShapedOpen Tryz.prog) : LaidX W := by
 have h' : laidMet Tryz.prog [("math/bits.deBruijn32tab", Rows.laid_math_bits_deBruijn32tab)] W ∧ handlesMet Tryz.prog [("errors.errorType", Rows.laid_errors_errorType)] W := h
 have hl := laid_of h hs
 refine ⟨hl, ?_, ?_⟩
 ·obtain ⟨ps, ⟨g, t, cs, fuel, p, q, hg, ht, hvar, hd, _, _⟩, _⟩ := h'.1
  obtain rfl := Option.some.inj (gTab.symm.trans hg)
  obtain rfl := Option.some.inj (gType.symm.trans ht)
  have h1 := arr_len uTab hd
  rw [cTab] at h1
  obtain ⟨c, t, fr, hH, _, hc⟩ := hl.var0
  refine ⟨c, t, fr, hH, ?_⟩
  have hv := hvar
  unfold World.var? at hv
  rw [hg] at hv
  simp only [Option.bind_some] at hv
  rw [hH] at hv
  cases hv
  have ht : tab.length = 32 := by rfl
  refine List.ext_getElem? fun i => ?_
  by_cases hi : i < 32
  ·have : tab[i]? = some tab[i] := List.getElem?_eq_getElem (by omega)
   rw [this, Array.getElem?_toList]
   exact hc i _ this
  ·rw [List.getElem?_eq_none (by omega), List.getElem?_eq_none (by omega)]
 ·obtain ⟨name, u, ty, e1, e2, e3, e4, e5⟩ := h'.2 _ (List.mem_singleton.2 rfl)
  have en : name = [101, 114, 114, 111, 114] := (Option.some.inj e1).symm
  subst en
  obtain rfl := Option.some.inj (rtNo.symm.trans e2)
  have hm : ty ∈ (List.range 391).filter fun t => Tryz.prog.rowNamed t [101, 114, 114, 111, 114] := List.mem_filter.2 ⟨List.mem_range.2 (by rw [← tSize]; exact e3), e4⟩
  rw [oneRow] at hm
  obtain rfl := List.mem_singleton.1 hm
  have hv := e5
  unfold World.var? at hv
  rw [gEt] at hv
  simp only [Option.bind_some] at hv
  split at hv
  ·rename_i c t fr hH
   obtain rfl := Option.some.inj hv
   refine ⟨_, t, fr, hH, ?_⟩
   have hh : typeHandle Tryz.prog tErr = hd tErr := by unfold typeHandle; rw [gSize]; rfl
   rw [hh]
   rfl
  ·cases hv
theorem _root_.Go.Ab.Seat.LaidX.low {w : World} (h : LaidX w) : LowOk s0.h w.heap := by
 have hr := h.laid.hr
 have hle : (ι0 w).le (ιW w.heap) := by
  intro b L hb
  unfold ι0 at hb
  split at hb
  ·cases hb
   have := h.laid.size
   unfold ιW
   exact if_pos (by omega)
  ·cases hb
 refine ⟨?_, ?_, ?_⟩
 ·intro b o hb
  rw [s0_get] at hb
  split at hb
  ·cases hb; rfl
  ·split at hb
   ·cases hb; rfl
   ·cases hb
 ·intro b o hb
  obtain ⟨L, h1, h2⟩ := hr.obj b o hb
  exact ⟨L, hle _ _ h1, h2.mono hle⟩
 ·intro b o hb c t fr hH i v hv hp
  rw [s0_get] at hb
  split at hb
  ·rename_i h0
   subst h0
   cases hb
   obtain ⟨c', t', fr', hH', hc'⟩ := h.x1
   rw [hH] at hH'
   cases hH'
   rw [← Array.getElem?_toList, hc'] at hv
   cases i with
   | zero => cases hv; cases hp
   | succ i => simp at hv
  ·split at hb
   ·rename_i h0
    subst h0
    cases hb
    obtain ⟨c', t', fr', hH', hc'⟩ := h.x0
    rw [hH] at hH'
    cases hH'
    rw [← Array.getElem?_toList, hc'] at hv
    refine ⟨tab, rfl, ?_⟩
    have hm := List.mem_of_getElem? hv
    unfold tab at hm
    obtain ⟨n, _, rfl⟩ := List.mem_map.1 hm
    exact hv
   ·cases hb
theorem _root_.Go.Ab.Seat.LaidX.glob {w : World} (h : LaidX w) : Glob (hW w.heap s0.h) := ⟨h.low.has s0_glob.1, h.low.has s0_glob.2⟩
theorem data_true {f : Nat} {args args' : List Value} {w : World} (hsm : smQ f = none) (hex : ex f = none) (hl : LaidX w) (ha : VRl (ιW w.heap) args args')
  (h : ∃ v s', FnTo CQ eg f args ⟨hW w.heap s0.h, w.heap.size, [], []⟩ v s' ∧ v = .bool true) :
  Calls Tryz.prog f args'.toArray w fun e w' => e = .returned (.bool true) ∧ Below w.heap.size w w' := by
 obtain ⟨v, s', h1, rfl⟩ := h
 obtain ⟨n, h2⟩ := FnTo.callB hsm hex h1
 refine (calls_of_abs wholeQ n f h2 ha (hl.low.hr (by have := hl.laid.size; omega)) (fun b h1 _ => ?_) fun v' w' ι' hv hp => ?_).2
 ·have : w.heap.size ≤ b := h1
  exact if_neg (by omega)
 ·cases hv
  exact ⟨rfl, hp.os, hp.tape, hp.output, hp.size, fun k hk => hp.frame k hk hl.low.owned⟩
#print axioms data_true
end Go.Proofs.YtofikbfljjjgeaaGreatDoor
end
section
/- Rows of ints that come in. -/
namespace Go.Proofs.YtofikbfljjjgeaaGreatDoor
open Go.ChangeShapes Go.WideShapes Go.RowKit Go.Ab Go.Ab.Seat
theorem cat_ints {q : IntKind} {g : Nat → List Value} : ∀ {n : Nat}, (∀ i, i < n → ∃ z : Int, g i = [.int q z] ∧ (Lit.int q z).wf = true) → ∃ zs : List Int, zs.length = n ∧ cat g n = zs.map (Value.int q) ∧ ∀ z ∈ zs, (Lit.int q z).wf = true
 | 0, _ => ⟨[], rfl, rfl, fun z hz => by cases hz⟩
 | n + 1, h => by
  obtain ⟨zs, h1, h2, h3⟩ := cat_ints (n := n) fun i hi => h i (by omega)
  obtain ⟨z, hz, hw⟩ := h n (by omega)
  refine ⟨zs ++ [z], by simp [h1], by rw [cat_succ, h2, hz]; simp, fun y hy => ?_⟩
  rcases List.mem_append.1 hy with hy | hy
  ·exact h3 y hy
  ·obtain rfl := List.mem_singleton.1 hy
   exact hw
theorem ints_of {H : Type} {enc : TypeId × Value → H} {W : World} {fuel : Nat} (hl : LaidX W) {t e : Nat} {q : IntKind} (ht : Tryz.prog.underlying t = some (.slice e)) (he : Tryz.prog.underlying e = some (.int q)) (hc : Tryz.prog.cellsOf e = 1) {v : Value} {x : DataW H × List MemPlace} (h : DataW.trod enc Tryz.prog W 0 (fun _ => true) true fuel t [v] = some x) :
  ∃ oa n cap, ∃ zs : List Int, absV W.heap.size v = .slice oa n cap ∧ zs.length = n ∧ n ≤ maxLen ∧ Row (hW W.heap s0.h) (.slice oa n cap) n 1 (zs.map (Value.int q)) ∧ ∀ z ∈ zs, (Lit.int q z).wf = true := by
 obtain ⟨oa, oa', n, cap, f, rfl, ha, hn, hm, hf, hr⟩ := slice_row hl.low ht hc (by decide) (fun m cs y hy x hx => by
  obtain ⟨z, rfl, _⟩ := DataW.trod_int he hy
  obtain rfl := List.mem_singleton.1 hx
  rfl) h
 rw [ha] at hr ⊢
 obtain ⟨zs, h1, h2, h3⟩ := cat_ints (q := q) (g := fun i => (f i).map (absV W.heap.size)) (n := n) fun i hi => by
  obtain ⟨_, m, y, hy⟩ := hf i hi
  obtain ⟨z, hz, _, hw⟩ := DataW.trod_int he hy
  exact ⟨z, by rw [hz]; rfl, hw⟩
 rw [h2] at hr
 exact ⟨_, _, _, zs, rfl, h1, Nat.le_trans hn hm, hr, h3⟩
end Go.Proofs.YtofikbfljjjgeaaGreatDoor
end
section
/- The data of a call: a vector as it is shown. -/
namespace Go.Proofs.YtofikbfljjjgeaaGreatDoor
open Go.ChangeShapes Go.WideShapes Go.RowKit Go.Ab Go.Ab.Seat
theorem c21 : Tryz.prog.cellsOf 21 = 1 := by kernel_rfl
theorem c24 : Tryz.prog.cellsOf 25 = 1 := by kernel_rfl
theorem c3 : Tryz.prog.cellsOf 3 = 1 := by kernel_rfl
section
variable {H : Type} {enc : TypeId × Value → H} {W : World} {fuel : Nat}
theorem vec_of (hl : LaidX W) {v : Value} {x : DataW H × List MemPlace} (h : DataW.trod enc Tryz.prog W 0 (fun _ => true) true fuel 25 [v] = some x) :
  plainV v = true ∧ ∃ va nv kv, ∃ zs : List Int, absV W.heap.size v = .slice va nv kv ∧ zs.length = nv ∧ nv ≤ maxLen ∧ Row (hW W.heap s0.h) (.slice va nv kv) nv 1 (zs.map (Value.int .i32)) := by
 obtain ⟨oa, n, cap, zs, ha, h1, h3, h2, _⟩ := ints_of hl Tryz.underlying25 Tryz.underlying21 c21 h
 have hp : ∃ ob m c, v = .slice ob m c := by
  rcases DataW.trod_slice Tryz.underlying25 h with ⟨e, _⟩ | ⟨a, len, c, _, _, _, _, e, _⟩
  ·exact ⟨none, 0, 0, by simpa using e⟩
  ·exact ⟨some a, len, c, by simpa using e⟩
 obtain ⟨ob, m, c, rfl⟩ := hp
 exact ⟨rfl, oa, n, cap, zs, ha, h1, h3, h2⟩
end
end Go.Proofs.YtofikbfljjjgeaaGreatDoor
end
section
/- The data of a call: vectors of vectors, as they are shown. -/
namespace Go.Proofs.YtofikbfljjjgeaaGreatDoor
open Go.ChangeShapes Go.WideShapes Go.RowKit Go.Ab Go.Ab.Seat
theorem choose_list {α : Type} {P : Nat → α → Prop} : ∀ {n : Nat}, (∀ i, i < n → ∃ x, P i x) → ∃ l : List α, l.length = n ∧ ∀ (i : Nat) (x : α), l[i]? = some x → P i x
 | 0, _ => ⟨[], rfl, fun i x h => by cases h⟩
 | n + 1, h => by
  obtain ⟨l, h1, h2⟩ := choose_list (P := P) (n := n) fun i hi => h i (by omega)
  obtain ⟨x, hx⟩ := h n (by omega)
  refine ⟨l ++ [x], by rw [List.length_append, h1]; rfl, fun i y hy => ?_⟩
  rcases Nat.lt_or_ge i n with q | q
  ·rw [List.getElem?_append_left (by omega)] at hy
   exact h2 i y hy
  ·rw [List.getElem?_append_right (by omega), h1] at hy
   rcases Nat.eq_zero_or_pos (i - n) with e | e
   ·rw [e] at hy
    simp only [List.getElem?_cons_zero, Option.some.injEq] at hy
    subst hy
    rw [show i = n by omega]; exact hx
   ·rw [List.getElem?_eq_none (by simp; omega)] at hy
    cases hy
section
variable {H : Type} {enc : TypeId × Value → H} {W : World} {fuel : Nat}
theorem vecs_of (hl : LaidX W) {v : Value} {x : DataW H × List MemPlace} (h : DataW.trod enc Tryz.prog W 0 (fun _ => true) true fuel 22 [v] = some x) :
  ∃ zss, VecsIn (hW W.heap s0.h) (absV W.heap.size v) zss ∧ zss.length ≤ 9223372036854775807 := by
 obtain ⟨oa, oa', n, cap, f, rfl, ha, hn, hm, hf, hr⟩ := slice_row hl.low Tryz.underlying22 c24 (by decide) (fun m cs y hy x hx => by
  have hlen : cs.length = 1 := by
   rcases DataW.trod_slice Tryz.underlying25 hy with ⟨e, _⟩ | ⟨a, len, c, _, _, _, _, e, _⟩
   ·rw [e]; rfl
   ·rw [e]; rfl
  obtain ⟨w, rfl⟩ : ∃ w, cs = [w] := by
   match cs, hlen with
   | [w], _ => exact ⟨w, rfl⟩
  obtain rfl := List.mem_singleton.1 hx
  exact (vec_of hl hy).1) h
 rw [ha] at hr ⊢
 have one : ∀ i, i < n → ∃ zs : List Int, ∃ b o sp cs a k, oa' = some ⟨b, o, sp⟩ ∧ Cel (hW W.heap s0.h) b cs ∧ nth cs (o + i * 1) = some (.slice a zs.length k) ∧ Row (hW W.heap s0.h) (.slice a zs.length k) zs.length 1 (zs.map (Value.int .i32)) := by
  intro i hi
  obtain ⟨hl1, m, y, hy⟩ := hf i hi
  obtain ⟨w, hw⟩ : ∃ w, f i = [w] := by
   match hfi : f i, hl1 with
   | [w], _ => exact ⟨w, rfl⟩
  rw [hw] at hy
  obtain ⟨_, va, nv, kv, zs, e1, e2, _, e3⟩ := vec_of hl hy
  subst e2
  obtain ⟨b, o, sp, cs, e4, e5, e6⟩ := rowCell hr (j := i * 1) (by omega) (x := .slice va zs.length kv) (by
   have hlen : ∀ i, i < n → ((f i).map (absV W.heap.size)).length = 1 := fun i hi => by rw [List.length_map]; exact (hf i hi).1
   have := cat_get (g := fun i => (f i).map (absV W.heap.size)) (k := 1) (i := i) (r := 0) (by decide) hlen hi
   rw [Nat.add_zero] at this
   rw [this, hw]
   show some (absV W.heap.size w) = _
   rw [e1])
  exact ⟨zs, b, o, sp, cs, va, kv, e4, e5, e6, e3⟩
 obtain ⟨zss, h1, h2⟩ := choose_list one
 subst h1
 refine ⟨zss, ⟨oa', cap, rfl, h2⟩, ?_⟩
 have : maxLen ≤ 9223372036854775807 := by decide
 omega
end
end Go.Proofs.YtofikbfljjjgeaaGreatDoor
end
section
/- CodedTrue: the walk over the data of a call. -/
namespace Go.Proofs.YtofikbfljjjgeaaGreatDoor
open Go.ChangeShapes Go.WideShapes Go.RowKit Go.Ab Go.Ab.Seat
theorem codedTrue_walk {H : Type} {enc : TypeId × Value → H} {W : World} (hl : LaidX W) {v0 v : Value} {m0 m1 : Nat} {x0 x : DataW H × List MemPlace} (h0 : DataW.trod enc Tryz.prog W 0 (fun _ => true) true m0 22 [v0] = some x0) (hv : DataW.trod enc Tryz.prog W 0 (fun _ => true) true m1 22 [v] = some x) :
  Calls Tryz.prog 10 #[v0, v] W fun e w' => e = .returned (.bool true) ∧ Below W.heap.size W w' := by
 obtain ⟨zs0, a1, a2⟩ := vecs_of hl h0
 obtain ⟨zss, h1, h2⟩ := vecs_of hl hv
 have r0 := absV_VR W.heap v0
 have r1 := absV_VR W.heap v
 refine data_true (args := [absV W.heap.size v0, absV W.heap.size v]) (args' := [v0, v]) (stdQ 10 rfl) (ex10 (sm := smQ)) hl (VRl.cons r0 (VRl.cons r1 (VRl.nil _))) ?_
 exact codedTrue_run (hW_fresh _ _) hl.glob a1 a2 h1 h2
#print axioms codedTrue_walk
end Go.Proofs.YtofikbfljjjgeaaGreatDoor
end
