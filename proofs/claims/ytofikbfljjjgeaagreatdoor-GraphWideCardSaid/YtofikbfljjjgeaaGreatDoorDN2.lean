import Derived.Test.YtofikbfljjjgeaaGreatDoorDP0
import Derived.Test.YtofikbfljjjgeaaGreatDoorDI2
import Derived.Test.YtofikbfljjjgeaaGreatDoorDN1
set_option linter.unusedVariables false
set_option linter.unusedSimpArgs false
section
/- Data that come in, as the abstract machine is shown them; a run that answers true. -/
namespace Go.Ab.Seat
open Go.Extern Go.Proofs Go.RowKit
theorem s0_glob : Glob s0.h := ⟨by unfold Has; rw [s0_get, if_neg (by omega), if_pos rfl], by unfold Has; rw [s0_get, if_pos rfl]⟩
end Go.Ab.Seat
namespace Go.Proofs.YtofikbfljjjgeaaGreatDoor
open Go.ChangeShapes Go.WideShapes Go.RowKit Go.Ab Go.Ab.Seat
theorem arr_len {H : Type} {enc : TypeId × Value → H} {P : Program} {w : World} {base : Nat} {sp : Nat → Bool} {held : Bool} {fuel : Nat} {t e n : Nat} (hu : P.underlying t = some (.array n e))
  {cs : List Value} {x : DataW H × List MemPlace} (h : DataW.trod enc P w base sp held fuel t cs = some x) : cs.length = P.cellsOf t := by
 cases fuel with
 | zero => simp [DataW.trod] at h
 | succ k =>
  rw [DataW.trod_step] at h
  unfold DataW.trodStep at h
  simp only [hu] at h
  split at h
  ·assumption
  ·cases h
theorem cTab : Tryz.prog.cellsOf 193 = 32 := by kernel_rfl
structure _root_.Go.Ab.Seat.LaidX (w : World) : Prop where
 laid : Laid w
 x0 : ∃ c t fr, w.heap[0]? = some (.cells c t fr) ∧ c.toList = tab
 x1 : ∃ c t fr, w.heap[1]? = some (.cells c t fr) ∧ c.toList = [rt tErr]
theorem laidx_of {W : World} (h : laidMetH Tryz.prog laidVars W) (hs : W.ShapedOpen Tryz.prog) : LaidX W := by
 have h' : laidMet Tryz.prog [("math/bits.deBruijn32tab", Rows.laid_math_bits_deBruijn32tab)] W ∧ handlesMet Tryz.prog [("errors.errorType", Rows.laid_errors_errorType)] W := h
 have hl := laid_of h hs
 refine ⟨hl, ?_, ?_⟩
 ·obtain ⟨ps, ⟨g, t, cs, fuel, p, q, hg, ht, hvar, hd, _, _⟩, _⟩ := h'.1
  obtain rfl := Option.some.inj (gTab.symm.trans hg)
  obtain rfl := Option.some.inj (gType.symm.trans ht)
  have h1 := arr_len uTab hd
  rw [cTab] at h1
  obtain ⟨c, t, fr, hH, _, hc⟩ := hl.var0
  refine ⟨c, t, fr, hH, ?_⟩
  have hv := hvar
  unfold World.var? at hv
  rw [hg] at hv
  simp only [Option.bind_some] at hv
  rw [hH] at hv
  cases hv
  have ht : tab.length = 32 := by rfl
  refine List.ext_getElem? fun i => ?_
  by_cases hi : i < 32
  ·have : tab[i]? = some tab[i] := List.getElem?_eq_getElem (by omega)
   rw [this, Array.getElem?_toList]
   exact hc i _ this
  ·rw [List.getElem?_eq_none (by omega), List.getElem?_eq_none (by omega)]
 ·obtain ⟨name, u, ty, e1, e2, e3, e4, e5⟩ := h'.2 _ (List.mem_singleton.2 rfl)
  have en : name = [101, 114, 114, 111, 114] := (Option.some.inj e1).symm
  subst en
  obtain rfl := Option.some.inj (rtNo.symm.trans e2)
  have hm : ty ∈ (List.range 391).filter fun t => Tryz.prog.rowNamed t [101, 114, 114, 111, 114] := List.mem_filter.2 ⟨List.mem_range.2 (by rw [← tSize]; exact e3), e4⟩
  rw [oneRow] at hm
  obtain rfl := List.mem_singleton.1 hm
  have hv := e5
  unfold World.var? at hv
  rw [gEt] at hv
  simp only [Option.bind_some] at hv
  split at hv
  ·rename_i c t fr hH
   obtain rfl := Option.some.inj hv
   refine ⟨_, t, fr, hH, ?_⟩
   have hh : typeHandle Tryz.prog tErr = hd tErr := by unfold typeHandle; rw [gSize]; rfl
   rw [hh]
   rfl
  ·cases hv
theorem _root_.Go.Ab.Seat.LaidX.low {w : World} (h : LaidX w) : LowOk s0.h w.heap := by
 have hr := h.laid.hr
 have hle : (ι0 w).le (ιW w.heap) := by
  intro b L hb
  unfold ι0 at hb
  split at hb
  ·cases hb
   have := h.laid.size
   unfold ιW
   exact if_pos (by omega)
  ·cases hb
 refine ⟨?_, ?_, ?_⟩
 ·intro b o hb
  rw [s0_get] at hb
  split at hb
  ·cases hb; rfl
  ·split at hb
   ·cases hb; rfl
   ·cases hb
 ·intro b o hb
  obtain ⟨L, h1, h2⟩ := hr.obj b o hb
  exact ⟨L, hle _ _ h1, h2.mono hle⟩
 ·intro b o hb c t fr hH i v hv hp
  rw [s0_get] at hb
  split at hb
  ·rename_i h0
   subst h0
   cases hb
   obtain ⟨c', t', fr', hH', hc'⟩ := h.x1
   rw [hH] at hH'
   cases hH'
   rw [← Array.getElem?_toList, hc'] at hv
   cases i with
   | zero => cases hv; cases hp
   | succ i => simp at hv
  ·split at hb
   ·rename_i h0
    subst h0
    cases hb
    obtain ⟨c', t', fr', hH', hc'⟩ := h.x0
    rw [hH] at hH'
    cases hH'
    rw [← Array.getElem?_toList, hc'] at hv
    refine ⟨tab, rfl, ?_⟩
    have hm := List.mem_of_getElem? hv
    unfold tab at hm
    obtain ⟨n, _, rfl⟩ := List.mem_map.1 hm
    exact hv
   ·cases hb
theorem _root_.Go.Ab.Seat.LaidX.glob {w : World} (h : LaidX w) : Glob (hW w.heap s0.h) := ⟨h.low.has s0_glob.1, h.low.has s0_glob.2⟩
theorem data_true {f : Nat} {args args' : List Value} {w : World} (hsm : smQ f = none) (hex : ex f = none) (hl : LaidX w) (ha : VRl (ιW w.heap) args args')
  (h : ∃ v s', FnTo CQ eg f args ⟨hW w.heap s0.h, w.heap.size, [], []⟩ v s' ∧ v = .bool true) :
  Calls Tryz.prog f args'.toArray w fun e w' => e = .returned (.bool true) ∧ Below w.heap.size w w' := by
 obtain ⟨v, s', h1, rfl⟩ := h
 obtain ⟨n, h2⟩ := FnTo.callB hsm hex h1
 refine (calls_of_abs wholeQ n f h2 ha (hl.low.hr (by have := hl.laid.size; omega)) (fun b h1 _ => ?_) fun v' w' ι' hv hp => ?_).2
 ·have : w.heap.size ≤ b := h1
  exact if_neg (by omega)
 ·cases hv
  exact ⟨rfl, hp.os, hp.tape, hp.output, hp.size, fun k hk => hp.frame k hk hl.low.owned⟩
#print axioms data_true
end Go.Proofs.YtofikbfljjjgeaaGreatDoor
end
section
/- Rows of ints that come in. -/
namespace Go.Proofs.YtofikbfljjjgeaaGreatDoor
open Go.ChangeShapes Go.WideShapes Go.RowKit Go.Ab Go.Ab.Seat
theorem cat_ints {q : IntKind} {g : Nat → List Value} : ∀ {n : Nat}, (∀ i, i < n → ∃ z : Int, g i = [.int q z] ∧ (Lit.int q z).wf = true) → ∃ zs : List Int, zs.length = n ∧ cat g n = zs.map (Value.int q) ∧ ∀ z ∈ zs, (Lit.int q z).wf = true
 | 0, _ => ⟨[], rfl, rfl, fun z hz => by cases hz⟩
 | n + 1, h => by
  obtain ⟨zs, h1, h2, h3⟩ := cat_ints (n := n) fun i hi => h i (by omega)
  obtain ⟨z, hz, hw⟩ := h n (by omega)
  refine ⟨zs ++ [z], by simp [h1], by rw [cat_succ, h2, hz]; simp, fun y hy => ?_⟩
  rcases List.mem_append.1 hy with hy | hy
  ·exact h3 y hy
  ·obtain rfl := List.mem_singleton.1 hy
   exact hw
theorem ints_of {H : Type} {enc : TypeId × Value → H} {W : World} {fuel : Nat} (hl : LaidX W) {t e : Nat} {q : IntKind} (ht : Tryz.prog.underlying t = some (.slice e)) (he : Tryz.prog.underlying e = some (.int q)) (hc : Tryz.prog.cellsOf e = 1) {v : Value} {x : DataW H × List MemPlace} (h : DataW.trod enc Tryz.prog W 0 (fun _ => true) true fuel t [v] = some x) :
  ∃ oa n cap, ∃ zs : List Int, absV W.heap.size v = .slice oa n cap ∧ zs.length = n ∧ n ≤ maxLen ∧ Row (hW W.heap s0.h) (.slice oa n cap) n 1 (zs.map (Value.int q)) ∧ ∀ z ∈ zs, (Lit.int q z).wf = true := by
 obtain ⟨oa, oa', n, cap, f, rfl, ha, hn, hm, hf, hr⟩ := slice_row hl.low ht hc (by decide) (fun m cs y hy x hx => by
  obtain ⟨z, rfl, _⟩ := DataW.trod_int he hy
  obtain rfl := List.mem_singleton.1 hx
  rfl) h
 rw [ha] at hr ⊢
 obtain ⟨zs, h1, h2, h3⟩ := cat_ints (q := q) (g := fun i => (f i).map (absV W.heap.size)) (n := n) fun i hi => by
  obtain ⟨_, m, y, hy⟩ := hf i hi
  obtain ⟨z, hz, _, hw⟩ := DataW.trod_int he hy
  exact ⟨z, by rw [hz]; rfl, hw⟩
 rw [h2] at hr
 exact ⟨_, _, _, zs, rfl, h1, Nat.le_trans hn hm, hr, h3⟩
end Go.Proofs.YtofikbfljjjgeaaGreatDoor
end
section
/- The data of a call: a vector as it is shown. -/
namespace Go.Proofs.YtofikbfljjjgeaaGreatDoor
open Go.ChangeShapes Go.WideShapes Go.RowKit Go.Ab Go.Ab.Seat
theorem c21 : Tryz.prog.cellsOf 21 = 1 := by kernel_rfl
theorem c24 : Tryz.prog.cellsOf 25 = 1 := by kernel_rfl
theorem c3 : Tryz.prog.cellsOf 3 = 1 := by kernel_rfl
section
variable {H : Type} {enc : TypeId × Value → H} {W : World} {fuel : Nat}
theorem vec_of (hl : LaidX W) {v : Value} {x : DataW H × List MemPlace} (h : DataW.trod enc Tryz.prog W 0 (fun _ => true) true fuel 25 [v] = some x) :
  plainV v = true ∧ ∃ va nv kv, ∃ zs : List Int, absV W.heap.size v = .slice va nv kv ∧ zs.length = nv ∧ nv ≤ maxLen ∧ Row (hW W.heap s0.h) (.slice va nv kv) nv 1 (zs.map (Value.int .i32)) := by
 obtain ⟨oa, n, cap, zs, ha, h1, h3, h2, _⟩ := ints_of hl Tryz.underlying25 Tryz.underlying21 c21 h
 have hp : ∃ ob m c, v = .slice ob m c := by
  rcases DataW.trod_slice Tryz.underlying25 h with ⟨e, _⟩ | ⟨a, len, c, _, _, _, _, e, _⟩
  ·exact ⟨none, 0, 0, by simpa using e⟩
  ·exact ⟨some a, len, c, by simpa using e⟩
 obtain ⟨ob, m, c, rfl⟩ := hp
 exact ⟨rfl, oa, n, cap, zs, ha, h1, h3, h2⟩
end
end Go.Proofs.YtofikbfljjjgeaaGreatDoor
end
section
/- Operations on an index, as they are shown. -/
namespace Go.Proofs.YtofikbfljjjgeaaGreatDoor
open Go.ChangeShapes Go.WideShapes Go.RowKit Go.Ab Go.Ab.Seat
section
variable {H : Type} {enc : TypeId × Value → H} {W : World} {fuel : Nat}
theorem field_of {P : Program} {w : World} {base : Nat} {sp : Nat → Bool} {held : Bool} {t : TypeId} {fs : Array Field} (ht : P.underlying t = some (.struct fs)) {cs : List Value} {x : DataW H × List MemPlace} (h : DataW.trod enc P w base sp held fuel t cs = some x) :
  cs.length = P.cellsOf t ∧ ∀ (i : Nat) (f : Field), fs[i]? = some f → ∃ n y, DataW.trod enc P w base sp held n f.type ((cs.drop f.offset).take (P.cellsOf f.type)) = some y := by
 obtain ⟨xs, n, _, _, hlen, hxl, hfld⟩ := DataW.trod_struct ht h
 refine ⟨hlen, fun i f hf => ⟨n, ?_⟩⟩
 have hi : i < xs.length := by rw [hxl]; exact (Array.getElem?_eq_some_iff.1 hf).1
 exact ⟨xs[i], (hfld i f hf).trans (List.getElem?_eq_getElem hi)⟩
theorem c68 : Tryz.prog.cellsOf 32 = 1 := by kernel_rfl
theorem c99 : Tryz.prog.cellsOf 50 = 5 := by kernel_rfl
theorem _root_.Go.Ab.Seat.LaidX.pos (hl : LaidX W) : 0 < W.heap.size := by
 have := hl.glob.g0.lt (hW_fresh _ _)
 exact this
theorem u32_rng {dw : Int} (h : (Lit.int .u32 dw).wf = true) : 0 ≤ dw ∧ dw < 4294967296 := by
 have h1 : IntKind.u32.min ≤ dw ∧ dw ≤ IntKind.u32.max := by simpa [Lit.wf] using h
 have e1 : IntKind.u32.min = 0 := rfl
 have e2 : IntKind.u32.max = 4294967295 := rfl
 omega
set_option maxRecDepth 100000 in
theorem op_cells {cs : List Value} {y : DataW H × List MemPlace} (h : DataW.trod enc Tryz.prog W 0 (fun _ => true) true fuel 50 cs = some y) :
  ∃ kd id k v dw, cs = [.int .i64 kd, .int .i64 id, .int .i64 k, v, .int .u32 dw] ∧ (0 ≤ dw ∧ dw < 4294967296) ∧ ∃ m y', DataW.trod enc Tryz.prog W 0 (fun _ => true) true m 25 [v] = some y' := by
 obtain ⟨hl, hf⟩ := field_of Tryz.underlying50 h
 rw [c99] at hl
 obtain ⟨n0, y0, h0⟩ := hf 0 _ rfl
 obtain ⟨n1, y1, h1⟩ := hf 1 _ rfl
 obtain ⟨n2, y2, h2⟩ := hf 2 _ rfl
 obtain ⟨n3, y3, h3⟩ := hf 3 _ rfl
 obtain ⟨n4, y4, h4⟩ := hf 4 _ rfl
 change DataW.trod enc Tryz.prog W 0 (fun _ => true) true n0 3 ((cs.drop 0).take (Tryz.prog.cellsOf 3)) = some y0 at h0
 change DataW.trod enc Tryz.prog W 0 (fun _ => true) true n1 3 ((cs.drop 1).take (Tryz.prog.cellsOf 3)) = some y1 at h1
 change DataW.trod enc Tryz.prog W 0 (fun _ => true) true n2 3 ((cs.drop 2).take (Tryz.prog.cellsOf 3)) = some y2 at h2
 change DataW.trod enc Tryz.prog W 0 (fun _ => true) true n3 25 ((cs.drop 3).take (Tryz.prog.cellsOf 25)) = some y3 at h3
 change DataW.trod enc Tryz.prog W 0 (fun _ => true) true n4 32 ((cs.drop 4).take (Tryz.prog.cellsOf 32)) = some y4 at h4
 rw [c3] at h0 h1 h2
 rw [c24] at h3
 rw [c68] at h4
 match cs, hl with
 | [c0, c1, c2, c3, c4], _ =>
  obtain ⟨kd, e0, _⟩ := DataW.trod_int Tryz.underlying3 h0
  obtain ⟨id, e1, _⟩ := DataW.trod_int Tryz.underlying3 h1
  obtain ⟨k, e2, _⟩ := DataW.trod_int Tryz.underlying3 h2
  obtain ⟨dw, e4, _, w4⟩ := DataW.trod_int Tryz.underlying32 h4
  have e0' : c0 = .int .i64 kd := by simpa using e0
  have e1' : c1 = .int .i64 id := by simpa using e1
  have e2' : c2 = .int .i64 k := by simpa using e2
  have e4' : c4 = .int .u32 dw := by simpa using e4
  subst e0'; subst e1'; subst e2'; subst e4'
  exact ⟨kd, id, k, c3, dw, rfl, u32_rng w4, n3, y3, h3⟩
theorem absV_blk {n : Nat} {v : Value} {b : Nat} (hn : 0 < n) (h : blkOf (absV n v) = some b) : b < n := by
 unfold absV at h
 split at h
 all_goals (try (cases h; done))
 rename_i a l c
 split at h
 ·rename_i q
  cases h
  exact q.2
 ·split at h
  ·cases h; exact hn
  ·cases h
theorem ops_of (hl : LaidX W) {v : Value} {x : DataW H × List MemPlace} (h : DataW.trod enc Tryz.prog W 0 (fun _ => true) true fuel 48 [v] = some x) :
  ∃ oa n cap, absV W.heap.size v = .slice oa n cap ∧ OpsD (hW W.heap s0.h) W.heap.size oa n := by
 obtain ⟨oa, oa', n, cap, f, rfl, ha, _, _, hf, hr⟩ := slice_row hl.low Tryz.underlying48 c99 (by decide) (fun m cs y hy x hx => by
  obtain ⟨kd, id, k, v, dw, rfl, _, m', y', hv⟩ := op_cells hy
  obtain ⟨hp, _⟩ := vec_of hl hv
  simp only [List.mem_cons, List.not_mem_nil, or_false] at hx
  rcases hx with rfl | rfl | rfl | rfl | rfl <;> first | rfl | exact hp) h
 rw [ha] at hr ⊢
 refine ⟨_, _, _, rfl, fun i hi => ?_⟩
 rcases hr with ⟨rfl, _⟩ | ⟨b, o, sp, cap', cs, e, hc, hs⟩
 ·omega
 cases e
 obtain ⟨_, m, y, hy⟩ := hf i hi
 obtain ⟨kd, id, k, v, dw, hfi, hdw, m', y', hv⟩ := op_cells hy
 obtain ⟨_, va, nv, kv, zs, e1, e2, _, e4⟩ := vec_of hl hv
 have hlen : ∀ i, i < n → ((f i).map (absV W.heap.size)).length = 5 := fun i hi => by rw [List.length_map]; exact (hf i hi).1
 have cell : ∀ r, r < 5 → cs[o + (i * 5 + r)]? = ((f i).map (absV W.heap.size))[r]? := by
  intro r hr
  have h1 := cat_get (g := fun i => (f i).map (absV W.heap.size)) (k := 5) (i := i) (r := r) hr hlen hi
  have hlt : i * 5 + r < n * 5 := by omega
  rw [← h1, (subN_some _ _ _ _ hs).2.2 _ hlt]
 rw [hfi] at cell
 refine ⟨b, o, sp, cs, kd, id, k, va, nv, kv, zs, dw, rfl, hc.lt (hW_fresh _ _), hc, ?_, e4, e2, hdw, fun b hb => absV_blk hl.pos (v := v) (by rw [e1]; exact hb)⟩
 refine subN_ext rfl (by omega) fun j hj => ?_
 have := cell j (by omega)
 rw [show o + i * 5 + j = o + (i * 5 + j) by omega, this]
 rw [← e1]
 match j, hj with
 | 0, _ => rfl
 | 1, _ => rfl
 | 2, _ => rfl
 | 3, _ => rfl
 | 4, _ => rfl
end
end Go.Proofs.YtofikbfljjjgeaaGreatDoor
end
section
/- The data of a call: vectors of vectors, as they are shown. -/
namespace Go.Proofs.YtofikbfljjjgeaaGreatDoor
open Go.ChangeShapes Go.WideShapes Go.RowKit Go.Ab Go.Ab.Seat
section
variable {H : Type} {enc : TypeId × Value → H} {W : World} {fuel : Nat}
end
end Go.Proofs.YtofikbfljjjgeaaGreatDoor
end
section
/- GraphWide: the walk over the data of a call. -/
namespace Go.Proofs.YtofikbfljjjgeaaGreatDoor
open Go.ChangeShapes Go.WideShapes Go.RowKit Go.Ab Go.Ab.Seat
theorem graphWide_walk {H : Type} {enc : TypeId × Value → H} {W : World} (hl : LaidX W) {m k : Int} {v q : Value} {m1 m2 : Nat} {x x' : DataW H × List MemPlace} (hv : DataW.trod enc Tryz.prog W 0 (fun _ => true) true m1 48 [v] = some x) (hq : DataW.trod enc Tryz.prog W 0 (fun _ => true) true m2 25 [q] = some x') :
  Calls Tryz.prog 5 #[.int .i64 m, v, q, .int .i64 k] W fun e w' => e = .returned (.bool true) ∧ Below W.heap.size W w' := by
 obtain ⟨oa, n, cap, h1, h2⟩ := ops_of hl hv
 obtain ⟨_, va, nv, kv, zs, e1, e2, _, e3⟩ := vec_of hl hq
 have r1 := absV_VR W.heap v
 have r2 := absV_VR W.heap q
 rw [h1] at r1
 rw [e1] at r2
 refine data_true (args := [.int .i64 m, .slice oa n cap, .slice va nv kv, .int .i64 k]) (args' := [.int .i64 m, v, q, .int .i64 k]) (stdQ 5 rfl) (ex5 (sm := smQ)) hl (VRl.cons (.int _ _) (VRl.cons r1 (VRl.cons r2 (VRl.cons (.int _ _) (VRl.nil _))))) ?_
 exact graphWide_run (hW_fresh _ _) hl.glob m k h2 e3 e2
#print axioms graphWide_walk
end Go.Proofs.YtofikbfljjjgeaaGreatDoor
end
