import Derived.Test.YtmpijgfndnikpaaGreatDoorE31
import Derived.Test.YtmpijgfndnikpaaGreatDoorE45
import Derived.Test.YtmpijgfndnikpaaGreatDoorBSD2
set_option linter.unusedVariables false
set_option linter.unusedSimpArgs false
section
/- Data that come in, as the abstract machine is shown them; a run that answers true. -/
namespace Go.Proofs.YtmpijgfndnikpaaGreatDoor
open Go.ChangeShapes Go.WideShapes Go.RowKit Go.Ab Go.Ab.Seat

theorem arr_len {H : Type} {enc : TypeId × Value → H} {P : Program} {w : World} {base : Nat} {sp : Nat → Bool} {held : Bool} {fuel : Nat} {t e n : Nat} (hu : P.underlying t = some (.array n e))
    {cs : List Value} {x : DataW H × List MemPlace} (h : DataW.trod enc P w base sp held fuel t cs = some x) : cs.length = P.cellsOf t := by
  cases fuel with
  | zero => simp [DataW.trod] at h
  | succ k =>
    rw [DataW.trod_step] at h
    unfold DataW.trodStep at h
    simp only [hu] at h
    split at h
    · assumption
    · cases h

theorem cTab : Tryz.prog.cellsOf 250 = 32 := by kernel_rfl

/-- What a world must hold, exactly. -/
structure _root_.Go.Ab.Seat.LaidX (w : World) : Prop where
  laid : Laid w
  x0 : ∃ c t fr, w.heap[1]? = some (.cells c t fr) ∧ c.toList = tab
  x1 : ∃ c t fr, w.heap[0]? = some (.cells c t fr) ∧ c.toList = [rt tErr]

theorem laidx_of {W : World} (h : laidMetH Tryz.prog laidVars W) (hs : W.ShapedOpen Tryz.prog) : LaidX W := by
  have h' : laidMet Tryz.prog [("math/bits.deBruijn32tab", Rows.laid_math_bits_deBruijn32tab)] W ∧ handlesMet Tryz.prog [("errors.errorType", Rows.laid_errors_errorType)] W := h
  have hl := laid_of h hs
  refine ⟨hl, ?_, ?_⟩
  · obtain ⟨ps, ⟨g, t, cs, fuel, p, q, hg, ht, hvar, hd, _, _⟩, _⟩ := h'.1
    obtain rfl := Option.some.inj (gTab.symm.trans hg)
    obtain rfl := Option.some.inj (gType.symm.trans ht)
    have h1 := arr_len uTab hd
    rw [cTab] at h1
    obtain ⟨c, t, fr, hH, _, hc⟩ := hl.var0
    refine ⟨c, t, fr, hH, ?_⟩
    have hv := hvar
    unfold World.var? at hv
    rw [hg] at hv
    simp only [Option.bind_some] at hv
    rw [hH] at hv
    cases hv
    have ht : tab.length = 32 := by rfl
    refine List.ext_getElem? fun i => ?_
    by_cases hi : i < 32
    · have : tab[i]? = some tab[i] := List.getElem?_eq_getElem (by omega)
      rw [this, Array.getElem?_toList]
      exact hc i _ this
    · rw [List.getElem?_eq_none (by omega), List.getElem?_eq_none (by omega)]
  · obtain ⟨name, u, ty, e1, e2, e3, e4, e5⟩ := h'.2 _ (List.mem_singleton.2 rfl)
    have en : name = [101, 114, 114, 111, 114] := (Option.some.inj e1).symm
    subst en
    obtain rfl := Option.some.inj (rtNo.symm.trans e2)
    have hm : ty ∈ (List.range 414).filter fun t => Tryz.prog.rowNamed t [101, 114, 114, 111, 114] := List.mem_filter.2 ⟨List.mem_range.2 (by rw [← tSize]; exact e3), e4⟩
    rw [oneRow] at hm
    obtain rfl := List.mem_singleton.1 hm
    have hv := e5
    unfold World.var? at hv
    rw [gEt] at hv
    simp only [Option.bind_some] at hv
    split at hv
    · rename_i c t fr hH
      obtain rfl := Option.some.inj hv
      refine ⟨_, t, fr, hH, ?_⟩
      have hh : typeHandle Tryz.prog tErr = hd tErr := by unfold typeHandle; rw [gSize]; rfl
      rw [hh]
      rfl
    · cases hv

theorem _root_.Go.Ab.Seat.LaidX.low {w : World} (h : LaidX w) : LowOk s0.h w.heap := by
  have hr := h.laid.hr
  have hle : (ι0 w).le (ιW w.heap) := by
    intro b L hb
    unfold ι0 at hb
    split at hb
    · cases hb
      have := h.laid.size
      unfold ιW
      exact if_pos (by omega)
    · cases hb
  refine ⟨?_, ?_, ?_⟩
  · intro b o hb
    rw [s0_get] at hb
    split at hb
    · cases hb; rfl
    · split at hb
      · cases hb; rfl
      · cases hb
  · intro b o hb
    obtain ⟨L, h1, h2⟩ := hr.obj b o hb
    exact ⟨L, hle _ _ h1, h2.mono hle⟩
  · intro b o hb c t fr hH i v hv hp
    rw [s0_get] at hb
    split at hb
    · rename_i h0
      subst h0
      cases hb
      obtain ⟨c', t', fr', hH', hc'⟩ := h.x1
      rw [hH] at hH'
      cases hH'
      rw [← Array.getElem?_toList, hc'] at hv
      cases i with
      | zero => cases hv; cases hp
      | succ i => simp at hv
    · split at hb
      · rename_i h0
        subst h0
        cases hb
        obtain ⟨c', t', fr', hH', hc'⟩ := h.x0
        rw [hH] at hH'
        cases hH'
        rw [← Array.getElem?_toList, hc'] at hv
        refine ⟨tab, rfl, ?_⟩
        have hm := List.mem_of_getElem? hv
        unfold tab at hm
        obtain ⟨n, _, rfl⟩ := List.mem_map.1 hm
        exact hv
      · cases hb

theorem _root_.Go.Ab.Seat.LaidX.glob {w : World} (h : LaidX w) : Glob (hW w.heap s0.h) := ⟨h.low.has s0_glob.1, h.low.has s0_glob.2⟩

/-- A run that answers true, from what lies there, read only. -/
theorem data_true {f : Nat} {args args' : List Value} {w : World} (hsm : smQ f = none) (hex : ex f = none) (hl : LaidX w) (ha : VRl (ιW w.heap) args args')
    (h : ∃ v s', FnTo CQ eg f args ⟨hW w.heap s0.h, w.heap.size, [], []⟩ v s' ∧ v = .bool true) :
    Calls Tryz.prog f args'.toArray w fun e w' => e = .returned (.bool true) ∧ Below w.heap.size w w' := by
  obtain ⟨v, s', h1, rfl⟩ := h
  obtain ⟨n, h2⟩ := FnTo.callB hsm hex h1
  refine (calls_of_abs wholeQ n f h2 ha (hl.low.hr (by have := hl.laid.size; omega)) (fun b h1 _ => ?_) fun v' w' ι' hv hp => ?_).2
  · have : w.heap.size ≤ b := h1
    exact if_neg (by omega)
  · cases hv
    exact ⟨rfl, hp.os, hp.tape, hp.output, hp.size, fun k hk => hp.frame k hk hl.low.owned⟩
#print axioms data_true
end Go.Proofs.YtmpijgfndnikpaaGreatDoor
end
section
/- ShadowAll: its data as they come in; the walk. -/
namespace Go.Proofs.YtmpijgfndnikpaaGreatDoor
open Go.ChangeShapes Go.WideShapes Go.RowKit Go.Ab Go.Ab.Seat
set_option linter.unusedVariables false

theorem row_cell {h : T AObj} {oa : Option Addr} {n cap k : Nat} {xs : List Value} (hr : Row h (.slice oa n cap) n k xs) {j : Nat} {x : Value} (hj : j < n * k) (hx : xs[j]? = some x) :
    ∃ b o sp cs, oa = some ⟨b, o, sp⟩ ∧ Cel h b cs ∧ nth cs (o + j) = some x := by
  rcases hr with ⟨rfl, rfl, _⟩ | ⟨b, o, sp, cap', cs, e, hc, hs⟩
  · simp at hx
  · cases e
    refine ⟨b, o, sp, cs, rfl, hc, ?_⟩
    rw [nth_eq, ← (subN_some _ _ _ _ hs).2.2 j hj]
    exact hx

section
variable {H : Type} {enc : TypeId × Value → H} {W : World} {fuel : Nat}

theorem c117 : Tryz.prog.cellsOf 117 = 2 := by kernel_rfl
theorem c37 : Tryz.prog.cellsOf 37 = 1 := by kernel_rfl
theorem c2 : Tryz.prog.cellsOf 2 = 1 := by kernel_rfl
theorem c3 : Tryz.prog.cellsOf 3 = 1 := by kernel_rfl

/-- A hit's cells. -/
theorem hit_cells {P : Program} {w : World} {base : Nat} {sp : Nat → Bool} {held : Bool} {t : TypeId} {fs : Array Field} {f0 f1 : Field} (ht : P.underlying t = some (.struct fs)) (hc : P.cellsOf t = 2) (hf0 : fs[0]? = some f0) (hf1 : fs[1]? = some f1) (ho0 : f0.offset = 0) (ho1 : f1.offset = 1)
    (hft0 : P.underlying f0.type = some (.int .i64)) (hfc0 : P.cellsOf f0.type = 1) (hft1 : P.underlying f1.type = some (.int .i64)) (hfc1 : P.cellsOf f1.type = 1)
    {cs : List Value} {x : DataW H × List MemPlace} (h : DataW.trod enc P w base sp held fuel t cs = some x) : ∃ a b : Int, cs = [.int .i64 a, .int .i64 b] := by
  obtain ⟨xs, m, _, _, hlen, hxl, hfld⟩ := DataW.trod_struct ht h
  rw [hc] at hlen
  have g0 := hfld 0 f0 hf0
  have g1 := hfld 1 f1 hf1
  have hx0 : xs[0]? = some (xs[0]'(by rw [hxl]; exact (Array.getElem?_eq_some_iff.1 hf0).1)) := List.getElem?_eq_getElem _
  have hx1 : xs[1]? = some (xs[1]'(by rw [hxl]; exact (Array.getElem?_eq_some_iff.1 hf1).1)) := List.getElem?_eq_getElem _
  rw [hx0, ho0, hfc0] at g0
  rw [hx1, ho1, hfc1] at g1
  obtain ⟨a, ha, _, wa⟩ := DataW.trod_int hft0 g0
  obtain ⟨b, hb, _, wb⟩ := DataW.trod_int hft1 g1
  refine ⟨a, b, ?_⟩
  match cs, hlen, ha, hb with
  | [p, q], _, ha, hb =>
    simp at ha hb
    rw [ha, hb]

theorem hits_plain (m : Nat) (cs : List Value) (y : DataW H × List MemPlace) (h : DataW.trod enc Tryz.prog W 0 (fun _ => true) true m 117 cs = some y) : ∃ a b : Int, cs = [.int .i64 a, .int .i64 b] :=
  hit_cells Tryz.underlying117 c117 rfl rfl rfl rfl Tryz.underlying3 c3 Tryz.underlying2 c2 h

theorem slices_plain {t e : Nat} (ht : Tryz.prog.underlying t = some (.slice e)) (m : Nat) (cs : List Value) (y : DataW H × List MemPlace) (h : DataW.trod enc Tryz.prog W 0 (fun _ => true) true m t cs = some y) : ∀ x ∈ cs, plainV x = true := by
  intro x hx
  rcases DataW.trod_slice ht h with ⟨h1, _⟩ | ⟨a, len, cap, _, _, _, _, hcs, _⟩
  · subst h1
    obtain rfl := List.mem_singleton.1 hx
    rfl
  · subst hcs
    obtain rfl := List.mem_singleton.1 hx
    rfl

/-- Hits as they are shown. -/
theorem hv_of (hl : LaidX W) {v : Value} {x : DataW H × List MemPlace} (h : DataW.trod enc Tryz.prog W 0 (fun _ => true) true fuel 37 [v] = some x) : ∃ m, Hv (hW W.heap s0.h) W.heap.size (absV W.heap.size v) m := by
  obtain ⟨oa, oa', n, cap, f, rfl, ha, _, _, hf, hr⟩ := slice_row hl.low Tryz.underlying37 c117 (by decide) (fun m cs y hy => by
    obtain ⟨a, b, rfl⟩ := hits_plain m cs y hy
    intro x hx
    simp only [List.mem_cons, List.not_mem_nil, or_false] at hx
    rcases hx with rfl | rfl <;> rfl) h
  rw [ha] at hr ⊢
  cases n with
  | zero => exact ⟨none, _, _, rfl⟩
  | succ n =>
    obtain ⟨h1, m, y, hy⟩ := hf 0 (by omega)
    obtain ⟨a, b, hab⟩ := hits_plain m _ y hy
    have hlen : ∀ i, i < n + 1 → ((f i).map (absV W.heap.size)).length = 2 := fun i hi => by rw [List.length_map]; exact (hf i hi).1
    have hc1 := cat_get (g := fun i => (f i).map (absV W.heap.size)) (k := 2) (i := 0) (r := 1) (by omega) hlen (by omega)
    rw [hab] at hc1
    obtain ⟨b', o', sp', cs', rfl, hcel, hn⟩ := row_cell hr (j := 0 * 2 + 1) (by omega) hc1
    refine ⟨some b, b', o', sp', n, cap, cs', rfl, hcel.lt (hW_fresh _ _), hcel, ?_⟩
    have e0 : o' + (0 * 2 + 1) = o' + 1 := by omega
    rw [e0] at hn
    exact hn

/-- Rows of hits as they are shown. -/
theorem hvs_of (hl : LaidX W) {v : Value} {x : DataW H × List MemPlace} (h : DataW.trod enc Tryz.prog W 0 (fun _ => true) true fuel 120 [v] = some x) :
    ∃ oa n cap, absV W.heap.size v = .slice oa n cap ∧ Hvs (hW W.heap s0.h) W.heap.size oa n := by
  obtain ⟨oa, oa', n, cap, f, rfl, ha, _, _, hf, hr⟩ := slice_row hl.low Tryz.underlying120 c37 (by decide) (fun m cs y hy => slices_plain Tryz.underlying37 m cs y hy) h
  rw [ha] at hr ⊢
  refine ⟨_, _, _, rfl, fun i hi => ?_⟩
  obtain ⟨h1, m, y, hy⟩ := hf i hi
  obtain ⟨q, hq⟩ : ∃ q, f i = [q] := by
    match hh : f i, h1 with
    | [q], _ => exact ⟨q, rfl⟩
  rw [hq] at hy
  obtain ⟨mm, hv⟩ := hv_of hl hy
  have hlen : ∀ i, i < n → ((f i).map (absV W.heap.size)).length = 1 := fun i hi => by rw [List.length_map]; exact (hf i hi).1
  have hc1 := cat_get (g := fun i => (f i).map (absV W.heap.size)) (k := 1) (i := i) (r := 0) (by omega) hlen hi
  rw [hq] at hc1
  obtain ⟨b', o', sp', cs', rfl, hcel, hn⟩ := row_cell hr (j := i * 1 + 0) (by omega) hc1
  exact ⟨b', o', sp', cs', _, mm, rfl, hcel.lt (hW_fresh _ _), hcel, hn, hv⟩
end

theorem shadowAll_walk {H : Type} {enc : TypeId × Value → H} {W : World} (hl : LaidX W) (a b most : Int) (ha : (Lit.int .i64 a).wf = true) (hb : (Lit.int .i64 b).wf = true) {olds news : Value} {m1 m2 : Nat} {x1 x2 : DataW H × List MemPlace}
    (ho : DataW.trod enc Tryz.prog W 0 (fun _ => true) true m1 120 [olds] = some x1) (hn : DataW.trod enc Tryz.prog W 0 (fun _ => true) true m2 120 [news] = some x2) :
    Calls Tryz.prog 11 #[.agg #[.int .i64 a, .int .i64 b], olds, news, .int .i64 most] W fun e w' => e = .returned (.bool true) ∧ Below W.heap.size W w' := by
  obtain ⟨oa, n, k, e1, h1⟩ := hvs_of hl ho
  obtain ⟨ob, n', k', e2, h2⟩ := hvs_of hl hn
  have r1 := absV_VR W.heap olds
  have r2 := absV_VR W.heap news
  rw [e1] at r1
  rw [e2] at r2
  have wf : ∀ z : Int, (Lit.int .i64 z).wf = true → -9223372036854775808 ≤ z := by
    intro z hz
    have h2 : (decide (IntKind.i64.min ≤ z) && decide (z ≤ IntKind.i64.max)) = true := hz
    rw [Bool.and_eq_true, decide_eq_true_eq, decide_eq_true_eq] at h2
    have e : IntKind.i64.min = -9223372036854775808 := by decide
    omega
  refine data_true (args := [.agg #[.int .i64 a, .int .i64 b], .slice oa n k, .slice ob n' k', .int .i64 most]) (args' := [.agg #[.int .i64 a, .int .i64 b], olds, news, .int .i64 most]) (stdQ 11 rfl) (ex11 (sm := smQ)) hl
    (VRl.cons (.agg _ _ rfl (VRl.cons (.int _ _) (VRl.cons (.int _ _) (VRl.nil _))).2) (VRl.cons r1 (VRl.cons r2 (VRl.cons (.int _ _) (VRl.nil _))))) ?_
  exact shadowAll_run a b most oa n k ob n' k' (hW_fresh _ _) hl.glob (wf a ha) (wf b hb) h1 h2
#print axioms shadowAll_walk
end Go.Proofs.YtmpijgfndnikpaaGreatDoor
end
