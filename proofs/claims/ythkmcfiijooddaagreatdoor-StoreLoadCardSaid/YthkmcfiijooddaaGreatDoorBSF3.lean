import Derived.Test.YthkmcfiijooddaaGreatDoorBQ4
import Derived.Test.YthkmcfiijooddaaGreatDoorE45
import Derived.Test.YthkmcfiijooddaaGreatDoorBSM4
import Derived.Test.YthkmcfiijooddaaGreatDoorBSL2
import Derived.Test.YthkmcfiijooddaaGreatDoorRows
set_option linter.unusedVariables false
set_option linter.unusedSimpArgs false
section
/- Data that come in, as the abstract machine is shown them; a run that answers true. -/
namespace Go.Ab.Seat
open Go.Extern Go.Proofs Go.RowKit

theorem s0_fresh : Fresh s0.h 3 := by
  intro b hb
  rw [s0_get, if_neg (by omega), if_neg (by omega)]
theorem s0_glob : Glob s0.h := ⟨by unfold Has; rw [s0_get, if_pos rfl], by unfold Has; rw [s0_get, if_neg (by omega), if_pos rfl]⟩

theorem FnTo.callB {C : Ctx} {f : Nat} {args : List Value} {s s' : St} {v : Value} (hsm : C.sm f = none) (hex : C.ex f = none) (h : FnTo C eg f args s v s') : ∃ n, callB C (exec C eg n) f args s = some (v, s') := by
  obtain ⟨n, h⟩ := h
  refine ⟨n, ?_⟩
  unfold callF at h
  rw [hsm] at h
  simp only at h
  rw [hex] at h
  exact h

end Go.Ab.Seat
namespace Go.Proofs.YthkmcfiijooddaaGreatDoor
open Go.ChangeShapes Go.WideShapes Go.RowKit Go.Ab Go.Ab.Seat

theorem arr_len {H : Type} {enc : TypeId × Value → H} {P : Program} {w : World} {base : Nat} {sp : Nat → Bool} {held : Bool} {fuel : Nat} {t e n : Nat} (hu : P.underlying t = some (.array n e))
    {cs : List Value} {x : DataW H × List MemPlace} (h : DataW.trod enc P w base sp held fuel t cs = some x) : cs.length = P.cellsOf t := by
  cases fuel with
  | zero => simp [DataW.trod] at h
  | succ k =>
    rw [DataW.trod_step] at h
    unfold DataW.trodStep at h
    simp only [hu] at h
    split at h
    · assumption
    · cases h

theorem cTab : Tryz.prog.cellsOf 269 = 32 := by kernel_rfl

/-- What a world must hold, exactly. -/
structure _root_.Go.Ab.Seat.LaidX (w : World) : Prop where
  laid : Laid w
  x0 : ∃ c t fr, w.heap[1]? = some (.cells c t fr) ∧ c.toList = tab
  x1 : ∃ c t fr, w.heap[0]? = some (.cells c t fr) ∧ c.toList = [rt tErr]

theorem laidx_of {W : World} (h : laidMetH Tryz.prog laidVars W) (hs : W.ShapedOpen Tryz.prog) : LaidX W := by
  have h' : laidMet Tryz.prog [("math/bits.deBruijn32tab", Rows.laid_math_bits_deBruijn32tab)] W ∧ handlesMet Tryz.prog [("errors.errorType", Rows.laid_errors_errorType)] W := h
  have hl := laid_of h hs
  refine ⟨hl, ?_, ?_⟩
  · obtain ⟨ps, ⟨g, t, cs, fuel, p, q, hg, ht, hvar, hd, _, _⟩, _⟩ := h'.1
    obtain rfl := Option.some.inj (gTab.symm.trans hg)
    obtain rfl := Option.some.inj (gType.symm.trans ht)
    have h1 := arr_len uTab hd
    rw [cTab] at h1
    obtain ⟨c, t, fr, hH, _, hc⟩ := hl.var0
    refine ⟨c, t, fr, hH, ?_⟩
    have hv := hvar
    unfold World.var? at hv
    rw [hg] at hv
    simp only [Option.bind_some] at hv
    rw [hH] at hv
    cases hv
    have ht : tab.length = 32 := by rfl
    refine List.ext_getElem? fun i => ?_
    by_cases hi : i < 32
    · have : tab[i]? = some tab[i] := List.getElem?_eq_getElem (by omega)
      rw [this, Array.getElem?_toList]
      exact hc i _ this
    · rw [List.getElem?_eq_none (by omega), List.getElem?_eq_none (by omega)]
  · obtain ⟨name, u, ty, e1, e2, e3, e4, e5⟩ := h'.2 _ (List.mem_singleton.2 rfl)
    have en : name = [101, 114, 114, 111, 114] := (Option.some.inj e1).symm
    subst en
    obtain rfl := Option.some.inj (rtNo.symm.trans e2)
    have hm : ty ∈ (List.range 406).filter fun t => Tryz.prog.rowNamed t [101, 114, 114, 111, 114] := List.mem_filter.2 ⟨List.mem_range.2 (by rw [← tSize]; exact e3), e4⟩
    rw [oneRow] at hm
    obtain rfl := List.mem_singleton.1 hm
    have hv := e5
    unfold World.var? at hv
    rw [gEt] at hv
    simp only [Option.bind_some] at hv
    split at hv
    · rename_i c t fr hH
      obtain rfl := Option.some.inj hv
      refine ⟨_, t, fr, hH, ?_⟩
      have hh : typeHandle Tryz.prog tErr = hd tErr := by unfold typeHandle; rw [gSize]; rfl
      rw [hh]
      rfl
    · cases hv

theorem _root_.Go.Ab.Seat.LaidX.low {w : World} (h : LaidX w) : LowOk s0.h w.heap := by
  have hr := h.laid.hr
  have hle : (ι0 w).le (ιW w.heap) := by
    intro b L hb
    unfold ι0 at hb
    split at hb
    · cases hb
      have := h.laid.size
      unfold ιW
      exact if_pos (by omega)
    · cases hb
  refine ⟨?_, ?_, ?_⟩
  · intro b o hb
    rw [s0_get] at hb
    split at hb
    · cases hb; rfl
    · split at hb
      · cases hb; rfl
      · cases hb
  · intro b o hb
    obtain ⟨L, h1, h2⟩ := hr.obj b o hb
    exact ⟨L, hle _ _ h1, h2.mono hle⟩
  · intro b o hb c t fr hH i v hv hp
    rw [s0_get] at hb
    split at hb
    · rename_i h0
      subst h0
      cases hb
      obtain ⟨c', t', fr', hH', hc'⟩ := h.x1
      rw [hH] at hH'
      cases hH'
      rw [← Array.getElem?_toList, hc'] at hv
      cases i with
      | zero => cases hv; cases hp
      | succ i => simp at hv
    · split at hb
      · rename_i h0
        subst h0
        cases hb
        obtain ⟨c', t', fr', hH', hc'⟩ := h.x0
        rw [hH] at hH'
        cases hH'
        rw [← Array.getElem?_toList, hc'] at hv
        refine ⟨tab, rfl, ?_⟩
        have hm := List.mem_of_getElem? hv
        unfold tab at hm
        obtain ⟨n, _, rfl⟩ := List.mem_map.1 hm
        exact hv
      · cases hb

theorem _root_.Go.Ab.Seat.LaidX.glob {w : World} (h : LaidX w) : Glob (hW w.heap s0.h) := ⟨h.low.has s0_glob.1, h.low.has s0_glob.2⟩

/-- A run that answers true, from what lies there, read only. -/
theorem data_true {f : Nat} {args args' : List Value} {w : World} (hsm : smQ f = none) (hex : ex f = none) (hl : LaidX w) (ha : VRl (ιW w.heap) args args')
    (h : ∃ v s', FnTo CQ eg f args ⟨hW w.heap s0.h, w.heap.size, [], []⟩ v s' ∧ v = .bool true) :
    Calls Tryz.prog f args'.toArray w fun e w' => e = .returned (.bool true) ∧ Below w.heap.size w w' := by
  obtain ⟨v, s', h1, rfl⟩ := h
  obtain ⟨n, h2⟩ := FnTo.callB hsm hex h1
  refine (calls_of_abs wholeQ n f h2 ha (hl.low.hr (by have := hl.laid.size; omega)) (fun b h1 _ => ?_) fun v' w' ι' hv hp => ?_).2
  · have : w.heap.size ≤ b := h1
    exact if_neg (by omega)
  · cases hv
    exact ⟨rfl, hp.os, hp.tape, hp.output, hp.size, fun k hk => hp.frame k hk hl.low.owned⟩
#print axioms data_true
end Go.Proofs.YthkmcfiijooddaaGreatDoor
end
section
/- Rows of ints that come in. -/
namespace Go.Proofs.YthkmcfiijooddaaGreatDoor
open Go.ChangeShapes Go.WideShapes Go.RowKit Go.Ab Go.Ab.Seat
set_option linter.unusedVariables false

theorem cat_ints {q : IntKind} {g : Nat → List Value} : ∀ {n : Nat}, (∀ i, i < n → ∃ z : Int, g i = [.int q z] ∧ (Lit.int q z).wf = true) → ∃ zs : List Int, zs.length = n ∧ cat g n = zs.map (Value.int q) ∧ ∀ z ∈ zs, (Lit.int q z).wf = true
  | 0, _ => ⟨[], rfl, rfl, fun z hz => by cases hz⟩
  | n + 1, h => by
    obtain ⟨zs, h1, h2, h3⟩ := cat_ints (n := n) fun i hi => h i (by omega)
    obtain ⟨z, hz, hw⟩ := h n (by omega)
    refine ⟨zs ++ [z], by simp [h1], by rw [cat_succ, h2, hz]; simp, fun y hy => ?_⟩
    rcases List.mem_append.1 hy with hy | hy
    · exact h3 y hy
    · obtain rfl := List.mem_singleton.1 hy
      exact hw

/-- A row of ints as it is shown. -/
theorem ints_of {H : Type} {enc : TypeId × Value → H} {W : World} {fuel : Nat} (hl : LaidX W) {t e : Nat} {q : IntKind} (ht : Tryz.prog.underlying t = some (.slice e)) (he : Tryz.prog.underlying e = some (.int q)) (hc : Tryz.prog.cellsOf e = 1) {v : Value} {x : DataW H × List MemPlace} (h : DataW.trod enc Tryz.prog W 0 (fun _ => true) true fuel t [v] = some x) :
    ∃ oa n cap, ∃ zs : List Int, absV W.heap.size v = .slice oa n cap ∧ zs.length = n ∧ n ≤ maxLen ∧ Row (hW W.heap s0.h) (.slice oa n cap) n 1 (zs.map (Value.int q)) ∧ ∀ z ∈ zs, (Lit.int q z).wf = true := by
  obtain ⟨oa, oa', n, cap, f, rfl, ha, hn, hm, hf, hr⟩ := slice_row hl.low ht hc (by decide) (fun m cs y hy x hx => by
    obtain ⟨z, rfl, _⟩ := DataW.trod_int he hy
    obtain rfl := List.mem_singleton.1 hx
    rfl) h
  rw [ha] at hr ⊢
  obtain ⟨zs, h1, h2, h3⟩ := cat_ints (q := q) (g := fun i => (f i).map (absV W.heap.size)) (n := n) fun i hi => by
    obtain ⟨_, m, y, hy⟩ := hf i hi
    obtain ⟨z, hz, _, hw⟩ := DataW.trod_int he hy
    exact ⟨z, by rw [hz]; rfl, hw⟩
  rw [h2] at hr
  exact ⟨_, _, _, zs, rfl, h1, Nat.le_trans hn hm, hr, h3⟩

end Go.Proofs.YthkmcfiijooddaaGreatDoor
end
section
/- Operations on a store, items, as they come in. -/
namespace Go.Proofs.YthkmcfiijooddaaGreatDoor
open Go.ChangeShapes Go.WideShapes Go.RowKit Go.Ab Go.Ab.Seat
set_option linter.unusedVariables false

section
variable {H : Type} {enc : TypeId × Value → H} {W : World} {fuel : Nat}

theorem field_of {P : Program} {w : World} {base : Nat} {sp : Nat → Bool} {held : Bool} {t : TypeId} {fs : Array Field} (ht : P.underlying t = some (.struct fs)) {cs : List Value} {x : DataW H × List MemPlace} (h : DataW.trod enc P w base sp held fuel t cs = some x) :
    cs.length = P.cellsOf t ∧ ∀ (i : Nat) (f : Field), fs[i]? = some f → ∃ n y, DataW.trod enc P w base sp held n f.type ((cs.drop f.offset).take (P.cellsOf f.type)) = some y := by
  obtain ⟨xs, n, _, _, hlen, hxl, hfld⟩ := DataW.trod_struct ht h
  refine ⟨hlen, fun i f hf => ⟨n, ?_⟩⟩
  have hi : i < xs.length := by rw [hxl]; exact (Array.getElem?_eq_some_iff.1 hf).1
  exact ⟨xs[i], (hfld i f hf).trans (List.getElem?_eq_getElem hi)⟩

theorem cl2 : Tryz.prog.cellsOf 2 = 1 := by kernel_rfl
theorem cl3 : Tryz.prog.cellsOf 3 = 1 := by kernel_rfl
theorem cl4 : Tryz.prog.cellsOf 4 = 1 := by kernel_rfl
theorem cl9 : Tryz.prog.cellsOf 9 = 1 := by kernel_rfl
theorem c21 : Tryz.prog.cellsOf 21 = 1 := by kernel_rfl
theorem cl33 : Tryz.prog.cellsOf 33 = 1 := by kernel_rfl
theorem cl59 : Tryz.prog.cellsOf 59 = 5 := by kernel_rfl
theorem cl70 : Tryz.prog.cellsOf 70 = 5 := by kernel_rfl

theorem _root_.Go.Ab.Seat.LaidX.pos (hl : LaidX W) : 0 < W.heap.size := by
  have := hl.glob.g0.lt (hW_fresh _ _)
  exact this

set_option maxRecDepth 100000 in
/-- An operation's cells. -/
theorem sop_cells {cs : List Value} {y : DataW H × List MemPlace} (h : DataW.trod enc Tryz.prog W 0 (fun _ => true) true fuel 70 cs = some y) :
    ∃ kd id v s sq, cs = [.int .i64 kd, .int .i64 id, v, .string s, .int .i64 sq] ∧ ∃ m y', DataW.trod enc Tryz.prog W 0 (fun _ => true) true m 33 [v] = some y' := by
  obtain ⟨hl, hf⟩ := field_of Tryz.underlying70 h
  rw [cl70] at hl
  obtain ⟨n0, y0, h0⟩ := hf 0 _ rfl
  obtain ⟨n1, y1, h1⟩ := hf 1 _ rfl
  obtain ⟨n2, y2, h2⟩ := hf 2 _ rfl
  obtain ⟨n3, y3, h3⟩ := hf 3 _ rfl
  obtain ⟨n4, y4, h4⟩ := hf 4 _ rfl
  change DataW.trod enc Tryz.prog W 0 (fun _ => true) true n0 3 ((cs.drop 0).take (Tryz.prog.cellsOf 3)) = some y0 at h0
  change DataW.trod enc Tryz.prog W 0 (fun _ => true) true n1 3 ((cs.drop 1).take (Tryz.prog.cellsOf 3)) = some y1 at h1
  change DataW.trod enc Tryz.prog W 0 (fun _ => true) true n2 33 ((cs.drop 2).take (Tryz.prog.cellsOf 33)) = some y2 at h2
  change DataW.trod enc Tryz.prog W 0 (fun _ => true) true n3 9 ((cs.drop 3).take (Tryz.prog.cellsOf 9)) = some y3 at h3
  change DataW.trod enc Tryz.prog W 0 (fun _ => true) true n4 2 ((cs.drop 4).take (Tryz.prog.cellsOf 2)) = some y4 at h4
  rw [cl3] at h0 h1
  rw [cl33] at h2
  rw [cl9] at h3
  rw [cl2] at h4
  match cs, hl with
  | [c0, c1, c2, c3, c4], _ =>
    obtain ⟨kd, e0, _⟩ := DataW.trod_int Tryz.underlying3 h0
    obtain ⟨id, e1, _⟩ := DataW.trod_int Tryz.underlying3 h1
    obtain ⟨s, e3, _⟩ := DataW.trod_string Tryz.underlying9 h3
    obtain ⟨sq, e4, _⟩ := DataW.trod_int Tryz.underlying2 h4
    have e0' : c0 = .int .i64 kd := by simpa using e0
    have e1' : c1 = .int .i64 id := by simpa using e1
    have e3' : c3 = .string s := by simpa using e3
    have e4' : c4 = .int .i64 sq := by simpa using e4
    subst e0'; subst e1'; subst e3'; subst e4'
    exact ⟨kd, id, c2, s, sq, rfl, n2, y2, h2⟩

/-- A vector as it is shown. -/
theorem vec_of (hl : LaidX W) {v : Value} {x : DataW H × List MemPlace} (h : DataW.trod enc Tryz.prog W 0 (fun _ => true) true fuel 33 [v] = some x) :
    plainV v = true ∧ ∃ va nv kv, ∃ zs : List Int, absV W.heap.size v = .slice va nv kv ∧ zs.length = nv ∧ nv ≤ kv ∧ Row (hW W.heap s0.h) (.slice va nv kv) nv 1 (zs.map (Value.int .i32)) ∧ (va = none → kv = 0) ∧ ∀ a, va = some a → (a.spot = none ∨ a.spot = some 1) ∧ a.block < W.heap.size := by
  obtain ⟨oa, n, cap, zs, ha, h1, _, h2, _⟩ := ints_of hl Tryz.underlying33 Tryz.underlying21 c21 h
  have hp : ∃ ob m c, v = .slice ob m c ∧ m ≤ c ∧ (ob = none → c = 0) := by
    rcases DataW.trod_slice Tryz.underlying33 h with ⟨e, _⟩ | ⟨a, len, c, _, _, _, _, e, _, _, hlc, _⟩
    · exact ⟨none, 0, 0, by simpa using e, Nat.le_refl _, fun _ => rfl⟩
    · exact ⟨some a, len, c, by simpa using e, hlc, fun e => by cases e⟩
  obtain ⟨ob, m, c, rfl, hmc, hno⟩ := hp
  refine ⟨rfl, oa, n, cap, zs, ha, h1, ?_⟩
  cases ob with
  | none =>
    unfold absV at ha
    cases ha
    exact ⟨hmc, h2, (fun _ => hno rfl), (fun a e => by cases e)⟩
  | some a =>
    unfold absV at ha
    simp only at ha
    split at ha
    · rename_i hs
      cases ha
      exact ⟨hmc, h2, (fun e => by cases e), (fun a' e => by cases e; exact ⟨.inl hs.1, hs.2⟩)⟩
    · split at ha
      · cases ha
        exact ⟨Nat.le_refl _, h2, (fun e => by cases e), (fun a' e => by cases e; exact ⟨.inr rfl, hl.pos⟩)⟩
      · cases ha


/-- Operations as they are shown. -/
theorem sops_of (hl : LaidX W) {v : Value} {x : DataW H × List MemPlace} (h : DataW.trod enc Tryz.prog W 0 (fun _ => true) true fuel 68 [v] = some x) :
    ∃ oa n cap, absV W.heap.size v = .slice oa n cap ∧ OpsS (hW W.heap s0.h) W.heap.size oa n := by
  obtain ⟨oa, oa', n, cap, f, rfl, ha, _, _, hf, hr⟩ := slice_row hl.low Tryz.underlying68 cl70 (by decide) (fun m cs y hy x hx => by
    obtain ⟨kd, id, v, s, sq, rfl, m', y', hv⟩ := sop_cells hy
    obtain ⟨hp, _⟩ := vec_of hl hv
    simp only [List.mem_cons, List.not_mem_nil, or_false] at hx
    rcases hx with rfl | rfl | rfl | rfl | rfl <;> first | rfl | exact hp) h
  rw [ha] at hr ⊢
  refine ⟨_, _, _, rfl, fun i hi => ?_⟩
  rcases hr with ⟨rfl, _⟩ | ⟨b, o, sp, cap', cs, e, hc, hs⟩
  · omega
  cases e
  obtain ⟨_, m, y, hy⟩ := hf i hi
  obtain ⟨kd, id, v, s, sq, hfi, m', y', hv⟩ := sop_cells hy
  obtain ⟨_, va, nv, kv, zs, e1, e2, e3, e4, e5, e6⟩ := vec_of hl hv
  have hlen : ∀ i, i < n → ((f i).map (absV W.heap.size)).length = 5 := fun i hi => by rw [List.length_map]; exact (hf i hi).1
  have cell : ∀ r, r < 5 → cs[o + (i * 5 + r)]? = ((f i).map (absV W.heap.size))[r]? := by
    intro r hr
    have h1 := cat_get (g := fun i => (f i).map (absV W.heap.size)) (k := 5) (i := i) (r := r) hr hlen hi
    have hlt : i * 5 + r < n * 5 := by omega
    rw [← h1, (subN_some _ _ _ _ hs).2.2 _ hlt]
  rw [hfi] at cell
  refine ⟨b, o, sp, cs, kd, id, va, nv, kv, zs, s, sq, rfl, hc, ?_, e4, e2, e3, e5, e6⟩
  refine subN_ext rfl (by omega) fun j hj => ?_
  have := cell j (by omega)
  rw [show o + i * 5 + j = o + (i * 5 + j) by omega, this]
  rw [← e1]
  match j, hj with
  | 0, _ => rfl
  | 1, _ => rfl
  | 2, _ => rfl
  | 3, _ => rfl
  | 4, _ => rfl
end
end Go.Proofs.YthkmcfiijooddaaGreatDoor
end
section
/- A slice that comes in, and the datum that it reads as. -/
namespace Go.Ab
open Go.ChangeShapes Go.WideShapes Go.RowKit
set_option linter.unusedVariables false
section
variable {H : Type} {enc : TypeId × Value → H} {P : Program} {w : World} {base : Nat} {held : Bool} {fuel : Nat} {low : T AObj}
theorem slice_rowD (hlow : LowOk low w.heap) {t e k : Nat} (ht : P.underlying t = some (.slice e)) (hk : P.cellsOf e = k) (hk0 : 0 < k)
    (hpl : ∀ m cs y, DataW.trod enc P w base (fun _ => true) held m e cs = some y → ∀ x ∈ cs, plainV x = true)
    {v : Value} {x : DataW H × List MemPlace} (h : DataW.trod enc P w base (fun _ => true) held fuel t [v] = some x) :
    ∃ (oa oa' : Option Addr) (n cap : Nat) (f : Nat → List Value), v = .slice oa n cap ∧ absV w.heap.size v = .slice oa' n cap ∧ n ≤ cap ∧ cap ≤ maxLen ∧ (∀ i, i < n → (f i).length = k ∧ ∃ m y, DataW.trod enc P w base (fun _ => true) held m e (f i) = some y ∧ ∀ el sp, x.1 = .slice el sp → y.1 ∈ el) ∧
      Row (hW w.heap low) (absV w.heap.size v) n k (cat (fun i => (f i).map (absV w.heap.size)) n) := by
  rcases DataW.trod_slice ht h with ⟨h1, _⟩ | ⟨a, len, cap, elems, rest, m, _, hcs, hx9, _, hl, hm, hlen, hel, hrest, _⟩
  · have : v = .slice none 0 0 := by simpa using h1
    subst this
    exact ⟨none, none, 0, 0, fun _ => [], rfl, rfl, Nat.le_refl _, Nat.zero_le _, fun i hi => absurd hi (Nat.not_lt_zero _), .inl ⟨rfl, rfl, none, 0, rfl⟩⟩
  · have hv : v = .slice (some a) len cap := by simpa using hcs
    subst hv
    rw [hk] at hel hrest
    -- the cells
    have each : ∀ i, i < cap → ∃ cs, w.cells? base (a.add (i * k)) k = some cs ∧ ∃ y, DataW.trod enc P w base (fun _ => true) held m e cs = some y := by
      intro i hi
      have hE : ∃ y, (w.cells? base (a.add (i * k)) k).bind (DataW.trod enc P w base (fun _ => true) held m e) = some y := by
        rcases Nat.lt_or_ge i len with h1 | h1
        · exact ⟨_, (hel i h1).trans (List.getElem?_eq_getElem (by omega))⟩
        · obtain ⟨q1, q2⟩ := hrest rfl
          have := q2 (i - len) (by omega)
          rw [show len + (i - len) = i by omega] at this
          exact ⟨_, this.trans (List.getElem?_eq_getElem (by omega))⟩
      obtain ⟨y, hy⟩ := hE
      rw [Option.bind_eq_some_iff] at hy
      obtain ⟨cs, h1, h2⟩ := hy
      exact ⟨cs, h1, y, h2⟩
    have good : 0 < cap → a.spot = none ∧ a.block < w.heap.size := by
      intro hc
      obtain ⟨cs, h1, _⟩ := each 0 hc
      obtain ⟨_, h2⟩ := cells_get h1
      obtain ⟨y, _, h3⟩ := h2 0 hk0
      have e0 : (a.add (0 * k)).add 0 = a := by simp [Addr.add]
      rw [e0] at h3
      exact cell_plain h3
    have hf : ∀ i, i < len → ((w.cells? base (a.add (i * k)) k).getD []).length = k ∧ ∃ m y, DataW.trod enc P w base (fun _ => true) held m e ((w.cells? base (a.add (i * k)) k).getD []) = some y ∧ ∀ el sp, x.1 = .slice el sp → y.1 ∈ el := by
      intro i hi
      have h0 := (hel i hi).trans (List.getElem?_eq_getElem (by omega))
      rw [Option.bind_eq_some_iff] at h0
      obtain ⟨cs, h1, h2⟩ := h0
      rw [h1]
      refine ⟨(cells_get h1).1, m, _, h2, fun el sp he => ?_⟩
      rw [hx9] at he
      cases he
      exact List.mem_map_of_mem (List.getElem_mem _)
    by_cases hc : a.spot = none ∧ a.block < w.heap.size
    · obtain ⟨b, o, sp⟩ := a
      obtain ⟨h1, h2⟩ := hc
      simp only at h1 h2
      subst h1
      have ha : absV w.heap.size (.slice (some ⟨b, o, none⟩) len cap) = .slice (some ⟨b, o, none⟩) len cap := by unfold absV; exact if_pos ⟨rfl, h2⟩
      refine ⟨_, _, len, cap, fun i => (w.cells? base (Addr.add ⟨b, o, none⟩ (i * k)) k).getD [], rfl, ha, hl, hm, hf, ?_⟩
      rw [ha]
      cases len with
      | zero => exact .inl ⟨rfl, rfl, _, _, rfl⟩
      | succ len =>
        have cell : ∀ i r, i < len + 1 → r < k → ∃ l v, Has (hW w.heap low) b (.ro l) ∧ l[o + (i * k + r)]? = some (absV w.heap.size v) ∧ ((w.cells? base (Addr.add ⟨b, o, none⟩ (i * k)) k).getD [])[r]? = some v := by
          intro i r hi hr
          obtain ⟨cs, h3, y, h4⟩ := each i (by omega)
          obtain ⟨q1, q2⟩ := cells_get h3
          obtain ⟨v, hv, hw⟩ := q2 r hr
          have e1 : (Addr.add ⟨b, o, none⟩ (i * k)).add r = ⟨b, o + (i * k + r), none⟩ := by
            unfold Addr.add
            by_cases hz : i * k = 0
            · rw [if_pos hz]
              by_cases hr0 : r = 0
              · rw [if_pos hr0, hz, hr0]; rfl
              · rw [if_neg hr0, hz, Nat.zero_add]
            · rw [if_neg hz]
              by_cases hr0 : r = 0
              · rw [if_pos hr0, hr0]; rfl
              · rw [if_neg hr0]; simp [Nat.add_assoc]
          rw [e1] at hw
          obtain ⟨l, g1, g2⟩ := cellW hlow hw (hpl _ _ _ h4 v (List.mem_of_getElem? hv))
          rw [h3]
          exact ⟨l, v, g1, g2, hv⟩
        obtain ⟨l, _, hb, _, _⟩ := cell 0 0 (by omega) hk0
        refine .inr ⟨b, o, none, cap, l, rfl, hb.celR, ?_⟩
        have hlen : ∀ i, i < len + 1 → (((w.cells? base (Addr.add ⟨b, o, none⟩ (i * k)) k).getD []).map (absV w.heap.size)).length = k := fun i hi => by rw [List.length_map]; exact (hf i hi).1
        have hpos : 0 < (len + 1) * k := Nat.mul_pos (by omega) hk0
        refine subN_ext (cat_len hlen) hpos fun j hj => ?_
        have hd : j / k < len + 1 := (Nat.div_lt_iff_lt_mul hk0).2 hj
        have hr : j % k < k := Nat.mod_lt _ hk0
        have he : j / k * k + j % k = j := by rw [Nat.mul_comm]; exact Nat.div_add_mod j k
        obtain ⟨l', v, g1, g2, g3⟩ := cell (j / k) (j % k) hd hr
        have hll : l' = l := by
          unfold Has at hb g1
          rw [hb] at g1
          cases g1; rfl
        subst hll
        have := cat_get (g := fun i => (((w.cells? base (Addr.add ⟨b, o, none⟩ (i * k)) k).getD []).map (absV w.heap.size))) hr hlen hd
        rw [he] at this g2
        rw [this, g2, List.getElem?_map, g3]
        rfl
    · have h0 : cap = 0 := by
        rcases Nat.eq_zero_or_pos cap with h | h
        · exact h
        · exact absurd (good h) hc
      subst h0
      have h0 : len = 0 := by omega
      subst h0
      have ha : absV w.heap.size (.slice (some a) 0 0) = .slice (some ⟨0, 0, some 1⟩) 0 0 := by unfold absV; exact (if_neg hc).trans (if_pos ⟨rfl, rfl⟩)
      exact ⟨_, _, 0, 0, fun _ => [], rfl, ha, Nat.le_refl _, Nat.zero_le _, fun i hi => absurd hi (Nat.not_lt_zero _), .inl ⟨rfl, rfl, _, _, ha⟩⟩

end
end Go.Ab
end
section
/- Items as they come in, StoreLoad answers true and turns nothing that lay before. -/
namespace Go.Proofs.YthkmcfiijooddaaGreatDoor
open Go.ChangeShapes Go.WideShapes Go.RowKit Go.Ab Go.Ab.Seat
set_option linter.unusedVariables false

theorem wAll_mem {H : Type} {P : Program} {e : TypeId} {d : DataW H} : ∀ {l : List (DataW H)}, d ∈ l → ∀ n ∈ d.weights P e, n ∈ DataW.weightsAll P e l
  | [], h, _, _ => by cases h
  | x :: l, h, n, hn => by
    unfold DataW.weightsAll
    rcases List.mem_cons.1 h with rfl | h
    · exact List.mem_append_left _ hn
    · exact List.mem_append_right _ (wAll_mem h n hn)
theorem wEach_mem {H : Type} {P : Program} {t : TypeId} {d : DataW H} : ∀ {i : Nat} {ts : List TypeId} {l : List (DataW H)}, ts[i]? = some t → l[i]? = some d → ∀ n ∈ d.weights P t, n ∈ DataW.weightsEach P ts l
  | _, [], _, h, _, _, _ => by simp at h
  | _, _ :: _, [], _, h, _, _ => by simp at h
  | 0, t' :: ts, d' :: l, h, h', n, hn => by
    simp only [List.getElem?_cons_zero, Option.some.injEq] at h h'
    subst h; subst h'
    unfold DataW.weightsEach
    exact List.mem_append_left _ hn
  | i + 1, t' :: ts, d' :: l, h, h', n, hn => by
    unfold DataW.weightsEach
    exact List.mem_append_right _ (wEach_mem (i := i) (by simpa using h) (by simpa using h') n hn)
theorem bytes21 : Tryz.prog.bytesOf 21 = 4 := by kernel_rfl

section
variable {H : Type} {enc : TypeId × Value → H} {W : World} {fuel : Nat}

set_option maxRecDepth 100000 in
theorem vec_bulk (hl : LaidX W) {v : Value} {x : DataW H × List MemPlace} (h : DataW.trod enc Tryz.prog W 0 (fun _ => true) true fuel 33 [v] = some x) {va : Option Addr} {nv kv : Nat} (e : absV W.heap.size v = .slice va nv kv) (hw : ∀ n ∈ x.1.weights Tryz.prog 33, n ≤ reachBytes) : nv ≤ bigV := by
  rcases DataW.trod_slice Tryz.underlying33 h with ⟨e1, _⟩ | ⟨a, len, c, elems, rest, m, _, e1, ex, _, hlc, _, hlen, _⟩
  · have : v = .slice none 0 0 := by simpa using e1
    subst this
    unfold absV at e
    cases e
    exact Nat.zero_le _
  · have hv : v = .slice (some a) len c := by simpa using e1
    subst hv
    have hn : nv = len := by
      unfold absV at e
      simp only at e
      split at e
      · cases e; rfl
      · split at e
        · rename_i h0
          cases e
          exact h0.1.symm
        · cases e
    subst hn
    have h1 : (elems.map (·.1)).length + (rest.map (·.1)).length ≤ 35184372088832 := by
      have h2 := hw (((elems.map (·.1)).length + (rest.map (·.1)).length) * Tryz.prog.bytesOf 21) (by
        rw [ex]
        show _ ∈ DataW.weights Tryz.prog 33 (.slice (elems.map (·.1)) (rest.map (·.1)))
        unfold DataW.weights
        rw [Tryz.underlying33]
        exact List.mem_cons_self ..)
      rw [bytes21] at h2
      unfold reachBytes at h2
      omega
    rw [List.length_map, hlen] at h1
    unfold bigV
    omega

set_option maxRecDepth 100000 in
theorem item_cells {cs : List Value} {y : DataW H × List MemPlace} (h : DataW.trod enc Tryz.prog W 0 (fun _ => true) true fuel 59 cs = some y) :
    ∃ id v s sq g, cs = [.int .i64 id, v, .string s, .int .i64 sq, .bool g] ∧ ∃ m y', DataW.trod enc Tryz.prog W 0 (fun _ => true) true m 33 [v] = some y' ∧ ∀ n ∈ y'.1.weights Tryz.prog 33, n ∈ y.1.weights Tryz.prog 59 := by
  obtain ⟨xs, n, _, hy, hlen, hxl, hfld⟩ := DataW.trod_struct Tryz.underlying59 h
  rw [cl59] at hlen
  have at_ : ∀ (i : Nat) (f : Field), (_root_.id _ : Array Field)[i]? = some f → i < xs.length := fun i f hf => by rw [hxl]; exact (Array.getElem?_eq_some_iff.1 hf).1
  have h0 := (hfld 0 _ rfl).trans (List.getElem?_eq_getElem (at_ 0 _ rfl))
  have h1 := (hfld 1 _ rfl).trans (List.getElem?_eq_getElem (at_ 1 _ rfl))
  have h2 := (hfld 2 _ rfl).trans (List.getElem?_eq_getElem (at_ 2 _ rfl))
  have h3 := (hfld 3 _ rfl).trans (List.getElem?_eq_getElem (at_ 3 _ rfl))
  have h4 := (hfld 4 _ rfl).trans (List.getElem?_eq_getElem (at_ 4 _ rfl))
  change DataW.trod enc Tryz.prog W 0 (fun _ => true) true n 3 ((cs.drop 0).take (Tryz.prog.cellsOf 3)) = _ at h0
  change DataW.trod enc Tryz.prog W 0 (fun _ => true) true n 33 ((cs.drop 1).take (Tryz.prog.cellsOf 33)) = _ at h1
  change DataW.trod enc Tryz.prog W 0 (fun _ => true) true n 9 ((cs.drop 2).take (Tryz.prog.cellsOf 9)) = _ at h2
  change DataW.trod enc Tryz.prog W 0 (fun _ => true) true n 2 ((cs.drop 3).take (Tryz.prog.cellsOf 2)) = _ at h3
  change DataW.trod enc Tryz.prog W 0 (fun _ => true) true n 4 ((cs.drop 4).take (Tryz.prog.cellsOf 4)) = _ at h4
  rw [cl3] at h0
  rw [cl33] at h1
  rw [cl9] at h2
  rw [cl2] at h3
  rw [cl4] at h4
  match cs, hlen with
  | [c0, c1, c2, c3, c4], _ =>
    obtain ⟨id, e0, _⟩ := DataW.trod_int Tryz.underlying3 h0
    obtain ⟨s, e2, _⟩ := DataW.trod_string Tryz.underlying9 h2
    obtain ⟨sq, e3, _⟩ := DataW.trod_int Tryz.underlying2 h3
    obtain ⟨g, e4, _⟩ := DataW.trod_bool Tryz.underlying4 h4
    have e0' : c0 = .int .i64 id := by simpa using e0
    have e2' : c2 = .string s := by simpa using e2
    have e3' : c3 = .int .i64 sq := by simpa using e3
    have e4' : c4 = .bool g := by simpa using e4
    subst e0'; subst e2'; subst e3'; subst e4'
    refine ⟨id, c1, s, sq, g, rfl, n, _, h1, fun k hk => ?_⟩
    rw [hy]
    show k ∈ DataW.weights Tryz.prog 59 (.agg (xs.map (·.1)))
    unfold DataW.weights
    rw [Tryz.underlying59]
    refine wEach_mem (i := 1) (t := 33) rfl ?_ k hk
    rw [List.getElem?_map, List.getElem?_eq_getElem (at_ 1 _ rfl)]
    rfl

/-- Items as they are shown. -/
theorem items_of (hl : LaidX W) {v : Value} {x : DataW H × List MemPlace} (h : DataW.trod enc Tryz.prog W 0 (fun _ => true) true fuel 49 [v] = some x) (hk : ∀ n ∈ x.1.weights Tryz.prog 49, n ≤ reachBytes) :
    ∃ oa n cap, ∃ rs : List Rc, VR (ιW W.heap) (.slice oa n cap) v ∧ ItRow (hW W.heap s0.h) W.heap.size (.slice oa n cap) rs ∧ rs.length = n ∧ n ≤ cap ∧ (∀ a, oa = some a → a.spot = none ∨ a.spot = some 5) ∧ (∀ r ∈ rs, r.xs.length ≤ bigV) ∧ n ≤ 9223372036854775807 := by
  obtain ⟨oa, oa', n, cap, f, rfl, ha, hnc, hmx, hf, hr⟩ := slice_rowD hl.low Tryz.underlying49 cl59 (by decide) (fun m cs y hy x hx => by
    obtain ⟨id, v, s, sq, g, rfl, m', y', hv, _⟩ := item_cells hy
    obtain ⟨hp, _⟩ := vec_of hl hv
    simp only [List.mem_cons, List.not_mem_nil, or_false] at hx
    rcases hx with rfl | rfl | rfl | rfl | rfl <;> first | rfl | exact hp) h
  have hmx' : cap ≤ 9223372036854775807 := hmx
  -- an odd one of no place
  by_cases hodd : ∃ a, oa = some a ∧ ¬(a.spot = none ∧ a.block < W.heap.size)
  · obtain ⟨a, rfl, hno⟩ := hodd
    unfold absV at ha
    simp only [if_neg hno] at ha
    split at ha
    · rename_i h0
      obtain ⟨rfl, rfl⟩ := h0
      exact ⟨some ⟨0, 0, some 5⟩, 0, 0, [], .sliceZ _ _ _ _, ⟨⟨_, _, rfl, fun i r hr => by cases hr⟩, fun r hr => by cases hr⟩, rfl, Nat.le_refl _, (fun a e => by cases e; exact .inr rfl), (fun r hr => by cases hr), by omega⟩
    · cases ha
  have hvr := absV_VR W.heap (.slice oa n cap)
  rw [ha] at hr hvr
  have hoa : oa' = oa := by
    cases oa with
    | none => unfold absV at ha; cases ha; rfl
    | some a =>
      have h1 : a.spot = none ∧ a.block < W.heap.size := Classical.byContradiction fun q => hodd ⟨a, rfl, q⟩
      unfold absV at ha
      simp only [if_pos h1] at ha
      cases ha
      rfl
  subst hoa
  have hsp : ∀ a, oa' = some a → a.spot = none ∨ a.spot = some 5 := fun a e => .inl (Classical.byContradiction fun q => hodd ⟨a, e, fun h => q h.1⟩)
  -- the records
  have one : ∀ i, i < n → ∃ (id : Int) (aw : Option Addr) (nw kw : Nat) (zs : List Int) (s : ByteArray) (sq : Int) (g : Bool), (f i).map (absV W.heap.size) = [.int .i64 id, .slice aw nw kw, .string s, .int .i64 sq, .bool g] ∧ zs.length = nw ∧ Row (hW W.heap s0.h) (.slice aw nw kw) nw 1 (zs.map (Value.int .i32)) ∧ (aw = none → kw = 0) ∧ (∀ x, aw = some x → x.block < W.heap.size) ∧ nw ≤ bigV := by
    intro i hi
    obtain ⟨_, m, y, hy, hmem⟩ := hf i hi
    obtain ⟨id, v, s, sq, g, hfi, m', y', hv, hb1⟩ := item_cells hy
    obtain ⟨_, va, nv, kv, zs, e1, e2, e3, e4, e5, e6⟩ := vec_of hl hv
    refine ⟨id, va, nv, kv, zs, s, sq, g, ?_, e2, e4, e5, fun x hx => (e6 x hx).2, ?_⟩
    · rw [hfi, ← e1]
      rfl
    · refine vec_bulk hl hv e1 fun n hn => hk n ?_
      have h3 := hb1 n hn
      rcases DataW.trod_slice Tryz.underlying49 h with ⟨e7, _⟩ | ⟨a, len, c, elems, rest, m9, _, e7, ex, _⟩
      · simp only [List.cons.injEq, and_true, Value.slice.injEq] at e7
        omega
      · have hx1 : x.1 = .slice (elems.map (·.1)) (rest.map (·.1)) := by rw [ex]
        rw [hx1]
        unfold DataW.weights
        rw [Tryz.underlying49]
        exact List.mem_cons_of_mem _ (List.mem_append_left _ (wAll_mem (hmem _ _ hx1) n h3))
  have many : ∀ k, k ≤ n → ∃ rs : List Rc, rs.length = k ∧ ∀ i r, rs[i]? = some r → ∃ aw kw, (f i).map (absV W.heap.size) = [.int .i64 r.id, .slice aw r.xs.length kw, .string r.pay, .int .i64 r.seq, .bool r.gone] ∧ (∃ zs : List Int, r.xs = zs.map (Value.int .i32)) ∧ Row (hW W.heap s0.h) (.slice aw r.xs.length kw) r.xs.length 1 r.xs ∧ (aw = none → kw = 0) ∧ (∀ x, aw = some x → x.block < W.heap.size) ∧ r.xs.length ≤ bigV := by
    intro k
    induction k with
    | zero => exact fun _ => ⟨[], rfl, fun i r hr => by cases hr⟩
    | succ k ih =>
      intro hk
      obtain ⟨rs, h1, h2⟩ := ih (by omega)
      obtain ⟨id, aw, nw, kw, zs, s, sq, g, g1, g2, g3, g4, g5, g6⟩ := one k (by omega)
      have hlen : (zs.map (Value.int .i32)).length = nw := by rw [List.length_map, g2]
      refine ⟨rs ++ [⟨id, zs.map (Value.int .i32), s, sq, g⟩], by rw [List.length_append, h1]; rfl, fun i r hr => ?_⟩
      rcases Nat.lt_or_ge i k with hi | hi
      · rw [List.getElem?_append_left (by omega)] at hr
        exact h2 i r hr
      · rw [List.getElem?_append_right (by omega), h1] at hr
        have hik : i = k := by
          rcases Nat.lt_or_ge (i - k) 1 with h9 | h9
          · omega
          · rw [List.getElem?_eq_none (by simpa using h9)] at hr
            cases hr
        subst hik
        rw [Nat.sub_self] at hr
        cases hr
        exact ⟨aw, kw, by dsimp only; rw [hlen]; exact g1, ⟨zs, rfl⟩, by dsimp only; rw [hlen]; exact g3, g4, g5, by dsimp only; rw [hlen]; exact g6⟩
  obtain ⟨rs, h1, h2⟩ := many n (Nat.le_refl _)
  refine ⟨oa', n, cap, rs, hvr, ⟨⟨oa', cap, by rw [h1], fun i r hri => ?_⟩, fun r hr9 => ?_⟩, h1, hnc, hsp, fun r hr9 => ?_, by omega⟩
  · obtain ⟨aw, kw, g1, g2, g3, g4, g5, g6⟩ := h2 i r hri
    have hi : i < n := by rw [← h1]; exact (List.getElem?_eq_some_iff.1 hri).1
    rcases hr with ⟨rfl, _⟩ | ⟨b, o, sp, cap', cs, e, hc, hs⟩
    · omega
    cases e
    have hlen : ∀ i, i < n → ((f i).map (absV W.heap.size)).length = 5 := fun i hi => by rw [List.length_map]; exact (hf i hi).1
    refine ⟨b, o, sp, cs, aw, kw, rfl, hc, ?_, g3, g4, g5⟩
    refine subN_ext rfl (by omega) fun j hj => ?_
    have h3 := cat_get (g := fun i => (f i).map (absV W.heap.size)) (k := 5) (i := i) (r := j) hj hlen hi
    have hlt : i * 5 + j < n * 5 := by omega
    rw [show o + i * 5 + j = o + (i * 5 + j) by omega, ← (subN_some _ _ _ _ hs).2.2 _ hlt, h3]
    show ((f i).map (absV W.heap.size))[j]? = _
    rw [g1]
  · obtain ⟨i, hi⟩ := List.mem_iff_getElem?.1 hr9
    obtain ⟨_, _, _, g2, _⟩ := h2 i r hi
    exact g2
  · obtain ⟨i, hi⟩ := List.mem_iff_getElem?.1 hr9
    obtain ⟨_, _, _, _, _, _, _, g6⟩ := h2 i r hi
    exact g6
end

theorem storeLoad_walk {H : Type} {enc : TypeId × Value → H} {W : World} (hl : LaidX W) {u : Value} (id : Int) {m : Nat} {x : DataW H × List MemPlace} (hu : DataW.trod enc Tryz.prog W 0 (fun _ => true) true m 49 [u] = some x) (hk : ∀ n ∈ x.1.weights Tryz.prog 49, n ≤ reachBytes) :
    Calls Tryz.prog 4 #[u, .int .i64 id] W fun e w' => e = .returned (.bool true) ∧ Below W.heap.size W w' := by
  obtain ⟨oa, n, cap, rs, r1, h1, h2, h3, h4, h5, h6⟩ := items_of hl hu hk
  refine data_true (args := [.slice oa n cap, .int .i64 id]) (args' := [u, .int .i64 id]) (stdQ 4 rfl) (ex4 (sm := smQ)) hl (VRl.cons r1 (VRl.cons (.int _ _) (VRl.nil _))) ?_
  exact storeLoad_run id (hW_fresh _ _) hl.glob h1 h2 h3 h4 h5 h6
#print axioms storeLoad_walk
end Go.Proofs.YthkmcfiijooddaaGreatDoor
end
