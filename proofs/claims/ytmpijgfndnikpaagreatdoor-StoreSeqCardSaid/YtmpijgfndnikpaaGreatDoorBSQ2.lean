import Derived.Test.YtmpijgfndnikpaaGreatDoorE45
import Derived.Test.YtmpijgfndnikpaaGreatDoorBSO1
import Derived.Test.YtmpijgfndnikpaaGreatDoorBSQ1
set_option linter.unusedVariables false
set_option linter.unusedSimpArgs false
section
/- Data that come in, as the abstract machine is shown them; a run that answers true. -/
namespace Go.Proofs.YtmpijgfndnikpaaGreatDoor
open Go.ChangeShapes Go.WideShapes Go.RowKit Go.Ab Go.Ab.Seat

theorem arr_len {H : Type} {enc : TypeId × Value → H} {P : Program} {w : World} {base : Nat} {sp : Nat → Bool} {held : Bool} {fuel : Nat} {t e n : Nat} (hu : P.underlying t = some (.array n e))
    {cs : List Value} {x : DataW H × List MemPlace} (h : DataW.trod enc P w base sp held fuel t cs = some x) : cs.length = P.cellsOf t := by
  cases fuel with
  | zero => simp [DataW.trod] at h
  | succ k =>
    rw [DataW.trod_step] at h
    unfold DataW.trodStep at h
    simp only [hu] at h
    split at h
    · assumption
    · cases h

theorem cTab : Tryz.prog.cellsOf 250 = 32 := by kernel_rfl

/-- What a world must hold, exactly. -/
structure _root_.Go.Ab.Seat.LaidX (w : World) : Prop where
  laid : Laid w
  x0 : ∃ c t fr, w.heap[1]? = some (.cells c t fr) ∧ c.toList = tab
  x1 : ∃ c t fr, w.heap[0]? = some (.cells c t fr) ∧ c.toList = [rt tErr]

theorem laidx_of {W : World} (h : laidMetH Tryz.prog laidVars W) (hs : W.ShapedOpen Tryz.prog) : LaidX W := by
  have h' : laidMet Tryz.prog [("math/bits.deBruijn32tab", Rows.laid_math_bits_deBruijn32tab)] W ∧ handlesMet Tryz.prog [("errors.errorType", Rows.laid_errors_errorType)] W := h
  have hl := laid_of h hs
  refine ⟨hl, ?_, ?_⟩
  · obtain ⟨ps, ⟨g, t, cs, fuel, p, q, hg, ht, hvar, hd, _, _⟩, _⟩ := h'.1
    obtain rfl := Option.some.inj (gTab.symm.trans hg)
    obtain rfl := Option.some.inj (gType.symm.trans ht)
    have h1 := arr_len uTab hd
    rw [cTab] at h1
    obtain ⟨c, t, fr, hH, _, hc⟩ := hl.var0
    refine ⟨c, t, fr, hH, ?_⟩
    have hv := hvar
    unfold World.var? at hv
    rw [hg] at hv
    simp only [Option.bind_some] at hv
    rw [hH] at hv
    cases hv
    have ht : tab.length = 32 := by rfl
    refine List.ext_getElem? fun i => ?_
    by_cases hi : i < 32
    · have : tab[i]? = some tab[i] := List.getElem?_eq_getElem (by omega)
      rw [this, Array.getElem?_toList]
      exact hc i _ this
    · rw [List.getElem?_eq_none (by omega), List.getElem?_eq_none (by omega)]
  · obtain ⟨name, u, ty, e1, e2, e3, e4, e5⟩ := h'.2 _ (List.mem_singleton.2 rfl)
    have en : name = [101, 114, 114, 111, 114] := (Option.some.inj e1).symm
    subst en
    obtain rfl := Option.some.inj (rtNo.symm.trans e2)
    have hm : ty ∈ (List.range 414).filter fun t => Tryz.prog.rowNamed t [101, 114, 114, 111, 114] := List.mem_filter.2 ⟨List.mem_range.2 (by rw [← tSize]; exact e3), e4⟩
    rw [oneRow] at hm
    obtain rfl := List.mem_singleton.1 hm
    have hv := e5
    unfold World.var? at hv
    rw [gEt] at hv
    simp only [Option.bind_some] at hv
    split at hv
    · rename_i c t fr hH
      obtain rfl := Option.some.inj hv
      refine ⟨_, t, fr, hH, ?_⟩
      have hh : typeHandle Tryz.prog tErr = hd tErr := by unfold typeHandle; rw [gSize]; rfl
      rw [hh]
      rfl
    · cases hv

theorem _root_.Go.Ab.Seat.LaidX.low {w : World} (h : LaidX w) : LowOk s0.h w.heap := by
  have hr := h.laid.hr
  have hle : (ι0 w).le (ιW w.heap) := by
    intro b L hb
    unfold ι0 at hb
    split at hb
    · cases hb
      have := h.laid.size
      unfold ιW
      exact if_pos (by omega)
    · cases hb
  refine ⟨?_, ?_, ?_⟩
  · intro b o hb
    rw [s0_get] at hb
    split at hb
    · cases hb; rfl
    · split at hb
      · cases hb; rfl
      · cases hb
  · intro b o hb
    obtain ⟨L, h1, h2⟩ := hr.obj b o hb
    exact ⟨L, hle _ _ h1, h2.mono hle⟩
  · intro b o hb c t fr hH i v hv hp
    rw [s0_get] at hb
    split at hb
    · rename_i h0
      subst h0
      cases hb
      obtain ⟨c', t', fr', hH', hc'⟩ := h.x1
      rw [hH] at hH'
      cases hH'
      rw [← Array.getElem?_toList, hc'] at hv
      cases i with
      | zero => cases hv; cases hp
      | succ i => simp at hv
    · split at hb
      · rename_i h0
        subst h0
        cases hb
        obtain ⟨c', t', fr', hH', hc'⟩ := h.x0
        rw [hH] at hH'
        cases hH'
        rw [← Array.getElem?_toList, hc'] at hv
        refine ⟨tab, rfl, ?_⟩
        have hm := List.mem_of_getElem? hv
        unfold tab at hm
        obtain ⟨n, _, rfl⟩ := List.mem_map.1 hm
        exact hv
      · cases hb

theorem _root_.Go.Ab.Seat.LaidX.glob {w : World} (h : LaidX w) : Glob (hW w.heap s0.h) := ⟨h.low.has s0_glob.1, h.low.has s0_glob.2⟩

/-- A run that answers true, from what lies there, read only. -/
theorem data_true {f : Nat} {args args' : List Value} {w : World} (hsm : smQ f = none) (hex : ex f = none) (hl : LaidX w) (ha : VRl (ιW w.heap) args args')
    (h : ∃ v s', FnTo CQ eg f args ⟨hW w.heap s0.h, w.heap.size, [], []⟩ v s' ∧ v = .bool true) :
    Calls Tryz.prog f args'.toArray w fun e w' => e = .returned (.bool true) ∧ Below w.heap.size w w' := by
  obtain ⟨v, s', h1, rfl⟩ := h
  obtain ⟨n, h2⟩ := FnTo.callB hsm hex h1
  refine (calls_of_abs wholeQ n f h2 ha (hl.low.hr (by have := hl.laid.size; omega)) (fun b h1 _ => ?_) fun v' w' ι' hv hp => ?_).2
  · have : w.heap.size ≤ b := h1
    exact if_neg (by omega)
  · cases hv
    exact ⟨rfl, hp.os, hp.tape, hp.output, hp.size, fun k hk => hp.frame k hk hl.low.owned⟩
#print axioms data_true
end Go.Proofs.YtmpijgfndnikpaaGreatDoor
end
section
/- StoreOwn answers true and turns nothing that lay before. -/
namespace Go.Proofs.YtmpijgfndnikpaaGreatDoor
open Go.ChangeShapes Go.WideShapes Go.RowKit Go.Ab Go.Ab.Seat
set_option linter.unusedVariables false

theorem cat_ints {q : IntKind} {g : Nat → List Value} : ∀ {n : Nat}, (∀ i, i < n → ∃ z : Int, g i = [.int q z] ∧ (Lit.int q z).wf = true) → ∃ zs : List Int, zs.length = n ∧ cat g n = zs.map (Value.int q) ∧ ∀ z ∈ zs, (Lit.int q z).wf = true
  | 0, _ => ⟨[], rfl, rfl, fun z hz => by cases hz⟩
  | n + 1, h => by
    obtain ⟨zs, h1, h2, h3⟩ := cat_ints (n := n) fun i hi => h i (by omega)
    obtain ⟨z, hz, hw⟩ := h n (by omega)
    refine ⟨zs ++ [z], by simp [h1], by rw [cat_succ, h2, hz]; simp, fun y hy => ?_⟩
    rcases List.mem_append.1 hy with hy | hy
    · exact h3 y hy
    · obtain rfl := List.mem_singleton.1 hy
      exact hw

/-- A row of ints as it is shown. -/
theorem ints_of {H : Type} {enc : TypeId × Value → H} {W : World} {fuel : Nat} (hl : LaidX W) {t e : Nat} {q : IntKind} (ht : Tryz.prog.underlying t = some (.slice e)) (he : Tryz.prog.underlying e = some (.int q)) (hc : Tryz.prog.cellsOf e = 1) {v : Value} {x : DataW H × List MemPlace} (h : DataW.trod enc Tryz.prog W 0 (fun _ => true) true fuel t [v] = some x) :
    ∃ oa n cap, ∃ zs : List Int, absV W.heap.size v = .slice oa n cap ∧ zs.length = n ∧ n ≤ maxLen ∧ Row (hW W.heap s0.h) (.slice oa n cap) n 1 (zs.map (Value.int q)) ∧ ∀ z ∈ zs, (Lit.int q z).wf = true := by
  obtain ⟨oa, oa', n, cap, f, rfl, ha, hn, hm, hf, hr⟩ := slice_row hl.low ht hc (by decide) (fun m cs y hy x hx => by
    obtain ⟨z, rfl, _⟩ := DataW.trod_int he hy
    obtain rfl := List.mem_singleton.1 hx
    rfl) h
  rw [ha] at hr ⊢
  obtain ⟨zs, h1, h2, h3⟩ := cat_ints (q := q) (g := fun i => (f i).map (absV W.heap.size)) (n := n) fun i hi => by
    obtain ⟨_, m, y, hy⟩ := hf i hi
    obtain ⟨z, hz, _, hw⟩ := DataW.trod_int he hy
    exact ⟨z, by rw [hz]; rfl, hw⟩
  rw [h2] at hr
  exact ⟨_, _, _, zs, rfl, h1, Nat.le_trans hn hm, hr, h3⟩

theorem c21 : Tryz.prog.cellsOf 21 = 1 := by kernel_rfl

theorem storeOwn_walk {H : Type} {enc : TypeId × Value → H} {W : World} (hl : LaidX W) (i0 : Int) {v : Value} {m : Nat} {x : DataW H × List MemPlace} (hv : DataW.trod enc Tryz.prog W 0 (fun _ => true) true m 30 [v] = some x) :
    Calls Tryz.prog 12 #[.int .i64 i0, v] W fun e w' => e = .returned (.bool true) ∧ Below W.heap.size W w' := by
  obtain ⟨oa, n, cap, zs, e1, h1, _, h2, _⟩ := ints_of hl Tryz.underlying30 Tryz.underlying21 c21 hv
  have r1 := absV_VR W.heap v
  rw [e1] at r1
  refine data_true (args := [.int .i64 i0, .slice oa n cap]) (args' := [.int .i64 i0, v]) (stdQ 12 rfl) (ex12 (sm := smQ)) hl (VRl.cons (.int _ _) (VRl.cons r1 (VRl.nil _))) ?_
  exact storeOwn_run i0 h1 (hW_fresh _ _) hl.glob h2
#print axioms storeOwn_walk
end Go.Proofs.YtmpijgfndnikpaaGreatDoor
end
section
/- StoreSeq answers true and turns nothing that lay before. -/

namespace Go.Proofs.YtmpijgfndnikpaaGreatDoor
open Go.ChangeShapes Go.WideShapes Go.RowKit Go.Ab Go.Ab.Seat
set_option linter.unusedVariables false

theorem cat_bools {g : Nat → List Value} : ∀ {n : Nat}, (∀ i, i < n → ∃ z : Bool, g i = [.bool z]) → ∃ zs : List Bool, zs.length = n ∧ cat g n = zs.map Value.bool
  | 0, _ => ⟨[], rfl, rfl⟩
  | n + 1, h => by
    obtain ⟨zs, h1, h2⟩ := cat_bools (n := n) fun i hi => h i (by omega)
    obtain ⟨z, hz⟩ := h n (by omega)
    exact ⟨zs ++ [z], by simp [h1], by rw [cat_succ, h2, hz]; simp⟩

/-- A row of bools as it is shown. -/
theorem bools_of {H : Type} {enc : TypeId × Value → H} {W : World} {fuel : Nat} (hl : LaidX W) {t e : Nat} (ht : Tryz.prog.underlying t = some (.slice e)) (he : Tryz.prog.underlying e = some .bool) (hc : Tryz.prog.cellsOf e = 1) {v : Value} {x : DataW H × List MemPlace} (h : DataW.trod enc Tryz.prog W 0 (fun _ => true) true fuel t [v] = some x) :
    ∃ oa n cap, ∃ zs : List Bool, absV W.heap.size v = .slice oa n cap ∧ zs.length = n ∧ n ≤ maxLen ∧ Row (hW W.heap s0.h) (.slice oa n cap) n 1 (zs.map Value.bool) := by
  obtain ⟨oa, oa', n, cap, f, rfl, ha, hn, hm, hf, hr⟩ := slice_row hl.low ht hc (by decide) (fun m cs y hy x hx => by
    obtain ⟨z, rfl, _⟩ := DataW.trod_bool he hy
    obtain rfl := List.mem_singleton.1 hx
    rfl) h
  rw [ha] at hr ⊢
  obtain ⟨zs, h1, h2⟩ := cat_bools (g := fun i => (f i).map (absV W.heap.size)) (n := n) fun i hi => by
    obtain ⟨_, m, y, hy⟩ := hf i hi
    obtain ⟨z, hz, _⟩ := DataW.trod_bool he hy
    exact ⟨z, by rw [hz]; rfl⟩
  rw [h2] at hr
  exact ⟨_, _, _, zs, rfl, h1, Nat.le_trans hn hm, hr⟩

theorem cInt64 : Tryz.prog.cellsOf 2 = 1 := by kernel_rfl
theorem c4 : Tryz.prog.cellsOf 4 = 1 := by kernel_rfl

theorem storeSeq_walk {H : Type} {enc : TypeId × Value → H} {W : World} (hl : LaidX W) (i0 : Int) {u v : Value} {m m' : Nat} {x x' : DataW H × List MemPlace} (hu : DataW.trod enc Tryz.prog W 0 (fun _ => true) true m 125 [u] = some x) (hv : DataW.trod enc Tryz.prog W 0 (fun _ => true) true m' 103 [v] = some x') :
    Calls Tryz.prog 13 #[.int .i64 i0, u, v] W fun e w' => e = .returned (.bool true) ∧ Below W.heap.size W w' := by
  obtain ⟨oa, n, cap, zs, e1, h1, _, h2, _⟩ := ints_of hl Tryz.underlying125 Tryz.underlying2 cInt64 hu
  obtain ⟨ob, n', cap', ds, e1', h1', _, h2'⟩ := bools_of hl Tryz.underlying103 Tryz.underlying4 c4 hv
  have r1 := absV_VR W.heap u
  have r2 := absV_VR W.heap v
  rw [e1] at r1
  rw [e1'] at r2
  refine data_true (args := [.int .i64 i0, .slice oa n cap, .slice ob n' cap']) (args' := [.int .i64 i0, u, v]) (stdQ 13 rfl) (ex13 (sm := smQ)) hl (VRl.cons (.int _ _) (VRl.cons r1 (VRl.cons r2 (VRl.nil _)))) ?_
  exact storeSeq_run i0 h1 h1' (hW_fresh _ _) hl.glob h2 h2'
#print axioms storeSeq_walk
end Go.Proofs.YtmpijgfndnikpaaGreatDoor
end
