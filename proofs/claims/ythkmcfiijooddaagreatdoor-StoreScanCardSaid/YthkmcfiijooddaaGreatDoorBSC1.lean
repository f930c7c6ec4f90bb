/- StoreScan answers true (the abstract machine). -/
import Derived.Test.YthkmcfiijooddaaGreatDoorBSM3
import Derived.Test.YthkmcfiijooddaaGreatDoorBST5
set_option linter.unusedVariables false
set_option linter.unusedSimpArgs false
namespace Go.Ab.Seat
open Go.Extern Go.Proofs
set_option linter.unusedSimpArgs false
set_option linter.unusedVariables false
set_option maxRecDepth 4000
set_option pp.deepTerms false
set_option pp.deepTerms.threshold 6

theorem mem_putIds {x y : Int} {ids : List Int} : y ∈ putIds x ids ↔ y = x ∨ y ∈ ids := by
  unfold putIds
  split
  · constructor
    · exact .inr
    · rintro (rfl | h)
      · assumption
      · exact h
  · rw [List.mem_append, List.mem_singleton]
    exact Or.comm

theorem next_split {M pre rest : List Rc} {at_ : Int} (h : liveM M = pre ++ rest) (h1 : ∀ r ∈ pre, r.id ≤ at_) (h2 : ∀ r ∈ rest, at_ < r.id) : nextM at_ M = rest.head? := by
  have : nextM at_ M = (liveM M).find? fun r => decide (at_ < r.id) := by
    unfold nextM liveM
    rw [List.find?_filter]
    congr 1
    funext r
    cases r.gone <;> simp
  rw [this, h, List.find?_append, List.find?_eq_none.2 fun r hr => by have := h1 r hr; simp; omega]
  cases rest with
  | nil => rfl
  | cons r rs =>
    rw [List.find?_cons, decide_eq_true (h2 r (List.mem_cons_self ..))]
    rfl

theorem live_len {M : List Rc} (hr : Rises M) {ids : List Int} (hn : ids.Nodup) (h : ∀ x, x ∈ ids ↔ ∃ r, liveG x M = some r) : ids.length = (liveM M).length := by
  have h1 : (sortI ids) = (liveM M).map Rc.id := by
    refine rises_ext (sortI_rises hn) (Rises.ids (hr.filter _)) fun x => ?_
    rw [(sortI_perm ids).mem_iff, h x, List.mem_map]
    constructor
    · rintro ⟨r, e⟩
      exact ⟨r, (liveG_live hr).1 e⟩
    · rintro ⟨r, e⟩
      exact ⟨r, (liveG_live hr).2 e⟩
  rw [← (sortI_perm ids).length_eq, h1, List.length_map]

/-- What the loops keep. -/
structure SC (h0 : T AObj) (c : Nat) (h : T AObj) (c' : Nat) (M : List Rc) (ids : List Int) (seq : Int) : Prop where
  f : Fresh h c'
  le : c + 3 ≤ c'
  kp : Kp h0 h c (fun _ => False)
  st : StM h (c + 1) c M (fun b => c ≤ b ∧ b < c' ∧ b ≠ c + 2)
  mp : ∃ es n, Has h (c + 2) (.map es n) ∧ Keyed es n ids ∧ ∀ e ∈ es, e.2.1 = .bool true
  same : ∀ x, x ∈ ids ↔ ∃ r, liveG x M = some r
  sq : ∀ r ∈ M, r.seq ≤ seq
  s0 : 0 ≤ seq

theorem SC.keep {h0 : T AObj} {c : Nat} {h h2 : T AObj} {c' c2 : Nat} {M : List Rc} {ids : List Int} {seq : Int} (x : SC h0 c h c' M ids seq) (hf : Fresh h2 c2) (hc : c' ≤ c2) (K : Kp h h2 c' (fun _ => False)) : SC h0 c h2 c2 M ids seq := by
  have l1 := x.le
  obtain ⟨es, n, e1, e2, e3⟩ := x.mp
  exact ⟨hf, by omega, fun b hb q => (K b (by omega) (fun q => q)).trans (x.kp b hb q), (x.st.keep x.f fun b hb hl => K b hl (fun q => q)).wide fun b hb => ⟨hb.1, by omega, hb.2.2⟩, ⟨es, n, (K _ (by omega) (fun q => q)).trans e1, e2, e3⟩, x.same, x.sq, x.s0⟩

theorem live_get {es : List (Value × Value × Nat)} {n : Nat} {ids : List Int} (k : Keyed es n ids) (ht : ∀ e ∈ es, e.2.1 = .bool true) (x : Int) : (match findI x es with | some p => p.2 | none => (.bool false : Value)) = .bool (decide (x ∈ ids)) := by
  by_cases hx : x ∈ ids
  · obtain ⟨i, v, b, h1, h2⟩ := k.find hx
    rw [h1, decide_eq_true hx]
    exact ht _ (List.mem_of_getElem? h2)
  · rw [(findI_none_iff k.keys).2 hx, decide_eq_false hx]

theorem keysI {es : List (Value × Value × Nat)} {n : Nat} {ids : List Int} (k : Keyed es n ids) : KeysI .i64 es := by
  intro e he
  have : e.1 ∈ ids.map (Value.int .i64) := by rw [← k.keys]; exact List.mem_map_of_mem he
  obtain ⟨y, _, hy⟩ := List.mem_map.1 this
  exact ⟨y, hy.symm⟩

theorem SC.put {h0 : T AObj} {c : Nat} {h h2 : T AObj} {c' c2 : Nat} {M : List Rc} {ids : List Int} {seq : Int} (x : SC h0 c h c' M ids seq) (hf : Fresh h2 c2) (hc : c' ≤ c2) (K : Kp h h2 c' (fun b => b = c ∨ b = c + 2)) {id : Int} {pay : ByteArray} (hp : putZ id (seq + 1) pay M = 0) (hid : 1 ≤ id ∧ id ≤ 100)
    (st : StM h2 (c + 1) c (putL id (seq + 1) [] pay M) (fun b => (c ≤ b ∧ b < c' ∧ b ≠ c + 2) ∨ c' ≤ b ∧ b < c2)) {es : List (Value × Value × Nat)} {n : Nat} (hk : Keyed es n ids) (ht : ∀ e ∈ es, e.2.1 = .bool true) (hm : Has h2 (c + 2) (.map (putI .i64 id (.bool true) n es).1 (putI .i64 id (.bool true) n es).2)) :
    SC h0 c h2 c2 (putL id (seq + 1) [] pay M) (putIds id ids) (seq + 1) := by
  have l1 := x.le
  have hL : putL id (seq + 1) [] pay M = putM ⟨id, [], pay, seq + 1, false⟩ M := by unfold putL; rw [if_pos hp]
  refine ⟨hf, by omega, fun b hb q => (K b (by omega) (by omega)).trans (x.kp b hb q), st.wide fun b hb => by omega, ⟨_, _, hm, hk.put (by unfold wfI; rw [decide_eq_true (by omega), decide_eq_true (by omega)]; rfl) _, fun e he => ?_⟩, fun y => ?_, fun r hr => ?_, by have := x.s0; omega⟩
  · rcases mem_putI he with he | ⟨_, he⟩
    · exact ht e he
    · exact he
  · rw [mem_putIds, hL, liveG_put]
    by_cases hy : id = y
    · subst hy
      exact ⟨fun _ => ⟨_, if_pos rfl⟩, fun _ => .inl rfl⟩
    · simp only [if_neg hy]
      rw [← x.same y]
      exact ⟨fun h => h.resolve_left fun e => hy e.symm, .inr⟩
  · rw [hL] at hr
    rcases mem_putM hr with rfl | hr
    · exact Int.le_refl _
    · have := x.sq r hr
      omega

theorem SC.del {h0 : T AObj} {c : Nat} {h h2 : T AObj} {c' c2 : Nat} {M : List Rc} {ids : List Int} {seq : Int} (x : SC h0 c h c' M ids seq) (hf : Fresh h2 c2) (hc : c' ≤ c2) (K : Kp h h2 c' (fun b => b = c ∨ b = c + 2)) {id : Int}
    (st : StM h2 (c + 1) c (delL id (seq + 1) M) (fun b => c ≤ b ∧ b < c' ∧ b ≠ c + 2)) {es : List (Value × Value × Nat)} {n : Nat} (hk : Keyed es n ids) (ht : ∀ e ∈ es, e.2.1 = .bool true) (hm : Has h2 (c + 2) (.map (delI id es) n)) :
    ∃ ids', SC h0 c h2 c2 (delL id (seq + 1) M) ids' (seq + 1) := by
  have l1 := x.le
  obtain ⟨ids', k1, k2, _⟩ := hk.del id
  have hz := delZ_live x.sq id
  refine ⟨ids', hf, by omega, fun b hb q => (K b (by omega) (by omega)).trans (x.kp b hb q), st.wide fun b hb => by omega, ⟨_, _, hm, k1, fun e he => ht e (mem_delI he)⟩, fun y => ?_, fun r hr => ?_, by have := x.s0; omega⟩
  · rw [k2, x.same y]
    unfold delL
    cases hl : liveG id M with
    | none =>
      rw [hz, hl]
      simp only [Option.isSome_none, Bool.false_eq_true, ↓reduceIte, show ((3 : Int) = 0) = False by simp]
      exact ⟨fun h => h.1, fun h => ⟨h, by rintro rfl; obtain ⟨r, e⟩ := h; rw [hl] at e; cases e⟩⟩
    | some r =>
      rw [hz, hl]
      simp only [Option.isSome_some, ↓reduceIte]
      rw [liveG_put]
      by_cases hy : id = y
      · subst hy
        simp
      · simp only [if_neg hy]
        exact ⟨fun h => h.1, fun h => ⟨h, fun e => hy e.symm⟩⟩
  · unfold delL at hr
    split at hr
    · rcases mem_putM hr with rfl | hr
      · exact Int.le_refl _
      · have := x.sq r hr
        omega
    · have := x.sq r hr
      omega

def EC (oa : Option Addr) (n k : Nat) (ob : Option Addr) (n' k' : Nat) (c : Nat) (seq : Int) (j9 j10 j11 j12 j13 j14 j15 j16 j29 j46 j56 j77 j87 j102 : Value) : L :=
  .cons 0 (.slice oa n k) (.cons 1 (.slice ob n' k') (.cons 4 (.bool false) (.cons 5 (.bool true) (.cons 6 (.pointer (some ⟨c + 1, 0, none⟩)) (.cons 7 (.map (some (c + 2))) (.cons 8 (.int .i64 seq) (.cons 9 j9 (.cons 10 j10 (.cons 11 j11 (.cons 12 j12 (.cons 13 j13 (.cons 14 j14 (.cons 15 j15 (.cons 16 j16 (.cons 19 (.bool false) (.cons 29 j29 (.cons 46 j46 (.cons 56 j56 (.cons 77 j77 (.cons 87 j87 (.cons 102 j102 .nil)))))))))))))))))))))

set_option maxHeartbeats 8000000 in
theorem storeScan_run {oa : Option Addr} {n k : Nat} {xs : List Int} (hn : xs.length = n) {ob : Option Addr} {n' k' : Nat} {ys : List Int} (hn' : ys.length = n') {h : T AObj} {c : Nat} (hf : Fresh h c) (hg : Glob h)
    (hxs : Row h (.slice oa n k) n 1 (xs.map (Value.int .i64))) (hys : Row h (.slice ob n' k') n' 1 (ys.map (Value.int .i64))) :
    ∃ v s', FnTo (Cs smQ) eg 5 [.slice oa n k, .slice ob n' k'] ⟨h, c, [], []⟩ v s' ∧ v = .bool true := by
  have H := stdQ
  refine Fn.go (H 5 rfl) ex5 fn5 km5 rfl rfl ?_
  intro e he
  (simp only [envOf_eq, keepFrom_cons, keepFrom_nil, flushE_mk, flL_cons, flL_nil, st_cons, st_nil, Nat.testBit, Nat.reduceShiftRight, Nat.reduceAnd, Nat.reduceBNe, Nat.reduceEqDiff, Nat.reduceAdd, ↓reduceIte, reduceCtorEq, Bool.false_eq_true] at he; subst he)
  (repeat (first | (with_reducible refine Then.go ?_) | (with_reducible refine Wx.seq ?_) | (with_reducible refine Wx.reg ?_) | ((with_reducible refine Wseq.nil ?_); intro e he; (simp only [envOf_eq, keepFrom_cons, keepFrom_nil, flushE_mk, flL_cons, flL_nil, st_cons, st_nil, Nat.testBit, Nat.reduceShiftRight, Nat.reduceAnd, Nat.reduceBNe, Nat.reduceEqDiff, Nat.reduceAdd, ↓reduceIte, reduceCtorEq, Bool.false_eq_true] at he; subst he)) | ((with_reducible apply Wseq.as); (focus rfl); (intro v hv; (simp only [ev_tmp, ev_const, ev_global, ev_func, look_if, lk_nil, Nat.reduceEqDiff, eq_self, ↓reduceIte, reduceCtorEq, partsOf_arr, List.map_cons, List.map_nil] at hv); subst hv))))
  refine Wseq.call rfl rfl (begunQ (by ((repeat ((with_reducible apply Fresh.put); (focus omega))); (first | (with_reducible assumption) | (exact Fresh.up (by with_reducible assumption) (by omega))))) hg) ?_
  rintro v h1 c1 rl1 wl1 ⟨rfl, hs⟩
  cases hs
  (repeat (first | (with_reducible refine Then.go ?_) | (with_reducible refine Wx.seq ?_) | (with_reducible refine Wx.skip ?_) | (with_reducible refine Wx.reg ?_) | (refine Wx.condF rfl (by (first | rfl | (simp only [decide_eq_false_iff_not, Bool.not_eq_false', decide_eq_true_eq, Option.isNone_none, Option.isNone_some, Option.isSome_none, Option.isSome_some, beq_self_eq_true, Bool.not_true, Bool.not_false]; first | done | omega))) ?_) | ((with_reducible refine Wseq.nil ?_); intro e he; (simp only [envOf_eq, keepFrom_cons, keepFrom_nil, flushE_mk, flL_cons, flL_nil, st_cons, st_nil, Nat.testBit, Nat.reduceShiftRight, Nat.reduceAnd, Nat.reduceBNe, Nat.reduceEqDiff, Nat.reduceAdd, ↓reduceIte, reduceCtorEq, Bool.false_eq_true] at he; subst he)) | ((with_reducible apply Wseq.mv); (focus rfl); (intro v hv; (simp only [ev_tmp, ev_const, ev_global, ev_func, look_if, lk_nil, Nat.reduceEqDiff, eq_self, ↓reduceIte, reduceCtorEq, partsOf_arr, List.map_cons, List.map_nil] at hv); subst hv)) | ((with_reducible apply Wseq.as); (focus rfl); (intro v hv; (simp only [ev_tmp, ev_const, ev_global, ev_func, look_if, lk_nil, Nat.reduceEqDiff, eq_self, ↓reduceIte, reduceCtorEq, partsOf_arr, List.map_cons, List.map_nil] at hv); subst hv)) | ((with_reducible apply Wseq.stg (op := Op.unOp UnOp.not _ _)); (focus rfl); (focus (exact to_notT rfl)))))
  refine Wseq.call rfl rfl (snew_spec H (by ((repeat ((with_reducible apply Fresh.put); (focus omega))); (first | (with_reducible assumption) | (exact Fresh.up (by with_reducible assumption) (by omega)))))) ?_
  rintro v h1 c1 r1 w1 ⟨rfl, q1, e1, x1⟩
  dsimp only at e1 q1
  subst e1
  have f1 : Fresh h1 (c + 2) := x1.fresh
  have K1 := Kp.ext (W := fun _ => False) (h := h) (c := c) Kp.refl x1 (by omega) (fun _ _ q => q)
  (repeat (first | (with_reducible refine Then.go ?_) | (with_reducible refine Wx.seq ?_) | (with_reducible refine Wx.block ?_) | (with_reducible refine Wx.reg ?_) | ((with_reducible refine Wseq.nil ?_); intro e he; (simp only [envOf_eq, keepFrom_cons, keepFrom_nil, flushE_mk, flL_cons, flL_nil, st_cons, st_nil, Nat.testBit, Nat.reduceShiftRight, Nat.reduceAnd, Nat.reduceBNe, Nat.reduceEqDiff, Nat.reduceAdd, ↓reduceIte, reduceCtorEq, Bool.false_eq_true] at he; subst he)) | ((with_reducible apply Wseq.as); (focus rfl); (intro v hv; (simp only [ev_tmp, ev_const, ev_global, ev_func, look_if, lk_nil, Nat.reduceEqDiff, eq_self, ↓reduceIte, reduceCtorEq, partsOf_arr, List.map_cons, List.map_nil] at hv); subst hv)) | ((with_reducible apply Wseq.stg (op := Op.makeMap _ _)); (focus rfl); (focus (exact to_makeMap (by ((repeat ((with_reducible apply Fresh.put); (focus omega))); (first | (with_reducible assumption) | (exact Fresh.up (by with_reducible assumption) (by omega))))))))))
  have C1 : SC h c (h1.set (c + 2) (some (.map [] 0))) (c + 3) [] [] 0 := by
    refine ⟨(by ((repeat ((with_reducible apply Fresh.put); (focus omega))); (first | (with_reducible assumption) | (exact Fresh.up (by with_reducible assumption) (by omega))))), by omega, (by (repeat (first | (with_reducible exact Kp.refl) | (with_reducible assumption) | ((with_reducible apply Kp.set); (focus (first | (left; omega) | (right; first | exact rfl | assumption | (exact Or.inl (by assumption)) | (exact Or.inr (by assumption)) | (simp; done) | omega))))))), ?_, ⟨[], 0, Has.same, .nil 0, (fun e he => by cases he)⟩, fun x => ⟨(fun h => by cases h), (fun ⟨r, h⟩ => by cases h)⟩, (fun r hr => by cases hr), by omega⟩
    exact ((q1.keep (h' := h1.set (c + 2) (some (.map [] 0))) f1 fun b hb hl => get_other (by omega)).wide fun b hb => ⟨hb.1, by omega, by omega⟩).empty
  refine Wx.cutO (fun e s => ∃ (h' : T AObj) (c' : Nat) (rl' wl' : List Nat) (M : List Rc) (ids : List Int) (seq : Int) (j9 j10 j29 j46 : Value), e = EC oa n k ob n' k' c seq j9 j10 top top top top top top j29 j46 top top top top ∧ s = ⟨h', c', rl', wl'⟩ ∧ SC h c h' c' M ids seq ∧ seq ≤ 40) (by (repeat (first | (with_reducible exact Resp.fn) | (with_reducible apply Resp.then) | (with_reducible apply Resp.out) | (with_reducible apply Resp.round) | (with_reducible apply Resp.cut)))) ?_ ?_
  · refine Wx.loopE (fun k1 e s => ∃ (i : Nat) (z : Int) (h' : T AObj) (c' : Nat) (rl' wl' : List Nat) (M : List Rc) (ids : List Int) (seq : Int) (j10 j29 j46 : Value), e = EC oa n k ob n' k' c seq (.int .i64 z) j10 top top top top top top j29 j46 top top top top ∧ z = i ∧ s = ⟨h', c', rl', wl'⟩ ∧ SC h c h' c' M ids seq ∧ seq = i ∧ i ≤ 40 ∧ k1 = 40 - i) 40 (EC oa n k ob n' k' c 0 (.int .i64 0) top top top top top top top top top top top top top) (by (repeat (first | (with_reducible exact Resp.fn) | (with_reducible apply Resp.then) | (with_reducible apply Resp.out) | (with_reducible apply Resp.round) | (with_reducible apply Resp.cut)))) ?_ ?_ ?_
    · unfold EC
      (refine EqK.of ?_ ?_ <;> (repeat (first | (exact all_nil) | ((apply all_cons); (focus rfl)))))
    · exact ⟨0, 0, _, _, _, _, _, _, _, _, _, _, rfl, rfl, rfl, C1, rfl, by omega, rfl⟩
    · rintro k1 e s ⟨i, z, h2, c2, rl2, wl2, M, ids, seq, j10, j29, j46, rfl, hz, rfl, C2, hsq, hi, rfl⟩
      have f2 := C2.f
      have y2 := C2.le
      by_cases hi1 : n ≤ i
      · unfold EC
        (repeat (first | (with_reducible refine Then.go ?_) | (with_reducible refine Then.ex ?_) | (with_reducible refine Out.hit ?_) | (with_reducible refine Wx.seq ?_) | (with_reducible refine Wx.exit ?_) | (with_reducible refine Wx.reg ?_) | (with_reducible refine RoundE.ex ?_) | (refine Wx.condF rfl (by (first | rfl | (simp only [decide_eq_false_iff_not, Bool.not_eq_false', decide_eq_true_eq, Option.isNone_none, Option.isNone_some, Option.isSome_none, Option.isSome_some, beq_self_eq_true, Bool.not_true, Bool.not_false]; first | done | omega))) ?_) | ((with_reducible refine Wseq.nil ?_); intro e he; (simp only [envOf_eq, keepFrom_cons, keepFrom_nil, flushE_mk, flL_cons, flL_nil, st_cons, st_nil, Nat.testBit, Nat.reduceShiftRight, Nat.reduceAnd, Nat.reduceBNe, Nat.reduceEqDiff, Nat.reduceAdd, ↓reduceIte, reduceCtorEq, Bool.false_eq_true] at he; subst he)) | ((with_reducible apply Wseq.mv); (focus rfl); (intro v hv; (simp only [ev_tmp, ev_const, ev_global, ev_func, look_if, lk_nil, Nat.reduceEqDiff, eq_self, ↓reduceIte, reduceCtorEq, partsOf_arr, List.map_cons, List.map_nil] at hv); subst hv)) | ((with_reducible apply Wseq.pkF); (focus rfl); (focus rfl); (intro v hv; (simp only [ev_tmp, ev_const, ev_global, ev_func, look_if, lk_nil, Nat.reduceEqDiff, eq_self, ↓reduceIte, reduceCtorEq, partsOf_arr, List.map_cons, List.map_nil] at hv); subst hv)) | ((with_reducible apply Wseq.stg (op := Op.call ⟨Callee.builtin Builtin.len, _, _⟩)); (focus rfl); (focus (exact to_lenS (sl_ rfl) rfl))) | ((with_reducible apply Wseq.stg (op := Op.binOp BinOp.lss _ _ _ _)); (focus rfl); (focus (exact to_lssF rfl rfl (by omega)))) | (refine Wseq.no rfl ?_)))
        exact CutQ.go (EC oa n k ob n' k' c seq (.int .i64 z) j10 top top top top top top _ j46 top top top top) (by unfold EC; (refine EqK.of ?_ ?_ <;> (repeat (first | (exact all_nil) | ((apply all_cons); (focus rfl)))))) ⟨_, _, _, _, M, ids, seq, _, _, _, _, rfl, rfl, C2, by omega⟩
      by_cases hi2 : 40 ≤ i
      · unfold EC
        (repeat (first | (with_reducible refine Then.go ?_) | (with_reducible refine Then.ex ?_) | (with_reducible refine Out.hit ?_) | (with_reducible refine Wx.seq ?_) | (with_reducible refine Wx.exit ?_) | (with_reducible refine Wx.reg ?_) | (with_reducible refine RoundE.ex ?_) | (refine Wx.condF rfl (by (first | rfl | (simp only [decide_eq_false_iff_not, Bool.not_eq_false', decide_eq_true_eq, Option.isNone_none, Option.isNone_some, Option.isSome_none, Option.isSome_some, beq_self_eq_true, Bool.not_true, Bool.not_false]; first | done | omega))) ?_) | ((with_reducible refine Wseq.nil ?_); intro e he; (simp only [envOf_eq, keepFrom_cons, keepFrom_nil, flushE_mk, flL_cons, flL_nil, st_cons, st_nil, Nat.testBit, Nat.reduceShiftRight, Nat.reduceAnd, Nat.reduceBNe, Nat.reduceEqDiff, Nat.reduceAdd, ↓reduceIte, reduceCtorEq, Bool.false_eq_true] at he; subst he)) | ((with_reducible apply Wseq.mv); (focus rfl); (intro v hv; (simp only [ev_tmp, ev_const, ev_global, ev_func, look_if, lk_nil, Nat.reduceEqDiff, eq_self, ↓reduceIte, reduceCtorEq, partsOf_arr, List.map_cons, List.map_nil] at hv); subst hv)) | ((with_reducible apply Wseq.pkT); (focus rfl); (focus rfl); (intro v hv; (simp only [ev_tmp, ev_const, ev_global, ev_func, look_if, lk_nil, Nat.reduceEqDiff, eq_self, ↓reduceIte, reduceCtorEq, partsOf_arr, List.map_cons, List.map_nil] at hv); subst hv)) | ((with_reducible apply Wseq.stg (op := Op.call ⟨Callee.builtin Builtin.len, _, _⟩)); (focus rfl); (focus (exact to_lenS (sl_ rfl) rfl))) | ((with_reducible apply Wseq.stg (op := Op.binOp BinOp.lss _ _ _ _)); (focus rfl); (focus (exact to_lssT rfl rfl (by omega)))) | ((with_reducible apply Wseq.stg (op := Op.binOp BinOp.lss _ _ _ _)); (focus rfl); (focus (exact to_lssF rfl rfl (by omega))))))
        exact CutQ.go (EC oa n k ob n' k' c seq (.int .i64 z) j10 top top top top top top _ j46 top top top top) (by unfold EC; (refine EqK.of ?_ ?_ <;> (repeat (first | (exact all_nil) | ((apply all_cons); (focus rfl)))))) ⟨_, _, _, _, M, ids, seq, _, _, _, _, rfl, rfl, C2, by omega⟩
      have hxv : (xs.map (Value.int .i64))[i]? = some (.int .i64 xs[i]) := by simp
      generalize xs[i] = x0 at hxv
      obtain ⟨b1, o1, sp1, cs1, rfl, hc1, hn1⟩ := rowCell hxs (j := i * 1) (by omega) (by rw [Nat.mul_one]; exact hxv)
      have l1 := hc1.lt hf
      have D2 : Cel h2 b1 cs1 := by unfold Cel Has at hc1 ⊢; rw [C2.kp b1 l1 (fun q => q)]; exact hc1
      unfold EC
      have t1 := tmod_lt x0 100 (by omega)
      have t2 := tmod_lt (x0.tmod 100 + 100) 100 (by omega)
      have t3 : 0 ≤ (x0.tmod 100 + 100).tmod 100 := Int.tmod_nonneg _ (by omega)
      (repeat (first | (with_reducible refine Then.go ?_) | (with_reducible refine Wx.seq ?_) | (with_reducible refine Wx.skip ?_) | (with_reducible refine Wx.block ?_) | (with_reducible refine Wx.reg ?_) | (refine Wx.condT rfl (by (first | rfl | (simp only [decide_eq_true_eq, Bool.not_eq_true', decide_eq_false_iff_not, Option.isNone_none, Option.isNone_some, Option.isSome_none, Option.isSome_some, beq_self_eq_true, Bool.not_true, Bool.not_false]; first | done | omega) | (simp; omega) | (solve | simp [*]) | fail)) ?_) | ((with_reducible refine Wseq.nil ?_); intro e he; (simp only [envOf_eq, keepFrom_cons, keepFrom_nil, flushE_mk, flL_cons, flL_nil, st_cons, st_nil, Nat.testBit, Nat.reduceShiftRight, Nat.reduceAnd, Nat.reduceBNe, Nat.reduceEqDiff, Nat.reduceAdd, ↓reduceIte, reduceCtorEq, Bool.false_eq_true] at he; subst he)) | ((with_reducible apply Wseq.mv); (focus rfl); (intro v hv; (simp only [ev_tmp, ev_const, ev_global, ev_func, look_if, lk_nil, Nat.reduceEqDiff, eq_self, ↓reduceIte, reduceCtorEq, partsOf_arr, List.map_cons, List.map_nil] at hv); subst hv)) | ((with_reducible apply Wseq.pkT); (focus rfl); (focus rfl); (intro v hv; (simp only [ev_tmp, ev_const, ev_global, ev_func, look_if, lk_nil, Nat.reduceEqDiff, eq_self, ↓reduceIte, reduceCtorEq, partsOf_arr, List.map_cons, List.map_nil] at hv); subst hv)) | ((with_reducible apply Wseq.stg (op := Op.call ⟨Callee.builtin Builtin.len, _, _⟩)); (focus rfl); (focus (exact to_lenS (sl_ rfl) rfl))) | ((with_reducible apply Wseq.stg (op := Op.binOp BinOp.lss _ _ _ _)); (focus rfl); (focus (exact to_lssT rfl rfl (by omega))))))
      ((with_reducible apply Wseq.stg); (focus rfl); (focus (exact to_indexAddr (k := i) el45 rfl rfl hz (by omega))))
      ((with_reducible apply Wseq.stg); (focus rfl); (focus (exact to_load (pl_ rfl) rfl D2 (by omega) hn1)))
      (repeat (first | (with_reducible refine Then.go ?_) | (with_reducible refine Wx.seq ?_) | (with_reducible refine Wx.reg ?_) | ((with_reducible refine Wseq.nil ?_); intro e he; (simp only [envOf_eq, keepFrom_cons, keepFrom_nil, flushE_mk, flL_cons, flL_nil, st_cons, st_nil, Nat.testBit, Nat.reduceShiftRight, Nat.reduceAnd, Nat.reduceBNe, Nat.reduceEqDiff, Nat.reduceAdd, ↓reduceIte, reduceCtorEq, Bool.false_eq_true] at he; subst he)) | ((with_reducible apply Wseq.mv); (focus rfl); (intro v hv; (simp only [ev_tmp, ev_const, ev_global, ev_func, look_if, lk_nil, Nat.reduceEqDiff, eq_self, ↓reduceIte, reduceCtorEq, partsOf_arr, List.map_cons, List.map_nil] at hv); subst hv)) | ((with_reducible apply Wseq.as); (focus rfl); (intro v hv; (simp only [ev_tmp, ev_const, ev_global, ev_func, look_if, lk_nil, Nat.reduceEqDiff, eq_self, ↓reduceIte, reduceCtorEq, partsOf_arr, List.map_cons, List.map_nil] at hv); subst hv)) | ((with_reducible apply Wseq.stg (op := Op.binOp BinOp.add _ _ _ _)); (focus rfl); (focus (exact to_add rfl rfl (by omega) (by omega)))) | ((with_reducible apply Wseq.stg (op := Op.binOp BinOp.rem _ _ _ _)); (focus rfl); (focus (exact to_rem rfl rfl (by decide))))))
      generalize hid : 1 + (x0.tmod 100 + 100).tmod 100 = id
      have hid1 : 1 ≤ id ∧ id ≤ 100 := by omega
      clear hid t1 t2 t3
      have hpz : putZ id (seq + 1) ⟨#[120]⟩ M = 0 := by
        have := seqM_le C2.sq C2.s0 id
        unfold putZ
        rw [if_neg (by omega), if_neg (by decide), if_neg (by omega)]
      refine Wseq.call rfl rfl (mput_spec H (by ((repeat ((with_reducible apply Fresh.put); (focus omega))); (first | (with_reducible assumption) | (exact Fresh.up (by with_reducible assumption) (by omega))))) C2.st id (seq + 1) (by omega) _ (zs := []) (k := 0) (cap := 0) (a := none) (.inl ⟨rfl, rfl, _, _, rfl⟩) rfl (Nat.zero_le _) (fun _ _ => rfl) (fun _ => False) (by rintro b o sp ⟨⟩) (fun q => q)) ?_
      rintro v h3 c3 r3 w3 ⟨⟨hE, q3⟩, x3⟩
      obtain rfl := hE.nil hpz
      have y3 := x3.c
      dsimp only at y3 q3
      have f3 : Fresh h3 c3 := x3.fresh
      obtain ⟨es, nb, m1, m2, m3⟩ := C2.mp
      have m4 := x3.hs m1 (by omega) (by omega)
      (repeat (first | (with_reducible refine Then.go ?_) | (with_reducible refine Wx.skip ?_) | (with_reducible refine Wx.reg ?_) | (refine Wx.condF rfl (by (first | rfl | (simp only [decide_eq_false_iff_not, Bool.not_eq_false', decide_eq_true_eq, Option.isNone_none, Option.isNone_some, Option.isSome_none, Option.isSome_some, beq_self_eq_true, Bool.not_true, Bool.not_false]; first | done | omega))) ?_) | ((with_reducible refine Wseq.nil ?_); intro e he; (simp only [envOf_eq, keepFrom_cons, keepFrom_nil, flushE_mk, flL_cons, flL_nil, st_cons, st_nil, Nat.testBit, Nat.reduceShiftRight, Nat.reduceAnd, Nat.reduceBNe, Nat.reduceEqDiff, Nat.reduceAdd, ↓reduceIte, reduceCtorEq, Bool.false_eq_true] at he; subst he)) | ((with_reducible apply Wseq.mv); (focus rfl); (intro v hv; (simp only [ev_tmp, ev_const, ev_global, ev_func, look_if, lk_nil, Nat.reduceEqDiff, eq_self, ↓reduceIte, reduceCtorEq, partsOf_arr, List.map_cons, List.map_nil] at hv); subst hv)) | ((with_reducible apply Wseq.stg (op := Op.binOp BinOp.neq _ _ _ _)); (focus rfl); (focus (exact to_neN (un_ rfl) rfl rfl)))))
      refine Wseq.st0 (to_mapUpdate mi65 rfl rfl rfl m4 (by omega) (keysI m2)) ?_
      (repeat (first | (with_reducible refine Then.go ?_) | (with_reducible refine Out.go ?_) | (with_reducible refine Wx.reg ?_) | ((with_reducible refine Wseq.nil ?_); intro e he; (simp only [envOf_eq, keepFrom_cons, keepFrom_nil, flushE_mk, flL_cons, flL_nil, st_cons, st_nil, Nat.testBit, Nat.reduceShiftRight, Nat.reduceAnd, Nat.reduceBNe, Nat.reduceEqDiff, Nat.reduceAdd, ↓reduceIte, reduceCtorEq, Bool.false_eq_true] at he; subst he)) | ((with_reducible apply Wseq.mv); (focus rfl); (intro v hv; (simp only [ev_tmp, ev_const, ev_global, ev_func, look_if, lk_nil, Nat.reduceEqDiff, eq_self, ↓reduceIte, reduceCtorEq, partsOf_arr, List.map_cons, List.map_nil] at hv); subst hv)) | ((with_reducible apply Wseq.as); (focus rfl); (intro v hv; (simp only [ev_tmp, ev_const, ev_global, ev_func, look_if, lk_nil, Nat.reduceEqDiff, eq_self, ↓reduceIte, reduceCtorEq, partsOf_arr, List.map_cons, List.map_nil] at hv); subst hv)) | ((with_reducible apply Wseq.stg (op := Op.binOp BinOp.add _ _ _ _)); (focus rfl); (focus (exact to_add rfl rfl (by omega) (by omega))))))
      refine RoundE.go (40 - (i + 1)) (EC _ n k ob n' k' c (seq + 1) (.int .i64 (z + 1)) _ top top top top top top _ _ top top top top) (by omega) (by unfold EC; (refine EqK.of ?_ ?_ <;> (repeat (first | (exact all_nil) | ((apply all_cons); (focus rfl)))))) ⟨i + 1, z + 1, _, _, _, _, _, _, seq + 1, _, _, _, rfl, by omega, rfl, C2.put (by ((repeat ((with_reducible apply Fresh.put); (focus omega))); (first | (with_reducible assumption) | (exact Fresh.up (by with_reducible assumption) (by omega))))) (by omega) ?_ hpz hid1 ?_ m2 m3 Has.same, by omega, by omega, rfl⟩
      · intro b hb hW
        rw [get_other (by omega)]
        exact x3.get hb (by omega)
      · exact q3.keep f3 fun b hb hl => get_other (by omega)
  · rintro kk ss ⟨h2, c2, rl2, wl2, M, ids, seq, j9, j10, j29, j46, rfl, rfl, C2, hsq⟩
    unfold EC
    (repeat (first | (with_reducible refine Then.go ?_) | (with_reducible refine Wx.seq ?_) | (with_reducible refine Wx.block ?_) | (with_reducible refine Wx.reg ?_) | ((with_reducible refine Wseq.nil ?_); intro e he; (simp only [envOf_eq, keepFrom_cons, keepFrom_nil, flushE_mk, flL_cons, flL_nil, st_cons, st_nil, Nat.testBit, Nat.reduceShiftRight, Nat.reduceAnd, Nat.reduceBNe, Nat.reduceEqDiff, Nat.reduceAdd, ↓reduceIte, reduceCtorEq, Bool.false_eq_true] at he; subst he)) | ((with_reducible apply Wseq.as); (focus rfl); (intro v hv; (simp only [ev_tmp, ev_const, ev_global, ev_func, look_if, lk_nil, Nat.reduceEqDiff, eq_self, ↓reduceIte, reduceCtorEq, partsOf_arr, List.map_cons, List.map_nil] at hv); subst hv))))
    refine Wx.cutO (fun e s => ∃ (h' : T AObj) (c' : Nat) (rl' wl' : List Nat) (M : List Rc) (ids : List Int) (seq : Int) (j11 j12 j56 j77 : Value), e = EC oa n k ob n' k' c seq j9 j10 j11 j12 top top top top j29 j46 j56 j77 top top ∧ s = ⟨h', c', rl', wl'⟩ ∧ SC h c h' c' M ids seq) (by (repeat (first | (with_reducible exact Resp.fn) | (with_reducible apply Resp.then) | (with_reducible apply Resp.out) | (with_reducible apply Resp.round) | (with_reducible apply Resp.cut)))) ?_ ?_
    · refine Wx.loopE (fun k1 e s => ∃ (i : Nat) (z : Int) (h' : T AObj) (c' : Nat) (rl' wl' : List Nat) (M : List Rc) (ids : List Int) (seq : Int) (j12 j56 j77 : Value), e = EC oa n k ob n' k' c seq j9 j10 (.int .i64 z) j12 top top top top j29 j46 j56 j77 top top ∧ z = i ∧ s = ⟨h', c', rl', wl'⟩ ∧ SC h c h' c' M ids seq ∧ seq ≤ 40 + i ∧ i ≤ 20 ∧ k1 = 20 - i) 20 (EC oa n k ob n' k' c seq j9 j10 (.int .i64 0) top top top top top j29 j46 top top top top) (by (repeat (first | (with_reducible exact Resp.fn) | (with_reducible apply Resp.then) | (with_reducible apply Resp.out) | (with_reducible apply Resp.round) | (with_reducible apply Resp.cut)))) ?_ ?_ ?_
      · unfold EC
        (refine EqK.of ?_ ?_ <;> (repeat (first | (exact all_nil) | ((apply all_cons); (focus rfl)))))
      · exact ⟨0, 0, _, _, _, _, M, ids, seq, _, _, _, rfl, rfl, rfl, C2, by omega, by omega, rfl⟩
      clear C2 hsq M ids seq
      rintro k1 e s ⟨i, z, h2, c2, rl2, wl2, M, ids, seq, j12, j56, j77, rfl, hz, rfl, C2, hsq, hi, rfl⟩
      have f2 := C2.f
      have hs0 := C2.s0
      have y2 := C2.le
      by_cases hi1 : n' ≤ i
      · unfold EC
        (repeat (first | (with_reducible refine Then.go ?_) | (with_reducible refine Then.ex ?_) | (with_reducible refine Out.hit ?_) | (with_reducible refine Wx.seq ?_) | (with_reducible refine Wx.exit ?_) | (with_reducible refine Wx.reg ?_) | (with_reducible refine RoundE.ex ?_) | (refine Wx.condF rfl (by (first | rfl | (simp only [decide_eq_false_iff_not, Bool.not_eq_false', decide_eq_true_eq, Option.isNone_none, Option.isNone_some, Option.isSome_none, Option.isSome_some, beq_self_eq_true, Bool.not_true, Bool.not_false]; first | done | omega))) ?_) | ((with_reducible refine Wseq.nil ?_); intro e he; (simp only [envOf_eq, keepFrom_cons, keepFrom_nil, flushE_mk, flL_cons, flL_nil, st_cons, st_nil, Nat.testBit, Nat.reduceShiftRight, Nat.reduceAnd, Nat.reduceBNe, Nat.reduceEqDiff, Nat.reduceAdd, ↓reduceIte, reduceCtorEq, Bool.false_eq_true] at he; subst he)) | ((with_reducible apply Wseq.mv); (focus rfl); (intro v hv; (simp only [ev_tmp, ev_const, ev_global, ev_func, look_if, lk_nil, Nat.reduceEqDiff, eq_self, ↓reduceIte, reduceCtorEq, partsOf_arr, List.map_cons, List.map_nil] at hv); subst hv)) | ((with_reducible apply Wseq.pkF); (focus rfl); (focus rfl); (intro v hv; (simp only [ev_tmp, ev_const, ev_global, ev_func, look_if, lk_nil, Nat.reduceEqDiff, eq_self, ↓reduceIte, reduceCtorEq, partsOf_arr, List.map_cons, List.map_nil] at hv); subst hv)) | ((with_reducible apply Wseq.stg (op := Op.call ⟨Callee.builtin Builtin.len, _, _⟩)); (focus rfl); (focus (exact to_lenS (sl_ rfl) rfl))) | ((with_reducible apply Wseq.stg (op := Op.binOp BinOp.lss _ _ _ _)); (focus rfl); (focus (exact to_lssF rfl rfl (by omega)))) | (refine Wseq.no rfl ?_)))
        exact CutQ.go (EC oa n k ob n' k' c seq j9 j10 (.int .i64 z) j12 top top top top j29 j46 _ j77 top top) (by unfold EC; (refine EqK.of ?_ ?_ <;> (repeat (first | (exact all_nil) | ((apply all_cons); (focus rfl)))))) ⟨_, _, _, _, M, ids, seq, _, _, _, _, rfl, rfl, C2⟩
      by_cases hi2 : 20 ≤ i
      · unfold EC
        (repeat (first | (with_reducible refine Then.go ?_) | (with_reducible refine Then.ex ?_) | (with_reducible refine Out.hit ?_) | (with_reducible refine Wx.seq ?_) | (with_reducible refine Wx.exit ?_) | (with_reducible refine Wx.reg ?_) | (with_reducible refine RoundE.ex ?_) | (refine Wx.condF rfl (by (first | rfl | (simp only [decide_eq_false_iff_not, Bool.not_eq_false', decide_eq_true_eq, Option.isNone_none, Option.isNone_some, Option.isSome_none, Option.isSome_some, beq_self_eq_true, Bool.not_true, Bool.not_false]; first | done | omega))) ?_) | ((with_reducible refine Wseq.nil ?_); intro e he; (simp only [envOf_eq, keepFrom_cons, keepFrom_nil, flushE_mk, flL_cons, flL_nil, st_cons, st_nil, Nat.testBit, Nat.reduceShiftRight, Nat.reduceAnd, Nat.reduceBNe, Nat.reduceEqDiff, Nat.reduceAdd, ↓reduceIte, reduceCtorEq, Bool.false_eq_true] at he; subst he)) | ((with_reducible apply Wseq.mv); (focus rfl); (intro v hv; (simp only [ev_tmp, ev_const, ev_global, ev_func, look_if, lk_nil, Nat.reduceEqDiff, eq_self, ↓reduceIte, reduceCtorEq, partsOf_arr, List.map_cons, List.map_nil] at hv); subst hv)) | ((with_reducible apply Wseq.pkT); (focus rfl); (focus rfl); (intro v hv; (simp only [ev_tmp, ev_const, ev_global, ev_func, look_if, lk_nil, Nat.reduceEqDiff, eq_self, ↓reduceIte, reduceCtorEq, partsOf_arr, List.map_cons, List.map_nil] at hv); subst hv)) | ((with_reducible apply Wseq.stg (op := Op.call ⟨Callee.builtin Builtin.len, _, _⟩)); (focus rfl); (focus (exact to_lenS (sl_ rfl) rfl))) | ((with_reducible apply Wseq.stg (op := Op.binOp BinOp.lss _ _ _ _)); (focus rfl); (focus (exact to_lssT rfl rfl (by omega)))) | ((with_reducible apply Wseq.stg (op := Op.binOp BinOp.lss _ _ _ _)); (focus rfl); (focus (exact to_lssF rfl rfl (by omega))))))
        exact CutQ.go (EC oa n k ob n' k' c seq j9 j10 (.int .i64 z) j12 top top top top j29 j46 _ j77 top top) (by unfold EC; (refine EqK.of ?_ ?_ <;> (repeat (first | (exact all_nil) | ((apply all_cons); (focus rfl)))))) ⟨_, _, _, _, M, ids, seq, _, _, _, _, rfl, rfl, C2⟩
      have hxv : (ys.map (Value.int .i64))[i]? = some (.int .i64 ys[i]) := by simp
      generalize ys[i] = x0 at hxv
      obtain ⟨b1, o1, sp1, cs1, rfl, hc1, hn1⟩ := rowCell hys (j := i * 1) (by omega) (by rw [Nat.mul_one]; exact hxv)
      have l1 := hc1.lt hf
      have D2 : Cel h2 b1 cs1 := by unfold Cel Has at hc1 ⊢; rw [C2.kp b1 l1 (fun q => q)]; exact hc1
      unfold EC
      have t1 := tmod_lt x0 100 (by omega)
      have t2 := tmod_lt (x0.tmod 100 + 100) 100 (by omega)
      have t3 : 0 ≤ (x0.tmod 100 + 100).tmod 100 := Int.tmod_nonneg _ (by omega)
      (repeat (first | (with_reducible refine Then.go ?_) | (with_reducible refine Wx.seq ?_) | (with_reducible refine Wx.skip ?_) | (with_reducible refine Wx.block ?_) | (with_reducible refine Wx.reg ?_) | (refine Wx.condT rfl (by (first | rfl | (simp only [decide_eq_true_eq, Bool.not_eq_true', decide_eq_false_iff_not, Option.isNone_none, Option.isNone_some, Option.isSome_none, Option.isSome_some, beq_self_eq_true, Bool.not_true, Bool.not_false]; first | done | omega) | (simp; omega) | (solve | simp [*]) | fail)) ?_) | ((with_reducible refine Wseq.nil ?_); intro e he; (simp only [envOf_eq, keepFrom_cons, keepFrom_nil, flushE_mk, flL_cons, flL_nil, st_cons, st_nil, Nat.testBit, Nat.reduceShiftRight, Nat.reduceAnd, Nat.reduceBNe, Nat.reduceEqDiff, Nat.reduceAdd, ↓reduceIte, reduceCtorEq, Bool.false_eq_true] at he; subst he)) | ((with_reducible apply Wseq.mv); (focus rfl); (intro v hv; (simp only [ev_tmp, ev_const, ev_global, ev_func, look_if, lk_nil, Nat.reduceEqDiff, eq_self, ↓reduceIte, reduceCtorEq, partsOf_arr, List.map_cons, List.map_nil] at hv); subst hv)) | ((with_reducible apply Wseq.pkT); (focus rfl); (focus rfl); (intro v hv; (simp only [ev_tmp, ev_const, ev_global, ev_func, look_if, lk_nil, Nat.reduceEqDiff, eq_self, ↓reduceIte, reduceCtorEq, partsOf_arr, List.map_cons, List.map_nil] at hv); subst hv)) | ((with_reducible apply Wseq.stg (op := Op.call ⟨Callee.builtin Builtin.len, _, _⟩)); (focus rfl); (focus (exact to_lenS (sl_ rfl) rfl))) | ((with_reducible apply Wseq.stg (op := Op.binOp BinOp.lss _ _ _ _)); (focus rfl); (focus (exact to_lssT rfl rfl (by omega))))))
      ((with_reducible apply Wseq.stg); (focus rfl); (focus (exact to_indexAddr (k := i) el45 rfl rfl hz (by omega))))
      ((with_reducible apply Wseq.stg); (focus rfl); (focus (exact to_load (pl_ rfl) rfl D2 (by omega) hn1)))
      (repeat (first | (with_reducible refine Then.go ?_) | (with_reducible refine Wx.seq ?_) | (with_reducible refine Wx.reg ?_) | (refine Wx.dreg rfl ?_) | ((with_reducible refine Wseq.nil ?_); intro e he; (simp only [envOf_eq, keepFrom_cons, keepFrom_nil, flushE_mk, flL_cons, flL_nil, st_cons, st_nil, Nat.testBit, Nat.reduceShiftRight, Nat.reduceAnd, Nat.reduceBNe, Nat.reduceEqDiff, Nat.reduceAdd, ↓reduceIte, reduceCtorEq, Bool.false_eq_true] at he; subst he)) | ((with_reducible apply Wseq.mv); (focus rfl); (intro v hv; (simp only [ev_tmp, ev_const, ev_global, ev_func, look_if, lk_nil, Nat.reduceEqDiff, eq_self, ↓reduceIte, reduceCtorEq, partsOf_arr, List.map_cons, List.map_nil] at hv); subst hv)) | ((with_reducible apply Wseq.as); (focus rfl); (intro v hv; (simp only [ev_tmp, ev_const, ev_global, ev_func, look_if, lk_nil, Nat.reduceEqDiff, eq_self, ↓reduceIte, reduceCtorEq, partsOf_arr, List.map_cons, List.map_nil] at hv); subst hv)) | ((with_reducible apply Wseq.stg (op := Op.binOp BinOp.add _ _ _ _)); (focus rfl); (focus (exact to_add rfl rfl (by omega) (by omega)))) | ((with_reducible apply Wseq.stg (op := Op.binOp BinOp.rem _ _ _ _)); (focus rfl); (focus (exact to_rem rfl rfl (by decide)))) | ((with_reducible apply Wtr.mv); (focus rfl); (intro v hv; (simp only [ev_tmp, ev_const, ev_global, ev_func, look_if, lk_nil, Nat.reduceEqDiff, eq_self, ↓reduceIte, reduceCtorEq, partsOf_arr, List.map_cons, List.map_nil] at hv); subst hv))))
      generalize hid : 1 + (x0.tmod 100 + 100).tmod 100 = id
      have hid1 : 1 ≤ id ∧ id ≤ 100 := by omega
      clear hid t1 t2 t3
      obtain ⟨es, nb, m1, m2, m3⟩ := C2.mp
      refine Wtr.call rfl rfl (mdel_spec H (by ((repeat ((with_reducible apply Fresh.put); (focus omega))); (first | (with_reducible assumption) | (exact Fresh.up (by with_reducible assumption) (by omega))))) C2.st id (seq + 1)) ?_
      rintro v3 h3 c3 r3 w3 ⟨⟨hE, q3⟩, x3⟩
      have hw3 : ∀ b ∈ w3, b ≠ c + 2 := fun b hb => by
        rcases x3.wl b hb with q | q
        · exact absurd q List.not_mem_nil
        · have := q.2
          omega
      have y3 := x3.c
      dsimp only at y3 q3
      have f3 : Fresh h3 c3 := x3.fresh
      have m4 := x3.hs m1 (by omega) (by omega)
      have hz := delZ_live C2.sq id
      have hsome : (liveG id M).isSome = decide (id ∈ ids) := by
        cases hl : liveG id M with
        | none => rw [decide_eq_false fun e => by obtain ⟨r, e⟩ := (C2.same id).1 e; rw [hl] at e; cases e]; rfl
        | some r => rw [decide_eq_true ((C2.same id).2 ⟨r, hl⟩)]; rfl
      refine ⟨(by (repeat (first | (with_reducible exact all_nil) | ((with_reducible apply all_cons); (focus (first | (right; with_reducible exact ApartP.rr) | (right; with_reducible exact ApartP.rn) | (left; dsimp only; decide +kernel) | (right; with_reducible exact ApartP.rc (by assumption)) | (right; refine ⟨?_, ?_, ?_, ?_, ?_⟩ <;> (first | (with_reducible exact all_nil) | (intro b hb; (try simp only [List.mem_cons, List.not_mem_nil, or_false] at hb ⊢); omega))))))))), ?_⟩
      rw [hsome] at hz
      have hlk := live_get m2 m3 id
      have go : ∀ (h4 : T AObj) (c4 : Nat), Fresh h4 c4 → c3 ≤ c4 → Kp h3 h4 c3 (fun b => b = c + 2) → Has h4 (c + 2) (.map (delI id es) nb) → ∃ ids', SC h c h4 c4 (delL id (seq + 1) M) ids' (seq + 1) := fun h4 c4 hf4 hc4 K4 hm4 => C2.del hf4 (by omega) (fun b hb hW => (K4 b (by omega) (by omega)).trans (x3.get hb (by omega))) (q3.keep f3 fun b hb hl => K4 b (by omega) (by omega)) m2 m3 hm4
      by_cases hmem : id ∈ ids
      · rw [decide_eq_true hmem] at hz hlk
        obtain rfl := hE.nil hz
        (repeat (first | ((with_reducible apply Wtr.mv); (focus rfl); (intro v hv; (simp only [ev_tmp, ev_const, ev_global, ev_func, look_if, lk_nil, Nat.reduceEqDiff, eq_self, ↓reduceIte, reduceCtorEq, partsOf_arr, List.map_cons, List.map_nil] at hv); subst hv)) | ((with_reducible apply Wtr.stq (op := Op.binOp BinOp.eql _ _ _ _)); (focus rfl); (focus (exact to_eqN (un_ rfl) rfl rfl)))))
        refine Wtr.stx rfl (to_lookup mi65 ze4 rfl rfl m4 (by omega) (keysI m2) hlk) (all_cons (.inr (ApartP.wr hw3 (by omega))) all_nil) ?_
        (repeat (first | (with_reducible refine Then.go ?_) | (with_reducible refine Wx.skip ?_) | (with_reducible refine Wx.reg ?_) | (refine Wx.condF rfl (by (first | rfl | (simp only [decide_eq_false_iff_not, Bool.not_eq_false', decide_eq_true_eq, Option.isNone_none, Option.isNone_some, Option.isSome_none, Option.isSome_some, beq_self_eq_true, Bool.not_true, Bool.not_false]; first | done | omega))) ?_) | ((with_reducible apply Wseq.mv); (focus rfl); (intro v hv; (simp only [ev_tmp, ev_const, ev_global, ev_func, look_if, lk_nil, Nat.reduceEqDiff, eq_self, ↓reduceIte, reduceCtorEq, partsOf_arr, List.map_cons, List.map_nil] at hv); subst hv)) | ((with_reducible refine Wtr.nil ?_); intro e he; (simp only [envOf_eq, keepFrom_cons, keepFrom_nil, flushE_mk, flL_cons, flL_nil, st_cons, st_nil, Nat.testBit, Nat.reduceShiftRight, Nat.reduceAnd, Nat.reduceBNe, Nat.reduceEqDiff, Nat.reduceAdd, ↓reduceIte, reduceCtorEq, Bool.false_eq_true] at he; subst he)) | ((with_reducible apply Wtr.stq (op := Op.binOp BinOp.neq _ _ _ _)); (focus rfl); (focus (exact to_neB (un_ rfl) rfl rfl)))))
        refine Wseq.st0 (to_delete mi65 rfl rfl m4 (by omega) (keysI m2)) ?_
        (repeat (first | (with_reducible refine Then.go ?_) | (with_reducible refine Out.go ?_) | (with_reducible refine Wx.reg ?_) | ((with_reducible refine Wseq.nil ?_); intro e he; (simp only [envOf_eq, keepFrom_cons, keepFrom_nil, flushE_mk, flL_cons, flL_nil, st_cons, st_nil, Nat.testBit, Nat.reduceShiftRight, Nat.reduceAnd, Nat.reduceBNe, Nat.reduceEqDiff, Nat.reduceAdd, ↓reduceIte, reduceCtorEq, Bool.false_eq_true] at he; subst he)) | ((with_reducible apply Wseq.mv); (focus rfl); (intro v hv; (simp only [ev_tmp, ev_const, ev_global, ev_func, look_if, lk_nil, Nat.reduceEqDiff, eq_self, ↓reduceIte, reduceCtorEq, partsOf_arr, List.map_cons, List.map_nil] at hv); subst hv)) | ((with_reducible apply Wseq.as); (focus rfl); (intro v hv; (simp only [ev_tmp, ev_const, ev_global, ev_func, look_if, lk_nil, Nat.reduceEqDiff, eq_self, ↓reduceIte, reduceCtorEq, partsOf_arr, List.map_cons, List.map_nil] at hv); subst hv)) | ((with_reducible apply Wseq.stg (op := Op.binOp BinOp.add _ _ _ _)); (focus rfl); (focus (exact to_add rfl rfl (by omega) (by omega))))))
        obtain ⟨ids', C4⟩ := go (h3.set (c + 2) (some (.map (delI id es) nb))) c3 (by ((repeat ((with_reducible apply Fresh.put); (focus omega))); (first | (with_reducible assumption) | (exact Fresh.up (by with_reducible assumption) (by omega))))) (by omega) (by (repeat (first | (with_reducible exact Kp.refl) | (with_reducible assumption) | ((with_reducible apply Kp.set); (focus (first | (left; omega) | (right; first | exact rfl | assumption | (exact Or.inl (by assumption)) | (exact Or.inr (by assumption)) | (simp; done) | omega))))))) Has.same
        refine RoundE.go (20 - (i + 1)) (EC oa n k _ n' k' c (seq + 1) j9 j10 (.int .i64 (z + 1)) _ top top top top j29 j46 _ _ top top) (by omega) (by unfold EC; (refine EqK.of ?_ ?_ <;> (repeat (first | (exact all_nil) | ((apply all_cons); (focus rfl)))))) ⟨i + 1, z + 1, _, _, _, _, _, _, seq + 1, _, _, _, rfl, by omega, rfl, C4, by omega, by omega, rfl⟩
      · rw [decide_eq_false hmem] at hz hlk
        obtain ⟨hci, b4, w4, rfl, hb4, lb4, B4⟩ := hE.err (by rw [hz]; decide)
        (repeat (first | ((with_reducible apply Wtr.mv); (focus rfl); (intro v hv; (simp only [ev_tmp, ev_const, ev_global, ev_func, look_if, lk_nil, Nat.reduceEqDiff, eq_self, ↓reduceIte, reduceCtorEq, partsOf_arr, List.map_cons, List.map_nil] at hv); subst hv)) | ((with_reducible apply Wtr.stq (op := Op.binOp BinOp.eql _ _ _ _)); (focus rfl); (focus (exact to_eqF (un_ rfl) rfl rfl)))))
        refine Wtr.stx rfl (to_lookup mi65 ze4 rfl rfl m4 (by omega) (keysI m2) hlk) (all_cons (.inr (ApartP.wr hw3 (by omega))) all_nil) ?_
        (repeat (first | (with_reducible refine Then.go ?_) | (with_reducible refine Wx.skip ?_) | (with_reducible refine Wx.reg ?_) | (refine Wx.condF rfl (by (first | rfl | (simp only [decide_eq_false_iff_not, Bool.not_eq_false', decide_eq_true_eq, Option.isNone_none, Option.isNone_some, Option.isSome_none, Option.isSome_some, beq_self_eq_true, Bool.not_true, Bool.not_false]; first | done | omega))) ?_) | ((with_reducible apply Wseq.mv); (focus rfl); (intro v hv; (simp only [ev_tmp, ev_const, ev_global, ev_func, look_if, lk_nil, Nat.reduceEqDiff, eq_self, ↓reduceIte, reduceCtorEq, partsOf_arr, List.map_cons, List.map_nil] at hv); subst hv)) | ((with_reducible refine Wtr.nil ?_); intro e he; (simp only [envOf_eq, keepFrom_cons, keepFrom_nil, flushE_mk, flL_cons, flL_nil, st_cons, st_nil, Nat.testBit, Nat.reduceShiftRight, Nat.reduceAnd, Nat.reduceBNe, Nat.reduceEqDiff, Nat.reduceAdd, ↓reduceIte, reduceCtorEq, Bool.false_eq_true] at he; subst he)) | ((with_reducible apply Wtr.stq (op := Op.binOp BinOp.neq _ _ _ _)); (focus rfl); (focus (exact to_neB (un_ rfl) rfl rfl)))))
        refine Wseq.st0 (to_delete mi65 rfl rfl m4 (by omega) (keysI m2)) ?_
        (repeat (first | (with_reducible refine Then.go ?_) | (with_reducible refine Out.go ?_) | (with_reducible refine Wx.reg ?_) | ((with_reducible refine Wseq.nil ?_); intro e he; (simp only [envOf_eq, keepFrom_cons, keepFrom_nil, flushE_mk, flL_cons, flL_nil, st_cons, st_nil, Nat.testBit, Nat.reduceShiftRight, Nat.reduceAnd, Nat.reduceBNe, Nat.reduceEqDiff, Nat.reduceAdd, ↓reduceIte, reduceCtorEq, Bool.false_eq_true] at he; subst he)) | ((with_reducible apply Wseq.mv); (focus rfl); (intro v hv; (simp only [ev_tmp, ev_const, ev_global, ev_func, look_if, lk_nil, Nat.reduceEqDiff, eq_self, ↓reduceIte, reduceCtorEq, partsOf_arr, List.map_cons, List.map_nil] at hv); subst hv)) | ((with_reducible apply Wseq.as); (focus rfl); (intro v hv; (simp only [ev_tmp, ev_const, ev_global, ev_func, look_if, lk_nil, Nat.reduceEqDiff, eq_self, ↓reduceIte, reduceCtorEq, partsOf_arr, List.map_cons, List.map_nil] at hv); subst hv)) | ((with_reducible apply Wseq.stg (op := Op.binOp BinOp.add _ _ _ _)); (focus rfl); (focus (exact to_add rfl rfl (by omega) (by omega))))))
        obtain ⟨ids', C4⟩ := go (h3.set (c + 2) (some (.map (delI id es) nb))) c3 (by ((repeat ((with_reducible apply Fresh.put); (focus omega))); (first | (with_reducible assumption) | (exact Fresh.up (by with_reducible assumption) (by omega))))) (by omega) (by (repeat (first | (with_reducible exact Kp.refl) | (with_reducible assumption) | ((with_reducible apply Kp.set); (focus (first | (left; omega) | (right; first | exact rfl | assumption | (exact Or.inl (by assumption)) | (exact Or.inr (by assumption)) | (simp; done) | omega))))))) Has.same
        refine RoundE.go (20 - (i + 1)) (EC oa n k _ n' k' c (seq + 1) j9 j10 (.int .i64 (z + 1)) _ top top top top j29 j46 _ _ top top) (by omega) (by unfold EC; (refine EqK.of ?_ ?_ <;> (repeat (first | (exact all_nil) | ((apply all_cons); (focus rfl)))))) ⟨i + 1, z + 1, _, _, _, _, _, _, seq + 1, _, _, _, rfl, by omega, rfl, C4, by omega, by omega, rfl⟩
    · clear C2 hsq M ids seq
      rintro kk ss ⟨h2, c2, rl2, wl2, M, ids, seq, j11, j12, j56, j77, rfl, rfl, C2⟩
      unfold EC
      (repeat (first | (with_reducible refine Then.go ?_) | (with_reducible refine Wx.seq ?_) | (with_reducible refine Wx.block ?_) | (with_reducible refine Wx.reg ?_) | ((with_reducible refine Wseq.nil ?_); intro e he; (simp only [envOf_eq, keepFrom_cons, keepFrom_nil, flushE_mk, flL_cons, flL_nil, st_cons, st_nil, Nat.testBit, Nat.reduceShiftRight, Nat.reduceAnd, Nat.reduceBNe, Nat.reduceEqDiff, Nat.reduceAdd, ↓reduceIte, reduceCtorEq, Bool.false_eq_true] at he; subst he)) | ((with_reducible apply Wseq.as); (focus rfl); (intro v hv; (simp only [ev_tmp, ev_const, ev_global, ev_func, look_if, lk_nil, Nat.reduceEqDiff, eq_self, ↓reduceIte, reduceCtorEq, partsOf_arr, List.map_cons, List.map_nil] at hv); subst hv))))
      refine Wx.cutO (fun e s => ∃ (h' : T AObj) (c' : Nat) (rl' wl' : List Nat) (j14 j15 j16 j87 j102 : Value), e = EC oa n k ob n' k' c seq j9 j10 j11 j12 (.int .i64 ((liveM M).length : Int)) j14 j15 j16 j29 j46 j56 j77 j87 j102 ∧ s = ⟨h', c', rl', wl'⟩ ∧ SC h c h' c' M ids seq) (by (repeat (first | (with_reducible exact Resp.fn) | (with_reducible apply Resp.then) | (with_reducible apply Resp.out) | (with_reducible apply Resp.round) | (with_reducible apply Resp.cut)))) ?_ ?_
      · refine Wx.loopE (fun k1 e s => ∃ (pre rest : List Rc) (cnt at_ : Int) (h' : T AObj) (c' : Nat) (rl' wl' : List Nat) (j15 j16 j87 j102 : Value), e = EC oa n k ob n' k' c seq j9 j10 j11 j12 (.int .i64 cnt) (.int .i64 at_) j15 j16 j29 j46 j56 j77 j87 j102 ∧ liveM M = pre ++ rest ∧ cnt = (pre.length : Int) ∧ (∀ r ∈ pre, r.id ≤ at_) ∧ (∀ r ∈ rest, at_ < r.id) ∧ s = ⟨h', c', rl', wl'⟩ ∧ SC h c h' c' M ids seq ∧ k1 = rest.length) (liveM M).length (EC oa n k ob n' k' c seq j9 j10 j11 j12 (.int .i64 0) (.int .i64 0) top top j29 j46 j56 j77 top top) (by (repeat (first | (with_reducible exact Resp.fn) | (with_reducible apply Resp.then) | (with_reducible apply Resp.out) | (with_reducible apply Resp.round) | (with_reducible apply Resp.cut)))) ?_ ?_ ?_
        · unfold EC
          (refine EqK.of ?_ ?_ <;> (repeat (first | (exact all_nil) | ((apply all_cons); (focus rfl)))))
        · exact ⟨[], liveM M, 0, 0, _, _, _, _, _, _, _, _, rfl, rfl, rfl, (fun r hr => by cases hr), (fun r hr => by have := (C2.st.rng r (List.mem_filter.1 hr).1).1; omega), rfl, C2, rfl⟩
        clear C2 h2 c2 rl2 wl2
        rintro k1 e s ⟨pre, rest, cnt, at_, h2, c2, rl2, wl2, j15, j16, j87, j102, rfl, hpr, hcnt, hp1, hp2, rfl, C2, rfl⟩
        have f2 := C2.f
        have y2 := C2.le
        have hnx := next_split hpr hp1 hp2
        unfold EC
        (repeat (first | (with_reducible refine Wx.seq ?_) | (with_reducible refine Wx.block ?_) | (with_reducible refine Wx.reg ?_) | ((with_reducible apply Wseq.mv); (focus rfl); (intro v hv; (simp only [ev_tmp, ev_const, ev_global, ev_func, look_if, lk_nil, Nat.reduceEqDiff, eq_self, ↓reduceIte, reduceCtorEq, partsOf_arr, List.map_cons, List.map_nil] at hv); subst hv))))
        refine Wseq.call rfl rfl (mnext_spec (by ((repeat ((with_reducible apply Fresh.put); (focus omega))); (first | (with_reducible assumption) | (exact Fresh.up (by with_reducible assumption) (by omega))))) C2.st at_) ?_
        rintro v3 h3 c3 r3 w3 ⟨hr, x3⟩
        have y3 := x3.c
        dsimp only at y3 hr
        have f3 : Fresh h3 c3 := x3.fresh
        have K3 := Kp.ext (W := fun _ => False) (h := h2) (c := c2) Kp.refl x3 (by omega) (fun _ _ q => q)
        rcases hr with ⟨hn0, rfl⟩ | ⟨x, v4, hn1, rfl, w4, rfl, o4⟩
        · obtain rfl : rest = [] := by
            rw [hnx] at hn0
            exact List.head?_eq_none_iff.1 hn0
          rw [List.append_nil] at hpr
          subst hpr
          (repeat (first | (with_reducible refine Then.go ?_) | (with_reducible refine Then.ex ?_) | (with_reducible refine Out.hit ?_) | (with_reducible refine Out.miss (by decide) ?_) | (with_reducible refine Wx.seq ?_) | (with_reducible refine Wx.exit ?_) | (with_reducible refine Wx.reg ?_) | (with_reducible refine RoundE.ex ?_) | (refine Wx.condT rfl (by (first | rfl | (simp only [decide_eq_true_eq, Bool.not_eq_true', decide_eq_false_iff_not, Option.isNone_none, Option.isNone_some, Option.isSome_none, Option.isSome_some, beq_self_eq_true, Bool.not_true, Bool.not_false]; first | done | omega) | (simp; omega) | (solve | simp [*]) | fail)) ?_) | ((with_reducible refine Wseq.nil ?_); intro e he; (simp only [envOf_eq, keepFrom_cons, keepFrom_nil, flushE_mk, flL_cons, flL_nil, st_cons, st_nil, Nat.testBit, Nat.reduceShiftRight, Nat.reduceAnd, Nat.reduceBNe, Nat.reduceEqDiff, Nat.reduceAdd, ↓reduceIte, reduceCtorEq, Bool.false_eq_true] at he; subst he)) | ((with_reducible apply Wseq.mv); (focus rfl); (intro v hv; (simp only [ev_tmp, ev_const, ev_global, ev_func, look_if, lk_nil, Nat.reduceEqDiff, eq_self, ↓reduceIte, reduceCtorEq, partsOf_arr, List.map_cons, List.map_nil] at hv); subst hv)) | ((with_reducible apply Wseq.as); (focus rfl); (intro v hv; (simp only [ev_tmp, ev_const, ev_global, ev_func, look_if, lk_nil, Nat.reduceEqDiff, eq_self, ↓reduceIte, reduceCtorEq, partsOf_arr, List.map_cons, List.map_nil] at hv); subst hv)) | ((with_reducible apply Wseq.so); (focus rfl); (focus (exact (sz_ rfl))); (focus rfl); (focus (exact (by (repeat (first | (with_reducible exact Has.same) | (with_reducible assumption) | ((with_reducible apply Has.other); (focus omega))))))); (focus omega); (intro v hv; (simp only [ev_tmp, ev_const, ev_global, ev_func, look_if, lk_nil, Nat.reduceEqDiff, eq_self, ↓reduceIte, reduceCtorEq, partsOf_arr, List.map_cons, List.map_nil] at hv); subst hv); refine ⟨_, _, (by (first | exact cellsA_agg _ | rfl)), rfl, rfl, ?_⟩) | ((with_reducible apply Wseq.stg (op := Op.alloc _)); (focus rfl); (focus (exact to_alloc (ze_ rfl) (by (first | exact cellsA_agg _ | rfl)) (by ((repeat ((with_reducible apply Fresh.put); (focus omega))); (first | (with_reducible assumption) | (exact Fresh.up (by with_reducible assumption) (by omega)))))))) | ((with_reducible apply Wseq.stg (op := Op.extract _ _)); (focus rfl); (focus (exact to_extract rfl rfl))) | ((with_reducible apply Wseq.stg (op := Op.unOp UnOp.not _ _)); (focus rfl); (focus (exact to_notF rfl)))))
          exact CutQ.go (EC oa n k ob n' k' c seq j9 j10 j11 j12 (.int .i64 cnt) (.int .i64 at_) _ _ j29 j46 j56 j77 _ j102) (by unfold EC; (refine EqK.of ?_ ?_ <;> (repeat (first | (exact all_nil) | ((apply all_cons); (focus rfl)))))) ⟨_, _, _, _, _, _, _, _, _, by rw [hcnt]; rfl, rfl, C2.keep (by ((repeat ((with_reducible apply Fresh.put); (focus omega))); (first | (with_reducible assumption) | (exact Fresh.up (by with_reducible assumption) (by omega))))) (by omega) (by (repeat (first | (with_reducible exact Kp.refl) | (with_reducible assumption) | ((with_reducible apply Kp.set); (focus (first | (left; omega) | (right; first | exact rfl | assumption | (exact Or.inl (by assumption)) | (exact Or.inr (by assumption)) | (simp; done) | omega)))))))⟩
        · obtain ⟨rest', rfl⟩ : ∃ rest', rest = x :: rest' := by
            rw [hnx] at hn1
            obtain ⟨ys, hy⟩ := List.head?_eq_some_iff.1 hn1
            exact ⟨ys, hy⟩
          obtain ⟨xid, xxs, xpay, xseq, xg⟩ := x
          have hxm : (⟨xid, xxs, xpay, xseq, xg⟩ : Rc) ∈ liveM M := by rw [hpr]; exact List.mem_append_right _ (List.mem_cons_self ..)
          obtain ⟨hxm1, hxm2⟩ := List.mem_filter.1 hxm
          obtain rfl : xg = false := by simpa using hxm2
          have hin : xid ∈ ids := (C2.same xid).2 ⟨_, (liveG_live C2.st.rises).2 ⟨hxm, rfl⟩⟩
          obtain ⟨es, nb, m1, m2, m3⟩ := C2.mp
          have m4 := x3.hs m1 (by omega) (fun q => q)
          have hlk := live_get m2 m3 xid
          rw [decide_eq_true hin] at hlk
          have hat := hp2 _ (List.mem_cons_self ..)
          have hrr := C2.st.rises.filter (fun r => !r.gone)
          have hlr := C2.st.len
          have hll : pre.length + (rest'.length + 1) ≤ 1000 := by
            have h1 : (liveM M).length ≤ M.length := List.length_filter_le _ _
            rw [hpr, List.length_append, List.length_cons] at h1
            omega
          change Rises (liveM M) at hrr
          rw [hpr] at hrr
          have hr2 := (List.pairwise_append.1 hrr).2.1
          have hr3 := (List.pairwise_cons.1 hr2).1
          dsimp only at hat hr3 o4
          obtain ⟨a4, k4, rfl⟩ := o4.val
          (repeat (first | (with_reducible refine Then.go ?_) | (with_reducible refine Wx.seq ?_) | (with_reducible refine Wx.skip ?_) | (with_reducible refine Wx.reg ?_) | (refine Wx.condF rfl (by (first | rfl | (simp only [decide_eq_false_iff_not, Bool.not_eq_false', decide_eq_true_eq, Option.isNone_none, Option.isNone_some, Option.isSome_none, Option.isSome_some, beq_self_eq_true, Bool.not_true, Bool.not_false]; first | done | omega))) ?_) | ((with_reducible refine Wseq.nil ?_); intro e he; (simp only [envOf_eq, keepFrom_cons, keepFrom_nil, flushE_mk, flL_cons, flL_nil, st_cons, st_nil, Nat.testBit, Nat.reduceShiftRight, Nat.reduceAnd, Nat.reduceBNe, Nat.reduceEqDiff, Nat.reduceAdd, ↓reduceIte, reduceCtorEq, Bool.false_eq_true] at he; subst he)) | ((with_reducible apply Wseq.mv); (focus rfl); (intro v hv; (simp only [ev_tmp, ev_const, ev_global, ev_func, look_if, lk_nil, Nat.reduceEqDiff, eq_self, ↓reduceIte, reduceCtorEq, partsOf_arr, List.map_cons, List.map_nil] at hv); subst hv)) | ((with_reducible apply Wseq.as); (focus rfl); (intro v hv; (simp only [ev_tmp, ev_const, ev_global, ev_func, look_if, lk_nil, Nat.reduceEqDiff, eq_self, ↓reduceIte, reduceCtorEq, partsOf_arr, List.map_cons, List.map_nil] at hv); subst hv)) | ((with_reducible apply Wseq.so); (focus rfl); (focus (exact (sz_ rfl))); (focus rfl); (focus (exact (by (repeat (first | (with_reducible exact Has.same) | (with_reducible assumption) | ((with_reducible apply Has.other); (focus omega))))))); (focus omega); (intro v hv; (simp only [ev_tmp, ev_const, ev_global, ev_func, look_if, lk_nil, Nat.reduceEqDiff, eq_self, ↓reduceIte, reduceCtorEq, partsOf_arr, List.map_cons, List.map_nil] at hv); subst hv); refine ⟨_, _, (by (first | exact cellsA_agg _ | rfl)), rfl, rfl, ?_⟩) | ((with_reducible apply Wseq.stg (op := Op.fieldAddr _ _ _)); (focus rfl); (focus (exact to_fieldAddr (fa_ rfl) rfl))) | ((with_reducible apply Wseq.stg (op := Op.load _ _)); (focus rfl); (focus (exact to_load (pl_ rfl) rfl (by (repeat (first | (with_reducible exact Has.same.cel) | (with_reducible assumption) | ((with_reducible apply Has.cel); (focus (with_reducible assumption))) | ((with_reducible apply Cel.other); (focus omega))))) (by omega) (by rfl)))) | ((with_reducible apply Wseq.stg (op := Op.alloc _)); (focus rfl); (focus (exact to_alloc (ze_ rfl) (by (first | exact cellsA_agg _ | rfl)) (by ((repeat ((with_reducible apply Fresh.put); (focus omega))); (first | (with_reducible assumption) | (exact Fresh.up (by with_reducible assumption) (by omega)))))))) | ((with_reducible apply Wseq.stg (op := Op.extract _ _)); (focus rfl); (focus (exact to_extract rfl rfl))) | ((with_reducible apply Wseq.stg (op := Op.unOp UnOp.not _ _)); (focus rfl); (focus (exact to_notT rfl))) | ((with_reducible apply Wseq.stg (op := Op.binOp BinOp.leq _ _ _ _)); (focus rfl); (focus (exact to_leqF rfl rfl (by omega))))))
          ((with_reducible apply Wseq.stg); (focus rfl); (focus (exact to_lookup mi65 ze4 rfl rfl (Has.other (by omega) (Has.other (by omega) m4)) (by omega) (keysI m2) hlk)))
          (repeat (first | (with_reducible refine Then.go ?_) | (with_reducible refine Out.go ?_) | (with_reducible refine Wx.seq ?_) | (with_reducible refine Wx.skip ?_) | (with_reducible refine Wx.reg ?_) | (refine Wx.condF rfl (by (first | rfl | (simp only [decide_eq_false_iff_not, Bool.not_eq_false', decide_eq_true_eq, Option.isNone_none, Option.isNone_some, Option.isSome_none, Option.isSome_some, beq_self_eq_true, Bool.not_true, Bool.not_false]; first | done | omega))) ?_) | ((with_reducible refine Wseq.nil ?_); intro e he; (simp only [envOf_eq, keepFrom_cons, keepFrom_nil, flushE_mk, flL_cons, flL_nil, st_cons, st_nil, Nat.testBit, Nat.reduceShiftRight, Nat.reduceAnd, Nat.reduceBNe, Nat.reduceEqDiff, Nat.reduceAdd, ↓reduceIte, reduceCtorEq, Bool.false_eq_true] at he; subst he)) | ((with_reducible apply Wseq.mv); (focus rfl); (intro v hv; (simp only [ev_tmp, ev_const, ev_global, ev_func, look_if, lk_nil, Nat.reduceEqDiff, eq_self, ↓reduceIte, reduceCtorEq, partsOf_arr, List.map_cons, List.map_nil] at hv); subst hv)) | ((with_reducible apply Wseq.as); (focus rfl); (intro v hv; (simp only [ev_tmp, ev_const, ev_global, ev_func, look_if, lk_nil, Nat.reduceEqDiff, eq_self, ↓reduceIte, reduceCtorEq, partsOf_arr, List.map_cons, List.map_nil] at hv); subst hv)) | ((with_reducible apply Wseq.pkF); (focus rfl); (focus rfl); (intro v hv; (simp only [ev_tmp, ev_const, ev_global, ev_func, look_if, lk_nil, Nat.reduceEqDiff, eq_self, ↓reduceIte, reduceCtorEq, partsOf_arr, List.map_cons, List.map_nil] at hv); subst hv)) | ((with_reducible apply Wseq.stg (op := Op.fieldAddr _ _ _)); (focus rfl); (focus (exact to_fieldAddr (fa_ rfl) rfl))) | ((with_reducible apply Wseq.stg (op := Op.load _ _)); (focus rfl); (focus (exact to_load (pl_ rfl) rfl (by (repeat (first | (with_reducible exact Has.same.cel) | (with_reducible assumption) | ((with_reducible apply Has.cel); (focus (with_reducible assumption))) | ((with_reducible apply Cel.other); (focus omega))))) (by omega) (by rfl)))) | ((with_reducible apply Wseq.stg (op := Op.unOp UnOp.not _ _)); (focus rfl); (focus (exact to_notT rfl))) | ((with_reducible apply Wseq.stg (op := Op.binOp BinOp.add _ _ _ _)); (focus rfl); (focus (exact to_add rfl rfl (by omega) (by omega))))))
          refine RoundE.go rest'.length (EC oa n k ob n' k' c seq j9 j10 j11 j12 (.int .i64 (cnt + 1)) (.int .i64 xid) _ _ j29 j46 j56 j77 _ _) (by simp) (by unfold EC; (refine EqK.of ?_ ?_ <;> (repeat (first | (exact all_nil) | ((apply all_cons); (focus rfl)))))) ⟨pre ++ [⟨xid, xxs, xpay, xseq, false⟩], rest', cnt + 1, xid, _, _, _, _, _, _, _, _, rfl, by rw [hpr, List.append_assoc]; rfl, by rw [List.length_append, hcnt]; rfl, ?_, hr3, rfl, C2.keep (by ((repeat ((with_reducible apply Fresh.put); (focus omega))); (first | (with_reducible assumption) | (exact Fresh.up (by with_reducible assumption) (by omega))))) (by omega) (by (repeat (first | (with_reducible exact Kp.refl) | (with_reducible assumption) | ((with_reducible apply Kp.set); (focus (first | (left; omega) | (right; first | exact rfl | assumption | (exact Or.inl (by assumption)) | (exact Or.inr (by assumption)) | (simp; done) | omega))))))), rfl⟩
          intro r hr
          rcases List.mem_append.1 hr with hr | hr
          · have := hp1 r hr
            omega
          · obtain rfl := List.mem_singleton.1 hr
            exact Int.le_refl _
      · rintro kk ss ⟨h3, c3, rl3, wl3, j14, j15, j16, j87, j102, rfl, rfl, C3⟩
        obtain ⟨es, nb, m1, m2, m3⟩ := C3.mp
        have f3 := C3.f
        have y3 := C3.le
        have hel : (es.length : Int) = ((liveM M).length : Int) := by
          have h1 := congrArg List.length m2.keys
          rw [List.length_map, List.length_map, live_len C3.st.rises m2.nodup C3.same] at h1
          rw [h1]
        unfold EC
        (repeat (first | (with_reducible refine Wx.seq ?_) | (with_reducible refine Wx.reg ?_) | ((with_reducible apply Wseq.mv); (focus rfl); (intro v hv; (simp only [ev_tmp, ev_const, ev_global, ev_func, look_if, lk_nil, Nat.reduceEqDiff, eq_self, ↓reduceIte, reduceCtorEq, partsOf_arr, List.map_cons, List.map_nil] at hv); subst hv)) | ((with_reducible apply Wseq.stg (op := Op.call ⟨Callee.builtin Builtin.len, _, _⟩)); (focus rfl); (focus (exact to_lenM (mt_ rfl) rfl (by (repeat (first | (with_reducible exact Has.same) | (with_reducible assumption) | ((with_reducible apply Has.other); (focus omega))))) (by omega)))) | ((with_reducible apply Wseq.stg (op := Op.binOp BinOp.eql _ _ _ _)); (focus rfl); (focus (exact to_eqIT rfl rfl (by omega))))))
        refine Wseq.call rfl rfl (mlen_spec (by ((repeat ((with_reducible apply Fresh.put); (focus omega))); (first | (with_reducible assumption) | (exact Fresh.up (by with_reducible assumption) (by omega))))) C3.st) ?_
        rintro v4 h4 c4 r4 w4 ⟨rfl, x4⟩
        (repeat (first | (with_reducible refine Then.go ?_) | (with_reducible refine Wx.ret ?_) | ((with_reducible refine Wseq.nil ?_); intro e he; (simp only [envOf_eq, keepFrom_cons, keepFrom_nil, flushE_mk, flL_cons, flL_nil, st_cons, st_nil, Nat.testBit, Nat.reduceShiftRight, Nat.reduceAnd, Nat.reduceBNe, Nat.reduceEqDiff, Nat.reduceAdd, ↓reduceIte, reduceCtorEq, Bool.false_eq_true] at he; subst he)) | ((with_reducible apply Wseq.as); (focus rfl); (intro v hv; (simp only [ev_tmp, ev_const, ev_global, ev_func, look_if, lk_nil, Nat.reduceEqDiff, eq_self, ↓reduceIte, reduceCtorEq, partsOf_arr, List.map_cons, List.map_nil] at hv); subst hv)) | ((with_reducible apply Wseq.pkT); (focus rfl); (focus rfl); (intro v hv; (simp only [ev_tmp, ev_const, ev_global, ev_func, look_if, lk_nil, Nat.reduceEqDiff, eq_self, ↓reduceIte, reduceCtorEq, partsOf_arr, List.map_cons, List.map_nil] at hv); subst hv)) | ((with_reducible apply Wseq.stg (op := Op.binOp BinOp.eql _ _ _ _)); (focus rfl); (focus (exact to_eqIT rfl rfl (by omega))))))
        exact ⟨.inr rfl, Wres.one rfl rfl⟩
end Go.Ab.Seat
