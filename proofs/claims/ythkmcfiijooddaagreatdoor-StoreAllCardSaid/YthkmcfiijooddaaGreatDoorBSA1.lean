/- StoreAll answers true (the abstract machine). -/
import Derived.Test.YthkmcfiijooddaaGreatDoorBSA0
set_option linter.unusedVariables false
set_option linter.unusedSimpArgs false
namespace Go.Ab.Seat
open Go.Extern Go.Proofs
set_option linter.unusedSimpArgs false
set_option linter.unusedVariables false
set_option maxRecDepth 4000
set_option pp.deepTerms false
set_option pp.deepTerms.threshold 6

def EA (oa : Option Addr) (n k : Nat) (after : Int) (c : Nat) (z : Int) (j9 j10 j11 j12 j13 j14 j15 j16 j17 j31 j51 j60 j61 j84 j85 j100 j163 : Value) : L :=
  .cons 0 (.slice oa n k) (.cons 1 (.int .i64 after) (.cons 4 (.bool false) (.cons 5 (.bool true) (.cons 6 (.pointer (some ⟨c + 1, 0, none⟩)) (.cons 7 (.pointer (some ⟨c + 2, 0, none⟩)) (.cons 8 (.int .i64 z) (.cons 9 j9 (.cons 10 j10 (.cons 11 j11 (.cons 12 j12 (.cons 13 j13 (.cons 14 j14 (.cons 15 j15 (.cons 16 j16 (.cons 17 j17 (.cons 20 (.bool false) (.cons 31 j31 (.cons 51 j51 (.cons 60 j60 (.cons 61 j61 (.cons 84 j84 (.cons 85 j85 (.cons 100 j100 (.cons 163 j163 .nil))))))))))))))))))))))))

set_option maxHeartbeats 8000000 in
theorem storeAll_run {oa : Option Addr} {n k : Nat} (after : Int) {h : T AObj} {c : Nat} (hf : Fresh h c) (hg : Glob h) (hx : OpsS h c oa n) :
    ∃ v s', FnTo (Cs smQ) eg 6 [.slice oa n k, .int .i64 after] ⟨h, c, [], []⟩ v s' ∧ v = .bool true := by
  have H := stdQ
  refine Fn.go (H 6 rfl) ex6 fn6 km6 rfl rfl ?_
  intro e he
  (simp only [envOf_eq, keepFrom_cons, keepFrom_nil, flushE_mk, flL_cons, flL_nil, st_cons, st_nil, Nat.testBit, Nat.reduceShiftRight, Nat.reduceAnd, Nat.reduceBNe, Nat.reduceEqDiff, Nat.reduceAdd, ↓reduceIte, reduceCtorEq, Bool.false_eq_true] at he; subst he)
  (repeat (first | (with_reducible refine Then.go ?_) | (with_reducible refine Wx.seq ?_) | (with_reducible refine Wx.reg ?_) | ((with_reducible refine Wseq.nil ?_); intro e he; (simp only [envOf_eq, keepFrom_cons, keepFrom_nil, flushE_mk, flL_cons, flL_nil, st_cons, st_nil, Nat.testBit, Nat.reduceShiftRight, Nat.reduceAnd, Nat.reduceBNe, Nat.reduceEqDiff, Nat.reduceAdd, ↓reduceIte, reduceCtorEq, Bool.false_eq_true] at he; subst he)) | ((with_reducible apply Wseq.as); rfl; (intro v hv; (simp only [ev_tmp, ev_const, ev_global, ev_func, look_if, lk_nil, Nat.reduceEqDiff, eq_self, ↓reduceIte, reduceCtorEq, partsOf_arr, List.map_cons, List.map_nil] at hv); subst hv))))
  refine Wseq.call rfl rfl (begunQ (by ((repeat (apply Fresh.put; omega)); ((assumption)))) hg) ?_
  rintro v h1 c1 rl1 wl1 ⟨rfl, hs⟩
  cases hs
  (repeat (first | (with_reducible refine Then.go ?_) | (with_reducible refine Wx.seq ?_) | (with_reducible refine Wx.skip ?_) | (with_reducible refine Wx.reg ?_) | (refine Wx.condF rfl (by rfl) ?_) | ((with_reducible refine Wseq.nil ?_); intro e he; (simp only [envOf_eq, keepFrom_cons, keepFrom_nil, flushE_mk, flL_cons, flL_nil, st_cons, st_nil, Nat.testBit, Nat.reduceShiftRight, Nat.reduceAnd, Nat.reduceBNe, Nat.reduceEqDiff, Nat.reduceAdd, ↓reduceIte, reduceCtorEq, Bool.false_eq_true] at he; subst he)) | ((with_reducible apply Wseq.mv); rfl; (intro v hv; (simp only [ev_tmp, ev_const, ev_global, ev_func, look_if, lk_nil, Nat.reduceEqDiff, eq_self, ↓reduceIte, reduceCtorEq, partsOf_arr, List.map_cons, List.map_nil] at hv); subst hv)) | ((with_reducible apply Wseq.as); rfl; (intro v hv; (simp only [ev_tmp, ev_const, ev_global, ev_func, look_if, lk_nil, Nat.reduceEqDiff, eq_self, ↓reduceIte, reduceCtorEq, partsOf_arr, List.map_cons, List.map_nil] at hv); subst hv)) | ((with_reducible apply Wseq.stg (op := Op.unOp UnOp.not _ _)); rfl; exact to_notT rfl)))
  refine Wseq.call rfl rfl (snew_spec H (by ((repeat (apply Fresh.put; omega)); ((assumption))))) ?_
  rintro v h1 c1 r1 w1 ⟨rfl, q1, e1, x1⟩
  dsimp only at e1 q1
  subst e1
  have f1 : Fresh h1 (c + 2) := x1.fresh
  have K1 := Kp.ext (W := fun _ => False) (h := h) (c := c) Kp.refl x1 (by omega) (fun _ _ q => q)
  have G : ∀ h' : T AObj, Kp h h' c (fun _ => False) → Glob h' := fun h' K => ⟨(K 0 (hg.g0.lt hf) (fun q => q)).trans hg.g0, (K 1 (hg.g1.lt hf) (fun q => q)).trans hg.g1⟩
  (repeat (first | (with_reducible refine Then.go ?_) | (with_reducible refine Wx.seq ?_) | (with_reducible refine Wx.block ?_) | (with_reducible refine Wx.reg ?_) | ((with_reducible refine Wseq.nil ?_); intro e he; (simp only [envOf_eq, keepFrom_cons, keepFrom_nil, flushE_mk, flL_cons, flL_nil, st_cons, st_nil, Nat.testBit, Nat.reduceShiftRight, Nat.reduceAnd, Nat.reduceBNe, Nat.reduceEqDiff, Nat.reduceAdd, ↓reduceIte, reduceCtorEq, Bool.false_eq_true] at he; subst he)) | ((with_reducible apply Wseq.as); rfl; (intro v hv; (simp only [ev_tmp, ev_const, ev_global, ev_func, look_if, lk_nil, Nat.reduceEqDiff, eq_self, ↓reduceIte, reduceCtorEq, partsOf_arr, List.map_cons, List.map_nil] at hv); subst hv)) | ((with_reducible apply Wseq.bx); rfl; exact (by ((repeat (apply Fresh.put; omega)); ((assumption)))); (intro v hv; (simp only [ev_tmp, ev_const, ev_global, ev_func, look_if, lk_nil, Nat.reduceEqDiff, eq_self, ↓reduceIte, reduceCtorEq, partsOf_arr, List.map_cons, List.map_nil] at hv); subst hv); refine ⟨_, (by ((exact cellsA_agg _))), ?_⟩) | ((with_reducible apply Wseq.bd); rfl; exact (bt_ rfl); (intro v hv; (simp only [ev_tmp, ev_const, ev_global, ev_func, look_if, lk_nil, Nat.reduceEqDiff, eq_self, ↓reduceIte, reduceCtorEq, partsOf_arr, List.map_cons, List.map_nil] at hv); subst hv); refine ⟨_, rfl, ?_⟩)))
  have C1 : SA h c (h1.set (c + 2) (some (.cells [.slice none 0 0]))) (c + 3) [] :=
    ⟨(by ((repeat (apply Fresh.put; omega)); ((exact Fresh.up (by assumption) (by omega))))), by omega, fun b hb q => (get_other (by omega)).trans (K1 b hb q), fun b => c ≤ b ∧ b < c + 2, fun b => b = c + 2, (q1.keep f1 fun b hb hl => get_other (by omega)).empty, RefM.new Has.same, fun b hb => ⟨hb.1, by omega, by omega⟩, fun b hb => by omega⟩
  refine Wx.loopE (fun k1 e s => ∃ (i : Nat) (z : Int) (h' : T AObj) (c' : Nat) (rl' wl' : List Nat) (M : List Rc) (j9 j10 j11 j12 j13 j14 j15 j16 j17 j31 j51 j60 j61 j84 j85 j100 j163 : Value), e = EA oa n k after c z j9 j10 j11 j12 j13 j14 j15 j16 j17 j31 j51 j60 j61 j84 j85 j100 j163 ∧ z = i ∧ s = ⟨h', c', rl', wl'⟩ ∧ SA h c h' c' M ∧ i ≤ 50 ∧ k1 = 50 - i) 50 (EA oa n k after c 0 top top top top top top top top top top top top top top top top top) (by (repeat (first | (exact Resp.fn) | (apply Resp.then) | (apply Resp.out)))) ?_ ?_ ?_
  · unfold EA
    (refine EqK.of ?_ ?_ <;> (repeat (first | (exact all_nil) | (apply all_cons; rfl))))
  · exact ⟨0, 0, _, _, _, _, [], _, _, _, _, _, _, _, _, _, _, _, _, _, _, _, _, _, rfl, rfl, rfl, C1, by omega, rfl⟩
  · rintro k1 e s ⟨i, z, h2, c2, rl2, wl2, M, j9, j10, j11, j12, j13, j14, j15, j16, j17, j31, j51, j60, j61, j84, j85, j100, j163, rfl, hz, rfl, C2, hi, rfl⟩
    have f2 := C2.f
    have y2 := C2.le
    unfold EA
    by_cases hi1 : n ≤ i
    · (repeat (first | (with_reducible refine Then.go ?_) | (with_reducible refine Then.ex ?_) | (with_reducible refine Out.hit ?_) | (with_reducible refine Wx.seq ?_) | (with_reducible refine Wx.exit ?_) | (with_reducible refine Wx.ret ?_) | (with_reducible refine Wx.reg ?_) | (with_reducible refine RoundE.ex ?_) | (refine Wx.condF rfl (by rfl) ?_) | ((with_reducible refine Wseq.nil ?_); intro e he; (simp only [envOf_eq, keepFrom_cons, keepFrom_nil, flushE_mk, flL_cons, flL_nil, st_cons, st_nil, Nat.testBit, Nat.reduceShiftRight, Nat.reduceAnd, Nat.reduceBNe, Nat.reduceEqDiff, Nat.reduceAdd, ↓reduceIte, reduceCtorEq, Bool.false_eq_true] at he; subst he)) | ((with_reducible apply Wseq.mv); rfl; (intro v hv; (simp only [ev_tmp, ev_const, ev_global, ev_func, look_if, lk_nil, Nat.reduceEqDiff, eq_self, ↓reduceIte, reduceCtorEq, partsOf_arr, List.map_cons, List.map_nil] at hv); subst hv)) | ((with_reducible apply Wseq.as); rfl; (intro v hv; (simp only [ev_tmp, ev_const, ev_global, ev_func, look_if, lk_nil, Nat.reduceEqDiff, eq_self, ↓reduceIte, reduceCtorEq, partsOf_arr, List.map_cons, List.map_nil] at hv); subst hv)) | ((with_reducible apply Wseq.pkF); rfl; rfl; (intro v hv; (simp only [ev_tmp, ev_const, ev_global, ev_func, look_if, lk_nil, Nat.reduceEqDiff, eq_self, ↓reduceIte, reduceCtorEq, partsOf_arr, List.map_cons, List.map_nil] at hv); subst hv)) | ((with_reducible apply Wseq.stg (op := Op.call ⟨Callee.builtin Builtin.len, _, _⟩)); rfl; exact to_lenS (sl_ rfl) rfl) | ((with_reducible apply Wseq.stg (op := Op.binOp BinOp.lss _ _ _ _)); rfl; exact to_lssF rfl rfl (by omega)) | (refine Wseq.no rfl ?_)))
      exact ⟨.inr rfl, Wres.one rfl rfl⟩
    by_cases hi2 : 50 ≤ i
    · (repeat (first | (with_reducible refine Then.go ?_) | (with_reducible refine Then.ex ?_) | (with_reducible refine Out.hit ?_) | (with_reducible refine Wx.seq ?_) | (with_reducible refine Wx.exit ?_) | (with_reducible refine Wx.ret ?_) | (with_reducible refine Wx.reg ?_) | (with_reducible refine RoundE.ex ?_) | (refine Wx.condF rfl (by rfl) ?_) | ((with_reducible refine Wseq.nil ?_); intro e he; (simp only [envOf_eq, keepFrom_cons, keepFrom_nil, flushE_mk, flL_cons, flL_nil, st_cons, st_nil, Nat.testBit, Nat.reduceShiftRight, Nat.reduceAnd, Nat.reduceBNe, Nat.reduceEqDiff, Nat.reduceAdd, ↓reduceIte, reduceCtorEq, Bool.false_eq_true] at he; subst he)) | ((with_reducible apply Wseq.mv); rfl; (intro v hv; (simp only [ev_tmp, ev_const, ev_global, ev_func, look_if, lk_nil, Nat.reduceEqDiff, eq_self, ↓reduceIte, reduceCtorEq, partsOf_arr, List.map_cons, List.map_nil] at hv); subst hv)) | ((with_reducible apply Wseq.as); rfl; (intro v hv; (simp only [ev_tmp, ev_const, ev_global, ev_func, look_if, lk_nil, Nat.reduceEqDiff, eq_self, ↓reduceIte, reduceCtorEq, partsOf_arr, List.map_cons, List.map_nil] at hv); subst hv)) | ((with_reducible apply Wseq.pkT); rfl; rfl; (intro v hv; (simp only [ev_tmp, ev_const, ev_global, ev_func, look_if, lk_nil, Nat.reduceEqDiff, eq_self, ↓reduceIte, reduceCtorEq, partsOf_arr, List.map_cons, List.map_nil] at hv); subst hv)) | ((with_reducible apply Wseq.stg (op := Op.call ⟨Callee.builtin Builtin.len, _, _⟩)); rfl; exact to_lenS (sl_ rfl) rfl) | ((with_reducible apply Wseq.stg (op := Op.binOp BinOp.lss _ _ _ _)); rfl; exact to_lssT rfl rfl (by omega)) | ((with_reducible apply Wseq.stg (op := Op.binOp BinOp.lss _ _ _ _)); rfl; exact to_lssF rfl rfl (by omega))))
      exact ⟨.inr rfl, Wres.one rfl rfl⟩
    obtain ⟨b1, o1, sp1, cs1, kd, id, va, nv, kv, zs, pay, sq, rfl, hc1, hsub, hrow, hzl, hnk, hvn, hvs⟩ := hx i (by omega)
    have l1 := hc1.lt hf
    have D1 : Cel h2 b1 cs1 := by unfold Cel Has at hc1 ⊢; rw [C2.kp b1 l1 (fun q => q)]; exact hc1
    obtain ⟨n9, hn9⟩ : ∃ n9, n9 = min nv 9 := ⟨_, rfl⟩
    have hrow9 : Row h (.slice va n9 kv) n9 1 ((zs.take n9).map (Value.int .i32)) := by
      have := Row.cut hrow (m := n9) (by omega)
      rw [← List.map_take] at this
      exact this
    have hz9 : (zs.take n9).length = n9 := by rw [List.length_take]; omega
    generalize zs.take n9 = ys at hrow9 hz9
    have rowAt : ∀ h' : T AObj, Kp h h' c (fun _ => False) → Row h' (.slice va n9 kv) n9 1 (ys.map (Value.int .i32)) := fun h' K => Row.keepF hrow9 hf fun b hb => K b hb (fun q => q)
    have kp2 := C2.kp
    (repeat (first | (with_reducible refine Then.go ?_) | (with_reducible refine Wx.seq ?_) | (with_reducible refine Wx.skip ?_) | (with_reducible refine Wx.block ?_) | (with_reducible refine Wx.reg ?_) | (refine Wx.condT rfl (by rfl) ?_) | ((with_reducible refine Wseq.nil ?_); intro e he; (simp only [envOf_eq, keepFrom_cons, keepFrom_nil, flushE_mk, flL_cons, flL_nil, st_cons, st_nil, Nat.testBit, Nat.reduceShiftRight, Nat.reduceAnd, Nat.reduceBNe, Nat.reduceEqDiff, Nat.reduceAdd, ↓reduceIte, reduceCtorEq, Bool.false_eq_true] at he; subst he)) | ((with_reducible apply Wseq.mv); rfl; (intro v hv; (simp only [ev_tmp, ev_const, ev_global, ev_func, look_if, lk_nil, Nat.reduceEqDiff, eq_self, ↓reduceIte, reduceCtorEq, partsOf_arr, List.map_cons, List.map_nil] at hv); subst hv)) | ((with_reducible apply Wseq.pkT); rfl; rfl; (intro v hv; (simp only [ev_tmp, ev_const, ev_global, ev_func, look_if, lk_nil, Nat.reduceEqDiff, eq_self, ↓reduceIte, reduceCtorEq, partsOf_arr, List.map_cons, List.map_nil] at hv); subst hv)) | ((with_reducible apply Wseq.stg (op := Op.call ⟨Callee.builtin Builtin.len, _, _⟩)); rfl; exact to_lenS (sl_ rfl) rfl) | ((with_reducible apply Wseq.stg (op := Op.binOp BinOp.lss _ _ _ _)); rfl; exact to_lssT rfl rfl (by omega))))
    ((with_reducible apply Wseq.stg); (focus rfl); (focus (exact to_indexAddr (k := i) el68 rfl rfl hz (by omega))))
    ((with_reducible apply Wseq.stg); (focus rfl); (focus (exact to_loadS ag70 rfl D1 (by omega) hsub)))
    (repeat (first | (with_reducible refine Then.go ?_) | (with_reducible refine Wx.seq ?_) | (refine Wx.dreg rfl ?_) | ((with_reducible refine Wseq.nil ?_); intro e he; (simp only [envOf_eq, keepFrom_cons, keepFrom_nil, flushE_mk, flL_cons, flL_nil, st_cons, st_nil, Nat.testBit, Nat.reduceShiftRight, Nat.reduceAnd, Nat.reduceBNe, Nat.reduceEqDiff, Nat.reduceAdd, ↓reduceIte, reduceCtorEq, Bool.false_eq_true] at he; subst he)) | ((with_reducible apply Wseq.so); rfl; exact (sz_ rfl); rfl; exact (by (repeat ((exact Has.same)))); omega; (intro v hv; (simp only [ev_tmp, ev_const, ev_global, ev_func, look_if, lk_nil, Nat.reduceEqDiff, eq_self, ↓reduceIte, reduceCtorEq, partsOf_arr, List.map_cons, List.map_nil] at hv); subst hv); refine ⟨_, _, (by ((exact cellsA_agg _))), rfl, rfl, ?_⟩) | ((with_reducible apply Wseq.stg (op := Op.alloc _)); rfl; exact to_alloc (ze_ rfl) (by ((exact cellsA_agg _))) (by ((repeat (apply Fresh.put; omega)); ((assumption))))) | ((with_reducible apply Wtr.stq (op := Op.fieldAddr _ _ _)); rfl; exact to_fieldAddr (fa_ rfl) rfl) | ((with_reducible apply Wtr.stx (op := Op.load _ _)); rfl; exact to_load (pl_ rfl) rfl (by (repeat ((exact Has.same.cel)))) (by omega) (by rfl); (focus (repeat (first | (exact all_nil) | (apply all_cons; (focus ((right; exact ApartP.rr)))))))) | ((with_reducible apply Wtr.stq (op := Op.call ⟨Callee.builtin Builtin.len, _, _⟩)); rfl; exact to_lenS (sl_ rfl) rfl) | ((with_reducible apply Wtr.stq (op := Op.call ⟨Callee.builtin Builtin.min, _, _⟩)); rfl; exact to_min rfl rfl)))
    ((with_reducible apply Wtr.stq); (focus rfl); (focus (exact to_sliceHi (k := n9) el33 rfl rfl (by omega) (by omega) (fun a ha => (hvs a ha).1))))
    (repeat (first | ((with_reducible apply Wtr.stq (op := Op.fieldAddr _ _ _)); rfl; exact to_fieldAddr (fa_ rfl) rfl) | ((with_reducible apply Wtr.stx (op := Op.load _ _)); rfl; exact to_load (pl_ rfl) rfl (by (repeat ((exact Has.same.cel)))) (by omega) (by rfl); (focus (repeat (first | (exact all_nil) | (apply all_cons; (focus ((right; exact ApartP.rr))))))))))
    refine Wtr.call rfl rfl (text_spec H (by ((repeat (apply Fresh.put; omega)); ((exact Fresh.up (by assumption) (by omega))))) pay 45) ?_
    rintro v3 h3 c3 r3 w3 ⟨rfl, e3⟩
    cases e3
    refine ⟨(by (repeat (first | (exact all_nil) | (apply all_cons; (focus ((right; exact ApartP.rr))))))), ?_⟩
    generalize pay.extract 0 (min pay.size 45) = tx
    (repeat (first | (with_reducible refine Then.go ?_) | (with_reducible refine Wx.seq ?_) | (with_reducible refine Wx.reg ?_) | ((with_reducible refine Wseq.nil ?_); intro e he; (simp only [envOf_eq, keepFrom_cons, keepFrom_nil, flushE_mk, flL_cons, flL_nil, st_cons, st_nil, Nat.testBit, Nat.reduceShiftRight, Nat.reduceAnd, Nat.reduceBNe, Nat.reduceEqDiff, Nat.reduceAdd, ↓reduceIte, reduceCtorEq, Bool.false_eq_true] at he; subst he)) | ((with_reducible apply Wseq.stg (op := Op.fieldAddr _ _ _)); rfl; exact to_fieldAddr (fa_ rfl) rfl) | ((with_reducible apply Wseq.stg (op := Op.load _ _)); rfl; exact to_load (pl_ rfl) rfl (by (repeat ((exact Has.same.cel)))) (by omega) (by rfl)) | ((with_reducible refine Wtr.nil ?_); intro e he; (simp only [envOf_eq, keepFrom_cons, keepFrom_nil, flushE_mk, flL_cons, flL_nil, st_cons, st_nil, Nat.testBit, Nat.reduceShiftRight, Nat.reduceAnd, Nat.reduceBNe, Nat.reduceEqDiff, Nat.reduceAdd, ↓reduceIte, reduceCtorEq, Bool.false_eq_true] at he; subst he)) | ((with_reducible apply Wtr.so); rfl; exact (sz_ rfl); rfl; exact (by (repeat ((exact Has.same)))); omega; (focus (repeat (first | (exact all_nil) | (apply all_cons; (focus ((left; dsimp only; decide +kernel))))))); (intro v hv; (simp only [ev_tmp, ev_const, ev_global, ev_func, look_if, lk_nil, Nat.reduceEqDiff, eq_self, ↓reduceIte, reduceCtorEq, partsOf_arr, List.map_cons, List.map_nil] at hv); subst hv); refine ⟨_, _, (by ((exact cellsA_agg _))), rfl, rfl, ?_⟩) | ((with_reducible apply Wtr.stq (op := Op.fieldAddr _ _ _)); rfl; exact to_fieldAddr (fa_ rfl) rfl)))
    obtain ⟨U, V, e1, e2, e3, e4⟩ := C2.ex
    refine Wx.cut (fun e s => ∃ (h' : T AObj) (c' : Nat) (rl' wl' : List Nat) (M' : List Rc) (j31 j51 j60 j61 j84 j85 j100 : Value), e = EA (some ⟨b1, o1, sp1⟩) n k after c z (.pointer (some ⟨c2, 0, none⟩)) j10 j11 j12 j13 j14 j15 j16 j17 j31 j51 j60 j61 j84 j85 j100 j163 ∧ s = ⟨h', c', rl', wl'⟩ ∧ SA h c h' c' M' ∧ Has h' c2 (.cells [.int .i64 kd, .int .i64 id, .slice va n9 kv, .string tx, .int .i64 sq]) ∧ c2 < c') (by (repeat (first | (exact Resp.fn) | (apply Resp.then) | (apply Resp.out) | (apply Resp.round)))) ?_ ?_
    · by_cases k0 : kd = 0
      · subst k0
        (repeat (first | (with_reducible refine Then.go ?_) | (with_reducible refine Wx.seq ?_) | (with_reducible refine Wx.block ?_) | (with_reducible refine Wx.reg ?_) | (refine Wx.dreg rfl ?_) | (refine Wx.condT rfl (by rfl) ?_) | ((with_reducible refine Wseq.nil ?_); intro e he; (simp only [envOf_eq, keepFrom_cons, keepFrom_nil, flushE_mk, flL_cons, flL_nil, st_cons, st_nil, Nat.testBit, Nat.reduceShiftRight, Nat.reduceAnd, Nat.reduceBNe, Nat.reduceEqDiff, Nat.reduceAdd, ↓reduceIte, reduceCtorEq, Bool.false_eq_true] at he; subst he)) | ((with_reducible apply Wseq.as); rfl; (intro v hv; (simp only [ev_tmp, ev_const, ev_global, ev_func, look_if, lk_nil, Nat.reduceEqDiff, eq_self, ↓reduceIte, reduceCtorEq, partsOf_arr, List.map_cons, List.map_nil] at hv); subst hv)) | ((with_reducible apply Wseq.stg (op := Op.binOp BinOp.eql _ _ _ _)); rfl; exact to_eqIT rfl rfl (by omega)) | ((with_reducible apply Wtr.mv); rfl; (intro v hv; (simp only [ev_tmp, ev_const, ev_global, ev_func, look_if, lk_nil, Nat.reduceEqDiff, eq_self, ↓reduceIte, reduceCtorEq, partsOf_arr, List.map_cons, List.map_nil] at hv); subst hv)) | ((with_reducible apply Wtr.stq (op := Op.fieldAddr _ _ _)); rfl; exact to_fieldAddr (fa_ rfl) rfl) | ((with_reducible apply Wtr.stx (op := Op.load _ _)); rfl; exact to_load (pl_ rfl) rfl (by (repeat ((exact Has.same.cel)))) (by omega) (by rfl); (focus (repeat (first | (exact all_nil) | (apply all_cons; (focus ((right; exact ApartP.rr))))))))))
        refine Wtr.call rfl rfl (mputA_spec H (by ((repeat (apply Fresh.put; omega)); ((exact Fresh.up (by assumption) (by omega))))) (e1.keep (h' := (((h2.set c2 _).set c2 _).set c2 _).set c2 _) f2 fun b hb hl => by rw [get_other (by omega), get_other (by omega), get_other (by omega), get_other (by omega)]) id sq tx (zs := ys) (rowAt _ (by (repeat (first | (assumption) | (apply Kp.set; (focus (left; omega))))))) hz9 (by unfold big; omega) (fun _ e => hvn e) (fun b => b < c) (fun b o sp e => (hvs _ e).2) (by omega)) ?_
        rintro v3 h3 c3 r3 w3 ⟨⟨hE, q3⟩, x3⟩
        have hw3 := OnlyW.of x3 rfl
        have y3 := x3.c
        dsimp only at y3 q3
        have f3 : Fresh h3 c3 := x3.fresh
        have kp3 := Kp.ext (W := fun _ => False) (h := h) (c := c) (h1 := (((h2.set c2 _).set c2 _).set c2 _).set c2 _) (by (repeat (first | (assumption) | (apply Kp.set; (focus (left; omega)))))) x3 (by omega) (fun b hb q => by omega)
        have B3 := x3.hs (b := c2) Has.same (by omega) (by omega)
        have R3 := e2.keep (h' := h3) f2 fun b hb hl => (x3.get (by omega) (by have := e4 b hb; omega)).trans (by rw [get_other (by omega), get_other (by omega), get_other (by omega), get_other (by omega)])
        refine ⟨(by (repeat (first | (exact all_nil) | (apply all_cons; (focus ((left; dsimp only; decide +kernel))))))), ?_⟩
        skip
        refine Wtr.call rfl rfl (codeE_spec (by ((repeat (apply Fresh.put; omega)); ((assumption)))) (G h3 kp3) hE) ?_
        rintro v4 h4 c4 r4 w4 ⟨rfl, l4, e5⟩
        cases e5
        refine ⟨(by (repeat (first | (exact all_nil) | (apply all_cons; (focus (first | (right; exact ApartP.rr) | (left; dsimp only; decide +kernel))))))), ?_⟩
        (repeat (first | ((with_reducible apply Wtr.mv); rfl; (intro v hv; (simp only [ev_tmp, ev_const, ev_global, ev_func, look_if, lk_nil, Nat.reduceEqDiff, eq_self, ↓reduceIte, reduceCtorEq, partsOf_arr, List.map_cons, List.map_nil] at hv); subst hv)) | ((with_reducible apply Wtr.stq (op := Op.fieldAddr _ _ _)); rfl; exact to_fieldAddr (fa_ rfl) rfl) | ((with_reducible apply Wtr.stx (op := Op.load _ _)); rfl; exact to_load (pl_ rfl) rfl (by (repeat ((apply Has.cel; assumption)))) (by omega) (by rfl); (focus (repeat (first | (exact all_nil) | (apply all_cons; (focus (first | (right; exact ApartP.rr) | (right; refine ApartP.ow (by assumption) ?_ ?_ <;> omega))))))))))
        refine Wtr.call rfl rfl (rput_spec H (by ((repeat (apply Fresh.put; omega)); ((assumption)))) R3 (fun b hb => by have := e4 b hb; omega) id sq tx (rowAt h3 kp3) hz9 (by unfold big; omega)) ?_
        rintro v5 h5 c5 r5 w5 ⟨⟨rfl, q5⟩, x5⟩
        have y5 := x5.c
        dsimp only at y5 q5
        have B5 := x5.hs (b := c2) B3 (by omega) (fun q => by have := e4 _ q; omega)
        have C5 := C2.both (h2 := (((h2.set c2 _).set c2 _).set c2 _).set c2 _) (c2 := c2 + 1) e3 e4 (by omega) (by (repeat (first | (exact Kp.refl) | (apply Kp.set; (focus (left; omega)))))) x3 q3 (fun b hb => hb) x5 q5 (fun b hb => hb)
        refine ⟨(by (repeat (first | (exact all_nil) | (apply all_cons; (focus ((left; dsimp only; decide +kernel))))))), ?_⟩
        (repeat (first | (with_reducible refine Then.go ?_) | (with_reducible refine Out.go ?_) | (with_reducible refine Wx.skip ?_) | (refine Wx.condF rfl (by rfl) ?_) | ((with_reducible refine Wtr.nil ?_); intro e he; (simp only [envOf_eq, keepFrom_cons, keepFrom_nil, flushE_mk, flL_cons, flL_nil, st_cons, st_nil, Nat.testBit, Nat.reduceShiftRight, Nat.reduceAnd, Nat.reduceBNe, Nat.reduceEqDiff, Nat.reduceAdd, ↓reduceIte, reduceCtorEq, Bool.false_eq_true] at he; subst he)) | ((with_reducible apply Wtr.stq (op := Op.binOp BinOp.neq _ _ _ _)); rfl; exact to_neIF rfl rfl (by omega))))
        exact CutQ.go (EA _ n k after c z (.pointer (some ⟨c2, 0, none⟩)) j10 j11 j12 j13 j14 j15 j16 j17 _ _ _ _ _ _ _ j163) (by unfold EA; (refine EqK.of ?_ ?_ <;> (repeat (first | (exact all_nil) | (apply all_cons; rfl))))) ⟨h5, c5, _, _, _, _, _, _, _, _, _, _, rfl, rfl, C5, B5, by omega⟩
      by_cases k1 : kd = 1
      · subst k1
        (repeat (first | (with_reducible refine Then.go ?_) | (with_reducible refine Wx.seq ?_) | (with_reducible refine Wx.block ?_) | (with_reducible refine Wx.reg ?_) | (refine Wx.dreg rfl ?_) | (refine Wx.condT rfl (by rfl) ?_) | (refine Wx.condF rfl (by rfl) ?_) | ((with_reducible refine Wseq.nil ?_); intro e he; (simp only [envOf_eq, keepFrom_cons, keepFrom_nil, flushE_mk, flL_cons, flL_nil, st_cons, st_nil, Nat.testBit, Nat.reduceShiftRight, Nat.reduceAnd, Nat.reduceBNe, Nat.reduceEqDiff, Nat.reduceAdd, ↓reduceIte, reduceCtorEq, Bool.false_eq_true] at he; subst he)) | ((with_reducible apply Wseq.as); rfl; (intro v hv; (simp only [ev_tmp, ev_const, ev_global, ev_func, look_if, lk_nil, Nat.reduceEqDiff, eq_self, ↓reduceIte, reduceCtorEq, partsOf_arr, List.map_cons, List.map_nil] at hv); subst hv)) | ((with_reducible apply Wseq.stg (op := Op.binOp BinOp.eql _ _ _ _)); rfl; exact to_eqIT rfl rfl (by omega)) | ((with_reducible apply Wseq.stg (op := Op.binOp BinOp.eql _ _ _ _)); rfl; exact to_eqIF rfl rfl (by omega)) | ((with_reducible apply Wtr.mv); rfl; (intro v hv; (simp only [ev_tmp, ev_const, ev_global, ev_func, look_if, lk_nil, Nat.reduceEqDiff, eq_self, ↓reduceIte, reduceCtorEq, partsOf_arr, List.map_cons, List.map_nil] at hv); subst hv)) | ((with_reducible apply Wtr.stq (op := Op.fieldAddr _ _ _)); rfl; exact to_fieldAddr (fa_ rfl) rfl) | ((with_reducible apply Wtr.stx (op := Op.load _ _)); rfl; exact to_load (pl_ rfl) rfl (by (repeat ((exact Has.same.cel)))) (by omega) (by rfl); (focus (repeat (first | (exact all_nil) | (apply all_cons; (focus ((right; exact ApartP.rr))))))))))
        refine Wtr.call rfl rfl (mdel_spec H (by ((repeat (apply Fresh.put; omega)); ((exact Fresh.up (by assumption) (by omega))))) (e1.keep (h' := (((h2.set c2 _).set c2 _).set c2 _).set c2 _) f2 fun b hb hl => by rw [get_other (by omega), get_other (by omega), get_other (by omega), get_other (by omega)]) id sq) ?_
        rintro v3 h3 c3 r3 w3 ⟨⟨hE, q3⟩, x3⟩
        have hw3 := OnlyW.of x3 rfl
        have y3 := x3.c
        dsimp only at y3 q3
        have f3 : Fresh h3 c3 := x3.fresh
        have kp3 := Kp.ext (W := fun _ => False) (h := h) (c := c) (h1 := (((h2.set c2 _).set c2 _).set c2 _).set c2 _) (by (repeat (first | (assumption) | (apply Kp.set; (focus (left; omega)))))) x3 (by omega) (fun b hb q => by omega)
        have B3 := x3.hs (b := c2) Has.same (by omega) (by omega)
        have R3 := e2.keep (h' := h3) f2 fun b hb hl => (x3.get (by omega) (by have := e4 b hb; omega)).trans (by rw [get_other (by omega), get_other (by omega), get_other (by omega), get_other (by omega)])
        refine ⟨(by (repeat (first | (exact all_nil) | (apply all_cons; (focus ((left; dsimp only; decide +kernel))))))), ?_⟩
        skip
        refine Wtr.call rfl rfl (codeE_spec (by ((repeat (apply Fresh.put; omega)); ((assumption)))) (G h3 kp3) hE) ?_
        rintro v4 h4 c4 r4 w4 ⟨rfl, l4, e5⟩
        cases e5
        refine ⟨(by (repeat (first | (exact all_nil) | (apply all_cons; (focus (first | (right; exact ApartP.rr) | (left; dsimp only; decide +kernel))))))), ?_⟩
        (repeat (first | ((with_reducible apply Wtr.mv); rfl; (intro v hv; (simp only [ev_tmp, ev_const, ev_global, ev_func, look_if, lk_nil, Nat.reduceEqDiff, eq_self, ↓reduceIte, reduceCtorEq, partsOf_arr, List.map_cons, List.map_nil] at hv); subst hv)) | ((with_reducible apply Wtr.stq (op := Op.fieldAddr _ _ _)); rfl; exact to_fieldAddr (fa_ rfl) rfl) | ((with_reducible apply Wtr.stx (op := Op.load _ _)); rfl; exact to_load (pl_ rfl) rfl (by (repeat ((apply Has.cel; assumption)))) (by omega) (by rfl); (focus (repeat (first | (exact all_nil) | (apply all_cons; (focus (first | (right; exact ApartP.rr) | (right; refine ApartP.ow (by assumption) ?_ ?_ <;> omega))))))))))
        refine Wtr.call rfl rfl (rdel_spec H (by ((repeat (apply Fresh.put; omega)); ((assumption)))) R3 (fun b hb => by have := e4 b hb; omega) id sq) ?_
        rintro v5 h5 c5 r5 w5 ⟨⟨rfl, q5⟩, x5⟩
        have y5 := x5.c
        dsimp only at y5 q5
        have B5 := x5.hs (b := c2) B3 (by omega) (fun q => by have := e4 _ q; omega)
        have C5 := C2.both (h2 := (((h2.set c2 _).set c2 _).set c2 _).set c2 _) (c2 := c2 + 1) e3 e4 (by omega) (by (repeat (first | (exact Kp.refl) | (apply Kp.set; (focus (left; omega)))))) x3 q3 (fun b hb => .inl hb) x5 q5 (fun b hb => hb)
        refine ⟨(by (repeat (first | (exact all_nil) | (apply all_cons; (focus ((left; dsimp only; decide +kernel))))))), ?_⟩
        (repeat (first | (with_reducible refine Then.go ?_) | (with_reducible refine Out.go ?_) | (with_reducible refine Wx.skip ?_) | (refine Wx.condF rfl (by rfl) ?_) | ((with_reducible refine Wtr.nil ?_); intro e he; (simp only [envOf_eq, keepFrom_cons, keepFrom_nil, flushE_mk, flL_cons, flL_nil, st_cons, st_nil, Nat.testBit, Nat.reduceShiftRight, Nat.reduceAnd, Nat.reduceBNe, Nat.reduceEqDiff, Nat.reduceAdd, ↓reduceIte, reduceCtorEq, Bool.false_eq_true] at he; subst he)) | ((with_reducible apply Wtr.stq (op := Op.binOp BinOp.neq _ _ _ _)); rfl; exact to_neIF rfl rfl (by omega))))
        exact CutQ.go (EA _ n k after c z (.pointer (some ⟨c2, 0, none⟩)) j10 j11 j12 j13 j14 j15 j16 j17 _ _ _ _ _ _ _ j163) (by unfold EA; (refine EqK.of ?_ ?_ <;> (repeat (first | (exact all_nil) | (apply all_cons; rfl))))) ⟨h5, c5, _, _, _, _, _, _, _, _, _, _, rfl, rfl, C5, B5, by omega⟩
      (repeat (first | (with_reducible refine Then.go ?_) | (with_reducible refine Wx.seq ?_) | (with_reducible refine Wx.block ?_) | (with_reducible refine Wx.reg ?_) | (refine Wx.dreg rfl ?_) | (refine Wx.condF rfl (by rfl) ?_) | ((with_reducible refine Wseq.nil ?_); intro e he; (simp only [envOf_eq, keepFrom_cons, keepFrom_nil, flushE_mk, flL_cons, flL_nil, st_cons, st_nil, Nat.testBit, Nat.reduceShiftRight, Nat.reduceAnd, Nat.reduceBNe, Nat.reduceEqDiff, Nat.reduceAdd, ↓reduceIte, reduceCtorEq, Bool.false_eq_true] at he; subst he)) | ((with_reducible apply Wseq.as); rfl; (intro v hv; (simp only [ev_tmp, ev_const, ev_global, ev_func, look_if, lk_nil, Nat.reduceEqDiff, eq_self, ↓reduceIte, reduceCtorEq, partsOf_arr, List.map_cons, List.map_nil] at hv); subst hv)) | ((with_reducible apply Wseq.stg (op := Op.binOp BinOp.eql _ _ _ _)); rfl; exact to_eqIF rfl rfl (by omega)) | ((with_reducible apply Wtr.mv); rfl; (intro v hv; (simp only [ev_tmp, ev_const, ev_global, ev_func, look_if, lk_nil, Nat.reduceEqDiff, eq_self, ↓reduceIte, reduceCtorEq, partsOf_arr, List.map_cons, List.map_nil] at hv); subst hv)) | ((with_reducible apply Wtr.stq (op := Op.fieldAddr _ _ _)); rfl; exact to_fieldAddr (fa_ rfl) rfl) | ((with_reducible apply Wtr.stx (op := Op.load _ _)); rfl; exact to_load (pl_ rfl) rfl (by (repeat ((exact Has.same.cel)))) (by omega) (by rfl); repeat ((exact all_nil)))))
      refine Wtr.call rfl rfl (msweep_spec (by ((repeat (apply Fresh.put; omega)); ((exact Fresh.up (by assumption) (by omega))))) (e1.keep (h' := (((h2.set c2 _).set c2 _).set c2 _).set c2 _) f2 fun b hb hl => by rw [get_other (by omega), get_other (by omega), get_other (by omega), get_other (by omega)]) sq) ?_
      rintro v3 h3 c3 r3 w3 ⟨⟨rfl, q3⟩, x3⟩
      have hw3 := OnlyW.of x3 rfl
      have y3 := x3.c
      dsimp only at y3 q3
      have f3 : Fresh h3 c3 := x3.fresh
      have kp3 := Kp.ext (W := fun _ => False) (h := h) (c := c) (h1 := (((h2.set c2 _).set c2 _).set c2 _).set c2 _) (by (repeat (first | (assumption) | (apply Kp.set; (focus (left; omega)))))) x3 (by omega) (fun b hb q => by omega)
      have B3 := x3.hs (b := c2) Has.same (by omega) (by omega)
      have R3 := e2.keep (h' := h3) f2 fun b hb hl => (x3.get (by omega) (by have := e4 b hb; omega)).trans (by rw [get_other (by omega), get_other (by omega), get_other (by omega), get_other (by omega)])
      refine ⟨(by (repeat (first | (exact all_nil) | (apply all_cons; (focus ((left; dsimp only; decide +kernel))))))), ?_⟩
      (repeat (first | ((with_reducible apply Wtr.mv); rfl; (intro v hv; (simp only [ev_tmp, ev_const, ev_global, ev_func, look_if, lk_nil, Nat.reduceEqDiff, eq_self, ↓reduceIte, reduceCtorEq, partsOf_arr, List.map_cons, List.map_nil] at hv); subst hv)) | ((with_reducible apply Wtr.stq (op := Op.fieldAddr _ _ _)); rfl; exact to_fieldAddr (fa_ rfl) rfl) | ((with_reducible apply Wtr.stx (op := Op.load _ _)); rfl; exact to_load (pl_ rfl) rfl (by (repeat ((apply Has.cel; assumption)))) (by omega) (by rfl); (focus (repeat (first | (exact all_nil) | (apply all_cons; (focus (first | (right; exact ApartP.rr) | (right; refine ApartP.ow (by assumption) ?_ ?_ <;> omega))))))))))
      refine Wtr.call rfl rfl (rsweep_spec H (by ((repeat (apply Fresh.put; omega)); ((assumption)))) R3 (fun b hb => by have := e4 b hb; omega) sq) ?_
      rintro v5 h5 c5 r5 w5 ⟨⟨rfl, q5⟩, x5⟩
      have y5 := x5.c
      dsimp only at y5 q5
      have B5 := x5.hs (b := c2) B3 (by omega) (fun q => by have := e4 _ q; omega)
      have C5 := C2.both (h2 := (((h2.set c2 _).set c2 _).set c2 _).set c2 _) (c2 := c2 + 1) e3 e4 (by omega) (by (repeat (first | (exact Kp.refl) | (apply Kp.set; (focus (left; omega)))))) x3 q3 (fun b hb => .inl hb) x5 q5 (fun b hb => hb)
      refine ⟨(by (repeat (first | (exact all_nil) | (apply all_cons; (focus ((left; dsimp only; decide +kernel))))))), ?_⟩
      (repeat (first | (with_reducible refine Then.go ?_) | (with_reducible refine Out.go ?_) | (with_reducible refine Wx.skip ?_) | (refine Wx.condF rfl (by rfl) ?_) | ((with_reducible refine Wtr.nil ?_); intro e he; (simp only [envOf_eq, keepFrom_cons, keepFrom_nil, flushE_mk, flL_cons, flL_nil, st_cons, st_nil, Nat.testBit, Nat.reduceShiftRight, Nat.reduceAnd, Nat.reduceBNe, Nat.reduceEqDiff, Nat.reduceAdd, ↓reduceIte, reduceCtorEq, Bool.false_eq_true] at he; subst he)) | ((with_reducible apply Wtr.stq (op := Op.binOp BinOp.neq _ _ _ _)); rfl; exact to_neIF rfl rfl (by omega))))
      exact CutQ.go (EA _ n k after c z (.pointer (some ⟨c2, 0, none⟩)) j10 j11 j12 j13 j14 j15 j16 j17 _ _ _ _ _ _ _ j163) (by unfold EA; (refine EqK.of ?_ ?_ <;> (repeat (first | (exact all_nil) | (apply all_cons; rfl))))) ⟨h5, c5, _, _, _, _, _, _, _, _, _, _, rfl, rfl, C5, B5, by omega⟩
    · clear C2 kp2 e1 e2 e3 e4 U V D1
      clear M
      rintro kk ss ⟨h3, c3, rl3, wl3, M, j31, j51, j60, j61, j84, j85, j100, rfl, rfl, C3, B3, y3⟩
      have f3 := C3.f
      have l3 := C3.le
      obtain ⟨hml, hrng⟩ := C3.rng
      have hzl : ∀ x, liveG id M = some x → ∃ zs : List Int, x.xs = zs.map (Value.int .i32) := fun x hx => by
        unfold liveG at hx
        cases h9 : getM id M with
        | none => rw [h9] at hx; cases hx
        | some r =>
          rw [h9] at hx
          simp only at hx
          split at hx
          · cases hx
          · cases hx
            exact (hrng x (getM_mem h9).1).2
      have hzn : ∀ x, nextM after M = some x → ∃ zs : List Int, x.xs = zs.map (Value.int .i32) := fun x hx => (hrng x (List.mem_of_find?_eq_some hx)).2
      have hbl : (rcO (liveG id M)).xs.length ≤ 9223372036854775807 := by
        cases h9 : liveG id M with
        | none => exact Nat.zero_le _
        | some x =>
          have : x ∈ M := by
            unfold liveG at h9
            cases h8 : getM id M with
            | none => rw [h8] at h9; cases h9
            | some r =>
              rw [h8] at h9
              simp only at h9
              split at h9
              · cases h9
              · cases h9
                exact (getM_mem h8).1
          have := (hrng x this).1
          unfold big at this
          show x.xs.length ≤ _
          omega
      have hbn : (rcO (nextM after M)).xs.length ≤ 9223372036854775807 := by
        cases h9 : nextM after M with
        | none => exact Nat.zero_le _
        | some x =>
          have := (hrng x (List.mem_of_find?_eq_some h9)).1
          unfold big at this
          show x.xs.length ≤ _
          omega
      unfold EA
      obtain ⟨U, V, e1, e2, e3, e4⟩ := C3.ex
      (repeat (first | (with_reducible refine Wx.seq ?_) | (with_reducible refine Wx.reg ?_) | ((with_reducible apply Wseq.mv); rfl; (intro v hv; (simp only [ev_tmp, ev_const, ev_global, ev_func, look_if, lk_nil, Nat.reduceEqDiff, eq_self, ↓reduceIte, reduceCtorEq, partsOf_arr, List.map_cons, List.map_nil] at hv); subst hv)) | ((with_reducible apply Wseq.stg (op := Op.fieldAddr _ _ _)); rfl; exact to_fieldAddr (fa_ rfl) rfl) | ((with_reducible apply Wseq.stg (op := Op.load _ _)); rfl; exact to_load (pl_ rfl) rfl (by (repeat ((apply Has.cel; assumption)))) (by omega) (by rfl))))
      refine Wseq.call rfl rfl (mget_spec H (by ((repeat (apply Fresh.put; omega)); ((assumption)))) e1 id) ?_
      rintro v4 h4 c4 r4 w4 ⟨hr, x4⟩
      obtain ⟨ia, aa, na, ka, pa, sa, ga, ba, rfl, hba, Ia⟩ := tellS hr hzl
      have C4 := C3.call x4
      have y4 := x4.c
      dsimp only at y4 Ia
      have f4 : Fresh h4 c4 := x4.fresh
      have B4 := x4.hs (b := c2) B3 (by omega) (fun q => q)
      (repeat (first | (with_reducible refine Then.go ?_) | (with_reducible refine Wx.seq ?_) | (with_reducible refine Wx.reg ?_) | ((with_reducible refine Wseq.nil ?_); intro e he; (simp only [envOf_eq, keepFrom_cons, keepFrom_nil, flushE_mk, flL_cons, flL_nil, st_cons, st_nil, Nat.testBit, Nat.reduceShiftRight, Nat.reduceAnd, Nat.reduceBNe, Nat.reduceEqDiff, Nat.reduceAdd, ↓reduceIte, reduceCtorEq, Bool.false_eq_true] at he; subst he)) | ((with_reducible apply Wseq.mv); rfl; (intro v hv; (simp only [ev_tmp, ev_const, ev_global, ev_func, look_if, lk_nil, Nat.reduceEqDiff, eq_self, ↓reduceIte, reduceCtorEq, partsOf_arr, List.map_cons, List.map_nil] at hv); subst hv)) | ((with_reducible apply Wseq.as); rfl; (intro v hv; (simp only [ev_tmp, ev_const, ev_global, ev_func, look_if, lk_nil, Nat.reduceEqDiff, eq_self, ↓reduceIte, reduceCtorEq, partsOf_arr, List.map_cons, List.map_nil] at hv); subst hv)) | ((with_reducible apply Wseq.so); rfl; exact (sz_ rfl); rfl; exact (by (repeat ((exact Has.same)))); omega; (intro v hv; (simp only [ev_tmp, ev_const, ev_global, ev_func, look_if, lk_nil, Nat.reduceEqDiff, eq_self, ↓reduceIte, reduceCtorEq, partsOf_arr, List.map_cons, List.map_nil] at hv); subst hv); refine ⟨_, _, (by ((exact cellsA_agg _))), rfl, rfl, ?_⟩) | ((with_reducible apply Wseq.stg (op := Op.fieldAddr _ _ _)); rfl; exact to_fieldAddr (fa_ rfl) rfl) | ((with_reducible apply Wseq.stg (op := Op.load _ _)); rfl; exact to_load (pl_ rfl) rfl (by (repeat (first | (apply Has.cel; assumption) | (apply Cel.other; omega)))) (by omega) (by rfl)) | ((with_reducible apply Wseq.stg (op := Op.alloc _)); rfl; exact to_alloc (ze_ rfl) (by ((exact cellsA_agg _))) (by ((repeat (apply Fresh.put; omega)); ((assumption))))) | ((with_reducible apply Wseq.stg (op := Op.extract _ _)); rfl; exact to_extract rfl rfl)))
      have C4' : SA h c ((h4.set c4 (some (.cells [.int .i64 0, .slice none 0 0, .string .empty, .int .i64 0, .bool false]))).set c4 (some (.cells [.int .i64 ia, .slice aa na ka, .string pa, .int .i64 sa, .bool ga]))) (c4 + 1) M := C4.keep (by ((repeat (apply Fresh.put; omega)); ((exact Fresh.up (by assumption) (by omega))))) (by omega) (by (repeat (first | (exact Kp.refl) | (apply Kp.set; (focus (left; omega))))))
      obtain ⟨U4, V4, e14, e24, e34, e44⟩ := C4'.ex
      obtain ⟨v4v, P4, I4⟩ := e24.view C4'.f
      refine Wseq.call rfl rfl (rget_spec H (by ((repeat (apply Fresh.put; omega)); ((exact Fresh.up (by assumption) (by omega))))) P4 I4 (by omega) id) ?_
      rintro v5 h5 c5 r5 w5 ⟨hr5, x5⟩
      obtain ⟨ib, ab, nb, kb, pb, sb, gb, bb, rfl, hbb, Ib⟩ := tellR hr5 hzl
      have C5 := C4'.call x5
      have y5 := x5.c
      dsimp only at y5 Ib
      replace Ib := Ib.keep C4'.f fun b hb => x5.get hb (fun q => q)
      have f5 : Fresh h5 c5 := x5.fresh
      have K5 : Kp h4 h5 c4 (fun _ => False) := fun b hb q => (x5.get (by omega) (fun q => q)).trans (by rw [get_other (by omega), get_other (by omega)])
      have B5 := x5.hs (b := c2) (Has.other (by omega) (Has.other (by omega) B4)) (by omega) (fun q => q)
      have A5 := x5.hs (b := c4) Has.same (by omega) (fun q => q)
      (repeat (first | (with_reducible refine Then.go ?_) | (with_reducible refine Wx.seq ?_) | (with_reducible refine Wx.reg ?_) | ((with_reducible refine Wseq.nil ?_); intro e he; (simp only [envOf_eq, keepFrom_cons, keepFrom_nil, flushE_mk, flL_cons, flL_nil, st_cons, st_nil, Nat.testBit, Nat.reduceShiftRight, Nat.reduceAnd, Nat.reduceBNe, Nat.reduceEqDiff, Nat.reduceAdd, ↓reduceIte, reduceCtorEq, Bool.false_eq_true] at he; subst he)) | ((with_reducible apply Wseq.mv); rfl; (intro v hv; (simp only [ev_tmp, ev_const, ev_global, ev_func, look_if, lk_nil, Nat.reduceEqDiff, eq_self, ↓reduceIte, reduceCtorEq, partsOf_arr, List.map_cons, List.map_nil] at hv); subst hv)) | ((with_reducible apply Wseq.as); rfl; (intro v hv; (simp only [ev_tmp, ev_const, ev_global, ev_func, look_if, lk_nil, Nat.reduceEqDiff, eq_self, ↓reduceIte, reduceCtorEq, partsOf_arr, List.map_cons, List.map_nil] at hv); subst hv)) | ((with_reducible apply Wseq.so); rfl; exact (sz_ rfl); rfl; exact (by (repeat ((exact Has.same)))); omega; (intro v hv; (simp only [ev_tmp, ev_const, ev_global, ev_func, look_if, lk_nil, Nat.reduceEqDiff, eq_self, ↓reduceIte, reduceCtorEq, partsOf_arr, List.map_cons, List.map_nil] at hv); subst hv); refine ⟨_, _, (by ((exact cellsA_agg _))), rfl, rfl, ?_⟩) | ((with_reducible apply Wseq.stg (op := Op.alloc _)); rfl; exact to_alloc (ze_ rfl) (by ((exact cellsA_agg _))) (by ((repeat (apply Fresh.put; omega)); ((assumption))))) | ((with_reducible apply Wseq.stg (op := Op.extract _ _)); rfl; exact to_extract rfl rfl)))
      have C5' : SA h c ((h5.set c5 (some (.cells [.int .i64 0, .slice none 0 0, .string .empty, .int .i64 0, .bool false]))).set c5 (some (.cells [.int .i64 ib, .slice ab nb kb, .string pb, .int .i64 sb, .bool gb]))) (c5 + 1) M := C5.keep (by ((repeat (apply Fresh.put; omega)); ((exact Fresh.up (by assumption) (by omega))))) (by omega) (by (repeat (first | (exact Kp.refl) | (apply Kp.set; (focus (left; omega))))))
      obtain ⟨U5, V5, e15, e25, e35, e45⟩ := C5'.ex
      refine Wseq.call rfl rfl (mnext_spec (by ((repeat (apply Fresh.put; omega)); ((exact Fresh.up (by assumption) (by omega))))) e15 after) ?_
      rintro v6 h6 c6 r6 w6 ⟨hr6, x6⟩
      obtain ⟨ic, ac, nc, kc, pc, sc, gc, bc, rfl, hbc, Ic⟩ := tellS hr6 hzn
      have C6 := C5'.call x6
      have y6 := x6.c
      dsimp only at y6 Ic
      have f6 : Fresh h6 c6 := x6.fresh
      have K6 : Kp h5 h6 c5 (fun _ => False) := fun b hb q => (x6.get (by omega) (fun q => q)).trans (by rw [get_other (by omega), get_other (by omega)])
      have A6 : Has h6 c4 _ := (K6 c4 (by omega) (fun q => q)).trans A5
      have A6' := x6.hs (b := c5) Has.same (by omega) (fun q => q)
      (repeat (first | (with_reducible refine Then.go ?_) | (with_reducible refine Wx.seq ?_) | (with_reducible refine Wx.reg ?_) | ((with_reducible refine Wseq.nil ?_); intro e he; (simp only [envOf_eq, keepFrom_cons, keepFrom_nil, flushE_mk, flL_cons, flL_nil, st_cons, st_nil, Nat.testBit, Nat.reduceShiftRight, Nat.reduceAnd, Nat.reduceBNe, Nat.reduceEqDiff, Nat.reduceAdd, ↓reduceIte, reduceCtorEq, Bool.false_eq_true] at he; subst he)) | ((with_reducible apply Wseq.mv); rfl; (intro v hv; (simp only [ev_tmp, ev_const, ev_global, ev_func, look_if, lk_nil, Nat.reduceEqDiff, eq_self, ↓reduceIte, reduceCtorEq, partsOf_arr, List.map_cons, List.map_nil] at hv); subst hv)) | ((with_reducible apply Wseq.as); rfl; (intro v hv; (simp only [ev_tmp, ev_const, ev_global, ev_func, look_if, lk_nil, Nat.reduceEqDiff, eq_self, ↓reduceIte, reduceCtorEq, partsOf_arr, List.map_cons, List.map_nil] at hv); subst hv)) | ((with_reducible apply Wseq.so); rfl; exact (sz_ rfl); rfl; exact (by (repeat ((exact Has.same)))); omega; (intro v hv; (simp only [ev_tmp, ev_const, ev_global, ev_func, look_if, lk_nil, Nat.reduceEqDiff, eq_self, ↓reduceIte, reduceCtorEq, partsOf_arr, List.map_cons, List.map_nil] at hv); subst hv); refine ⟨_, _, (by ((exact cellsA_agg _))), rfl, rfl, ?_⟩) | ((with_reducible apply Wseq.stg (op := Op.alloc _)); rfl; exact to_alloc (ze_ rfl) (by ((exact cellsA_agg _))) (by ((repeat (apply Fresh.put; omega)); ((assumption))))) | ((with_reducible apply Wseq.stg (op := Op.extract _ _)); rfl; exact to_extract rfl rfl)))
      have C6' : SA h c ((h6.set c6 (some (.cells [.int .i64 0, .slice none 0 0, .string .empty, .int .i64 0, .bool false]))).set c6 (some (.cells [.int .i64 ic, .slice ac nc kc, .string pc, .int .i64 sc, .bool gc]))) (c6 + 1) M := C6.keep (by ((repeat (apply Fresh.put; omega)); ((exact Fresh.up (by assumption) (by omega))))) (by omega) (by (repeat (first | (exact Kp.refl) | (apply Kp.set; (focus (left; omega))))))
      obtain ⟨U6, V6, e16, e26, e36, e46⟩ := C6'.ex
      obtain ⟨v6v, P6, I6⟩ := e26.view C6'.f
      refine Wseq.call rfl rfl (rnext_spec H (by ((repeat (apply Fresh.put; omega)); ((exact Fresh.up (by assumption) (by omega))))) P6 I6 (by omega) after) ?_
      rintro v7 h7 c7 r7 w7 ⟨hr7, x7⟩
      obtain ⟨id', ad, nd, kd', pd, sd, gd, bd, rfl, hbd, Id'⟩ := tellR hr7 hzn
      have C7 := C6'.call x7
      have y7 := x7.c
      dsimp only at y7 Id'
      replace Id' := Id'.keep C6'.f fun b hb => x7.get hb (fun q => q)
      have f7 : Fresh h7 c7 := x7.fresh
      have K7 : Kp h6 h7 c6 (fun _ => False) := fun b hb q => (x7.get (by omega) (fun q => q)).trans (by rw [get_other (by omega), get_other (by omega)])
      have A7 : Has h7 c4 _ := (K7 c4 (by omega) (fun q => q)).trans A6
      have A7' : Has h7 c5 _ := (K7 c5 (by omega) (fun q => q)).trans A6'
      have A7'' := x7.hs (b := c6) Has.same (by omega) (fun q => q)
      obtain rfl : ba = bb := hba.trans hbb.symm
      obtain rfl : bc = bd := hbc.trans hbd.symm
      (repeat (first | (with_reducible refine Then.go ?_) | (with_reducible refine Wx.seq ?_) | (refine Wx.dreg rfl ?_) | ((with_reducible refine Wseq.nil ?_); intro e he; (simp only [envOf_eq, keepFrom_cons, keepFrom_nil, flushE_mk, flL_cons, flL_nil, st_cons, st_nil, Nat.testBit, Nat.reduceShiftRight, Nat.reduceAnd, Nat.reduceBNe, Nat.reduceEqDiff, Nat.reduceAdd, ↓reduceIte, reduceCtorEq, Bool.false_eq_true] at he; subst he)) | ((with_reducible apply Wseq.mv); rfl; (intro v hv; (simp only [ev_tmp, ev_const, ev_global, ev_func, look_if, lk_nil, Nat.reduceEqDiff, eq_self, ↓reduceIte, reduceCtorEq, partsOf_arr, List.map_cons, List.map_nil] at hv); subst hv)) | ((with_reducible apply Wseq.as); rfl; (intro v hv; (simp only [ev_tmp, ev_const, ev_global, ev_func, look_if, lk_nil, Nat.reduceEqDiff, eq_self, ↓reduceIte, reduceCtorEq, partsOf_arr, List.map_cons, List.map_nil] at hv); subst hv)) | ((with_reducible apply Wseq.so); rfl; exact (sz_ rfl); rfl; exact (by (repeat ((exact Has.same)))); omega; (intro v hv; (simp only [ev_tmp, ev_const, ev_global, ev_func, look_if, lk_nil, Nat.reduceEqDiff, eq_self, ↓reduceIte, reduceCtorEq, partsOf_arr, List.map_cons, List.map_nil] at hv); subst hv); refine ⟨_, _, (by ((exact cellsA_agg _))), rfl, rfl, ?_⟩) | ((with_reducible apply Wseq.stg (op := Op.alloc _)); rfl; exact to_alloc (ze_ rfl) (by ((exact cellsA_agg _))) (by ((repeat (apply Fresh.put; omega)); ((assumption))))) | ((with_reducible apply Wseq.stg (op := Op.extract _ _)); rfl; exact to_extract rfl rfl) | ((with_reducible apply Wtr.mv); rfl; (intro v hv; (simp only [ev_tmp, ev_const, ev_global, ev_func, look_if, lk_nil, Nat.reduceEqDiff, eq_self, ↓reduceIte, reduceCtorEq, partsOf_arr, List.map_cons, List.map_nil] at hv); subst hv)) | ((with_reducible apply Wtr.stx (op := Op.load _ _)); rfl; exact to_loadS (ag_ rfl) rfl (by (repeat (first | (apply Has.cel; assumption) | (apply Cel.other; omega)))) (by omega) (by rfl); (focus (repeat (first | (exact all_nil) | (apply all_cons; (focus ((right; exact ApartP.rr)))))))) | ((with_reducible apply Wtr.stq (op := Op.binOp BinOp.neq _ _ _ _)); rfl; exact to_neBF (un_ rfl) rfl rfl rfl)))
      have C7' : SA h c ((h7.set c7 (some (.cells [.int .i64 0, .slice none 0 0, .string .empty, .int .i64 0, .bool false]))).set c7 (some (.cells [.int .i64 id', .slice ad nd kd', .string pd, .int .i64 sd, .bool gd]))) (c7 + 1) M := C7.keep (by ((repeat (apply Fresh.put; omega)); ((exact Fresh.up (by assumption) (by omega))))) (by omega) (by (repeat (first | (exact Kp.refl) | (apply Kp.set; (focus (left; omega))))))
      have f7' := C7'.f
      have K7' : Kp h7 ((h7.set c7 (some (.cells [.int .i64 0, .slice none 0 0, .string .empty, .int .i64 0, .bool false]))).set c7 (some (.cells [.int .i64 id', .slice ad nd kd', .string pd, .int .i64 sd, .bool gd]))) c7 (fun _ => False) := (by (repeat (first | (exact Kp.refl) | (apply Kp.set; (focus (left; omega))))))
      have Ka := fun b (hb : b < c4) => (K7' b (by omega) (fun q => q)).trans ((K7 b (by omega) (fun q => q)).trans ((K6 b (by omega) (fun q => q)).trans (K5 b hb (fun q => q))))
      have Kb := fun b (hb : b < c5) => (K7' b (by omega) (fun q => q)).trans ((K7 b (by omega) (fun q => q)).trans (K6 b hb (fun q => q)))
      have Kc := fun b (hb : b < c6) => (K7' b (by omega) (fun q => q)).trans (K7 b hb (fun q => q))
      refine Wtr.call rfl rfl (eqItem_spec H (by ((repeat (apply Fresh.put; omega)); ((exact Fresh.up (by assumption) (by omega))))) (r := rcO (liveG id M)) (r' := rcO (liveG id M)) (Ia.keep f4 Ka) (Ib.keep f5 Kb) hbl) ?_
      rintro v8 h8 c8 r8 w8 ⟨⟨q8, rfl, hq8⟩, x8⟩
      obtain rfl : q8 = true := hq8.2 rfl
      have C8 := C7'.call x8
      have hw8 : OnlyW w8 c := fun y hy => (x8.quiet (fun _ _ q => q) y hy).elim
      have y8 := x8.c
      dsimp only at y8
      have f8 : Fresh h8 c8 := x8.fresh
      have A8 := x8.hs (b := c5) (Has.other (by omega) (Has.other (by omega) A7')) (by omega) (fun q => q)
      have A8' := x8.hs (b := c6) (Has.other (by omega) (Has.other (by omega) A7'')) (by omega) (fun q => q)
      have A8'' := x8.hs (b := c7) Has.same (by omega) (fun q => q)
      refine ⟨(by (repeat (first | (exact all_nil) | (apply all_cons; (focus ((left; dsimp only; decide +kernel))))))), ?_⟩
      (repeat (first | ((with_reducible apply Wtr.mv); rfl; (intro v hv; (simp only [ev_tmp, ev_const, ev_global, ev_func, look_if, lk_nil, Nat.reduceEqDiff, eq_self, ↓reduceIte, reduceCtorEq, partsOf_arr, List.map_cons, List.map_nil] at hv); subst hv)) | ((with_reducible apply Wtr.pkF); rfl; rfl; (intro v hv; (simp only [ev_tmp, ev_const, ev_global, ev_func, look_if, lk_nil, Nat.reduceEqDiff, eq_self, ↓reduceIte, reduceCtorEq, partsOf_arr, List.map_cons, List.map_nil] at hv); subst hv)) | ((with_reducible apply Wtr.stx (op := Op.load _ _)); rfl; exact to_loadS (ag_ rfl) rfl (by (repeat ((apply Has.cel; assumption)))) (by omega) (by rfl); (focus (repeat (first | (exact all_nil) | (apply all_cons; (focus (first | (right; exact ApartP.rr) | (left; dsimp only; decide +kernel)))))))) | ((with_reducible apply Wtr.stq (op := Op.unOp UnOp.not _ _)); rfl; exact to_notT rfl) | ((with_reducible apply Wtr.stq (op := Op.binOp BinOp.neq _ _ _ _)); rfl; exact to_neBF (un_ rfl) rfl rfl rfl)))
      have Kz := fun b (hb : b < c7) => K7' b hb (fun q => q)
      refine Wtr.call rfl rfl (eqItem_spec H (by ((repeat (apply Fresh.put; omega)); ((assumption)))) (r := rcO (nextM after M)) (r' := rcO (nextM after M)) ((Ic.keep f6 Kc).keep f7' fun b hb => x8.get (by omega) (fun q => q)) ((Id'.keep f7 Kz).keep f7' fun b hb => x8.get (by omega) (fun q => q)) hbn) ?_
      rintro v9 h9 c9 r9 w9 ⟨⟨q9, rfl, hq9⟩, x9⟩
      obtain rfl : q9 = true := hq9.2 rfl
      have C9 := C8.call x9
      have hw9 : OnlyW w9 c := fun y hy => (x9.quiet (fun _ _ q => q) y hy).elim
      have f9 : Fresh h9 c9 := x9.fresh
      have y9 := x9.c
      dsimp only at y9
      refine ⟨(by (repeat (first | (exact all_nil) | (apply all_cons; (focus ((left; dsimp only; decide +kernel))))))), ?_⟩
      (repeat (first | ((with_reducible apply Wtr.mv); rfl; (intro v hv; (simp only [ev_tmp, ev_const, ev_global, ev_func, look_if, lk_nil, Nat.reduceEqDiff, eq_self, ↓reduceIte, reduceCtorEq, partsOf_arr, List.map_cons, List.map_nil] at hv); subst hv)) | ((with_reducible apply Wtr.pkF); rfl; rfl; (intro v hv; (simp only [ev_tmp, ev_const, ev_global, ev_func, look_if, lk_nil, Nat.reduceEqDiff, eq_self, ↓reduceIte, reduceCtorEq, partsOf_arr, List.map_cons, List.map_nil] at hv); subst hv)) | ((with_reducible apply Wtr.stq (op := Op.unOp UnOp.not _ _)); rfl; exact to_notT rfl)))
      obtain ⟨U9, V9, e19, e29, e39, e49⟩ := C9.ex
      refine Wtr.call rfl rfl (mlen_spec (by ((repeat (apply Fresh.put; omega)); ((assumption)))) e19) ?_
      rintro v10 h10 c10 r10 w10 ⟨rfl, x10⟩
      have C10 := C9.call x10
      have hw10 : OnlyW w10 c := fun y hy => (x10.quiet (fun _ _ q => q) y hy).elim
      have f10 : Fresh h10 c10 := x10.fresh
      have y10 := x10.c
      dsimp only at y10
      refine ⟨(by (repeat (first | (exact all_nil) | (apply all_cons; (focus ((left; dsimp only; decide +kernel))))))), ?_⟩
      (repeat (((with_reducible apply Wtr.mv); rfl; (intro v hv; (simp only [ev_tmp, ev_const, ev_global, ev_func, look_if, lk_nil, Nat.reduceEqDiff, eq_self, ↓reduceIte, reduceCtorEq, partsOf_arr, List.map_cons, List.map_nil] at hv); subst hv))))
      obtain ⟨U10, V10, e110, e210, e310, e410⟩ := C10.ex
      obtain ⟨vw, P10, I10⟩ := e210.view f10
      refine Wtr.call rfl rfl (rlen_spec H (by ((repeat (apply Fresh.put; omega)); ((assumption)))) P10 I10 (by omega)) ?_
      rintro v11 h11 c11 r11 w11 ⟨rfl, x11⟩
      have C11 := C10.call x11
      have hw11 : OnlyW w11 c := fun y hy => (x11.quiet (fun _ _ q => q) y hy).elim
      have f11 : Fresh h11 c11 := x11.fresh
      have y11 := x11.c
      dsimp only at y11
      refine ⟨(by (repeat (first | (exact all_nil) | (apply all_cons; (focus ((left; dsimp only; decide +kernel))))))), ?_⟩
      (repeat (first | ((with_reducible apply Wtr.mv); rfl; (intro v hv; (simp only [ev_tmp, ev_const, ev_global, ev_func, look_if, lk_nil, Nat.reduceEqDiff, eq_self, ↓reduceIte, reduceCtorEq, partsOf_arr, List.map_cons, List.map_nil] at hv); subst hv)) | ((with_reducible apply Wtr.pkF); rfl; rfl; (intro v hv; (simp only [ev_tmp, ev_const, ev_global, ev_func, look_if, lk_nil, Nat.reduceEqDiff, eq_self, ↓reduceIte, reduceCtorEq, partsOf_arr, List.map_cons, List.map_nil] at hv); subst hv)) | ((with_reducible apply Wtr.stq (op := Op.binOp BinOp.neq _ _ _ _)); rfl; exact to_neIF rfl rfl (by omega))))
      obtain ⟨U11, V11, e111, e211, e311, e411⟩ := C11.ex
      refine Wtr.call rfl rfl (mitems_spec (by ((repeat (apply Fresh.put; omega)); ((assumption)))) e111) ?_
      rintro v12 h12 c12 r12 w12 ⟨⟨l12, R12, hl12⟩, x12⟩
      have C12 := C11.call x12
      have hw12 : OnlyW w12 c := fun y hy => (x12.quiet (fun _ _ q => q) y hy).elim
      have f12 : Fresh h12 c12 := x12.fresh
      have y12 := x12.c
      dsimp only at y12 R12
      have I12 := R12.it f12 (fun r hr => (hrng r (by rw [← hl12]; exact hr)).2)
      rw [hl12] at I12
      refine ⟨(by (repeat (first | (exact all_nil) | (apply all_cons; (focus ((left; dsimp only; decide +kernel))))))), ?_⟩
      obtain ⟨U12, V12, e112, e212, e312, e412⟩ := C12.ex
      obtain ⟨vw, P12, J12⟩ := e212.view f12
      have lp12 := P12.lt f12
      have lc12 := C11.le
      (repeat (first | ((with_reducible apply Wtr.mv); rfl; (intro v hv; (simp only [ev_tmp, ev_const, ev_global, ev_func, look_if, lk_nil, Nat.reduceEqDiff, eq_self, ↓reduceIte, reduceCtorEq, partsOf_arr, List.map_cons, List.map_nil] at hv); subst hv)) | ((with_reducible apply Wtr.stq (op := Op.fieldAddr _ _ _)); rfl; exact to_fieldAddr (fa_ rfl) rfl) | ((with_reducible apply Wtr.stx (op := Op.load _ _)); rfl; exact to_load (pl_ rfl) rfl (by (repeat ((apply Has.cel; assumption)))) (by omega) (by rfl); (focus (repeat (first | (exact all_nil) | (apply all_cons; (focus (first | (right; exact ApartP.rr) | (left; dsimp only; decide +kernel) | (right; refine ApartP.ow (by assumption) ?_ ?_ <;> omega)))))))) | ((with_reducible apply Wtr.stq (op := Op.nilCheck _)); rfl; exact to_nilCheck rfl)))
      refine Wtr.call rfl rfl (itemsEq_spec H (by ((repeat (apply Fresh.put; omega)); ((assumption)))) I12 J12 (by omega) (fun r hr => by have := (hrng r hr).1; unfold big at this; omega)) ?_
      rintro v13 h13 c13 r13 w13 ⟨⟨q13, rfl, hq13⟩, x13⟩
      obtain rfl : q13 = true := hq13.2 rfl
      have C13 := C12.call x13
      refine ⟨(by (repeat (first | (exact all_nil) | (apply all_cons; (focus ((left; dsimp only; decide +kernel))))))), ?_⟩
      (repeat (first | (with_reducible refine Then.go ?_) | (with_reducible refine Out.go ?_) | (with_reducible refine Wx.skip ?_) | (with_reducible refine Wx.reg ?_) | (refine Wx.condF rfl (by rfl) ?_) | ((with_reducible refine Wseq.nil ?_); intro e he; (simp only [envOf_eq, keepFrom_cons, keepFrom_nil, flushE_mk, flL_cons, flL_nil, st_cons, st_nil, Nat.testBit, Nat.reduceShiftRight, Nat.reduceAnd, Nat.reduceBNe, Nat.reduceEqDiff, Nat.reduceAdd, ↓reduceIte, reduceCtorEq, Bool.false_eq_true] at he; subst he)) | ((with_reducible apply Wseq.mv); rfl; (intro v hv; (simp only [ev_tmp, ev_const, ev_global, ev_func, look_if, lk_nil, Nat.reduceEqDiff, eq_self, ↓reduceIte, reduceCtorEq, partsOf_arr, List.map_cons, List.map_nil] at hv); subst hv)) | ((with_reducible apply Wseq.as); rfl; (intro v hv; (simp only [ev_tmp, ev_const, ev_global, ev_func, look_if, lk_nil, Nat.reduceEqDiff, eq_self, ↓reduceIte, reduceCtorEq, partsOf_arr, List.map_cons, List.map_nil] at hv); subst hv)) | ((with_reducible apply Wseq.stg (op := Op.binOp BinOp.add _ _ _ _)); rfl; exact to_add rfl rfl (by omega) (by omega)) | ((with_reducible refine Wtr.nil ?_); intro e he; (simp only [envOf_eq, keepFrom_cons, keepFrom_nil, flushE_mk, flL_cons, flL_nil, st_cons, st_nil, Nat.testBit, Nat.reduceShiftRight, Nat.reduceAnd, Nat.reduceBNe, Nat.reduceEqDiff, Nat.reduceAdd, ↓reduceIte, reduceCtorEq, Bool.false_eq_true] at he; subst he)) | ((with_reducible apply Wtr.pkF); rfl; rfl; (intro v hv; (simp only [ev_tmp, ev_const, ev_global, ev_func, look_if, lk_nil, Nat.reduceEqDiff, eq_self, ↓reduceIte, reduceCtorEq, partsOf_arr, List.map_cons, List.map_nil] at hv); subst hv)) | ((with_reducible apply Wtr.stq (op := Op.unOp UnOp.not _ _)); rfl; exact to_notT rfl)))
      refine RoundE.go (50 - (i + 1)) (EA _ n k after c (z + 1) _ _ _ _ _ _ _ _ _ _ _ _ _ _ _ _ _) (by omega) (by unfold EA; (refine EqK.of ?_ ?_ <;> (repeat (first | (exact all_nil) | (apply all_cons; rfl))))) ⟨i + 1, z + 1, _, _, _, _, M, _, _, _, _, _, _, _, _, _, _, _, _, _, _, _, _, _, rfl, by omega, rfl, C13, by omega, rfl⟩
end Go.Ab.Seat
