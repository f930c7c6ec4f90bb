/- The reference's store is read (the abstract machine). -/
import Derived.Test.YthkmcfiijooddaaGreatDoorBST11
import Derived.Test.YthkmcfiijooddaaGreatDoorBSM4
set_option linter.unusedVariables false
set_option linter.unusedSimpArgs false
namespace Go.Ab.Seat
open Go.Extern Go.Proofs
set_option linter.unusedSimpArgs false
set_option linter.unusedVariables false
set_option maxRecDepth 4000
set_option pp.deepTerms false
set_option pp.deepTerms.threshold 6
variable {sm : Nat → Option (List Value → M Value)}

theorem sub_nth {cs : List Value} {o : Nat} {a0 a1 a2 a3 a4 : Value} (h : subN o 5 cs = some [a0, a1, a2, a3, a4]) : nth cs (o + 0) = some a0 ∧ nth cs (o + 3) = some a3 ∧ nth cs (o + 4) = some a4 := by
  have := (subN_some _ _ _ _ h).2.2
  refine ⟨?_, ?_, ?_⟩
  · rw [nth_eq, ← this 0 (by omega)]; rfl
  · rw [nth_eq, ← this 3 (by omega)]; rfl
  · rw [nth_eq, ← this 4 (by omega)]; rfl

theorem getM_skip {id : Int} : ∀ {rs : List Rc} {i : Nat}, (∀ r ∈ rs.take i, r.id ≠ id) → getM id rs = getM id (rs.drop i)
  | rs, 0, _ => rfl
  | [], i + 1, _ => rfl
  | r :: rs, i + 1, h => by
    have h1 := h r (List.mem_cons_self ..)
    rw [getM, if_neg h1, List.drop_succ_cons]
    exact getM_skip fun x hx => h x (List.mem_cons_of_mem _ hx)
theorem getM_at {id : Int} {rs : List Rc} {i : Nat} {x : Rc} (h : ∀ r ∈ rs.take i, r.id ≠ id) (hx : rs[i]? = some x) (hi : x.id = id) : getM id rs = some x := by
  obtain ⟨h1, rfl⟩ := List.getElem?_eq_some_iff.1 hx
  rw [getM_skip h, List.drop_eq_getElem_cons h1, getM, if_pos hi]
theorem take_snoc {rs : List Rc} {i : Nat} {x : Rc} (hx : rs[i]? = some x) : rs.take (i + 1) = rs.take i ++ [x] := by rw [List.take_add_one, hx]; rfl

def EP (p : Nat) (id : Int) (n : Nat) (z : Int) (j5 j12 j23 : Value) : L :=
  .cons 0 (.pointer (some ⟨p, 0, none⟩)) (.cons 1 (.int .i64 id) (.cons 4 (.int .i64 0) (.cons 5 j5 (.cons 10 (.int .i64 (n : Int)) (.cons 11 (.int .i64 z) (.cons 12 j12 (.cons 23 j23 .nil)))))))

theorem place_spec (H : Std sm) {h : T AObj} {c : Nat} {rl wl : List Nat} (hf : Fresh h c) {p c0 : Nat} {v : Value} {rs : List Rc} (hp : Has h p (.cells [v])) (hx : ItRow h c0 v rs) (hb : rs.length ≤ 1000000) (id : Int) :
    ∃ r s', FnTo (Cs sm) eg 65 [.pointer (some ⟨p, 0, none⟩), .int .i64 id] ⟨h, c, rl, wl⟩ r s' ∧ ((getM id rs = none ∧ r = .int .i64 (-1)) ∨ ∃ (k : Nat) (x : Rc), r = .int .i64 (k : Int) ∧ rs[k]? = some x ∧ getM id rs = some x) ∧ Ext ⟨h, c, rl, wl⟩ s' (fun _ => True) (fun _ => False) := by
  obtain ⟨oa, k, rfl, hc⟩ := hx.val
  have hpc := hp.lt hf
  generalize hn : rs.length = n at *
  refine Fn.go (H 65 rfl) ex65 fn65 km65 rfl rfl ?_
  intro e he
  (simp only [ke, Nat.testBit, Nat.reduceShiftRight, Nat.reduceAnd, Nat.reduceBNe, Nat.reduceEqDiff, Nat.reduceAdd, ↓reduceIte, reduceCtorEq, Bool.false_eq_true] at he; subst he)
  (repeat (first | (with_reducible refine Then.go ?_) | (with_reducible refine Wx.seq ?_) | (with_reducible refine Wx.block ?_) | (with_reducible refine Wx.reg ?_) | ((with_reducible refine Wseq.nil ?_); intro e he; (simp only [ke, Nat.testBit, Nat.reduceShiftRight, Nat.reduceAnd, Nat.reduceBNe, Nat.reduceEqDiff, Nat.reduceAdd, ↓reduceIte, reduceCtorEq, Bool.false_eq_true] at he; subst he)) | ((with_reducible apply Wseq.mv); rfl; (intro v hv; (simp only [kv, Nat.reduceEqDiff, eq_self, ↓reduceIte, reduceCtorEq, List.map_cons, List.map_nil] at hv); subst hv)) | ((with_reducible apply Wseq.as); rfl; (intro v hv; (simp only [kv, Nat.reduceEqDiff, eq_self, ↓reduceIte, reduceCtorEq, List.map_cons, List.map_nil] at hv); subst hv)) | ((with_reducible apply Wseq.stg (op := Op.fieldAddr _ _ _)); rfl; exact to_fieldAddr (fa_ rfl) rfl) | ((with_reducible apply Wseq.stg (op := Op.load _ _)); rfl; exact to_load (pl_ rfl) rfl (by (repeat ((apply Has.cel; assumption)))) (by omega) (by rfl)) | ((with_reducible apply Wseq.stg (op := Op.nilCheck _)); rfl; exact to_nilCheck rfl) | ((with_reducible apply Wseq.stg (op := Op.call ⟨Callee.builtin Builtin.len, _, _⟩)); rfl; exact to_lenS (sl_ rfl) rfl)))
  refine Wx.loopE (fun k1 e s => ∃ (i : Nat) (z : Int) (rl' : List Nat) (j5 j12 j23 : Value), e = EP p id n z j5 j12 j23 ∧ z = i ∧ s = ⟨h, c, rl', []⟩ ∧ Lg c (fun _ => True) rl' ∧ (∀ r ∈ rs.take i, r.id ≠ id) ∧ i ≤ n ∧ k1 = n - i) n (EP p id n 0 top top top) (by (repeat (first | (exact Resp.fn) | (apply Resp.then) | (apply Resp.out)))) ?_ ?_ ?_
  · unfold EP
    (refine EqK.of ?_ ?_ <;> (repeat (first | (exact all_nil) | (apply all_cons; rfl))))
  · exact ⟨0, 0, _, _, _, _, rfl, rfl, rfl, (by (repeat (first | (exact Lg.nil) | (apply Lg.cons; (focus ((right; (simp; done)))))))), (fun r hr => by cases hr), by omega, rfl⟩
  · rintro k1 e s ⟨i, z, rl', j5, j12, j23, rfl, hz, rfl, hlr, hno, hin, rfl⟩
    unfold EP
    by_cases hi : i < n
    · have hrs : rs[i]? = some rs[i] := List.getElem?_eq_getElem (by omega)
      generalize rs[i] = r at *
      obtain ⟨b1, o1, sp1, cs1, aw, kw, rfl, hc1, hn1, _⟩ := hc i r hrs
      obtain ⟨g0, g3, g4⟩ := sub_nth hn1
      have l1 := hc1.lt hf
      by_cases hid : r.id = id
      · (repeat (first | (with_reducible refine Then.go ?_) | (with_reducible refine Wx.seq ?_) | (with_reducible refine Wx.skip ?_) | (with_reducible refine Wx.block ?_) | (with_reducible refine Wx.reg ?_) | (refine Wx.condT rfl (by rfl) ?_) | ((with_reducible refine Wseq.nil ?_); intro e he; (simp only [ke, Nat.testBit, Nat.reduceShiftRight, Nat.reduceAnd, Nat.reduceBNe, Nat.reduceEqDiff, Nat.reduceAdd, ↓reduceIte, reduceCtorEq, Bool.false_eq_true] at he; subst he)) | ((with_reducible apply Wseq.mv); rfl; (intro v hv; (simp only [kv, Nat.reduceEqDiff, eq_self, ↓reduceIte, reduceCtorEq, List.map_cons, List.map_nil] at hv); subst hv)) | ((with_reducible apply Wseq.as); rfl; (intro v hv; (simp only [kv, Nat.reduceEqDiff, eq_self, ↓reduceIte, reduceCtorEq, List.map_cons, List.map_nil] at hv); subst hv)) | ((with_reducible apply Wseq.stg (op := Op.fieldAddr _ _ _)); rfl; exact to_fieldAddr (fa_ rfl) rfl) | ((with_reducible apply Wseq.stg (op := Op.load _ _)); rfl; exact to_load (pl_ rfl) rfl (by (repeat ((apply Has.cel; assumption)))) (by omega) (by rfl)) | ((with_reducible apply Wseq.stg (op := Op.nilCheck _)); rfl; exact to_nilCheck rfl) | ((with_reducible apply Wseq.stg (op := Op.binOp BinOp.lss _ _ _ _)); rfl; exact to_lssT rfl rfl (by omega))))
        ((with_reducible apply Wseq.stg); rfl; exact to_indexAddr (k := i) el49 rfl rfl hz (by omega))
        (repeat (((with_reducible apply Wseq.stg (op := Op.fieldAddr _ _ _)); rfl; exact to_fieldAddr (fa_ rfl) rfl)))
        ((with_reducible apply Wseq.stg); rfl; exact to_load (pl_ rfl) rfl hc1 (by omega) g0)
        (repeat (first | (with_reducible refine Then.go ?_) | (with_reducible refine Then.rt ?_) | (with_reducible refine Out.rt ?_) | (with_reducible refine Wx.seq ?_) | (with_reducible refine Wx.ret ?_) | (with_reducible refine Wx.reg ?_) | (with_reducible refine RoundE.rt ?_) | (refine Wx.condT rfl (by rfl) ?_) | ((with_reducible refine Wseq.nil ?_); intro e he; (simp only [ke, Nat.testBit, Nat.reduceShiftRight, Nat.reduceAnd, Nat.reduceBNe, Nat.reduceEqDiff, Nat.reduceAdd, ↓reduceIte, reduceCtorEq, Bool.false_eq_true] at he; subst he)) | ((with_reducible apply Wseq.mv); rfl; (intro v hv; (simp only [kv, Nat.reduceEqDiff, eq_self, ↓reduceIte, reduceCtorEq, List.map_cons, List.map_nil] at hv); subst hv)) | ((with_reducible apply Wseq.as); rfl; (intro v hv; (simp only [kv, Nat.reduceEqDiff, eq_self, ↓reduceIte, reduceCtorEq, List.map_cons, List.map_nil] at hv); subst hv)) | ((with_reducible apply Wseq.stg (op := Op.binOp BinOp.eql _ _ _ _)); rfl; exact to_eqIT rfl rfl (by omega))))
        refine ⟨.inr rfl, Wres.one rfl ⟨.inr ⟨i, r, by rw [hz]; rfl, hrs, getM_at hno hrs hid⟩, ?_⟩⟩
        (dsimp only; exact Ext.of (by omega) (by ((repeat (apply Fresh.put; omega)); ((assumption)))) (by (repeat ((exact Kp.refl)))) (by (repeat (first | (assumption) | (apply Lg.cons; (focus ((right; (simp; done)))))))) (by (repeat ((exact Lg.nil)))))
      · (repeat (first | (with_reducible refine Then.go ?_) | (with_reducible refine Wx.seq ?_) | (with_reducible refine Wx.skip ?_) | (with_reducible refine Wx.block ?_) | (with_reducible refine Wx.reg ?_) | (refine Wx.condT rfl (by rfl) ?_) | ((with_reducible refine Wseq.nil ?_); intro e he; (simp only [ke, Nat.testBit, Nat.reduceShiftRight, Nat.reduceAnd, Nat.reduceBNe, Nat.reduceEqDiff, Nat.reduceAdd, ↓reduceIte, reduceCtorEq, Bool.false_eq_true] at he; subst he)) | ((with_reducible apply Wseq.mv); rfl; (intro v hv; (simp only [kv, Nat.reduceEqDiff, eq_self, ↓reduceIte, reduceCtorEq, List.map_cons, List.map_nil] at hv); subst hv)) | ((with_reducible apply Wseq.as); rfl; (intro v hv; (simp only [kv, Nat.reduceEqDiff, eq_self, ↓reduceIte, reduceCtorEq, List.map_cons, List.map_nil] at hv); subst hv)) | ((with_reducible apply Wseq.stg (op := Op.fieldAddr _ _ _)); rfl; exact to_fieldAddr (fa_ rfl) rfl) | ((with_reducible apply Wseq.stg (op := Op.load _ _)); rfl; exact to_load (pl_ rfl) rfl (by (repeat ((apply Has.cel; assumption)))) (by omega) (by rfl)) | ((with_reducible apply Wseq.stg (op := Op.nilCheck _)); rfl; exact to_nilCheck rfl) | ((with_reducible apply Wseq.stg (op := Op.binOp BinOp.lss _ _ _ _)); rfl; exact to_lssT rfl rfl (by omega))))
        ((with_reducible apply Wseq.stg); rfl; exact to_indexAddr (k := i) el49 rfl rfl hz (by omega))
        (repeat (((with_reducible apply Wseq.stg (op := Op.fieldAddr _ _ _)); rfl; exact to_fieldAddr (fa_ rfl) rfl)))
        ((with_reducible apply Wseq.stg); rfl; exact to_load (pl_ rfl) rfl hc1 (by omega) g0)
        (repeat (first | (with_reducible refine Then.go ?_) | (with_reducible refine Out.go ?_) | (with_reducible refine Wx.skip ?_) | (with_reducible refine Wx.reg ?_) | (refine Wx.condF rfl (by rfl) ?_) | ((with_reducible refine Wseq.nil ?_); intro e he; (simp only [ke, Nat.testBit, Nat.reduceShiftRight, Nat.reduceAnd, Nat.reduceBNe, Nat.reduceEqDiff, Nat.reduceAdd, ↓reduceIte, reduceCtorEq, Bool.false_eq_true] at he; subst he)) | ((with_reducible apply Wseq.mv); rfl; (intro v hv; (simp only [kv, Nat.reduceEqDiff, eq_self, ↓reduceIte, reduceCtorEq, List.map_cons, List.map_nil] at hv); subst hv)) | ((with_reducible apply Wseq.stg (op := Op.binOp BinOp.add _ _ _ _)); rfl; exact to_add rfl rfl (by omega) (by omega)) | ((with_reducible apply Wseq.stg (op := Op.binOp BinOp.eql _ _ _ _)); rfl; exact to_eqIF rfl rfl (by omega))))
        refine RoundE.go (n - (i + 1)) (EP p id n (z + 1) _ _ _) (by omega) (by (refine EqK.of ?_ ?_ <;> (repeat (first | (exact all_nil) | (apply all_cons; rfl))))) ⟨i + 1, z + 1, _, _, _, _, rfl, by omega, rfl, (by (repeat (first | (assumption) | (apply Lg.cons; (focus ((right; (simp; done)))))))), fun x hx => ?_, by omega, rfl⟩
        rw [take_snoc hrs] at hx
        rcases List.mem_append.1 hx with hx | hx
        · exact hno x hx
        · obtain rfl := List.mem_singleton.1 hx
          exact hid
    · (repeat (first | (with_reducible refine Then.go ?_) | (with_reducible refine Then.ex ?_) | (with_reducible refine Out.hit ?_) | (with_reducible refine Wx.seq ?_) | (with_reducible refine Wx.exit ?_) | (with_reducible refine Wx.ret ?_) | (with_reducible refine Wx.reg ?_) | (with_reducible refine RoundE.ex ?_) | (refine Wx.condF rfl (by rfl) ?_) | ((with_reducible refine Wseq.nil ?_); intro e he; (simp only [ke, Nat.testBit, Nat.reduceShiftRight, Nat.reduceAnd, Nat.reduceBNe, Nat.reduceEqDiff, Nat.reduceAdd, ↓reduceIte, reduceCtorEq, Bool.false_eq_true] at he; subst he)) | ((with_reducible apply Wseq.as); rfl; (intro v hv; (simp only [kv, Nat.reduceEqDiff, eq_self, ↓reduceIte, reduceCtorEq, List.map_cons, List.map_nil] at hv); subst hv)) | ((with_reducible apply Wseq.stg (op := Op.binOp BinOp.lss _ _ _ _)); rfl; exact to_lssF rfl rfl (by omega))))
      refine ⟨.inr rfl, Wres.one rfl ⟨.inl ⟨?_, rfl⟩, ?_⟩⟩
      · rw [List.take_of_length_le (by omega)] at hno
        exact getM_none.2 hno
      · (dsimp only; exact Ext.of (by omega) (by ((repeat (apply Fresh.put; omega)); ((assumption)))) (by (repeat ((exact Kp.refl)))) (by (repeat ((assumption)))) (by (repeat ((exact Lg.nil)))))

/-- An item that is told: it lies in the store. -/
theorem rget_spec (H : Std sm) {h : T AObj} {c : Nat} {rl wl : List Nat} (hf : Fresh h c) {p c0 : Nat} {v : Value} {rs : List Rc} (hp : Has h p (.cells [v])) (hx : ItRow h c0 v rs) (hb : rs.length ≤ 1000000) (id : Int) :
    ∃ r s', FnTo (Cs sm) eg 25 [.pointer (some ⟨p, 0, none⟩), .int .i64 id] ⟨h, c, rl, wl⟩ r s' ∧ ((liveG id rs = none ∧ r = .tuple #[it0, .bool false]) ∨ ∃ x aw kw, liveG id rs = some x ∧ r = .tuple #[itv x.id (.slice aw x.xs.length kw) x.pay x.seq x.gone, .bool true] ∧ Row h (.slice aw x.xs.length kw) x.xs.length 1 x.xs) ∧ Ext ⟨h, c, rl, wl⟩ s' (fun _ => True) (fun _ => False) := by
  have hpc := hp.lt hf
  refine Fn.go (H 25 rfl) ex25 fn25 km25 rfl rfl ?_
  intro e he
  (simp only [ke, Nat.testBit, Nat.reduceShiftRight, Nat.reduceAnd, Nat.reduceBNe, Nat.reduceEqDiff, Nat.reduceAdd, ↓reduceIte, reduceCtorEq, Bool.false_eq_true] at he; subst he)
  (repeat (first | (with_reducible refine Then.go ?_) | (with_reducible refine Wx.seq ?_) | (with_reducible refine Wx.reg ?_) | ((with_reducible refine Wseq.nil ?_); intro e he; (simp only [ke, Nat.testBit, Nat.reduceShiftRight, Nat.reduceAnd, Nat.reduceBNe, Nat.reduceEqDiff, Nat.reduceAdd, ↓reduceIte, reduceCtorEq, Bool.false_eq_true] at he; subst he)) | ((with_reducible apply Wseq.mv); rfl; (intro v hv; (simp only [kv, Nat.reduceEqDiff, eq_self, ↓reduceIte, reduceCtorEq, List.map_cons, List.map_nil] at hv); subst hv)) | ((with_reducible apply Wseq.as); rfl; (intro v hv; (simp only [kv, Nat.reduceEqDiff, eq_self, ↓reduceIte, reduceCtorEq, List.map_cons, List.map_nil] at hv); subst hv)) | ((with_reducible apply Wseq.stg (op := Op.alloc _)); rfl; exact to_alloc (ze_ rfl) (by ((exact cellsA_agg _))) (by ((repeat (apply Fresh.put; omega)); ((assumption)))))))
  refine Wseq.call rfl rfl (place_spec H (by ((repeat (apply Fresh.put; omega)); ((exact Fresh.up (by assumption) (by omega))))) (v := v) (rs := rs) (c0 := c0) (Has.other (by omega) hp) (hx.keep hf fun b hb => get_other (by omega)) hb id) ?_
  rintro v1 h1 c1 r1 w1 ⟨hr, x1⟩
  have y1 := x1.c
  dsimp only at y1
  have f1 : Fresh h1 c1 := x1.fresh
  have B1 := x1.hs (b := c) Has.same (by omega) (fun q => q)
  have p1 := x1.hs (b := p) (Has.other (by omega) hp) (by omega) (fun q => q)
  have kp := Kp.ext (W := fun _ => False) (h := h) (c := c) (h1 := h.set c _) (by (repeat (first | (exact Kp.refl) | (apply Kp.set; (focus (left; omega)))))) x1 (by omega) (fun _ _ q => q)
  have lr := Lg.extR (R := fun _ => True) (c := c) (by (repeat ((exact Lg.nil)))) x1 (fun _ _ q => trivial)
  have lw := Lg.extW (W := fun _ => False) (c := c) (by (repeat ((exact Lg.nil)))) x1 (fun _ _ q => q)
  rcases hr with ⟨hg, rfl⟩ | ⟨k, x, rfl, hk, hg⟩
  · (repeat (first | (with_reducible refine Then.go ?_) | (with_reducible refine Then.rt ?_) | (with_reducible refine Wx.seq ?_) | (with_reducible refine Wx.ret ?_) | (with_reducible refine Wx.reg ?_) | (refine Wx.condT rfl (by rfl) ?_) | ((with_reducible refine Wseq.nil ?_); intro e he; (simp only [ke, Nat.testBit, Nat.reduceShiftRight, Nat.reduceAnd, Nat.reduceBNe, Nat.reduceEqDiff, Nat.reduceAdd, ↓reduceIte, reduceCtorEq, Bool.false_eq_true] at he; subst he)) | ((with_reducible apply Wseq.mv); rfl; (intro v hv; (simp only [kv, Nat.reduceEqDiff, eq_self, ↓reduceIte, reduceCtorEq, List.map_cons, List.map_nil] at hv); subst hv)) | ((with_reducible apply Wseq.as); rfl; (intro v hv; (simp only [kv, Nat.reduceEqDiff, eq_self, ↓reduceIte, reduceCtorEq, List.map_cons, List.map_nil] at hv); subst hv)) | ((with_reducible apply Wseq.pkT); rfl; rfl; (intro v hv; (simp only [kv, Nat.reduceEqDiff, eq_self, ↓reduceIte, reduceCtorEq, List.map_cons, List.map_nil] at hv); subst hv)) | ((with_reducible apply Wseq.bd); rfl; exact (bt_ rfl); (intro v hv; (simp only [kv, Nat.reduceEqDiff, eq_self, ↓reduceIte, reduceCtorEq, List.map_cons, List.map_nil] at hv); subst hv); refine ⟨_, rfl, ?_⟩) | ((with_reducible apply Wseq.so); rfl; exact (sz_ rfl); rfl; exact (by (repeat ((assumption)))); omega; (intro v hv; (simp only [kv, Nat.reduceEqDiff, eq_self, ↓reduceIte, reduceCtorEq, List.map_cons, List.map_nil] at hv); subst hv); refine ⟨_, _, (by ((exact cellsA_agg _))), rfl, rfl, ?_⟩) | ((with_reducible apply Wseq.stg (op := Op.binOp BinOp.lss _ _ _ _)); rfl; exact to_lssT rfl rfl (by omega)) | (refine Wseq.no rfl ?_)))
    refine ⟨.inr rfl, Wres.cellTmp rfl ag59 (by (repeat ((exact Has.same.cel)))) (by omega) (by rfl) rfl ⟨.inl ⟨by unfold liveG; rw [hg], rfl⟩, ?_⟩⟩
    (dsimp only; exact Ext.of (by omega) (by ((repeat (apply Fresh.put; omega)); ((assumption)))) (by (repeat (first | (assumption) | (apply Kp.set; (focus (left; omega)))))) (by (repeat (first | (assumption) | (apply Lg.cons; (focus (left; omega)))))) (by (repeat (first | (assumption) | (apply Lg.cons; (focus (left; omega)))))))
  · obtain ⟨oa, kk, rfl, hc⟩ := hx.val
    obtain ⟨b1, o1, sp1, cs1, aw, kw, rfl, hc1, hn1, hr1, _⟩ := hc k x hk
    obtain ⟨g0, g3, g4⟩ := sub_nth hn1
    have l1 := hc1.lt hf
    have D1 : Cel h1 b1 cs1 := by unfold Cel Has at hc1 ⊢; rw [kp b1 l1 (fun q => q)]; exact hc1
    have hkl : k < rs.length := (List.getElem?_eq_some_iff.1 hk).1
    obtain ⟨xid, xxs, xpay, xseq, xg⟩ := x
    dsimp only at hn1 hr1 g0 g3 g4
    cases xg with
    | true =>
      (repeat (first | (with_reducible refine Then.go ?_) | (with_reducible refine Wx.seq ?_) | (with_reducible refine Wx.reg ?_) | ((with_reducible refine Wseq.nil ?_); intro e he; (simp only [ke, Nat.testBit, Nat.reduceShiftRight, Nat.reduceAnd, Nat.reduceBNe, Nat.reduceEqDiff, Nat.reduceAdd, ↓reduceIte, reduceCtorEq, Bool.false_eq_true] at he; subst he)) | ((with_reducible apply Wseq.mv); rfl; (intro v hv; (simp only [kv, Nat.reduceEqDiff, eq_self, ↓reduceIte, reduceCtorEq, List.map_cons, List.map_nil] at hv); subst hv)) | ((with_reducible apply Wseq.as); rfl; (intro v hv; (simp only [kv, Nat.reduceEqDiff, eq_self, ↓reduceIte, reduceCtorEq, List.map_cons, List.map_nil] at hv); subst hv)) | ((with_reducible apply Wseq.stg (op := Op.fieldAddr _ _ _)); rfl; exact to_fieldAddr (fa_ rfl) rfl) | ((with_reducible apply Wseq.stg (op := Op.load _ _)); rfl; exact to_load (pl_ rfl) rfl (by (repeat ((apply Has.cel; assumption)))) (by omega) (by rfl)) | ((with_reducible apply Wseq.stg (op := Op.nilCheck _)); rfl; exact to_nilCheck rfl) | ((with_reducible apply Wseq.stg (op := Op.binOp BinOp.lss _ _ _ _)); rfl; exact to_lssF rfl rfl (by omega))))
      ((with_reducible apply Wseq.stg); rfl; exact to_indexAddr (k := k) el49 rfl rfl rfl (by omega))
      (repeat (((with_reducible apply Wseq.stg (op := Op.fieldAddr _ _ _)); rfl; exact to_fieldAddr (fa_ rfl) rfl)))
      ((with_reducible apply Wseq.stg); rfl; exact to_load (pl_ rfl) rfl D1 (by omega) g4)
      (repeat (first | (with_reducible refine Then.go ?_) | (with_reducible refine Then.rt ?_) | (with_reducible refine Wx.seq ?_) | (with_reducible refine Wx.ret ?_) | (with_reducible refine Wx.reg ?_) | (refine Wx.condT rfl (by rfl) ?_) | ((with_reducible refine Wseq.nil ?_); intro e he; (simp only [ke, Nat.testBit, Nat.reduceShiftRight, Nat.reduceAnd, Nat.reduceBNe, Nat.reduceEqDiff, Nat.reduceAdd, ↓reduceIte, reduceCtorEq, Bool.false_eq_true] at he; subst he)) | ((with_reducible apply Wseq.as); rfl; (intro v hv; (simp only [kv, Nat.reduceEqDiff, eq_self, ↓reduceIte, reduceCtorEq, List.map_cons, List.map_nil] at hv); subst hv)) | ((with_reducible apply Wseq.pkF); rfl; rfl; (intro v hv; (simp only [kv, Nat.reduceEqDiff, eq_self, ↓reduceIte, reduceCtorEq, List.map_cons, List.map_nil] at hv); subst hv)) | ((with_reducible apply Wseq.bd); rfl; exact (bt_ rfl); (intro v hv; (simp only [kv, Nat.reduceEqDiff, eq_self, ↓reduceIte, reduceCtorEq, List.map_cons, List.map_nil] at hv); subst hv); refine ⟨_, rfl, ?_⟩) | ((with_reducible apply Wseq.so); rfl; exact (sz_ rfl); rfl; exact (by (repeat ((assumption)))); omega; (intro v hv; (simp only [kv, Nat.reduceEqDiff, eq_self, ↓reduceIte, reduceCtorEq, List.map_cons, List.map_nil] at hv); subst hv); refine ⟨_, _, (by ((exact cellsA_agg _))), rfl, rfl, ?_⟩)))
      refine ⟨.inr rfl, Wres.cellTmp rfl ag59 (by (repeat ((exact Has.same.cel)))) (by omega) (by rfl) rfl ⟨.inl ⟨by unfold liveG; rw [hg]; rfl, rfl⟩, ?_⟩⟩
      (dsimp only; exact Ext.of (by omega) (by ((repeat (apply Fresh.put; omega)); ((assumption)))) (by (repeat (first | (assumption) | (apply Kp.set; (focus (left; omega)))))) (by (repeat (first | (assumption) | (apply Lg.cons; (focus (first | (left; omega) | (right; (simp; done)))))))) (by (repeat (first | (assumption) | (apply Lg.cons; (focus (left; omega)))))))
    | false =>
      (repeat (first | (with_reducible refine Then.go ?_) | (with_reducible refine Wx.seq ?_) | (with_reducible refine Wx.reg ?_) | ((with_reducible refine Wseq.nil ?_); intro e he; (simp only [ke, Nat.testBit, Nat.reduceShiftRight, Nat.reduceAnd, Nat.reduceBNe, Nat.reduceEqDiff, Nat.reduceAdd, ↓reduceIte, reduceCtorEq, Bool.false_eq_true] at he; subst he)) | ((with_reducible apply Wseq.mv); rfl; (intro v hv; (simp only [kv, Nat.reduceEqDiff, eq_self, ↓reduceIte, reduceCtorEq, List.map_cons, List.map_nil] at hv); subst hv)) | ((with_reducible apply Wseq.as); rfl; (intro v hv; (simp only [kv, Nat.reduceEqDiff, eq_self, ↓reduceIte, reduceCtorEq, List.map_cons, List.map_nil] at hv); subst hv)) | ((with_reducible apply Wseq.stg (op := Op.fieldAddr _ _ _)); rfl; exact to_fieldAddr (fa_ rfl) rfl) | ((with_reducible apply Wseq.stg (op := Op.load _ _)); rfl; exact to_load (pl_ rfl) rfl (by (repeat ((apply Has.cel; assumption)))) (by omega) (by rfl)) | ((with_reducible apply Wseq.stg (op := Op.nilCheck _)); rfl; exact to_nilCheck rfl) | ((with_reducible apply Wseq.stg (op := Op.binOp BinOp.lss _ _ _ _)); rfl; exact to_lssF rfl rfl (by omega))))
      ((with_reducible apply Wseq.stg); rfl; exact to_indexAddr (k := k) el49 rfl rfl rfl (by omega))
      (repeat (((with_reducible apply Wseq.stg (op := Op.fieldAddr _ _ _)); rfl; exact to_fieldAddr (fa_ rfl) rfl)))
      ((with_reducible apply Wseq.stg); rfl; exact to_load (pl_ rfl) rfl D1 (by omega) g4)
      (repeat (first | (with_reducible refine Then.go ?_) | (with_reducible refine Wx.seq ?_) | (with_reducible refine Wx.skip ?_) | (with_reducible refine Wx.reg ?_) | (refine Wx.condF rfl (by rfl) ?_) | ((with_reducible refine Wseq.nil ?_); intro e he; (simp only [ke, Nat.testBit, Nat.reduceShiftRight, Nat.reduceAnd, Nat.reduceBNe, Nat.reduceEqDiff, Nat.reduceAdd, ↓reduceIte, reduceCtorEq, Bool.false_eq_true] at he; subst he)) | ((with_reducible apply Wseq.mv); rfl; (intro v hv; (simp only [kv, Nat.reduceEqDiff, eq_self, ↓reduceIte, reduceCtorEq, List.map_cons, List.map_nil] at hv); subst hv)) | ((with_reducible apply Wseq.pkF); rfl; rfl; (intro v hv; (simp only [kv, Nat.reduceEqDiff, eq_self, ↓reduceIte, reduceCtorEq, List.map_cons, List.map_nil] at hv); subst hv)) | ((with_reducible apply Wseq.stg (op := Op.fieldAddr _ _ _)); rfl; exact to_fieldAddr (fa_ rfl) rfl) | ((with_reducible apply Wseq.stg (op := Op.load _ _)); rfl; exact to_load (pl_ rfl) rfl (by (repeat ((apply Has.cel; assumption)))) (by omega) (by rfl)) | ((with_reducible apply Wseq.stg (op := Op.nilCheck _)); rfl; exact to_nilCheck rfl)))
      ((with_reducible apply Wseq.stg); rfl; exact to_indexAddr (k := k) el49 rfl rfl rfl (by omega))
      ((with_reducible apply Wseq.stg); rfl; exact to_loadS ag59 rfl D1 (by omega) hn1)
      (repeat (first | (with_reducible refine Then.go ?_) | (with_reducible refine Wx.ret ?_) | ((with_reducible refine Wseq.nil ?_); intro e he; (simp only [ke, Nat.testBit, Nat.reduceShiftRight, Nat.reduceAnd, Nat.reduceBNe, Nat.reduceEqDiff, Nat.reduceAdd, ↓reduceIte, reduceCtorEq, Bool.false_eq_true] at he; subst he)) | ((with_reducible apply Wseq.as); rfl; (intro v hv; (simp only [kv, Nat.reduceEqDiff, eq_self, ↓reduceIte, reduceCtorEq, List.map_cons, List.map_nil] at hv); subst hv)) | ((with_reducible apply Wseq.so); rfl; exact (sz_ rfl); rfl; exact (by (repeat ((assumption)))); omega; (intro v hv; (simp only [kv, Nat.reduceEqDiff, eq_self, ↓reduceIte, reduceCtorEq, List.map_cons, List.map_nil] at hv); subst hv); refine ⟨_, _, (by ((exact cellsA_agg _))), rfl, rfl, ?_⟩)))
      refine ⟨.inr rfl, Wres.cellTmp rfl ag59 (by (repeat ((exact Has.same.cel)))) (by omega) (by rfl) rfl ⟨.inr ⟨⟨xid, xxs, xpay, xseq, false⟩, aw, kw, by unfold liveG; rw [hg]; rfl, rfl, hr1⟩, ?_⟩⟩
      (dsimp only; exact Ext.of (by omega) (by ((repeat (apply Fresh.put; omega)); ((assumption)))) (by (repeat (first | (assumption) | (apply Kp.set; (focus (left; omega)))))) (by (repeat (first | (assumption) | (apply Lg.cons; (focus (first | (left; omega) | (right; (simp; done)))))))) (by (repeat (first | (assumption) | (apply Lg.cons; (focus (left; omega)))))))

def EX (p c : Nat) (after : Int) (n : Nat) (z : Int) (j6 j13 j35 : Value) : L :=
  .cons 0 (.pointer (some ⟨p, 0, none⟩)) (.cons 1 (.int .i64 after) (.cons 4 (.pointer (some ⟨c, 0, none⟩)) (.cons 5 (.bool false) (.cons 6 j6 (.cons 11 (.int .i64 (n : Int)) (.cons 12 (.int .i64 z) (.cons 13 j13 (.cons 35 j35 .nil))))))))

theorem rnext_spec (H : Std sm) {h : T AObj} {c : Nat} {rl wl : List Nat} (hf : Fresh h c) {p c0 : Nat} {v : Value} {rs : List Rc} (hp : Has h p (.cells [v])) (hx : ItRow h c0 v rs) (hb : rs.length ≤ 1000000) (after : Int) :
    ∃ r s', FnTo (Cs sm) eg 36 [.pointer (some ⟨p, 0, none⟩), .int .i64 after] ⟨h, c, rl, wl⟩ r s' ∧ ((nextM after rs = none ∧ r = .tuple #[it0, .bool false]) ∨ ∃ x aw kw, nextM after rs = some x ∧ r = .tuple #[itv x.id (.slice aw x.xs.length kw) x.pay x.seq x.gone, .bool true] ∧ Row h (.slice aw x.xs.length kw) x.xs.length 1 x.xs) ∧ Ext ⟨h, c, rl, wl⟩ s' (fun _ => True) (fun _ => False) := by
  obtain ⟨oa, k, rfl, hc⟩ := hx.val
  have hpc := hp.lt hf
  generalize hn : rs.length = n at *
  refine Fn.go (H 36 rfl) ex36 fn36 km36 rfl rfl ?_
  intro e he
  (simp only [ke, Nat.testBit, Nat.reduceShiftRight, Nat.reduceAnd, Nat.reduceBNe, Nat.reduceEqDiff, Nat.reduceAdd, ↓reduceIte, reduceCtorEq, Bool.false_eq_true] at he; subst he)
  (repeat (first | (with_reducible refine Then.go ?_) | (with_reducible refine Wx.seq ?_) | (with_reducible refine Wx.block ?_) | (with_reducible refine Wx.reg ?_) | ((with_reducible refine Wseq.nil ?_); intro e he; (simp only [ke, Nat.testBit, Nat.reduceShiftRight, Nat.reduceAnd, Nat.reduceBNe, Nat.reduceEqDiff, Nat.reduceAdd, ↓reduceIte, reduceCtorEq, Bool.false_eq_true] at he; subst he)) | ((with_reducible apply Wseq.mv); rfl; (intro v hv; (simp only [kv, Nat.reduceEqDiff, eq_self, ↓reduceIte, reduceCtorEq, List.map_cons, List.map_nil] at hv); subst hv)) | ((with_reducible apply Wseq.as); rfl; (intro v hv; (simp only [kv, Nat.reduceEqDiff, eq_self, ↓reduceIte, reduceCtorEq, List.map_cons, List.map_nil] at hv); subst hv)) | ((with_reducible apply Wseq.stg (op := Op.fieldAddr _ _ _)); rfl; exact to_fieldAddr (fa_ rfl) rfl) | ((with_reducible apply Wseq.stg (op := Op.load _ _)); rfl; exact to_load (pl_ rfl) rfl (by (repeat (first | (apply Has.cel; assumption) | (apply Cel.other; omega)))) (by omega) (by rfl)) | ((with_reducible apply Wseq.stg (op := Op.nilCheck _)); rfl; exact to_nilCheck rfl) | ((with_reducible apply Wseq.stg (op := Op.alloc _)); rfl; exact to_alloc (ze_ rfl) (by ((exact cellsA_agg _))) (by ((repeat (apply Fresh.put; omega)); ((assumption))))) | ((with_reducible apply Wseq.stg (op := Op.call ⟨Callee.builtin Builtin.len, _, _⟩)); rfl; exact to_lenS (sl_ rfl) rfl)))
  refine Wx.loopE (fun k1 e s => ∃ (i : Nat) (z : Int) (rl' : List Nat) (j6 j13 j35 : Value), e = EX p c after n z j6 j13 j35 ∧ z = i ∧ s = ⟨h.set c (some (.cells [.int .i64 0, .slice none 0 0, .string .empty, .int .i64 0, .bool false])), c + 1, rl', []⟩ ∧ Lg c (fun _ => True) rl' ∧ (∀ r ∈ rs.take i, ¬(after < r.id ∧ r.gone = false)) ∧ i ≤ n ∧ k1 = n - i) n (EX p c after n 0 top top top) (by (repeat (first | (exact Resp.fn) | (apply Resp.then) | (apply Resp.out)))) ?_ ?_ ?_
  · unfold EX
    (refine EqK.of ?_ ?_ <;> (repeat (first | (exact all_nil) | (apply all_cons; rfl))))
  · exact ⟨0, 0, _, _, _, _, rfl, rfl, rfl, (by (repeat (first | (exact Lg.nil) | (apply Lg.cons; (focus ((right; (simp; done)))))))), (fun r hr => by cases hr), by omega, rfl⟩
  · rintro k1 e s ⟨i, z, rl', j6, j13, j35, rfl, hz, rfl, hlr, hno, hin, rfl⟩
    unfold EX
    have hskip : ∀ r ∈ rs.take i, (decide (after < r.id) && !r.gone) = false := by
      intro r hr
      have := hno r hr
      cases hg : r.gone with
      | true => simp
      | false =>
        rw [hg] at this
        simpa using this
    by_cases hi : i < n
    · have hrs : rs[i]? = some rs[i] := List.getElem?_eq_getElem (by omega)
      generalize rs[i] = r at *
      obtain ⟨b1, o1, sp1, cs1, aw, kw, rfl, hc1, hn1, hr1, _⟩ := hc i r hrs
      obtain ⟨g0, g3, g4⟩ := sub_nth hn1
      have l1 := hc1.lt hf
      have D1 : ∀ x, Cel (h.set c x) b1 cs1 := fun x => Cel.other (by omega) hc1
      have step : ∀ (hcond : ¬(after < r.id ∧ r.gone = false)) (x : Rc), x ∈ rs.take (i + 1) → ¬(after < x.id ∧ x.gone = false) := by
        intro hcond x hx
        rw [take_snoc hrs] at hx
        rcases List.mem_append.1 hx with hx | hx
        · exact hno x hx
        · obtain rfl := List.mem_singleton.1 hx
          exact hcond
      obtain ⟨xid, xxs, xpay, xseq, xg⟩ := r
      dsimp only at hn1 hr1 g0 g3 g4 step
      by_cases hid : after < xid
      · cases xg with
        | true =>
          (repeat (first | (with_reducible refine Then.go ?_) | (with_reducible refine Wx.seq ?_) | (with_reducible refine Wx.skip ?_) | (with_reducible refine Wx.block ?_) | (with_reducible refine Wx.reg ?_) | (refine Wx.condT rfl (by rfl) ?_) | ((with_reducible refine Wseq.nil ?_); intro e he; (simp only [ke, Nat.testBit, Nat.reduceShiftRight, Nat.reduceAnd, Nat.reduceBNe, Nat.reduceEqDiff, Nat.reduceAdd, ↓reduceIte, reduceCtorEq, Bool.false_eq_true] at he; subst he)) | ((with_reducible apply Wseq.mv); rfl; (intro v hv; (simp only [kv, Nat.reduceEqDiff, eq_self, ↓reduceIte, reduceCtorEq, List.map_cons, List.map_nil] at hv); subst hv)) | ((with_reducible apply Wseq.as); rfl; (intro v hv; (simp only [kv, Nat.reduceEqDiff, eq_self, ↓reduceIte, reduceCtorEq, List.map_cons, List.map_nil] at hv); subst hv)) | ((with_reducible apply Wseq.stg (op := Op.fieldAddr _ _ _)); rfl; exact to_fieldAddr (fa_ rfl) rfl) | ((with_reducible apply Wseq.stg (op := Op.load _ _)); rfl; exact to_load (pl_ rfl) rfl (by (repeat (first | (apply Has.cel; assumption) | (apply Cel.other; omega)))) (by omega) (by rfl)) | ((with_reducible apply Wseq.stg (op := Op.nilCheck _)); rfl; exact to_nilCheck rfl) | ((with_reducible apply Wseq.stg (op := Op.binOp BinOp.lss _ _ _ _)); rfl; exact to_lssT rfl rfl (by omega))))
          ((with_reducible apply Wseq.stg); rfl; exact to_indexAddr (k := i) el49 rfl rfl hz (by omega))
          (repeat (((with_reducible apply Wseq.stg (op := Op.fieldAddr _ _ _)); rfl; exact to_fieldAddr (fa_ rfl) rfl)))
          ((with_reducible apply Wseq.stg); rfl; exact to_load (pl_ rfl) rfl (D1 _) (by omega) g0)
          (repeat (first | ((with_reducible apply Wseq.mv); rfl; (intro v hv; (simp only [kv, Nat.reduceEqDiff, eq_self, ↓reduceIte, reduceCtorEq, List.map_cons, List.map_nil] at hv); subst hv)) | ((with_reducible apply Wseq.stg (op := Op.fieldAddr _ _ _)); rfl; exact to_fieldAddr (fa_ rfl) rfl) | ((with_reducible apply Wseq.stg (op := Op.load _ _)); rfl; exact to_load (pl_ rfl) rfl (by (repeat (first | (apply Has.cel; assumption) | (apply Cel.other; omega)))) (by omega) (by rfl)) | ((with_reducible apply Wseq.stg (op := Op.nilCheck _)); rfl; exact to_nilCheck rfl) | ((with_reducible apply Wseq.stg (op := Op.binOp BinOp.gtr _ _ _ _)); rfl; exact to_gtrT rfl rfl (by omega))))
          ((with_reducible apply Wseq.stg); rfl; exact to_indexAddr (k := i) el49 rfl rfl hz (by omega))
          (repeat (((with_reducible apply Wseq.stg (op := Op.fieldAddr _ _ _)); rfl; exact to_fieldAddr (fa_ rfl) rfl)))
          ((with_reducible apply Wseq.stg); rfl; exact to_load (pl_ rfl) rfl (D1 _) (by omega) g4)
          (repeat (first | (with_reducible refine Then.go ?_) | (with_reducible refine Out.go ?_) | (with_reducible refine Wx.skip ?_) | (with_reducible refine Wx.reg ?_) | (refine Wx.condF rfl (by rfl) ?_) | ((with_reducible refine Wseq.nil ?_); intro e he; (simp only [ke, Nat.testBit, Nat.reduceShiftRight, Nat.reduceAnd, Nat.reduceBNe, Nat.reduceEqDiff, Nat.reduceAdd, ↓reduceIte, reduceCtorEq, Bool.false_eq_true] at he; subst he)) | ((with_reducible apply Wseq.mv); rfl; (intro v hv; (simp only [kv, Nat.reduceEqDiff, eq_self, ↓reduceIte, reduceCtorEq, List.map_cons, List.map_nil] at hv); subst hv)) | ((with_reducible apply Wseq.pkT); rfl; rfl; (intro v hv; (simp only [kv, Nat.reduceEqDiff, eq_self, ↓reduceIte, reduceCtorEq, List.map_cons, List.map_nil] at hv); subst hv)) | ((with_reducible apply Wseq.stg (op := Op.unOp UnOp.not _ _)); rfl; exact to_notT rfl) | ((with_reducible apply Wseq.stg (op := Op.binOp BinOp.add _ _ _ _)); rfl; exact to_add rfl rfl (by omega) (by omega))))
          refine RoundE.go (n - (i + 1)) (EX p c after n (z + 1) _ _ _) (by omega) (by (refine EqK.of ?_ ?_ <;> (repeat (first | (exact all_nil) | (apply all_cons; rfl))))) ⟨i + 1, z + 1, _, _, _, _, rfl, by omega, rfl, (by (repeat (first | (assumption) | (apply Lg.cons; (focus ((right; (simp; done)))))))), step (fun h => by cases h.2), by omega, rfl⟩
        | false =>
          (repeat (first | (with_reducible refine Then.go ?_) | (with_reducible refine Wx.seq ?_) | (with_reducible refine Wx.skip ?_) | (with_reducible refine Wx.block ?_) | (with_reducible refine Wx.reg ?_) | (refine Wx.condT rfl (by rfl) ?_) | ((with_reducible refine Wseq.nil ?_); intro e he; (simp only [ke, Nat.testBit, Nat.reduceShiftRight, Nat.reduceAnd, Nat.reduceBNe, Nat.reduceEqDiff, Nat.reduceAdd, ↓reduceIte, reduceCtorEq, Bool.false_eq_true] at he; subst he)) | ((with_reducible apply Wseq.mv); rfl; (intro v hv; (simp only [kv, Nat.reduceEqDiff, eq_self, ↓reduceIte, reduceCtorEq, List.map_cons, List.map_nil] at hv); subst hv)) | ((with_reducible apply Wseq.as); rfl; (intro v hv; (simp only [kv, Nat.reduceEqDiff, eq_self, ↓reduceIte, reduceCtorEq, List.map_cons, List.map_nil] at hv); subst hv)) | ((with_reducible apply Wseq.stg (op := Op.fieldAddr _ _ _)); rfl; exact to_fieldAddr (fa_ rfl) rfl) | ((with_reducible apply Wseq.stg (op := Op.load _ _)); rfl; exact to_load (pl_ rfl) rfl (by (repeat (first | (apply Has.cel; assumption) | (apply Cel.other; omega)))) (by omega) (by rfl)) | ((with_reducible apply Wseq.stg (op := Op.nilCheck _)); rfl; exact to_nilCheck rfl) | ((with_reducible apply Wseq.stg (op := Op.binOp BinOp.lss _ _ _ _)); rfl; exact to_lssT rfl rfl (by omega))))
          ((with_reducible apply Wseq.stg); rfl; exact to_indexAddr (k := i) el49 rfl rfl hz (by omega))
          (repeat (((with_reducible apply Wseq.stg (op := Op.fieldAddr _ _ _)); rfl; exact to_fieldAddr (fa_ rfl) rfl)))
          ((with_reducible apply Wseq.stg); rfl; exact to_load (pl_ rfl) rfl (D1 _) (by omega) g0)
          (repeat (first | ((with_reducible apply Wseq.mv); rfl; (intro v hv; (simp only [kv, Nat.reduceEqDiff, eq_self, ↓reduceIte, reduceCtorEq, List.map_cons, List.map_nil] at hv); subst hv)) | ((with_reducible apply Wseq.stg (op := Op.fieldAddr _ _ _)); rfl; exact to_fieldAddr (fa_ rfl) rfl) | ((with_reducible apply Wseq.stg (op := Op.load _ _)); rfl; exact to_load (pl_ rfl) rfl (by (repeat (first | (apply Has.cel; assumption) | (apply Cel.other; omega)))) (by omega) (by rfl)) | ((with_reducible apply Wseq.stg (op := Op.nilCheck _)); rfl; exact to_nilCheck rfl) | ((with_reducible apply Wseq.stg (op := Op.binOp BinOp.gtr _ _ _ _)); rfl; exact to_gtrT rfl rfl (by omega))))
          ((with_reducible apply Wseq.stg); rfl; exact to_indexAddr (k := i) el49 rfl rfl hz (by omega))
          (repeat (((with_reducible apply Wseq.stg (op := Op.fieldAddr _ _ _)); rfl; exact to_fieldAddr (fa_ rfl) rfl)))
          ((with_reducible apply Wseq.stg); rfl; exact to_load (pl_ rfl) rfl (D1 _) (by omega) g4)
          (repeat (first | (with_reducible refine Then.go ?_) | (with_reducible refine Wx.seq ?_) | (with_reducible refine Wx.reg ?_) | (refine Wx.condT rfl (by rfl) ?_) | ((with_reducible refine Wseq.nil ?_); intro e he; (simp only [ke, Nat.testBit, Nat.reduceShiftRight, Nat.reduceAnd, Nat.reduceBNe, Nat.reduceEqDiff, Nat.reduceAdd, ↓reduceIte, reduceCtorEq, Bool.false_eq_true] at he; subst he)) | ((with_reducible apply Wseq.mv); rfl; (intro v hv; (simp only [kv, Nat.reduceEqDiff, eq_self, ↓reduceIte, reduceCtorEq, List.map_cons, List.map_nil] at hv); subst hv)) | ((with_reducible apply Wseq.pkT); rfl; rfl; (intro v hv; (simp only [kv, Nat.reduceEqDiff, eq_self, ↓reduceIte, reduceCtorEq, List.map_cons, List.map_nil] at hv); subst hv)) | ((with_reducible apply Wseq.stg (op := Op.fieldAddr _ _ _)); rfl; exact to_fieldAddr (fa_ rfl) rfl) | ((with_reducible apply Wseq.stg (op := Op.load _ _)); rfl; exact to_load (pl_ rfl) rfl (by (repeat (first | (apply Has.cel; assumption) | (apply Cel.other; omega)))) (by omega) (by rfl)) | ((with_reducible apply Wseq.stg (op := Op.nilCheck _)); rfl; exact to_nilCheck rfl) | ((with_reducible apply Wseq.stg (op := Op.unOp UnOp.not _ _)); rfl; exact to_notF rfl)))
          ((with_reducible apply Wseq.stg); rfl; exact to_indexAddr (k := i) el49 rfl rfl hz (by omega))
          ((with_reducible apply Wseq.stg); rfl; exact to_loadS ag59 rfl (D1 _) (by omega) hn1)
          (repeat (first | (with_reducible refine Then.go ?_) | (with_reducible refine Then.rt ?_) | (with_reducible refine Out.rt ?_) | (with_reducible refine Wx.ret ?_) | (with_reducible refine RoundE.rt ?_) | ((with_reducible refine Wseq.nil ?_); intro e he; (simp only [ke, Nat.testBit, Nat.reduceShiftRight, Nat.reduceAnd, Nat.reduceBNe, Nat.reduceEqDiff, Nat.reduceAdd, ↓reduceIte, reduceCtorEq, Bool.false_eq_true] at he; subst he)) | ((with_reducible apply Wseq.as); rfl; (intro v hv; (simp only [kv, Nat.reduceEqDiff, eq_self, ↓reduceIte, reduceCtorEq, List.map_cons, List.map_nil] at hv); subst hv)) | ((with_reducible apply Wseq.so); rfl; exact (sz_ rfl); rfl; exact (by (repeat ((exact Has.same)))); omega; (intro v hv; (simp only [kv, Nat.reduceEqDiff, eq_self, ↓reduceIte, reduceCtorEq, List.map_cons, List.map_nil] at hv); subst hv); refine ⟨_, _, (by ((exact cellsA_agg _))), rfl, rfl, ?_⟩)))
          refine ⟨.inr rfl, Wres.cellTmp rfl ag59 (by (repeat ((exact Has.same.cel)))) (by omega) (by rfl) rfl ⟨.inr ⟨⟨xid, xxs, xpay, xseq, false⟩, aw, kw, ?_, rfl, hr1⟩, ?_⟩⟩
          · obtain ⟨hil, hil2⟩ := List.getElem?_eq_some_iff.1 hrs
            have : rs = rs.take i ++ (⟨xid, xxs, xpay, xseq, false⟩ :: rs.drop (i + 1)) := by
              rw [← hil2, ← List.drop_eq_getElem_cons hil, List.take_append_drop]
            unfold nextM
            conv => lhs; rw [this]
            rw [List.find?_append, List.find?_eq_none.2 fun r hr => by rw [hskip r hr]; decide, List.find?_cons, decide_eq_true hid]
            rfl
          · (dsimp only; exact Ext.of (by omega) (by ((repeat (apply Fresh.put; omega)); ((exact Fresh.up (by assumption) (by omega))))) (by (repeat (first | (exact Kp.refl) | (apply Kp.set; (focus (left; omega)))))) (by (repeat (first | (assumption) | (apply Lg.cons; (focus (first | (left; omega) | (right; (simp; done)))))))) (by (repeat (first | (exact Lg.nil) | (apply Lg.cons; (focus (left; omega)))))))
      · (repeat (first | (with_reducible refine Then.go ?_) | (with_reducible refine Wx.seq ?_) | (with_reducible refine Wx.skip ?_) | (with_reducible refine Wx.block ?_) | (with_reducible refine Wx.reg ?_) | (refine Wx.condT rfl (by rfl) ?_) | ((with_reducible refine Wseq.nil ?_); intro e he; (simp only [ke, Nat.testBit, Nat.reduceShiftRight, Nat.reduceAnd, Nat.reduceBNe, Nat.reduceEqDiff, Nat.reduceAdd, ↓reduceIte, reduceCtorEq, Bool.false_eq_true] at he; subst he)) | ((with_reducible apply Wseq.mv); rfl; (intro v hv; (simp only [kv, Nat.reduceEqDiff, eq_self, ↓reduceIte, reduceCtorEq, List.map_cons, List.map_nil] at hv); subst hv)) | ((with_reducible apply Wseq.as); rfl; (intro v hv; (simp only [kv, Nat.reduceEqDiff, eq_self, ↓reduceIte, reduceCtorEq, List.map_cons, List.map_nil] at hv); subst hv)) | ((with_reducible apply Wseq.stg (op := Op.fieldAddr _ _ _)); rfl; exact to_fieldAddr (fa_ rfl) rfl) | ((with_reducible apply Wseq.stg (op := Op.load _ _)); rfl; exact to_load (pl_ rfl) rfl (by (repeat (first | (apply Has.cel; assumption) | (apply Cel.other; omega)))) (by omega) (by rfl)) | ((with_reducible apply Wseq.stg (op := Op.nilCheck _)); rfl; exact to_nilCheck rfl) | ((with_reducible apply Wseq.stg (op := Op.binOp BinOp.lss _ _ _ _)); rfl; exact to_lssT rfl rfl (by omega))))
        ((with_reducible apply Wseq.stg); rfl; exact to_indexAddr (k := i) el49 rfl rfl hz (by omega))
        (repeat (((with_reducible apply Wseq.stg (op := Op.fieldAddr _ _ _)); rfl; exact to_fieldAddr (fa_ rfl) rfl)))
        ((with_reducible apply Wseq.stg); rfl; exact to_load (pl_ rfl) rfl (D1 _) (by omega) g0)
        (repeat (first | (with_reducible refine Then.go ?_) | (with_reducible refine Out.go ?_) | (with_reducible refine Wx.skip ?_) | (with_reducible refine Wx.reg ?_) | (refine Wx.condF rfl (by rfl) ?_) | ((with_reducible refine Wseq.nil ?_); intro e he; (simp only [ke, Nat.testBit, Nat.reduceShiftRight, Nat.reduceAnd, Nat.reduceBNe, Nat.reduceEqDiff, Nat.reduceAdd, ↓reduceIte, reduceCtorEq, Bool.false_eq_true] at he; subst he)) | ((with_reducible apply Wseq.mv); rfl; (intro v hv; (simp only [kv, Nat.reduceEqDiff, eq_self, ↓reduceIte, reduceCtorEq, List.map_cons, List.map_nil] at hv); subst hv)) | ((with_reducible apply Wseq.pkF); rfl; rfl; (intro v hv; (simp only [kv, Nat.reduceEqDiff, eq_self, ↓reduceIte, reduceCtorEq, List.map_cons, List.map_nil] at hv); subst hv)) | ((with_reducible apply Wseq.stg (op := Op.binOp BinOp.gtr _ _ _ _)); rfl; exact to_gtrF rfl rfl (by omega)) | ((with_reducible apply Wseq.stg (op := Op.binOp BinOp.add _ _ _ _)); rfl; exact to_add rfl rfl (by omega) (by omega)) | (refine Wseq.no rfl ?_)))
        refine RoundE.go (n - (i + 1)) (EX p c after n (z + 1) _ _ _) (by omega) (by (refine EqK.of ?_ ?_ <;> (repeat (first | (exact all_nil) | (apply all_cons; rfl))))) ⟨i + 1, z + 1, _, _, _, _, rfl, by omega, rfl, (by (repeat (first | (assumption) | (apply Lg.cons; (focus ((right; (simp; done)))))))), step (fun h => hid h.1), by omega, rfl⟩
    · rw [List.take_of_length_le (by omega)] at hskip
      (repeat (first | (with_reducible refine Then.go ?_) | (with_reducible refine Then.ex ?_) | (with_reducible refine Out.hit ?_) | (with_reducible refine Wx.seq ?_) | (with_reducible refine Wx.exit ?_) | (with_reducible refine Wx.ret ?_) | (with_reducible refine Wx.reg ?_) | (with_reducible refine RoundE.ex ?_) | (refine Wx.condF rfl (by rfl) ?_) | ((with_reducible refine Wseq.nil ?_); intro e he; (simp only [ke, Nat.testBit, Nat.reduceShiftRight, Nat.reduceAnd, Nat.reduceBNe, Nat.reduceEqDiff, Nat.reduceAdd, ↓reduceIte, reduceCtorEq, Bool.false_eq_true] at he; subst he)) | ((with_reducible apply Wseq.as); rfl; (intro v hv; (simp only [kv, Nat.reduceEqDiff, eq_self, ↓reduceIte, reduceCtorEq, List.map_cons, List.map_nil] at hv); subst hv)) | ((with_reducible apply Wseq.bd); rfl; exact (bt_ rfl); (intro v hv; (simp only [kv, Nat.reduceEqDiff, eq_self, ↓reduceIte, reduceCtorEq, List.map_cons, List.map_nil] at hv); subst hv); refine ⟨_, rfl, ?_⟩) | ((with_reducible apply Wseq.so); rfl; exact (sz_ rfl); rfl; exact (by (repeat ((exact Has.same)))); omega; (intro v hv; (simp only [kv, Nat.reduceEqDiff, eq_self, ↓reduceIte, reduceCtorEq, List.map_cons, List.map_nil] at hv); subst hv); refine ⟨_, _, (by ((exact cellsA_agg _))), rfl, rfl, ?_⟩) | ((with_reducible apply Wseq.stg (op := Op.binOp BinOp.lss _ _ _ _)); rfl; exact to_lssF rfl rfl (by omega))))
      refine ⟨.inr rfl, Wres.cellTmp rfl ag59 (by (repeat ((exact Has.same.cel)))) (by omega) (by rfl) rfl ⟨.inl ⟨?_, rfl⟩, ?_⟩⟩
      · unfold nextM
        exact List.find?_eq_none.2 fun r hr => by rw [hskip r hr]; decide
      · (dsimp only; exact Ext.of (by omega) (by ((repeat (apply Fresh.put; omega)); ((exact Fresh.up (by assumption) (by omega))))) (by (repeat (first | (exact Kp.refl) | (apply Kp.set; (focus (left; omega)))))) (by (repeat (first | (assumption) | (apply Lg.cons; (focus (left; omega)))))) (by (repeat (first | (exact Lg.nil) | (apply Lg.cons; (focus (left; omega)))))))
end Go.Ab.Seat
