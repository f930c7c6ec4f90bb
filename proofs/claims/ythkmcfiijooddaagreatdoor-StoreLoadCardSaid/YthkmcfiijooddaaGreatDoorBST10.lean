import Derived.Test.YthkmcfiijooddaaGreatDoorBST8
set_option linter.unusedVariables false
set_option linter.unusedSimpArgs false
section
/- Stores: what is gone is swept (the abstract machine). -/
namespace Go.Ab.Seat
open Go.Extern Go.Proofs
set_option linter.unusedSimpArgs false
set_option linter.unusedVariables false
set_option maxRecDepth 4000
set_option pp.deepTerms false
set_option pp.deepTerms.threshold 6

/-- Is it gone, and of this number or one before? -/
def swp (upto : Int) (x : It) : Bool := x.gone && decide (x.seq ≤ upto)
/-- What a sweep leaves of a map. -/
noncomputable def sweepE (upto : Int) (l : List It) (es : List (Value × Value × Nat)) : List (Value × Value × Nat) := l.foldl (fun es x => bif swp upto x then delI x.id es else es) es
def sweepN (upto : Int) (l : List It) : Nat := (l.filter (swp upto)).length

theorem sweepE_take {upto : Int} {l : List It} {es : List (Value × Value × Nat)} {i : Nat} {x : It} (hx : l[i]? = some x) : sweepE upto (l.take (i + 1)) es = (bif swp upto x then delI x.id (sweepE upto (l.take i) es) else sweepE upto (l.take i) es) := by
  unfold sweepE
  rw [List.take_add_one, hx, List.foldl_append]; rfl
theorem sweepN_take {upto : Int} {l : List It} {i : Nat} {x : It} (hx : l[i]? = some x) : sweepN upto (l.take (i + 1)) = sweepN upto (l.take i) + (bif swp upto x then 1 else 0) := by
  unfold sweepN
  rw [List.take_add_one, hx, List.filter_append, List.length_append]
  cases hg : swp upto x <;> simp [hg]
theorem sweep_strip {upto : Int} : ∀ {a b : List It} (es : List (Value × Value × Nat)), a.map It.strip = b.map It.strip → sweepE upto a es = sweepE upto b es ∧ sweepN upto a = sweepN upto b
  | [], [], _, _ => ⟨rfl, rfl⟩
  | [], _ :: _, _, h => by cases h
  | _ :: _, [], _, h => by cases h
  | x :: xs, y :: ys, es, h => by
    simp only [List.map_cons, List.cons.injEq] at h
    have h1 : x.id = y.id := congrArg (fun t => t.1) h.1
    have h2 : swp upto x = swp upto y := by
      have h3 : x.seq = y.seq := congrArg (fun t => t.2.2.2.1) h.1
      have h4 : x.gone = y.gone := congrArg (fun t => t.2.2.2.2) h.1
      unfold swp
      rw [h3, h4]
    refine ⟨?_, ?_⟩
    · show sweepE upto xs (bif swp upto x then delI x.id es else es) = sweepE upto ys (bif swp upto y then delI y.id es else es)
      rw [h1, h2]
      exact (sweep_strip _ h.2).1
    · have := (sweep_strip (upto := upto) es h.2).2
      unfold sweepN at this ⊢
      rw [List.filter_cons, List.filter_cons, h2]
      cases swp upto y <;> simp [this]

theorem mem_delI {x : Int} {es : List (Value × Value × Nat)} {e : Value × Value × Nat} (h : e ∈ delI x es) : e ∈ es := by
  unfold delI at h
  split at h
  · rw [eraseA_eq] at h
    exact (List.eraseIdx_sublist _ _).subset h
  · exact h

def EW (p : Nat) (oa : Option Addr) (n : Nat) (upto cnt z : Int) (j7 j12 j22 : Value) : L :=
  .cons 0 (.pointer (some ⟨p, 0, none⟩)) (.cons 1 (.int .i64 upto) (.cons 4 (.int .i64 0) (.cons 5 (.int .i64 cnt) (.cons 7 j7 (.cons 9 (.slice oa n n) (.cons 10 (.int .i64 (n : Int)) (.cons 11 (.int .i64 z) (.cons 12 j12 (.cons 22 j22 .nil)))))))))

theorem sweep_spec {h : T AObj} {c : Nat} {rl wl : List Nat} (hf : Fresh h c) {p m n : Nat} {es : List (Value × Value × Nat)} {U : Nat → Prop} (q : StoreR h p m es n U) {ids : List Int} {its : List It} (hk : keyInts es n = some ids) (hs : sortI ids = its.map It.id) (hits : ∀ x ∈ its, InStore h p m es U x) (hl : its.length ≤ 1000000) (upto : Int) :
    ∃ r s', FnTo (Cs smQ) eg 34 [.pointer (some ⟨p, 0, none⟩), .int .i64 upto] ⟨h, c, rl, wl⟩ r s' ∧ (r = .int .i64 (sweepN upto its : Int) ∧ StoreR s'.h p m (sweepE upto its es) n U) ∧ Ext ⟨h, c, rl, wl⟩ s' U (fun b => b = m) := by
  have H := stdQ
  have hp1 := q.ptr
  have hm1 := q.map
  have hU := q.pU
  have hU' := q.mU
  have hpc := hp1.lt hf
  have hmc := hm1.lt hf
  have hpm := q.ne
  refine Fn.go (H 34 rfl) ex34 fn34 km34 rfl rfl ?_
  intro e he
  (simp only [ke, Nat.testBit, Nat.reduceShiftRight, Nat.reduceAnd, Nat.reduceBNe, Nat.reduceEqDiff, Nat.reduceAdd, ↓reduceIte, reduceCtorEq, Bool.false_eq_true] at he; subst he)
  (repeat (first | (with_reducible refine Then.go ?_) | (with_reducible refine Wx.seq ?_) | (with_reducible refine Wx.reg ?_) | ((with_reducible refine Wseq.nil ?_); intro e he; (simp only [ke, Nat.testBit, Nat.reduceShiftRight, Nat.reduceAnd, Nat.reduceBNe, Nat.reduceEqDiff, Nat.reduceAdd, ↓reduceIte, reduceCtorEq, Bool.false_eq_true] at he; subst he)) | ((with_reducible apply Wseq.mv); rfl; (intro v hv; (simp only [kv, Nat.reduceEqDiff, eq_self, ↓reduceIte, reduceCtorEq, List.map_cons, List.map_nil] at hv); subst hv)) | ((with_reducible apply Wseq.as); rfl; (intro v hv; (simp only [kv, Nat.reduceEqDiff, eq_self, ↓reduceIte, reduceCtorEq, List.map_cons, List.map_nil] at hv); subst hv))))
  refine Wseq.call rfl rfl (items_spec (by ((repeat (apply Fresh.put; omega)); ((assumption)))) q hk hs hits hl) ?_
  rintro v h1 c1 r1 w1 ⟨⟨l, hR, hst⟩, hext⟩
  obtain ⟨oa, rfl⟩ := hR.val
  have hll : l.length = its.length := by have := congrArg List.length hst; simpa using this
  have q1 := hext.c
  dsimp only at q1 hR
  have hf1 : Fresh h1 c1 := hext.fresh
  have qq := q.keep (h' := h1) hf fun b _ hb => hext.get hb (fun q => q)
  have kp := Kp.ext (W := fun b => b = m) (h := h) (c := c) (by (repeat ((exact Kp.refl)))) hext (by omega) (fun _ _ q => q.elim)
  have lr := Lg.extR (R := U) (c := c) (by (repeat ((exact Lg.nil)))) hext (fun _ _ q => q)
  have lw := Lg.extW (W := fun b => b = m) (c := c) (by (repeat ((exact Lg.nil)))) hext (fun _ _ q => q.elim)
  (repeat (first | (with_reducible refine Then.go ?_) | (with_reducible refine Wx.block ?_) | ((with_reducible refine Wseq.nil ?_); intro e he; (simp only [ke, Nat.testBit, Nat.reduceShiftRight, Nat.reduceAnd, Nat.reduceBNe, Nat.reduceEqDiff, Nat.reduceAdd, ↓reduceIte, reduceCtorEq, Bool.false_eq_true] at he; subst he)) | ((with_reducible apply Wseq.mv); rfl; (intro v hv; (simp only [kv, Nat.reduceEqDiff, eq_self, ↓reduceIte, reduceCtorEq, List.map_cons, List.map_nil] at hv); subst hv)) | ((with_reducible apply Wseq.stg (op := Op.call ⟨Callee.builtin Builtin.len, _, _⟩)); rfl; exact to_lenS (sl_ rfl) rfl)))
  refine Wx.loopE (fun k1 e s => ∃ (i : Nat) (z cnt : Int) (h' : T AObj) (c' : Nat) (rl' wl' : List Nat) (j7 j12 j22 : Value), e = EW p oa l.length upto cnt z j7 j12 j22 ∧ z = i ∧ cnt = (sweepN upto (l.take i) : Int) ∧ cnt ≤ i ∧ s = ⟨h', c', rl', wl'⟩ ∧ Fresh h' c' ∧ c ≤ c' ∧ Kp h h' c (fun b => b = m) ∧ StoreR h' p m (sweepE upto (l.take i) es) n U ∧ ItemsR h' c (.slice oa l.length l.length) l ∧ i ≤ l.length ∧ Lg c U rl' ∧ Lg c (fun b => b = m) wl' ∧ k1 = l.length - i) l.length (EW p oa l.length upto 0 0 top top top) (by (repeat (first | (exact Resp.fn) | (apply Resp.then) | (apply Resp.out)))) ?_ ?_ ?_
  · unfold EW
    (refine EqK.of ?_ ?_ <;> (repeat (first | (exact all_nil) | (apply all_cons; rfl))))
  · exact ⟨0, 0, 0, _, _, _, _, _, _, _, rfl, rfl, rfl, by omega, rfl, hf1, by omega, kp, qq, hR, by omega, lr, lw, rfl⟩
  · rintro k1 e s ⟨i, z, cnt, h2, c2, rl2, wl2, j7, j12, j22, rfl, hz, hcnt, hci, rfl, hf2, hc2, hkp, q2, hR2, hil, hlr, hlw, rfl⟩
    unfold EW
    by_cases hi : i < l.length
    · have hx := List.getElem?_eq_getElem hi
      generalize l[i] = x at hx
      have hxm := List.mem_of_getElem? hx
      have hown := hR2.vec x hxm
      have hlt := sweepN_take (upto := upto) hx
      have hes := sweepE_take (upto := upto) (es := es) hx
      rcases hR2.row with ⟨_, rfl⟩ | ⟨b0, o0, cs1, hv, hb0, hs0⟩
      · cases hx
      obtain ⟨rfl, hv2⟩ : oa = some ⟨b0, o0, some 5⟩ ∧ True := by
        simp only [Value.slice.injEq] at hv
        exact ⟨hv.1, trivial⟩
      have hsub := sub_item hs0 hx
      have hb0c := hR2.blk b0 rfl
      have hb0l := hb0.lt hf2
      have hp2 := q2.ptr
      have hm2 := q2.map
      obtain ⟨tid, tvec, txs, tpay, tseq, tg⟩ := x
      have hsw : swp upto ⟨tid, tvec, txs, tpay, tseq, tg⟩ = (tg && decide (tseq ≤ upto)) := rfl
      dsimp only at hown hlt hes
      obtain ⟨a0, k0, rfl⟩ := hown.val
      by_cases hgo : tg = true ∧ tseq ≤ upto
      · obtain ⟨rfl, hle⟩ := hgo
        rw [decide_eq_true hle] at hsw
        rw [hsw] at hlt hes
        simp only [Bool.and_self, cond_true] at hlt hes
        (repeat (first | (with_reducible refine Then.go ?_) | (with_reducible refine Wx.seq ?_) | (with_reducible refine Wx.skip ?_) | (with_reducible refine Wx.block ?_) | (with_reducible refine Wx.reg ?_) | (refine Wx.condT rfl (by rfl) ?_) | ((with_reducible refine Wseq.nil ?_); intro e he; (simp only [ke, Nat.testBit, Nat.reduceShiftRight, Nat.reduceAnd, Nat.reduceBNe, Nat.reduceEqDiff, Nat.reduceAdd, ↓reduceIte, reduceCtorEq, Bool.false_eq_true] at he; subst he)) | ((with_reducible apply Wseq.stg (op := Op.binOp BinOp.lss _ _ _ _)); rfl; exact to_lssT rfl rfl (by omega))))
        ((with_reducible apply Wseq.stg); rfl; exact to_indexAddr (k := i) el49 rfl rfl hz (by omega))
        ((with_reducible apply Wseq.stg); rfl; exact to_loadS ag59 rfl hb0.cel (by omega) hsub)
        (repeat (first | (with_reducible refine Then.go ?_) | (with_reducible refine Wx.seq ?_) | (with_reducible refine Wx.reg ?_) | (refine Wx.dreg rfl ?_) | (refine Wx.condT rfl (by rfl) ?_) | ((with_reducible refine Wseq.nil ?_); intro e he; (simp only [ke, Nat.testBit, Nat.reduceShiftRight, Nat.reduceAnd, Nat.reduceBNe, Nat.reduceEqDiff, Nat.reduceAdd, ↓reduceIte, reduceCtorEq, Bool.false_eq_true] at he; subst he)) | ((with_reducible apply Wseq.mv); rfl; (intro v hv; (simp only [kv, Nat.reduceEqDiff, eq_self, ↓reduceIte, reduceCtorEq, List.map_cons, List.map_nil] at hv); subst hv)) | ((with_reducible apply Wseq.pkT); rfl; rfl; (intro v hv; (simp only [kv, Nat.reduceEqDiff, eq_self, ↓reduceIte, reduceCtorEq, List.map_cons, List.map_nil] at hv); subst hv)) | ((with_reducible apply Wseq.so); rfl; exact (sz_ rfl); rfl; exact (by (repeat ((exact Has.same)))); omega; (intro v hv; (simp only [kv, Nat.reduceEqDiff, eq_self, ↓reduceIte, reduceCtorEq, List.map_cons, List.map_nil] at hv); subst hv); refine ⟨_, _, (by ((exact cellsA_agg _))), rfl, rfl, ?_⟩) | ((with_reducible apply Wseq.stg (op := Op.fieldAddr _ _ _)); rfl; exact to_fieldAddr (fa_ rfl) rfl) | ((with_reducible apply Wseq.stg (op := Op.load _ _)); rfl; exact to_load (pl_ rfl) rfl (by (repeat ((exact Has.same.cel)))) (by omega) (by rfl)) | ((with_reducible apply Wseq.stg (op := Op.alloc _)); rfl; exact to_alloc (ze_ rfl) (by ((exact cellsA_agg _))) (by ((repeat (apply Fresh.put; omega)); ((assumption))))) | ((with_reducible apply Wseq.stg (op := Op.binOp BinOp.leq _ _ _ _)); rfl; exact to_leqT rfl rfl (by omega)) | ((with_reducible apply Wtr.mv); rfl; (intro v hv; (simp only [kv, Nat.reduceEqDiff, eq_self, ↓reduceIte, reduceCtorEq, List.map_cons, List.map_nil] at hv); subst hv)) | ((with_reducible apply Wtr.stq (op := Op.fieldAddr _ _ _)); rfl; exact to_fieldAddr (fa_ rfl) rfl) | ((with_reducible apply Wtr.stx (op := Op.load _ _)); rfl; exact to_load (pl_ rfl) rfl (by (repeat (first | (exact Has.same.cel) | (apply Has.cel; assumption) | (apply Cel.other; omega)))) (by omega) (by rfl); (focus (repeat (first | (exact all_nil) | (apply all_cons; (focus ((right; exact ApartP.rr)))))))) | ((with_reducible apply Wtr.stq (op := Op.nilCheck _)); rfl; exact to_nilCheck rfl)))
        refine Wtr.op (s1 := ⟨((h2.set c2 _).set c2 _).set m (some (.map (delI tid (sweepE upto (l.take i) es)) n)), c2 + 1, [m], [m]⟩) rfl (to_delete mi113 rfl rfl (Has.other (by omega) (Has.other (by omega) hm2)) (by have := hm2.lt hf2; dsimp only; omega) q2.keys) (by (repeat (first | (exact all_nil) | (apply all_cons; (focus ((left; dsimp only; decide +kernel))))))) ?_
        dsimp only [put]
        (repeat (first | (with_reducible refine Then.go ?_) | (with_reducible refine Out.go ?_) | (with_reducible refine Wx.reg ?_) | ((with_reducible refine Wseq.nil ?_); intro e he; (simp only [ke, Nat.testBit, Nat.reduceShiftRight, Nat.reduceAnd, Nat.reduceBNe, Nat.reduceEqDiff, Nat.reduceAdd, ↓reduceIte, reduceCtorEq, Bool.false_eq_true] at he; subst he)) | ((with_reducible apply Wseq.mv); rfl; (intro v hv; (simp only [kv, Nat.reduceEqDiff, eq_self, ↓reduceIte, reduceCtorEq, List.map_cons, List.map_nil] at hv); subst hv)) | ((with_reducible apply Wseq.as); rfl; (intro v hv; (simp only [kv, Nat.reduceEqDiff, eq_self, ↓reduceIte, reduceCtorEq, List.map_cons, List.map_nil] at hv); subst hv)) | ((with_reducible apply Wseq.stg (op := Op.binOp BinOp.add _ _ _ _)); rfl; exact to_add rfl rfl (by omega) (by omega)) | ((with_reducible refine Wtr.nil ?_); intro e he; (simp only [ke, Nat.testBit, Nat.reduceShiftRight, Nat.reduceAnd, Nat.reduceBNe, Nat.reduceEqDiff, Nat.reduceAdd, ↓reduceIte, reduceCtorEq, Bool.false_eq_true] at he; subst he))))
        refine RoundE.go (l.length - (i + 1)) (EW p _ l.length upto (cnt + 1) (z + 1) _ _ _) (by omega) (by (refine EqK.of ?_ ?_ <;> (repeat (first | (exact all_nil) | (apply all_cons; rfl))))) ⟨i + 1, z + 1, cnt + 1, _, _, _, _, _, _, _, rfl, by omega, by omega, by omega, rfl, (by ((repeat (apply Fresh.put; omega)); ((exact Fresh.up (by assumption) (by omega))))), by omega, (by (repeat (first | (assumption) | (apply Kp.set; (focus (first | (left; omega) | (right; (exact rfl)))))))), ?_, ?_, by omega, (by (repeat (first | (exact Lg.nil) | (assumption) | (apply Lg.cons; (focus (first | (left; omega) | (right; (assumption))))) | (apply Lg.app)))), (by (repeat (first | (exact Lg.nil) | (assumption) | (apply Lg.cons; (focus (first | (left; omega) | (right; (exact rfl))))) | (apply Lg.app)))), rfl⟩
        · rw [hes]
          refine ⟨Has.other hpm (Has.other (by omega) (Has.other (by omega) hp2)), Has.same, hU, hU', fun e he => ?_⟩
          exact (q2.ents e (mem_delI he)).keep hf2 fun b hb hbc hbp hbm => by rw [get_other hbm, get_other (by omega), get_other (by omega)]
        · exact hR2.keep hf2 fun b h1 h2 => by rw [get_other (by omega), get_other (by omega), get_other (by omega)]
      · have hsw2 : swp upto ⟨tid, .slice a0 txs.length k0, txs, tpay, tseq, tg⟩ = false := by
          rw [hsw]
          cases tg
          · rfl
          · rw [decide_eq_false fun h => hgo ⟨rfl, h⟩]; rfl
        rw [hsw2] at hlt hes
        simp only [cond_false] at hlt hes
        cases tg with
        | true =>
          have hle : ¬tseq ≤ upto := fun h => hgo ⟨rfl, h⟩
          (repeat (first | (with_reducible refine Then.go ?_) | (with_reducible refine Wx.seq ?_) | (with_reducible refine Wx.skip ?_) | (with_reducible refine Wx.block ?_) | (with_reducible refine Wx.reg ?_) | (refine Wx.condT rfl (by rfl) ?_) | ((with_reducible refine Wseq.nil ?_); intro e he; (simp only [ke, Nat.testBit, Nat.reduceShiftRight, Nat.reduceAnd, Nat.reduceBNe, Nat.reduceEqDiff, Nat.reduceAdd, ↓reduceIte, reduceCtorEq, Bool.false_eq_true] at he; subst he)) | ((with_reducible apply Wseq.stg (op := Op.binOp BinOp.lss _ _ _ _)); rfl; exact to_lssT rfl rfl (by omega))))
          ((with_reducible apply Wseq.stg); rfl; exact to_indexAddr (k := i) el49 rfl rfl hz (by omega))
          ((with_reducible apply Wseq.stg); rfl; exact to_loadS ag59 rfl hb0.cel (by omega) hsub)
          (repeat (first | (with_reducible refine Then.go ?_) | (with_reducible refine Out.go ?_) | (with_reducible refine Wx.seq ?_) | (with_reducible refine Wx.skip ?_) | (with_reducible refine Wx.reg ?_) | (refine Wx.condF rfl (by rfl) ?_) | ((with_reducible refine Wseq.nil ?_); intro e he; (simp only [ke, Nat.testBit, Nat.reduceShiftRight, Nat.reduceAnd, Nat.reduceBNe, Nat.reduceEqDiff, Nat.reduceAdd, ↓reduceIte, reduceCtorEq, Bool.false_eq_true] at he; subst he)) | ((with_reducible apply Wseq.mv); rfl; (intro v hv; (simp only [kv, Nat.reduceEqDiff, eq_self, ↓reduceIte, reduceCtorEq, List.map_cons, List.map_nil] at hv); subst hv)) | ((with_reducible apply Wseq.pkT); rfl; rfl; (intro v hv; (simp only [kv, Nat.reduceEqDiff, eq_self, ↓reduceIte, reduceCtorEq, List.map_cons, List.map_nil] at hv); subst hv)) | ((with_reducible apply Wseq.so); rfl; exact (sz_ rfl); rfl; exact (by (repeat ((exact Has.same)))); omega; (intro v hv; (simp only [kv, Nat.reduceEqDiff, eq_self, ↓reduceIte, reduceCtorEq, List.map_cons, List.map_nil] at hv); subst hv); refine ⟨_, _, (by ((exact cellsA_agg _))), rfl, rfl, ?_⟩) | ((with_reducible apply Wseq.stg (op := Op.fieldAddr _ _ _)); rfl; exact to_fieldAddr (fa_ rfl) rfl) | ((with_reducible apply Wseq.stg (op := Op.load _ _)); rfl; exact to_load (pl_ rfl) rfl (by (repeat ((exact Has.same.cel)))) (by omega) (by rfl)) | ((with_reducible apply Wseq.stg (op := Op.alloc _)); rfl; exact to_alloc (ze_ rfl) (by ((exact cellsA_agg _))) (by ((repeat (apply Fresh.put; omega)); ((assumption))))) | ((with_reducible apply Wseq.stg (op := Op.binOp BinOp.leq _ _ _ _)); rfl; exact to_leqF rfl rfl (by omega)) | ((with_reducible apply Wseq.stg (op := Op.binOp BinOp.add _ _ _ _)); rfl; exact to_add rfl rfl (by omega) (by omega))))
          refine RoundE.go (l.length - (i + 1)) (EW p _ l.length upto cnt (z + 1) _ _ _) (by omega) (by (refine EqK.of ?_ ?_ <;> (repeat (first | (exact all_nil) | (apply all_cons; rfl))))) ⟨i + 1, z + 1, cnt, _, _, _, _, _, _, _, rfl, by omega, by omega, by omega, rfl, (by ((repeat (apply Fresh.put; omega)); ((exact Fresh.up (by assumption) (by omega))))), by omega, (by (repeat (first | (assumption) | (apply Kp.set; (focus (left; omega)))))), ?_, ?_, by omega, (by (repeat (first | (assumption) | (apply Lg.cons; (focus (left; omega)))))), (by (repeat (first | (assumption) | (apply Lg.cons; (focus (left; omega)))))), rfl⟩
          · rw [hes]
            exact q2.keep hf2 fun b hb hlt => by rw [get_other (by omega), get_other (by omega)]
          · exact hR2.keep hf2 fun b h1 h2 => by rw [get_other (by omega), get_other (by omega)]
        | false =>
          (repeat (first | (with_reducible refine Then.go ?_) | (with_reducible refine Wx.seq ?_) | (with_reducible refine Wx.skip ?_) | (with_reducible refine Wx.block ?_) | (with_reducible refine Wx.reg ?_) | (refine Wx.condT rfl (by rfl) ?_) | ((with_reducible refine Wseq.nil ?_); intro e he; (simp only [ke, Nat.testBit, Nat.reduceShiftRight, Nat.reduceAnd, Nat.reduceBNe, Nat.reduceEqDiff, Nat.reduceAdd, ↓reduceIte, reduceCtorEq, Bool.false_eq_true] at he; subst he)) | ((with_reducible apply Wseq.stg (op := Op.binOp BinOp.lss _ _ _ _)); rfl; exact to_lssT rfl rfl (by omega))))
          ((with_reducible apply Wseq.stg); rfl; exact to_indexAddr (k := i) el49 rfl rfl hz (by omega))
          ((with_reducible apply Wseq.stg); rfl; exact to_loadS ag59 rfl hb0.cel (by omega) hsub)
          (repeat (first | (with_reducible refine Then.go ?_) | (with_reducible refine Out.go ?_) | (with_reducible refine Wx.seq ?_) | (with_reducible refine Wx.skip ?_) | (with_reducible refine Wx.reg ?_) | (refine Wx.condF rfl (by rfl) ?_) | ((with_reducible refine Wseq.nil ?_); intro e he; (simp only [ke, Nat.testBit, Nat.reduceShiftRight, Nat.reduceAnd, Nat.reduceBNe, Nat.reduceEqDiff, Nat.reduceAdd, ↓reduceIte, reduceCtorEq, Bool.false_eq_true] at he; subst he)) | ((with_reducible apply Wseq.mv); rfl; (intro v hv; (simp only [kv, Nat.reduceEqDiff, eq_self, ↓reduceIte, reduceCtorEq, List.map_cons, List.map_nil] at hv); subst hv)) | ((with_reducible apply Wseq.pkF); rfl; rfl; (intro v hv; (simp only [kv, Nat.reduceEqDiff, eq_self, ↓reduceIte, reduceCtorEq, List.map_cons, List.map_nil] at hv); subst hv)) | ((with_reducible apply Wseq.so); rfl; exact (sz_ rfl); rfl; exact (by (repeat ((exact Has.same)))); omega; (intro v hv; (simp only [kv, Nat.reduceEqDiff, eq_self, ↓reduceIte, reduceCtorEq, List.map_cons, List.map_nil] at hv); subst hv); refine ⟨_, _, (by ((exact cellsA_agg _))), rfl, rfl, ?_⟩) | ((with_reducible apply Wseq.stg (op := Op.fieldAddr _ _ _)); rfl; exact to_fieldAddr (fa_ rfl) rfl) | ((with_reducible apply Wseq.stg (op := Op.load _ _)); rfl; exact to_load (pl_ rfl) rfl (by (repeat ((exact Has.same.cel)))) (by omega) (by rfl)) | ((with_reducible apply Wseq.stg (op := Op.alloc _)); rfl; exact to_alloc (ze_ rfl) (by ((exact cellsA_agg _))) (by ((repeat (apply Fresh.put; omega)); ((assumption))))) | ((with_reducible apply Wseq.stg (op := Op.binOp BinOp.add _ _ _ _)); rfl; exact to_add rfl rfl (by omega) (by omega)) | (refine Wseq.no rfl ?_)))
          refine RoundE.go (l.length - (i + 1)) (EW p _ l.length upto cnt (z + 1) _ _ _) (by omega) (by (refine EqK.of ?_ ?_ <;> (repeat (first | (exact all_nil) | (apply all_cons; rfl))))) ⟨i + 1, z + 1, cnt, _, _, _, _, _, _, _, rfl, by omega, by omega, by omega, rfl, (by ((repeat (apply Fresh.put; omega)); ((exact Fresh.up (by assumption) (by omega))))), by omega, (by (repeat (first | (assumption) | (apply Kp.set; (focus (left; omega)))))), ?_, ?_, by omega, (by (repeat (first | (assumption) | (apply Lg.cons; (focus (left; omega)))))), (by (repeat (first | (assumption) | (apply Lg.cons; (focus (left; omega)))))), rfl⟩
          · rw [hes]
            exact q2.keep hf2 fun b hb hlt => by rw [get_other (by omega), get_other (by omega)]
          · exact hR2.keep hf2 fun b h1 h2 => by rw [get_other (by omega), get_other (by omega)]
    · have hil2 : i = l.length := by omega
      subst hil2
      rw [List.take_length, (sweep_strip es hst).2] at hcnt
      rw [List.take_length, (sweep_strip es hst).1] at q2
      (repeat (first | (with_reducible refine Then.go ?_) | (with_reducible refine Then.ex ?_) | (with_reducible refine Out.hit ?_) | (with_reducible refine Wx.seq ?_) | (with_reducible refine Wx.exit ?_) | (with_reducible refine Wx.ret ?_) | (with_reducible refine Wx.reg ?_) | (with_reducible refine RoundE.ex ?_) | (refine Wx.condF rfl (by rfl) ?_) | ((with_reducible refine Wseq.nil ?_); intro e he; (simp only [ke, Nat.testBit, Nat.reduceShiftRight, Nat.reduceAnd, Nat.reduceBNe, Nat.reduceEqDiff, Nat.reduceAdd, ↓reduceIte, reduceCtorEq, Bool.false_eq_true] at he; subst he)) | ((with_reducible apply Wseq.mv); rfl; (intro v hv; (simp only [kv, Nat.reduceEqDiff, eq_self, ↓reduceIte, reduceCtorEq, List.map_cons, List.map_nil] at hv); subst hv)) | ((with_reducible apply Wseq.as); rfl; (intro v hv; (simp only [kv, Nat.reduceEqDiff, eq_self, ↓reduceIte, reduceCtorEq, List.map_cons, List.map_nil] at hv); subst hv)) | ((with_reducible apply Wseq.stg (op := Op.binOp BinOp.lss _ _ _ _)); rfl; exact to_lssF rfl rfl (by omega))))
      refine ⟨.inr rfl, Wres.one rfl ⟨⟨by rw [hcnt]; rfl, q2⟩, ?_⟩⟩
      (dsimp only; exact Ext.of (by omega) (by ((repeat (apply Fresh.put; omega)); ((assumption)))) (by (repeat ((assumption)))) (by (repeat ((assumption)))) (by (repeat ((assumption)))))
end Go.Ab.Seat
end
section
/- Stores: what put refuses (the abstract machine). -/
namespace Go.Ab.Seat
open Go.Extern Go.Proofs
set_option linter.unusedSimpArgs false
set_option linter.unusedVariables false
set_option maxRecDepth 4000
set_option pp.deepTerms false
set_option pp.deepTerms.threshold 6
variable {sm : Nat → Option (List Value → M Value)}

theorem sput_range (H : Std sm) {h : T AObj} {c : Nat} {rl wl : List Nat} (hf : Fresh h c) {p m n : Nat} {es : List (Value × Value × Nat)} {U : Nat → Prop} (q : StoreR h p m es n U) (id seq : Int) (pay : ByteArray) (h1 : id < 1 ∨ 1000 < id) (a : Option Addr) (k cap : Nat) :
    ∃ r s', FnTo (Cs sm) eg 12 [.pointer (some ⟨p, 0, none⟩), .int .i64 id, .slice a k cap, .string pay, .int .i64 seq] ⟨h, c, rl, wl⟩ r s' ∧ (∃ b, r = .iface 122 (.pointer (some ⟨b, 0, none⟩)) ∧ c ≤ b ∧ b < s'.c ∧ ∃ w, Has s'.h b (.cells [.string w, .iface 35 (.int .i64 2)])) ∧ Ext ⟨h, c, rl, wl⟩ s' U (fun _ => False) := by
  refine Fn.go (H 12 rfl) ex12 fn12 km12 rfl rfl ?_
  intro e he
  (simp only [ke, Nat.testBit, Nat.reduceShiftRight, Nat.reduceAnd, Nat.reduceBNe, Nat.reduceEqDiff, Nat.reduceAdd, ↓reduceIte, reduceCtorEq, Bool.false_eq_true] at he; subst he)
  by_cases h2 : id < 1
  · (repeat (first | (with_reducible refine Then.go ?_) | (with_reducible refine Wx.seq ?_) | (with_reducible refine Wx.block ?_) | (with_reducible refine Wx.reg ?_) | (refine Wx.condT rfl (by rfl) ?_) | (refine Wx.condF rfl (by rfl) ?_) | ((with_reducible refine Wseq.nil ?_); intro e he; (simp only [ke, Nat.testBit, Nat.reduceShiftRight, Nat.reduceAnd, Nat.reduceBNe, Nat.reduceEqDiff, Nat.reduceAdd, ↓reduceIte, reduceCtorEq, Bool.false_eq_true] at he; subst he)) | ((with_reducible apply Wseq.mv); rfl; (intro v hv; (simp only [kv, Nat.reduceEqDiff, eq_self, ↓reduceIte, reduceCtorEq, List.map_cons, List.map_nil] at hv); subst hv)) | ((with_reducible apply Wseq.as); rfl; (intro v hv; (simp only [kv, Nat.reduceEqDiff, eq_self, ↓reduceIte, reduceCtorEq, List.map_cons, List.map_nil] at hv); subst hv)) | ((with_reducible apply Wseq.pkT); rfl; rfl; (intro v hv; (simp only [kv, Nat.reduceEqDiff, eq_self, ↓reduceIte, reduceCtorEq, List.map_cons, List.map_nil] at hv); subst hv)) | ((with_reducible apply Wseq.stg (op := Op.binOp BinOp.lss _ _ _ _)); rfl; exact to_lssT rfl rfl (by omega)) | ((with_reducible apply Wseq.stg (op := Op.binOp BinOp.eql _ _ _ _)); rfl; exact to_eqP (un_ rfl) rfl rfl) | (refine Wseq.no rfl ?_)))
    refine Wseq.call rfl rfl (sat_spec H (by ((repeat (apply Fresh.put; omega)); ((assumption)))) 2 (by decide)) ?_
    rintro v' h1 c1 r1 w1 ⟨w, rfl, e1⟩
    cases e1
    (repeat (first | (with_reducible refine Then.go ?_) | (with_reducible refine Then.rt ?_) | (with_reducible refine Out.rt ?_) | (with_reducible refine Wx.ret ?_) | ((with_reducible refine Wseq.nil ?_); intro e he; (simp only [ke, Nat.testBit, Nat.reduceShiftRight, Nat.reduceAnd, Nat.reduceBNe, Nat.reduceEqDiff, Nat.reduceAdd, ↓reduceIte, reduceCtorEq, Bool.false_eq_true] at he; subst he)) | ((with_reducible apply Wseq.as); rfl; (intro v hv; (simp only [kv, Nat.reduceEqDiff, eq_self, ↓reduceIte, reduceCtorEq, List.map_cons, List.map_nil] at hv); subst hv))))
    refine ⟨.inr rfl, Wres.one rfl ⟨⟨_, rfl, by omega, by dsimp only; omega, _, Has.same⟩, ?_⟩⟩
    (dsimp only; exact Ext.of (by omega) (by ((repeat (apply Fresh.put; omega)); ((exact Fresh.up (by assumption) (by omega))))) (by (repeat (first | (exact Kp.refl) | (apply Kp.set; (focus (left; omega)))))) (by (repeat ((exact Lg.nil)))) (by (repeat ((exact Lg.nil)))))
  · (repeat (first | (with_reducible refine Then.go ?_) | (with_reducible refine Wx.seq ?_) | (with_reducible refine Wx.block ?_) | (with_reducible refine Wx.reg ?_) | (refine Wx.condT rfl (by rfl) ?_) | (refine Wx.condF rfl (by rfl) ?_) | ((with_reducible refine Wseq.nil ?_); intro e he; (simp only [ke, Nat.testBit, Nat.reduceShiftRight, Nat.reduceAnd, Nat.reduceBNe, Nat.reduceEqDiff, Nat.reduceAdd, ↓reduceIte, reduceCtorEq, Bool.false_eq_true] at he; subst he)) | ((with_reducible apply Wseq.mv); rfl; (intro v hv; (simp only [kv, Nat.reduceEqDiff, eq_self, ↓reduceIte, reduceCtorEq, List.map_cons, List.map_nil] at hv); subst hv)) | ((with_reducible apply Wseq.as); rfl; (intro v hv; (simp only [kv, Nat.reduceEqDiff, eq_self, ↓reduceIte, reduceCtorEq, List.map_cons, List.map_nil] at hv); subst hv)) | ((with_reducible apply Wseq.pkF); rfl; rfl; (intro v hv; (simp only [kv, Nat.reduceEqDiff, eq_self, ↓reduceIte, reduceCtorEq, List.map_cons, List.map_nil] at hv); subst hv)) | ((with_reducible apply Wseq.stg (op := Op.binOp BinOp.lss _ _ _ _)); rfl; exact to_lssF rfl rfl (by omega)) | ((with_reducible apply Wseq.stg (op := Op.binOp BinOp.gtr _ _ _ _)); rfl; exact to_gtrT rfl rfl (by omega)) | ((with_reducible apply Wseq.stg (op := Op.binOp BinOp.eql _ _ _ _)); rfl; exact to_eqP (un_ rfl) rfl rfl)))
    refine Wseq.call rfl rfl (sat_spec H (by ((repeat (apply Fresh.put; omega)); ((assumption)))) 2 (by decide)) ?_
    rintro v' h1 c1 r1 w1 ⟨w, rfl, e1⟩
    cases e1
    (repeat (first | (with_reducible refine Then.go ?_) | (with_reducible refine Then.rt ?_) | (with_reducible refine Out.rt ?_) | (with_reducible refine Wx.ret ?_) | ((with_reducible refine Wseq.nil ?_); intro e he; (simp only [ke, Nat.testBit, Nat.reduceShiftRight, Nat.reduceAnd, Nat.reduceBNe, Nat.reduceEqDiff, Nat.reduceAdd, ↓reduceIte, reduceCtorEq, Bool.false_eq_true] at he; subst he)) | ((with_reducible apply Wseq.as); rfl; (intro v hv; (simp only [kv, Nat.reduceEqDiff, eq_self, ↓reduceIte, reduceCtorEq, List.map_cons, List.map_nil] at hv); subst hv))))
    refine ⟨.inr rfl, Wres.one rfl ⟨⟨_, rfl, by omega, by dsimp only; omega, _, Has.same⟩, ?_⟩⟩
    (dsimp only; exact Ext.of (by omega) (by ((repeat (apply Fresh.put; omega)); ((exact Fresh.up (by assumption) (by omega))))) (by (repeat (first | (exact Kp.refl) | (apply Kp.set; (focus (left; omega)))))) (by (repeat ((exact Lg.nil)))) (by (repeat ((exact Lg.nil)))))

theorem sput_large (H : Std sm) {h : T AObj} {c : Nat} {rl wl : List Nat} (hf : Fresh h c) {p m n : Nat} {es : List (Value × Value × Nat)} {U : Nat → Prop} (q : StoreR h p m es n U) (id seq : Int) (pay : ByteArray) (h1 : 1 ≤ id) (h2 : id ≤ 1000) (hp : 40 < pay.size) (a : Option Addr) (k cap : Nat) :
    ∃ r s', FnTo (Cs sm) eg 12 [.pointer (some ⟨p, 0, none⟩), .int .i64 id, .slice a k cap, .string pay, .int .i64 seq] ⟨h, c, rl, wl⟩ r s' ∧ (∃ b, r = .iface 122 (.pointer (some ⟨b, 0, none⟩)) ∧ c ≤ b ∧ b < s'.c ∧ ∃ w, Has s'.h b (.cells [.string w, .iface 35 (.int .i64 11)])) ∧ Ext ⟨h, c, rl, wl⟩ s' U (fun _ => False) := by
  refine Fn.go (H 12 rfl) ex12 fn12 km12 rfl rfl ?_
  intro e he
  (simp only [ke, Nat.testBit, Nat.reduceShiftRight, Nat.reduceAnd, Nat.reduceBNe, Nat.reduceEqDiff, Nat.reduceAdd, ↓reduceIte, reduceCtorEq, Bool.false_eq_true] at he; subst he)
  (repeat (first | (with_reducible refine Then.go ?_) | (with_reducible refine Wx.seq ?_) | (with_reducible refine Wx.block ?_) | (with_reducible refine Wx.reg ?_) | (refine Wx.condT rfl (by rfl) ?_) | (refine Wx.condF rfl (by rfl) ?_) | ((with_reducible refine Wseq.nil ?_); intro e he; (simp only [ke, Nat.testBit, Nat.reduceShiftRight, Nat.reduceAnd, Nat.reduceBNe, Nat.reduceEqDiff, Nat.reduceAdd, ↓reduceIte, reduceCtorEq, Bool.false_eq_true] at he; subst he)) | ((with_reducible apply Wseq.mv); rfl; (intro v hv; (simp only [kv, Nat.reduceEqDiff, eq_self, ↓reduceIte, reduceCtorEq, List.map_cons, List.map_nil] at hv); subst hv)) | ((with_reducible apply Wseq.as); rfl; (intro v hv; (simp only [kv, Nat.reduceEqDiff, eq_self, ↓reduceIte, reduceCtorEq, List.map_cons, List.map_nil] at hv); subst hv)) | ((with_reducible apply Wseq.pkF); rfl; rfl; (intro v hv; (simp only [kv, Nat.reduceEqDiff, eq_self, ↓reduceIte, reduceCtorEq, List.map_cons, List.map_nil] at hv); subst hv)) | ((with_reducible apply Wseq.stg (op := Op.call ⟨Callee.builtin Builtin.len, _, _⟩)); rfl; exact to_lenStr (sr_ rfl) rfl) | ((with_reducible apply Wseq.stg (op := Op.binOp BinOp.lss _ _ _ _)); rfl; exact to_lssF rfl rfl (by omega)) | ((with_reducible apply Wseq.stg (op := Op.binOp BinOp.gtr _ _ _ _)); rfl; exact to_gtrT rfl rfl (by omega)) | ((with_reducible apply Wseq.stg (op := Op.binOp BinOp.gtr _ _ _ _)); rfl; exact to_gtrF rfl rfl (by omega)) | ((with_reducible apply Wseq.stg (op := Op.binOp BinOp.eql _ _ _ _)); rfl; exact to_eqP (un_ rfl) rfl rfl)))
  refine Wseq.call rfl rfl (sat_spec H (by ((repeat (apply Fresh.put; omega)); ((assumption)))) 11 (by decide)) ?_
  rintro v' h1 c1 r1 w1 ⟨w, rfl, e1⟩
  cases e1
  (repeat (first | (with_reducible refine Then.go ?_) | (with_reducible refine Then.rt ?_) | (with_reducible refine Out.rt ?_) | (with_reducible refine Wx.ret ?_) | ((with_reducible refine Wseq.nil ?_); intro e he; (simp only [ke, Nat.testBit, Nat.reduceShiftRight, Nat.reduceAnd, Nat.reduceBNe, Nat.reduceEqDiff, Nat.reduceAdd, ↓reduceIte, reduceCtorEq, Bool.false_eq_true] at he; subst he)) | ((with_reducible apply Wseq.as); rfl; (intro v hv; (simp only [kv, Nat.reduceEqDiff, eq_self, ↓reduceIte, reduceCtorEq, List.map_cons, List.map_nil] at hv); subst hv))))
  refine ⟨.inr rfl, Wres.one rfl ⟨⟨_, rfl, by omega, by dsimp only; omega, _, Has.same⟩, ?_⟩⟩
  (dsimp only; exact Ext.of (by omega) (by ((repeat (apply Fresh.put; omega)); ((exact Fresh.up (by assumption) (by omega))))) (by (repeat (first | (exact Kp.refl) | (apply Kp.set; (focus (left; omega)))))) (by (repeat ((exact Lg.nil)))) (by (repeat ((exact Lg.nil)))))
end Go.Ab.Seat
end
