/- FlatAlone: the run answers true (the abstract machine). -/
import Derived.Test.YtcnfbfiakkjabaaGreatDoorDA1
set_option linter.unusedVariables false
set_option linter.unusedSimpArgs false
namespace Go.Ab.Seat
open Go.Extern Go.Proofs
set_option linter.unusedSimpArgs false
set_option linter.unusedVariables false
set_option maxRecDepth 4000
set_option pp.deepTerms false
set_option pp.deepTerms.threshold 6

def EA (v : Value) (at_ : Int) (lv : Value) (p n : Nat) (z : Int) (j8 j20 : Value) : L :=
  .cons 0 v (.cons 1 (.int .i64 at_) (.cons 4 (.bool false) (.cons 5 (.bool true) (.cons 13 (.bool false) (.cons 6 lv (.cons 7 (.pointer (some ⟨p, 0, none⟩)) (.cons 18 (.int .i64 (n : Int)) (.cons 19 (.int .i64 z) (.cons 8 j8 (.cons 20 j20 .nil))))))))))

theorem Best.lt {h : T AObj} {c : Nat} {v : Value} {n : Nat} {xs : List Value} (x : Best h v n xs) (hf : Fresh h c) : ∀ b, blkOf v = some b → b < c := by
  intro b hb
  rcases x with ⟨rfl, _⟩ | ⟨b', cap, cs, rfl, _, _, h3, _⟩
  · cases hb
  · cases hb; exact h3.lt hf
/-- One hit alone. -/
theorem Best.one {h : T AObj} {v : Value} {x : Ht} (b : Best h v [x].length (flatH [x])) : ∃ bb cap y cs, v = .slice (some ⟨bb, 0, some 2⟩) 1 cap ∧ Has h bb (.cells cs) ∧ nth cs 0 = some (.int .i64 x.id) ∧ nth cs 1 = some (.int .i64 x.sc) ∧ y = x.id := by
  rcases b with ⟨_, h2, _⟩ | ⟨bb, cap, cs, rfl, _, _, h3, h4⟩
  · cases h2
  · have hc := (subN_some _ _ _ _ h4).2.2
    refine ⟨bb, cap, _, cs, rfl, h3, ?_, ?_, rfl⟩
    · rw [nth_eq]; exact (hc 0 (by show 0 < 1 * 2; omega)).symm
    · rw [nth_eq]; exact (hc 1 (by show 1 < 1 * 2; omega)).symm

theorem tmod_at {z : Int} {n : Nat} (hn : 0 < n) : 0 ≤ (z.tmod n + n).tmod n ∧ (z.tmod n + n).tmod n < n ∧ -(n : Int) < z.tmod n ∧ z.tmod n < n := by
  have h1 := tmod_lt z n (by omega)
  have h2 := Int.tmod_lt_of_pos (z.tmod n + n) (show (0 : Int) < n by omega)
  have h3 := Int.tmod_nonneg (a := z.tmod n + n) (n : Int) (by omega)
  omega

set_option maxHeartbeats 8000000 in
theorem flatAlone_run {h : T AObj} {c : Nat} (hf : Fresh h c) (hg : Glob h) (at_ : Int) {v : Value} {zss : List (List Int)} (hv : VecsIn h v zss) (hvn : zss.length ≤ 9223372036854775807) :
    ∃ r s', FnTo (Cs smQ) eg 5 [v, .int .i64 at_] ⟨h, c, [], []⟩ r s' ∧ r = .bool true := by
  obtain ⟨oa0, cap0, rfl, _⟩ := _root_.id hv
  refine Fn.go (stdQ 5 rfl) ex5 fn5 km5 rfl rfl ?_
  intro e he
  (simp only [ke, Nat.testBit, Nat.reduceShiftRight, Nat.reduceAnd, Nat.reduceBNe, Nat.reduceEqDiff, Nat.reduceAdd, ↓reduceIte, reduceCtorEq, Bool.false_eq_true] at he; subst he)
  (repeat (first | (with_reducible refine Then.go ?_) | (with_reducible refine Wx.seq ?_) | (with_reducible refine Wx.reg ?_) | ((with_reducible refine Wseq.nil ?_); intro e he; (simp only [ke, Nat.testBit, Nat.reduceShiftRight, Nat.reduceAnd, Nat.reduceBNe, Nat.reduceEqDiff, Nat.reduceAdd, ↓reduceIte, reduceCtorEq, Bool.false_eq_true] at he; subst he)) | ((with_reducible apply Wseq.as); rfl; (intro v hv; (simp only [kv, Nat.reduceEqDiff, eq_self, ↓reduceIte, reduceCtorEq, List.map_cons, List.map_nil] at hv); subst hv))))
  refine Wseq.call rfl rfl (begunQ (by ((repeat (apply Fresh.put; omega)); ((assumption)))) hg) ?_
  rintro v1 h1 c1 r1 w1 ⟨rfl, e1⟩
  cases e1
  (repeat (first | (with_reducible refine Then.go ?_) | (with_reducible refine Wx.seq ?_) | (with_reducible refine Wx.skip ?_) | (with_reducible refine Wx.reg ?_) | (refine Wx.condF rfl (by rfl) ?_) | ((with_reducible refine Wseq.nil ?_); intro e he; (simp only [ke, Nat.testBit, Nat.reduceShiftRight, Nat.reduceAnd, Nat.reduceBNe, Nat.reduceEqDiff, Nat.reduceAdd, ↓reduceIte, reduceCtorEq, Bool.false_eq_true] at he; subst he)) | ((with_reducible apply Wseq.mv); rfl; (intro v hv; (simp only [kv, Nat.reduceEqDiff, eq_self, ↓reduceIte, reduceCtorEq, List.map_cons, List.map_nil] at hv); subst hv)) | ((with_reducible apply Wseq.as); rfl; (intro v hv; (simp only [kv, Nat.reduceEqDiff, eq_self, ↓reduceIte, reduceCtorEq, List.map_cons, List.map_nil] at hv); subst hv)) | ((with_reducible apply Wseq.stg (op := Op.unOp UnOp.not _ _)); rfl; exact to_notT rfl)))
  refine Wseq.call rfl rfl (vecs_spec stdQ (n := 20) (dim := 2) (by ((repeat (apply Fresh.put; omega)); ((assumption)))) hv (by omega) (by omega) hvn) ?_
  rintro lv h1 c1 r1 w1 ⟨hV, hext1⟩
  have fr1 := hext1.fresh
  have le1 := hext1.c
  simp only at le1 fr1
  generalize hvs : vecsZ zss 2 20 = V at hV
  have hVlen : V.length ≤ 20 := by rw [← hvs]; unfold vecsZ; rw [List.length_map, List.length_take]; omega
  have hVb : ∀ zs ∈ V, Bnd zs := fun zs hz => by
    rw [← hvs] at hz
    unfold vecsZ at hz
    obtain ⟨y, _, rfl⟩ := List.mem_map.1 hz
    exact Bnd_vecZ _ _
  obtain ⟨ov, rfl⟩ := hV.val
  (repeat (first | (with_reducible refine Then.go ?_) | (with_reducible refine Wx.seq ?_) | (with_reducible refine Wx.reg ?_) | ((with_reducible refine Wseq.nil ?_); intro e he; (simp only [ke, Nat.testBit, Nat.reduceShiftRight, Nat.reduceAnd, Nat.reduceBNe, Nat.reduceEqDiff, Nat.reduceAdd, ↓reduceIte, reduceCtorEq, Bool.false_eq_true] at he; subst he)) | ((with_reducible apply Wseq.as); rfl; (intro v hv; (simp only [kv, Nat.reduceEqDiff, eq_self, ↓reduceIte, reduceCtorEq, List.map_cons, List.map_nil] at hv); subst hv))))
  refine Wseq.call rfl rfl (fnew_spec stdQ (by ((repeat (apply Fresh.put; omega)); ((assumption)))) 1 (.inl rfl)) ?_
  rintro v2 h2 c2 r2 w2 ⟨⟨rfl, ga1, ga2, e2⟩, hext2⟩
  simp only at e2
  subst e2
  have fr2 := hext2.fresh
  simp only at fr2
  have hV2 : VRow h2 c (.slice ov V.length V.length) 2 V := hV.keep fr1 fun b hb _ _ => hext2.get hb (fun q => q)
  have q2 : FlatM h2 (c1 + 1) c1 1 2 [] (fun b => b = c1 + 1 ∨ b = c1) := FlatM.new ga2 ga1 (by omega)
  (repeat (first | (with_reducible refine Then.go ?_) | (with_reducible refine Wx.seq ?_) | (with_reducible refine Wx.block ?_) | (with_reducible refine Wx.reg ?_) | ((with_reducible refine Wseq.nil ?_); intro e he; (simp only [ke, Nat.testBit, Nat.reduceShiftRight, Nat.reduceAnd, Nat.reduceBNe, Nat.reduceEqDiff, Nat.reduceAdd, ↓reduceIte, reduceCtorEq, Bool.false_eq_true] at he; subst he)) | ((with_reducible apply Wseq.mv); rfl; (intro v hv; (simp only [kv, Nat.reduceEqDiff, eq_self, ↓reduceIte, reduceCtorEq, List.map_cons, List.map_nil] at hv); subst hv)) | ((with_reducible apply Wseq.as); rfl; (intro v hv; (simp only [kv, Nat.reduceEqDiff, eq_self, ↓reduceIte, reduceCtorEq, List.map_cons, List.map_nil] at hv); subst hv)) | ((with_reducible apply Wseq.stg (op := Op.call ⟨Callee.builtin Builtin.len, _, _⟩)); rfl; exact to_lenS (sl_ rfl) rfl)))
  refine Wx.cutO (fun e s => ∃ (j8 j20 : Value) (h' : T AObj) (c' : Nat) (rl' wl' : List Nat) (M : List Rc) (U : Nat → Prop), e = EA (.slice oa0 zss.length cap0) at_ (.slice ov V.length V.length) (c1 + 1) V.length V.length j8 j20 ∧ s = ⟨h', c', rl', wl'⟩ ∧ Fresh h' c' ∧ VRow h' c (.slice ov V.length V.length) 2 V ∧ FlatM h' (c1 + 1) c1 1 2 M U ∧ (∀ x : Int, getM x M = if 1 ≤ x ∧ x ≤ (V.length : Int) then some (mbR x (V.getD (x - 1).toNat [])) else none)) (by (repeat ((exact Resp.fn)))) ?_ ?_
  · refine Wx.loopE (fun k1 e s => ∃ (i : Nat) (z : Int) (j8 j20 : Value) (h' : T AObj) (c' : Nat) (rl' wl' : List Nat) (M : List Rc) (U : Nat → Prop), e = EA (.slice oa0 zss.length cap0) at_ (.slice ov V.length V.length) (c1 + 1) V.length z j8 j20 ∧ z = i ∧ s = ⟨h', c', rl', wl'⟩ ∧ Fresh h' c' ∧ VRow h' c (.slice ov V.length V.length) 2 V ∧ FlatM h' (c1 + 1) c1 1 2 M U ∧ (∀ x : Int, getM x M = if 1 ≤ x ∧ x ≤ (i : Int) then some (mbR x (V.getD (x - 1).toNat [])) else none) ∧ i ≤ V.length ∧ k1 = V.length - i) V.length (EA (.slice oa0 zss.length cap0) at_ (.slice ov V.length V.length) (c1 + 1) V.length 0 top top) (by (repeat (first | (exact Resp.fn) | (apply Resp.out) | (apply Resp.cut)))) ?_ ?_ ?_
    · unfold EA
      (refine EqK.of ?_ ?_ <;> (repeat (first | (exact all_nil) | (apply all_cons; rfl))))
    · refine ⟨0, 0, _, _, _, _, _, _, [], _, rfl, rfl, rfl, fr2, hV2, q2, fun x => ?_, by omega, rfl⟩
      rw [if_neg (by omega)]; rfl
    · rintro k1 e s ⟨i, z, j8, j20, h', c', rl', wl', M, U, rfl, hz, rfl, hf', hV', hM, hMx, hid, rfl⟩
      unfold EA
      by_cases hi : i < V.length
      · obtain ⟨g1, bV, vals, bi, rfl, g2, g3, g4, g5, g6⟩ := hV'.at (List.getElem?_eq_getElem hi)
        have lV := g3.lt hf'
        obtain ⟨es, n, hma⟩ := hM.hm
        have hrow : Row h' (.slice (some ⟨bi, 0, none⟩) 2 2) 2 1 (V[i].map (Value.int .i32)) := .inr ⟨bi, 0, none, 2, _, rfl, g6.cel, subN_all _ _ (by rw [List.length_map]; omega)⟩
        (repeat (first | (with_reducible refine Then.go ?_) | (with_reducible refine Wx.seq ?_) | (with_reducible refine Wx.skip ?_) | (with_reducible refine Wx.block ?_) | (with_reducible refine Wx.reg ?_) | (refine Wx.condT rfl (by rfl) ?_) | ((with_reducible refine Wseq.nil ?_); intro e he; (simp only [ke, Nat.testBit, Nat.reduceShiftRight, Nat.reduceAnd, Nat.reduceBNe, Nat.reduceEqDiff, Nat.reduceAdd, ↓reduceIte, reduceCtorEq, Bool.false_eq_true] at he; subst he)) | ((with_reducible apply Wseq.mv); rfl; (intro v hv; (simp only [kv, Nat.reduceEqDiff, eq_self, ↓reduceIte, reduceCtorEq, List.map_cons, List.map_nil] at hv); subst hv)) | ((with_reducible apply Wseq.as); rfl; (intro v hv; (simp only [kv, Nat.reduceEqDiff, eq_self, ↓reduceIte, reduceCtorEq, List.map_cons, List.map_nil] at hv); subst hv)) | ((with_reducible apply Wseq.stg (op := Op.binOp BinOp.lss _ _ _ _)); rfl; exact to_lssT rfl rfl (by omega)) | ((with_reducible apply Wseq.stg (op := Op.binOp BinOp.add _ _ _ _)); rfl; exact to_add rfl rfl (by omega) (by omega))))
        ((with_reducible apply Wseq.stg); (focus rfl); (focus (exact to_indexAddr (k := i) el22 rfl rfl hz hi)))
        ((with_reducible apply Wseq.stg); (focus rfl); (focus (exact to_load (pl_ rfl) rfl g3.cel (by omega) g4)))
        refine Wseq.call rfl rfl (fput_spec (by ((repeat (apply Fresh.put; omega)); ((assumption)))) hM (z + 1) (by omega) hrow g1 (hVb _ (List.getElem_mem hi)) (by omega) (by omega) (fun b => b = bi) (fun b o sp e => by cases e; rfl) (fun e => notMap g6 hma e.symm)) ?_
        rintro w h4 c4 r4 w4 ⟨hM4, hext4⟩
        have fr4 := hext4.fresh
        simp only at fr4
        have hV4 : VRow h4 c _ 2 V := hV'.keep hf' fun b hb ⟨cs, hcs⟩ _ => hext4.get hb (notMap hcs hma)
        (repeat (first | (with_reducible refine Then.go ?_) | (with_reducible refine Out.go ?_) | (with_reducible refine Wx.reg ?_) | ((with_reducible refine Wseq.nil ?_); intro e he; (simp only [ke, Nat.testBit, Nat.reduceShiftRight, Nat.reduceAnd, Nat.reduceBNe, Nat.reduceEqDiff, Nat.reduceAdd, ↓reduceIte, reduceCtorEq, Bool.false_eq_true] at he; subst he)) | ((with_reducible apply Wseq.mv); rfl; (intro v hv; (simp only [kv, Nat.reduceEqDiff, eq_self, ↓reduceIte, reduceCtorEq, List.map_cons, List.map_nil] at hv); subst hv)) | ((with_reducible apply Wseq.stg (op := Op.binOp BinOp.add _ _ _ _)); rfl; exact to_add rfl rfl (by omega) (by omega))))
        refine RoundE.go (V.length - (i + 1)) (EA (.slice oa0 zss.length cap0) at_ (.slice _ V.length V.length) (c1 + 1) V.length (z + 1) _ _) (by omega) (by (refine EqK.of ?_ ?_ <;> (repeat (first | (exact all_nil) | (apply all_cons; rfl))))) ⟨i + 1, z + 1, _, _, _, _, _, _, _, _, rfl, by omega, rfl, fr4, hV4, hM4, fun x => ?_, by omega, rfl⟩
        rw [getM_put, hMx x]
        by_cases hx : z + 1 = x
        · rw [if_pos hx, if_pos (by omega)]
          subst hx
          rw [show (z + 1 - 1).toNat = i by omega, List.getD_eq_getElem?_getD, List.getElem?_eq_getElem hi]
          rfl
        · rw [if_neg hx]
          by_cases hx2 : 1 ≤ x ∧ x ≤ (i : Int)
          · rw [if_pos hx2, if_pos (by omega)]
          · rw [if_neg hx2, if_neg (by omega)]
      · (repeat (first | (with_reducible refine Then.go ?_) | (with_reducible refine Then.ex ?_) | (with_reducible refine Out.hit ?_) | (with_reducible refine Wx.seq ?_) | (with_reducible refine Wx.exit ?_) | (with_reducible refine Wx.reg ?_) | (with_reducible refine RoundE.ex ?_) | (refine Wx.condF rfl (by rfl) ?_) | ((with_reducible refine Wseq.nil ?_); intro e he; (simp only [ke, Nat.testBit, Nat.reduceShiftRight, Nat.reduceAnd, Nat.reduceBNe, Nat.reduceEqDiff, Nat.reduceAdd, ↓reduceIte, reduceCtorEq, Bool.false_eq_true] at he; subst he)) | ((with_reducible apply Wseq.stg (op := Op.binOp BinOp.lss _ _ _ _)); rfl; exact to_lssF rfl rfl (by omega))))
        obtain rfl : i = V.length := by omega
        subst hz
        exact CutQ.go (EA (.slice oa0 zss.length cap0) at_ (.slice ov V.length V.length) (c1 + 1) V.length V.length _ _) (by (refine EqK.of ?_ ?_ <;> (repeat (first | (exact all_nil) | (apply all_cons; rfl))))) ⟨_, _, _, _, _, _, M, U, rfl, rfl, hf', hV', hM, hMx⟩
  · rintro e s ⟨j8, j20, h4, c4, rl4, wl4, M, U, rfl, rfl, hf4, hV4, hM4, hMx⟩
    unfold EA
    have hML : M.length ≤ 20 := by
      have := getM_len (n := V.length) hM4.rises (fun x hx => by rw [hMx x, if_neg (by omega)])
      omega
    by_cases hn0 : V.length = 0
    · have hM0 : M = [] := by
        have := getM_len (n := V.length) hM4.rises (fun x hx => by rw [hMx x, if_neg (by omega)])
        rw [hn0] at this
        exact List.length_eq_zero_iff.1 (by omega)
      subst hM0
      (repeat (first | (with_reducible refine Then.go ?_) | (with_reducible refine Wx.seq ?_) | (with_reducible refine Wx.reg ?_) | (refine Wx.condT rfl (by rfl) ?_) | ((with_reducible refine Wseq.nil ?_); intro e he; (simp only [ke, Nat.testBit, Nat.reduceShiftRight, Nat.reduceAnd, Nat.reduceBNe, Nat.reduceEqDiff, Nat.reduceAdd, ↓reduceIte, reduceCtorEq, Bool.false_eq_true] at he; subst he)) | ((with_reducible apply Wseq.mv); rfl; (intro v hv; (simp only [kv, Nat.reduceEqDiff, eq_self, ↓reduceIte, reduceCtorEq, List.map_cons, List.map_nil] at hv); subst hv)) | ((with_reducible apply Wseq.bs); rfl; exact (ro_ rfl); rfl; exact (by ((repeat (apply Fresh.put; omega)); ((assumption)))); (intro v hv; (simp only [kv, Nat.reduceEqDiff, eq_self, ↓reduceIte, reduceCtorEq, List.map_cons, List.map_nil] at hv); subst hv); refine ⟨_, rfl, ?_⟩) | ((with_reducible apply Wseq.stg (op := Op.call ⟨Callee.builtin Builtin.len, _, _⟩)); rfl; exact to_lenS (sl_ rfl) rfl) | ((with_reducible apply Wseq.stg (op := Op.binOp BinOp.eql _ _ _ _)); rfl; exact to_eqIT rfl rfl (by omega))))
      have hqr : Row (h4.set c4 (some (.cells [Value.int .i32 0, Value.int .i32 0]))) (.slice (some ⟨c4, 0, none⟩) 2 2) 2 1 (([0, 0] : List Int).map (Value.int .i32)) := .inr ⟨c4, 0, none, 2, _, rfl, Has.same.cel, subN_all _ _ rfl⟩
      refine Wseq.call rfl rfl (fsearch_spec (k := 3) (kk := 3) (qs := [0, 0]) (by ((repeat (apply Fresh.put; omega)); ((exact Fresh.up (by assumption) (by omega))))) (hM4.keep hf4 (fun b _ hb => get_other (by omega))) (.inl rfl) hqr rfl (fun i => by rcases i with _ | _ | i <;> simp) (by omega) rfl (by omega) (by simp) (fun _ => True) (fun _ _ => trivial) (fun _ _ => trivial)) ?_
      rintro w7 h7 c7 r7 w7' ⟨⟨gA1, gA2⟩, hext7⟩
      obtain ⟨oA, cA, rfl, _, rowA⟩ := gA1.row
      (repeat (first | (with_reducible refine Then.go ?_) | (with_reducible refine Then.rt ?_) | (with_reducible refine Wx.ret ?_) | ((with_reducible refine Wseq.nil ?_); intro e he; (simp only [ke, Nat.testBit, Nat.reduceShiftRight, Nat.reduceAnd, Nat.reduceBNe, Nat.reduceEqDiff, Nat.reduceAdd, ↓reduceIte, reduceCtorEq, Bool.false_eq_true] at he; subst he)) | ((with_reducible apply Wseq.as); rfl; (intro v hv; (simp only [kv, Nat.reduceEqDiff, eq_self, ↓reduceIte, reduceCtorEq, List.map_cons, List.map_nil] at hv); subst hv)) | ((with_reducible apply Wseq.stg (op := Op.call ⟨Callee.builtin Builtin.len, _, _⟩)); rfl; exact to_lenS (sl_ rfl) rfl) | ((with_reducible apply Wseq.stg (op := Op.binOp BinOp.eql _ _ _ _)); rfl; exact to_eqI rfl rfl)))
      exact ⟨.inr rfl, Wres.one rfl rfl⟩
    · have hat := tmod_at (z := at_) (n := V.length) (by omega)
      (repeat (first | (with_reducible refine Then.go ?_) | (with_reducible refine Wx.seq ?_) | (with_reducible refine Wx.skip ?_) | (with_reducible refine Wx.reg ?_) | (refine Wx.condF rfl (by rfl) ?_) | ((with_reducible refine Wseq.nil ?_); intro e he; (simp only [ke, Nat.testBit, Nat.reduceShiftRight, Nat.reduceAnd, Nat.reduceBNe, Nat.reduceEqDiff, Nat.reduceAdd, ↓reduceIte, reduceCtorEq, Bool.false_eq_true] at he; subst he)) | ((with_reducible apply Wseq.mv); rfl; (intro v hv; (simp only [kv, Nat.reduceEqDiff, eq_self, ↓reduceIte, reduceCtorEq, List.map_cons, List.map_nil] at hv); subst hv)) | ((with_reducible apply Wseq.stg (op := Op.call ⟨Callee.builtin Builtin.len, _, _⟩)); rfl; exact to_lenS (sl_ rfl) rfl) | ((with_reducible apply Wseq.stg (op := Op.binOp BinOp.eql _ _ _ _)); rfl; exact to_eqIF rfl rfl (by omega))))
      ((with_reducible apply Wseq.stg); (focus rfl); (focus (exact to_rem rfl rfl (by omega))))
      (repeat (first | ((with_reducible apply Wseq.mv); rfl; (intro v hv; (simp only [kv, Nat.reduceEqDiff, eq_self, ↓reduceIte, reduceCtorEq, List.map_cons, List.map_nil] at hv); subst hv)) | ((with_reducible apply Wseq.stg (op := Op.call ⟨Callee.builtin Builtin.len, _, _⟩)); rfl; exact to_lenS (sl_ rfl) rfl) | ((with_reducible apply Wseq.stg (op := Op.binOp BinOp.add _ _ _ _)); rfl; exact to_add rfl rfl (by omega) (by omega))))
      ((with_reducible apply Wseq.stg); (focus rfl); (focus (exact to_rem rfl rfl (by omega))))
      obtain ⟨A, hA⟩ : ∃ A : Nat, (at_.tmod V.length + V.length).tmod V.length = (A : Int) := ⟨((at_.tmod V.length + V.length).tmod V.length).toNat, by omega⟩
      have hAn : A < V.length := by omega
      simp only [hA]
      clear hat
      obtain ⟨g1, bV, vals, bi, rfl, g2, g3, g4, g5, g6⟩ := hV4.at (List.getElem?_eq_getElem hAn)
      have lV := g3.lt hf4
      have lq := g6.lt hf4
      have hqr : Row h4 (.slice (some ⟨bi, 0, none⟩) 2 2) 2 1 (V[A].map (Value.int .i32)) := .inr ⟨bi, 0, none, 2, _, rfl, g6.cel, subN_all _ _ (by rw [List.length_map]; omega)⟩
      have hqb := hVb _ (List.getElem_mem hAn)
      (repeat (first | (with_reducible refine Then.go ?_) | (with_reducible refine Wx.seq ?_) | (with_reducible refine Wx.reg ?_) | ((with_reducible refine Wseq.nil ?_); intro e he; (simp only [ke, Nat.testBit, Nat.reduceShiftRight, Nat.reduceAnd, Nat.reduceBNe, Nat.reduceEqDiff, Nat.reduceAdd, ↓reduceIte, reduceCtorEq, Bool.false_eq_true] at he; subst he)) | ((with_reducible apply Wseq.mv); rfl; (intro v hv; (simp only [kv, Nat.reduceEqDiff, eq_self, ↓reduceIte, reduceCtorEq, List.map_cons, List.map_nil] at hv); subst hv)) | ((with_reducible apply Wseq.as); rfl; (intro v hv; (simp only [kv, Nat.reduceEqDiff, eq_self, ↓reduceIte, reduceCtorEq, List.map_cons, List.map_nil] at hv); subst hv))))
      ((with_reducible apply Wseq.stg); (focus rfl); (focus (exact to_indexAddr (k := A) el22 rfl rfl rfl hAn)))
      ((with_reducible apply Wseq.stg); (focus rfl); (focus (exact to_load (pl_ rfl) rfl g3.cel (by omega) g4)))
      refine Wseq.call rfl rfl (fsearch_spec (k := 1) (kk := 1) (by ((repeat (apply Fresh.put; omega)); ((assumption)))) hM4 (.inl rfl) hqr g1 hqb (by omega) rfl (by omega) (by omega) (fun _ => True) (fun _ _ => trivial) (fun _ _ => trivial)) ?_
      rintro w5 h5 c5 r5 w5' ⟨⟨gA1, gA2⟩, hext5⟩
      have fr5 := hext5.fresh
      have le5 := hext5.c
      simp only at le5 fr5
      have hMA : getM ((A : Int) + 1) M = some (mbR ((A : Int) + 1) V[A]) := by
        rw [hMx, if_pos (by omega), show ((A : Int) + 1 - 1).toNat = A by omega, List.getD_eq_getElem?_getD, List.getElem?_eq_getElem hAn]
        rfl
      have hne : hitsM 1 V[A] M ≠ [] := by
        have := (getM_mem hMA).1
        unfold hitsM
        intro e
        rw [List.map_eq_nil_iff] at e
        rw [e] at this; cases this
      obtain ⟨b, hb, he, hmin⟩ := bestOf_one _ (hits_nodup hM4.rises) hne
      rw [he] at gA1
      obtain ⟨bb, capb, _, csb, rfl, k1, k2, k3, rfl⟩ := gA1.one
      have lbb := k1.lt fr5
      obtain ⟨r, hr, hrb⟩ : ∃ r ∈ M, hitR 1 V[A] r = b := by
        unfold hitsM at hb
        exact List.mem_map.1 hb
      have hrid : 1 ≤ r.id ∧ r.id ≤ (V.length : Int) := by
        have := getM_some hM4.rises hr rfl
        rw [hMx r.id] at this
        refine Classical.byContradiction fun q => ?_
        rw [if_neg q] at this; cases this
      have hrr : r = mbR r.id (V.getD (r.id - 1).toNat []) := by
        have := getM_some hM4.rises hr rfl
        rw [hMx r.id, if_pos hrid] at this
        exact (Option.some.inj this).symm
      obtain ⟨B, hB⟩ : ∃ B : Nat, r.id = (B : Int) + 1 := ⟨(r.id - 1).toNat, by omega⟩
      have hBn : B < V.length := by omega
      have hbid : b.id = (B : Int) + 1 := by rw [← hrb]; exact hB
      have hrv : V.getD (r.id - 1).toNat [] = V[B] := by
        rw [show (r.id - 1).toNat = B by omega, List.getD_eq_getElem?_getD, List.getElem?_eq_getElem hBn]; rfl
      have hself : (⟨(A : Int) + 1, 0⟩ : Ht) ∈ hitsM 1 V[A] M := by
        unfold hitsM
        refine List.mem_map.2 ⟨_, (getM_mem hMA).1, ?_⟩
        unfold hitR
        rw [intsV_ints, score_self]
      have hsc0 : b.sc = 0 := by
        have h1 := hmin _ hself
        rw [lessH_not] at h1
        have h2 : 0 ≤ b.sc := by rw [← hrb]; exact score_nonneg _ _ _
        simp only at h1
        omega
      have hidle : b.id ≤ (A : Int) + 1 := by
        have h1 := hmin _ hself
        rw [lessH_not] at h1
        simp only at h1
        omega
      obtain ⟨g1B, bVB, valsB, biB, eB, g2B, g3B, g4B, g5B, g6B⟩ := hV4.at (List.getElem?_eq_getElem hBn)
      cases eB
      have hVeq : V[A] = V[B] := by
        refine score_zero (g1.trans g1B.symm) ?_
        have h1 : scoreZ 1 V[A] (intsV r.xs) = b.sc := by rw [← hrb]; rfl
        rw [hrr] at h1
        simp only at h1
        rw [intsV_ints, hrv, hsc0] at h1
        exact h1
      rw [hsc0] at k3
      rw [hbid] at k2 hidle
      have k5 : ∀ b, b < c4 → h5.get b = h4.get b := fun b hb => hext5.get hb (fun q => q)
      have G3 : Has h5 bV (.cells vals) := (k5 bV lV).trans g3
      have G3B : Has h5 bV (.cells valsB) := (k5 bV lV).trans g3B
      (repeat (first | (with_reducible refine Then.go ?_) | (with_reducible refine Wx.seq ?_) | (refine Wx.dreg rfl ?_) | ((with_reducible refine Wseq.nil ?_); intro e he; (simp only [ke, Nat.testBit, Nat.reduceShiftRight, Nat.reduceAnd, Nat.reduceBNe, Nat.reduceEqDiff, Nat.reduceAdd, ↓reduceIte, reduceCtorEq, Bool.false_eq_true] at he; subst he)) | ((with_reducible apply Wseq.as); rfl; (intro v hv; (simp only [kv, Nat.reduceEqDiff, eq_self, ↓reduceIte, reduceCtorEq, List.map_cons, List.map_nil] at hv); subst hv)) | ((with_reducible apply Wtr.mv); rfl; (intro v hv; (simp only [kv, Nat.reduceEqDiff, eq_self, ↓reduceIte, reduceCtorEq, List.map_cons, List.map_nil] at hv); subst hv)) | ((with_reducible apply Wtr.stq (op := Op.call ⟨Callee.builtin Builtin.len, _, _⟩)); rfl; exact to_lenS (sl_ rfl) rfl) | ((with_reducible apply Wtr.stq (op := Op.binOp BinOp.neq _ _ _ _)); rfl; exact to_neIF rfl rfl (by omega))))
      ((with_reducible apply Wtr.stq); (focus rfl); (focus (exact to_indexAddr (k := 0) el32 rfl rfl rfl (by omega))))
      (repeat (((with_reducible apply Wtr.stq (op := Op.fieldAddr _ _ _)); rfl; exact to_fieldAddr (fa_ rfl) rfl)))
      ((with_reducible apply Wtr.stx); (focus rfl); (focus (exact to_load (pl_ rfl) rfl k1.cel (by omega) k3)); repeat ((exact all_nil)))
      (repeat (first | ((with_reducible apply Wtr.mv); rfl; (intro v hv; (simp only [kv, Nat.reduceEqDiff, eq_self, ↓reduceIte, reduceCtorEq, List.map_cons, List.map_nil] at hv); subst hv)) | ((with_reducible apply Wtr.pkF); rfl; rfl; (intro v hv; (simp only [kv, Nat.reduceEqDiff, eq_self, ↓reduceIte, reduceCtorEq, List.map_cons, List.map_nil] at hv); subst hv)) | ((with_reducible apply Wtr.stq (op := Op.binOp BinOp.neq _ _ _ _)); rfl; exact to_neIF rfl rfl (by omega))))
      ((with_reducible apply Wtr.stq); (focus rfl); (focus (exact to_indexAddr (k := 0) el32 rfl rfl rfl (by omega))))
      (repeat (((with_reducible apply Wtr.stq (op := Op.fieldAddr _ _ _)); rfl; exact to_fieldAddr (fa_ rfl) rfl)))
      ((with_reducible apply Wtr.stx); (focus rfl); (focus (exact to_load (pl_ rfl) rfl k1.cel (by omega) k2)); (focus (repeat (first | (exact all_nil) | (apply all_cons; (focus ((right; exact ApartP.rr))))))))
      (repeat (first | ((with_reducible apply Wtr.mv); rfl; (intro v hv; (simp only [kv, Nat.reduceEqDiff, eq_self, ↓reduceIte, reduceCtorEq, List.map_cons, List.map_nil] at hv); subst hv)) | ((with_reducible apply Wtr.pkF); rfl; rfl; (intro v hv; (simp only [kv, Nat.reduceEqDiff, eq_self, ↓reduceIte, reduceCtorEq, List.map_cons, List.map_nil] at hv); subst hv)) | ((with_reducible apply Wtr.stq (op := Op.binOp BinOp.gtr _ _ _ _)); rfl; exact to_gtrF rfl rfl (by omega)) | ((with_reducible apply Wtr.stq (op := Op.binOp BinOp.add _ _ _ _)); rfl; exact to_add rfl rfl (by omega) (by omega))))
      ((with_reducible apply Wtr.stq); (focus rfl); (focus (exact to_indexAddr (k := 0) el32 rfl rfl rfl (by omega))))
      (repeat (((with_reducible apply Wtr.stq (op := Op.fieldAddr _ _ _)); rfl; exact to_fieldAddr (fa_ rfl) rfl)))
      ((with_reducible apply Wtr.stx); (focus rfl); (focus (exact to_load (pl_ rfl) rfl k1.cel (by omega) k2)); (focus (repeat (first | (exact all_nil) | (apply all_cons; (focus ((right; exact ApartP.rr))))))))
      (repeat (((with_reducible apply Wtr.stq (op := Op.binOp BinOp.sub _ _ _ _)); rfl; exact to_sub rfl rfl (by omega) (by omega))))
      ((with_reducible apply Wtr.stq); (focus rfl); (focus (exact to_indexAddr (k := B) el22 rfl rfl (by omega) hBn)))
      ((with_reducible apply Wtr.stx); (focus rfl); (focus (exact to_load (pl_ rfl) rfl G3B.cel (by omega) g4B)); (focus (repeat (first | (exact all_nil) | (apply all_cons; (focus ((right; exact ApartP.rr))))))))
      (repeat (((with_reducible apply Wtr.mv); rfl; (intro v hv; (simp only [kv, Nat.reduceEqDiff, eq_self, ↓reduceIte, reduceCtorEq, List.map_cons, List.map_nil] at hv); subst hv))))
      ((with_reducible apply Wtr.stq); (focus rfl); (focus (exact to_indexAddr (k := A) el22 rfl rfl rfl hAn)))
      ((with_reducible apply Wtr.stx); (focus rfl); (focus (exact to_load (pl_ rfl) rfl G3.cel (by omega) g4)); (focus (repeat (first | (exact all_nil) | (apply all_cons; (focus ((right; exact ApartP.rr))))))))
      have G6 : Has h5 bi (.cells (V[A].map (Value.int .i32))) := (k5 bi lq).trans g6
      have G6B : Has h5 biB (.cells (V[B].map (Value.int .i32))) := (k5 biB (g6B.lt hf4)).trans g6B
      skip
      refine Wtr.call rfl rfl (eq_spec stdQ (zs := V[A]) (by ((repeat (apply Fresh.put; omega)); ((assumption)))) g1 (.inr ⟨biB, 0, none, 2, _, rfl, G6B.cel, by rw [hVeq]; exact subN_all _ _ (by rw [List.length_map]; omega)⟩) (.inr ⟨bi, 0, none, 2, _, rfl, G6.cel, subN_all _ _ (by rw [List.length_map]; omega)⟩) (by unfold big; omega) (fun _ => True) (fun _ _ => trivial)) ?_
      rintro v6 h6 c6 r6 w6 ⟨rfl, hext6⟩
      have hw6 := hext6.quiet (fun b _ q => q)
      have fr6 := hext6.fresh
      have le6 := hext6.c
      simp only at le6 fr6
      refine ⟨(by (repeat (first | (exact all_nil) | (apply all_cons; (focus ((left; dsimp only; decide +kernel))))))), ?_⟩
      have k6 : ∀ b, b < c5 → h6.get b = h5.get b := fun b hb => hext6.get hb (fun q => q)
      have K6 : Has h6 bb (.cells csb) := (k6 bb lbb).trans k1
      have H3 : Has h6 bV (.cells vals) := (k6 bV (by omega)).trans G3
      have H6 : Has h6 bi (.cells (V[A].map (Value.int .i32))) := (k6 bi (by omega)).trans G6
      have hM6 : FlatM h6 (c1 + 1) c1 1 2 M U := hM4.keep hf4 (fun b _ hb => (k6 b (by omega)).trans (k5 b hb))
      obtain ⟨es, nn, hma⟩ := hM6.hm
      (repeat (first | (with_reducible refine Then.go ?_) | (with_reducible refine Wx.seq ?_) | (with_reducible refine Wx.skip ?_) | (with_reducible refine Wx.reg ?_) | (refine Wx.condF rfl (by rfl) ?_) | ((with_reducible apply Wseq.mv); rfl; (intro v hv; (simp only [kv, Nat.reduceEqDiff, eq_self, ↓reduceIte, reduceCtorEq, List.map_cons, List.map_nil] at hv); subst hv)) | ((with_reducible refine Wtr.nil ?_); intro e he; (simp only [ke, Nat.testBit, Nat.reduceShiftRight, Nat.reduceAnd, Nat.reduceBNe, Nat.reduceEqDiff, Nat.reduceAdd, ↓reduceIte, reduceCtorEq, Bool.false_eq_true] at he; subst he)) | ((with_reducible apply Wtr.pkF); rfl; rfl; (intro v hv; (simp only [kv, Nat.reduceEqDiff, eq_self, ↓reduceIte, reduceCtorEq, List.map_cons, List.map_nil] at hv); subst hv)) | ((with_reducible apply Wtr.stq (op := Op.unOp UnOp.not _ _)); rfl; exact to_notT rfl)))
      ((with_reducible apply Wseq.stg); (focus rfl); (focus (exact to_indexAddr (k := 0) el32 rfl rfl rfl (by omega))))
      (repeat (((with_reducible apply Wseq.stg (op := Op.fieldAddr _ _ _)); rfl; exact to_fieldAddr (fa_ rfl) rfl)))
      ((with_reducible apply Wseq.stg); (focus rfl); (focus (exact to_load (pl_ rfl) rfl K6.cel (by omega) k2)))
      refine Wseq.call rfl rfl (fdel_spec (by ((repeat (apply Fresh.put; omega)); ((assumption)))) hM6 ((B : Int) + 1)) ?_
      rintro v7 h7 c7 r7 w7 ⟨⟨_, hM7⟩, hext7⟩
      have fr7 := hext7.fresh
      have le7 := hext7.c
      simp only at le7 fr7 hM7
      have k7 : ∀ b, b < c6 → b ≠ c1 → h7.get b = h6.get b := fun b hb hq => hext7.get hb hq
      have K7 : Has h7 bb (.cells csb) := (k7 bb (by omega) (notMap K6 hma)).trans K6
      have I3 : Has h7 bV (.cells vals) := (k7 bV (by omega) (notMap H3 hma)).trans H3
      have I6 : Has h7 bi (.cells (V[A].map (Value.int .i32))) := (k7 bi (by omega) (notMap H6 hma)).trans H6
      (repeat (first | (with_reducible refine Then.go ?_) | (with_reducible refine Wx.seq ?_) | (with_reducible refine Wx.reg ?_) | ((with_reducible refine Wseq.nil ?_); intro e he; (simp only [ke, Nat.testBit, Nat.reduceShiftRight, Nat.reduceAnd, Nat.reduceBNe, Nat.reduceEqDiff, Nat.reduceAdd, ↓reduceIte, reduceCtorEq, Bool.false_eq_true] at he; subst he)) | ((with_reducible apply Wseq.mv); rfl; (intro v hv; (simp only [kv, Nat.reduceEqDiff, eq_self, ↓reduceIte, reduceCtorEq, List.map_cons, List.map_nil] at hv); subst hv))))
      ((with_reducible apply Wseq.stg); (focus rfl); (focus (exact to_indexAddr (k := A) el22 rfl rfl rfl hAn)))
      ((with_reducible apply Wseq.stg); (focus rfl); (focus (exact to_load (pl_ rfl) rfl I3.cel (by omega) g4)))
      have hMx7 : ∀ x : Int, getM x (delM ((B : Int) + 1) M) = if x = (B : Int) + 1 then none else if 1 ≤ x ∧ x ≤ (V.length : Int) then some (mbR x (V.getD (x - 1).toNat [])) else none := fun x => by rw [getM_del, hMx x]
      generalize delM ((B : Int) + 1) M = M7 at hM7 hMx7
      have hr7 := hM7.rises
      have hML7 : M7.length ≤ V.length := getM_len hr7 (fun x hx => by
        rw [hMx7 x]
        split
        · rfl
        · rw [if_neg (by omega)])
      refine Wseq.call rfl rfl (fsearch_spec (k := 1) (kk := 1) (by ((repeat (apply Fresh.put; omega)); ((assumption)))) hM7 (.inl rfl) (.inr ⟨bi, 0, none, 2, _, rfl, I6.cel, subN_all _ _ (by rw [List.length_map]; omega)⟩) g1 hqb (by omega) rfl (by omega) (by omega) (fun _ => True) (fun _ _ => trivial) (fun _ _ => trivial)) ?_
      rintro w8 h8 c8 r8 w8' ⟨⟨gB1, gB2⟩, hext8⟩
      have le8 := hext8.c
      have fr8 := hext8.fresh
      simp only at le8 fr8
      have K8 : Has h8 bb (.cells csb) := (hext8.get (by omega) (fun q => q)).trans K7
      by_cases hone : V.length = 1
      · have hM0 : M7 = [] := by
          have := getM_len (n := 0) hr7 (fun x hx => by
            rw [hMx7 x]
            split
            · rfl
            · rw [if_neg (by omega)])
          exact List.length_eq_zero_iff.1 (by omega)
        subst hM0
        obtain ⟨oA, cA, rfl, _, rowA⟩ := gB1.row
        (repeat (first | (with_reducible refine Then.go ?_) | (with_reducible refine Wx.seq ?_) | (with_reducible refine Wx.ret ?_) | (refine Wx.dreg rfl ?_) | ((with_reducible refine Wseq.nil ?_); intro e he; (simp only [ke, Nat.testBit, Nat.reduceShiftRight, Nat.reduceAnd, Nat.reduceBNe, Nat.reduceEqDiff, Nat.reduceAdd, ↓reduceIte, reduceCtorEq, Bool.false_eq_true] at he; subst he)) | ((with_reducible apply Wseq.as); rfl; (intro v hv; (simp only [kv, Nat.reduceEqDiff, eq_self, ↓reduceIte, reduceCtorEq, List.map_cons, List.map_nil] at hv); subst hv)) | ((with_reducible refine Wtr.nil ?_); intro e he; (simp only [ke, Nat.testBit, Nat.reduceShiftRight, Nat.reduceAnd, Nat.reduceBNe, Nat.reduceEqDiff, Nat.reduceAdd, ↓reduceIte, reduceCtorEq, Bool.false_eq_true] at he; subst he)) | ((with_reducible apply Wtr.mv); rfl; (intro v hv; (simp only [kv, Nat.reduceEqDiff, eq_self, ↓reduceIte, reduceCtorEq, List.map_cons, List.map_nil] at hv); subst hv)) | ((with_reducible apply Wtr.as); rfl; (intro v hv; (simp only [kv, Nat.reduceEqDiff, eq_self, ↓reduceIte, reduceCtorEq, List.map_cons, List.map_nil] at hv); subst hv)) | ((with_reducible apply Wtr.pkT); rfl; rfl; (intro v hv; (simp only [kv, Nat.reduceEqDiff, eq_self, ↓reduceIte, reduceCtorEq, List.map_cons, List.map_nil] at hv); subst hv)) | ((with_reducible apply Wtr.stq (op := Op.call ⟨Callee.builtin Builtin.len, _, _⟩)); rfl; exact to_lenS (sl_ rfl) rfl) | ((with_reducible apply Wtr.stq (op := Op.binOp BinOp.eql _ _ _ _)); rfl; exact to_eqIT rfl rfl (by omega)) | ((with_reducible apply Wtr.stq (op := Op.binOp BinOp.eql _ _ _ _)); rfl; exact to_eqI rfl rfl) | (refine Wtr.no rfl ?_)))
        exact ⟨.inr rfl, Wres.one rfl rfl⟩
      · have hx2 : ∃ x : Int, 1 ≤ x ∧ x ≤ (V.length : Int) ∧ x ≠ (B : Int) + 1 := by
          by_cases hB0 : B = 0
          · exact ⟨2, by omega, by omega, by omega⟩
          · exact ⟨1, by omega, by omega, by omega⟩
        obtain ⟨x2, hx21, hx22, hx23⟩ := hx2
        have hM2 : getM x2 M7 = some (mbR x2 (V.getD (x2 - 1).toNat [])) := by
          rw [hMx7, if_neg hx23, if_pos ⟨hx21, hx22⟩]
        have hne2 : hitsM 1 V[A] M7 ≠ [] := by
          have := (getM_mem hM2).1
          unfold hitsM
          intro e
          rw [List.map_eq_nil_iff] at e
          rw [e] at this; cases this
        obtain ⟨b2, hb2, he2, _⟩ := bestOf_one _ (hits_nodup hr7) hne2
        rw [he2] at gB1
        obtain ⟨bb2, capb2, _, csb2, rfl, m1, m2, m3, rfl⟩ := gB1.one
        have lb2 := m1.lt fr8
        have hne' : b2.id ≠ (B : Int) + 1 := by
          intro e
          unfold hitsM at hb2
          obtain ⟨r2, hr2, hrb2⟩ := List.mem_map.1 hb2
          have h1 := getM_some hr7 hr2 rfl
          have h2 : r2.id = (B : Int) + 1 := by rw [← e, ← hrb2]; rfl
          rw [h2, hMx7, if_pos rfl] at h1
          cases h1
        (repeat (first | (with_reducible refine Then.go ?_) | (with_reducible refine Wx.seq ?_) | (refine Wx.dreg rfl ?_) | ((with_reducible refine Wseq.nil ?_); intro e he; (simp only [ke, Nat.testBit, Nat.reduceShiftRight, Nat.reduceAnd, Nat.reduceBNe, Nat.reduceEqDiff, Nat.reduceAdd, ↓reduceIte, reduceCtorEq, Bool.false_eq_true] at he; subst he)) | ((with_reducible apply Wseq.as); rfl; (intro v hv; (simp only [kv, Nat.reduceEqDiff, eq_self, ↓reduceIte, reduceCtorEq, List.map_cons, List.map_nil] at hv); subst hv)) | ((with_reducible apply Wtr.mv); rfl; (intro v hv; (simp only [kv, Nat.reduceEqDiff, eq_self, ↓reduceIte, reduceCtorEq, List.map_cons, List.map_nil] at hv); subst hv)) | ((with_reducible apply Wtr.pkF); rfl; rfl; (intro v hv; (simp only [kv, Nat.reduceEqDiff, eq_self, ↓reduceIte, reduceCtorEq, List.map_cons, List.map_nil] at hv); subst hv)) | ((with_reducible apply Wtr.stq (op := Op.call ⟨Callee.builtin Builtin.len, _, _⟩)); rfl; exact to_lenS (sl_ rfl) rfl) | ((with_reducible apply Wtr.stq (op := Op.binOp BinOp.eql _ _ _ _)); rfl; exact to_eqIT rfl rfl (by omega)) | ((with_reducible apply Wtr.stq (op := Op.binOp BinOp.eql _ _ _ _)); rfl; exact to_eqIF rfl rfl (by omega)) | (refine Wtr.no rfl ?_)))
        ((with_reducible apply Wtr.stq); (focus rfl); (focus (exact to_indexAddr (k := 0) el32 rfl rfl rfl (by omega))))
        (repeat (((with_reducible apply Wtr.stq (op := Op.fieldAddr _ _ _)); rfl; exact to_fieldAddr (fa_ rfl) rfl)))
        ((with_reducible apply Wtr.stx); (focus rfl); (focus (exact to_load (pl_ rfl) rfl m1.cel (by omega) m2)); repeat ((exact all_nil)))
        (repeat (((with_reducible apply Wtr.mv); rfl; (intro v hv; (simp only [kv, Nat.reduceEqDiff, eq_self, ↓reduceIte, reduceCtorEq, List.map_cons, List.map_nil] at hv); subst hv))))
        ((with_reducible apply Wtr.stq); (focus rfl); (focus (exact to_indexAddr (k := 0) el32 rfl rfl rfl (by omega))))
        (repeat (((with_reducible apply Wtr.stq (op := Op.fieldAddr _ _ _)); rfl; exact to_fieldAddr (fa_ rfl) rfl)))
        ((with_reducible apply Wtr.stx); (focus rfl); (focus (exact to_load (pl_ rfl) rfl K8.cel (by omega) k2)); (focus (repeat (first | (exact all_nil) | (apply all_cons; (focus ((right; exact ApartP.rr))))))))
        (repeat (first | (with_reducible refine Then.go ?_) | (with_reducible refine Wx.ret ?_) | ((with_reducible refine Wtr.nil ?_); intro e he; (simp only [ke, Nat.testBit, Nat.reduceShiftRight, Nat.reduceAnd, Nat.reduceBNe, Nat.reduceEqDiff, Nat.reduceAdd, ↓reduceIte, reduceCtorEq, Bool.false_eq_true] at he; subst he)) | ((with_reducible apply Wtr.as); rfl; (intro v hv; (simp only [kv, Nat.reduceEqDiff, eq_self, ↓reduceIte, reduceCtorEq, List.map_cons, List.map_nil] at hv); subst hv)) | ((with_reducible apply Wtr.pkT); rfl; rfl; (intro v hv; (simp only [kv, Nat.reduceEqDiff, eq_self, ↓reduceIte, reduceCtorEq, List.map_cons, List.map_nil] at hv); subst hv)) | ((with_reducible apply Wtr.pkF); rfl; rfl; (intro v hv; (simp only [kv, Nat.reduceEqDiff, eq_self, ↓reduceIte, reduceCtorEq, List.map_cons, List.map_nil] at hv); subst hv)) | ((with_reducible apply Wtr.stq (op := Op.binOp BinOp.neq _ _ _ _)); rfl; exact to_neIT rfl rfl (by omega))))
        exact ⟨.inr rfl, Wres.one rfl rfl⟩
end Go.Ab.Seat
