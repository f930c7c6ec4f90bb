/- FlatOrder: the run answers true (the abstract machine). -/
import Derived.Test.YtcnfbfiakkjabaaGreatDoorDL1
set_option linter.unusedVariables false
set_option linter.unusedSimpArgs false
namespace Go.Ab.Seat
open Go.Extern Go.Proofs
set_option linter.unusedSimpArgs false
set_option linter.unusedVariables false
set_option maxRecDepth 4000
set_option pp.deepTerms false
set_option pp.deepTerms.threshold 6

def EF1 (m : Int) (v : Value) (qv : Value) (k : Int) (lv : Value) (pa pb n : Nat) (z : Int) (j13 j34 : Value) : L :=
  .cons 0 (.int .i64 m) (.cons 1 v (.cons 2 qv (.cons 3 (.int .i64 k) (.cons 8 (.bool false) (.cons 9 (.bool true) (.cons 17 (.bool false) (.cons 10 lv (.cons 11 (.pointer (some ⟨pa, 0, none⟩)) (.cons 12 (.pointer (some ⟨pb, 0, none⟩)) (.cons 32 (.int .i64 (n : Int)) (.cons 33 (.int .i64 z) (.cons 13 j13 (.cons 34 j34 .nil)))))))))))))
def EF2 (m : Int) (v : Value) (qv : Value) (k : Int) (lv : Value) (pa pb n : Nat) (z : Int) (j13 j34 j14 j57 : Value) : L :=
  .cons 0 (.int .i64 m) (.cons 1 v (.cons 2 qv (.cons 3 (.int .i64 k) (.cons 8 (.bool false) (.cons 9 (.bool true) (.cons 17 (.bool false) (.cons 10 lv (.cons 11 (.pointer (some ⟨pa, 0, none⟩)) (.cons 12 (.pointer (some ⟨pb, 0, none⟩)) (.cons 32 (.int .i64 (n : Int)) (.cons 33 (.int .i64 (n : Int)) (.cons 55 (.int .i64 (n : Int)) (.cons 56 (.int .i64 z) (.cons 13 j13 (.cons 34 j34 (.cons 14 j14 (.cons 57 j57 .nil)))))))))))))))))

theorem tmod_rng (z : Int) : 0 ≤ (z.tmod 15 + 15).tmod 15 ∧ (z.tmod 15 + 15).tmod 15 ≤ 14 ∧ -15 < z.tmod 15 ∧ z.tmod 15 < 15 := by
  have h1 := tmod_lt z 15 (by omega)
  have h2 := Int.tmod_lt_of_pos (z.tmod 15 + 15) (show (0 : Int) < 15 by omega)
  have h3 := Int.tmod_nonneg (a := z.tmod 15 + 15) 15 (by omega)
  omega

set_option maxHeartbeats 8000000 in
theorem flatOrder_run {h : T AObj} {c : Nat} (hf : Fresh h c) (hg : Glob h) (m k : Int) {v : Value} {zss : List (List Int)} (hv : VecsIn h v zss) (hvn : zss.length ≤ 9223372036854775807) {qa : Option Addr} {qn qc : Nat} {zq : List Int} (hq : Row h (.slice qa qn qc) qn 1 (zq.map (Value.int .i32))) (hqn : zq.length = qn) :
    ∃ r s', FnTo (Cs smQ) eg 3 [.int .i64 m, v, .slice qa qn qc, .int .i64 k] ⟨h, c, [], []⟩ r s' ∧ r = .bool true := by
  have hk15 := tmod_rng k
  have hm2 := and1_or m
  obtain ⟨oa0, cap0, rfl, _⟩ := _root_.id hv
  refine Fn.go (stdQ 3 rfl) ex3 fn3 km3 rfl rfl ?_
  intro e he
  (simp only [ke, Nat.testBit, Nat.reduceShiftRight, Nat.reduceAnd, Nat.reduceBNe, Nat.reduceEqDiff, Nat.reduceAdd, ↓reduceIte, reduceCtorEq, Bool.false_eq_true] at he; subst he)
  (repeat (first | (with_reducible refine Then.go ?_) | (with_reducible refine Wx.seq ?_) | (with_reducible refine Wx.reg ?_) | ((with_reducible refine Wseq.nil ?_); intro e he; (simp only [ke, Nat.testBit, Nat.reduceShiftRight, Nat.reduceAnd, Nat.reduceBNe, Nat.reduceEqDiff, Nat.reduceAdd, ↓reduceIte, reduceCtorEq, Bool.false_eq_true] at he; subst he)) | ((with_reducible apply Wseq.as); rfl; (intro v hv; (simp only [kv, Nat.reduceEqDiff, eq_self, ↓reduceIte, reduceCtorEq, List.map_cons, List.map_nil] at hv); subst hv))))
  refine Wseq.call rfl rfl (begunQ (by ((repeat ((with_reducible apply Fresh.put); omega)); ((with_reducible assumption)))) hg) ?_
  rintro v1 h1 c1 r1 w1 ⟨rfl, e1⟩
  cases e1
  (repeat (first | (with_reducible refine Then.go ?_) | (with_reducible refine Wx.seq ?_) | (with_reducible refine Wx.skip ?_) | (with_reducible refine Wx.reg ?_) | (refine Wx.condF rfl (by ((rfl))) ?_) | ((with_reducible refine Wseq.nil ?_); intro e he; (simp only [ke, Nat.testBit, Nat.reduceShiftRight, Nat.reduceAnd, Nat.reduceBNe, Nat.reduceEqDiff, Nat.reduceAdd, ↓reduceIte, reduceCtorEq, Bool.false_eq_true] at he; subst he)) | ((with_reducible apply Wseq.mv); rfl; (intro v hv; (simp only [kv, Nat.reduceEqDiff, eq_self, ↓reduceIte, reduceCtorEq, List.map_cons, List.map_nil] at hv); subst hv)) | ((with_reducible apply Wseq.as); rfl; (intro v hv; (simp only [kv, Nat.reduceEqDiff, eq_self, ↓reduceIte, reduceCtorEq, List.map_cons, List.map_nil] at hv); subst hv)) | ((with_reducible apply Wseq.stg (op := Op.unOp UnOp.not _ _)); rfl; exact to_notT rfl)))
  ((with_reducible apply Wseq.stg); (focus rfl); (focus (exact to_and1 rfl rfl)))
  (repeat (first | (with_reducible refine Then.go ?_) | (with_reducible refine Wx.seq ?_) | (with_reducible refine Wx.reg ?_) | ((with_reducible refine Wseq.nil ?_); intro e he; (simp only [ke, Nat.testBit, Nat.reduceShiftRight, Nat.reduceAnd, Nat.reduceBNe, Nat.reduceEqDiff, Nat.reduceAdd, ↓reduceIte, reduceCtorEq, Bool.false_eq_true] at he; subst he)) | ((with_reducible apply Wseq.mv); rfl; (intro v hv; (simp only [kv, Nat.reduceEqDiff, eq_self, ↓reduceIte, reduceCtorEq, List.map_cons, List.map_nil] at hv); subst hv)) | ((with_reducible apply Wseq.as); rfl; (intro v hv; (simp only [kv, Nat.reduceEqDiff, eq_self, ↓reduceIte, reduceCtorEq, List.map_cons, List.map_nil] at hv); subst hv)) | ((with_reducible apply Wseq.stg (op := Op.binOp BinOp.add _ _ _ _)); rfl; exact to_add rfl rfl (by omega) (by omega)) | ((with_reducible apply Wseq.stg (op := Op.binOp BinOp.rem _ _ _ _)); rfl; exact to_rem rfl rfl (by decide))))
  refine Wseq.call rfl rfl (vecs_spec stdQ (n := 20) (dim := 3) (by ((repeat ((with_reducible apply Fresh.put); omega)); ((with_reducible assumption)))) hv (by omega) (by omega) hvn) ?_
  rintro lv h1 c1 r1 w1 ⟨hV, hext1⟩
  have fr1 := hext1.fresh
  have le1 := hext1.c
  have kp1 : ∀ b, b < c → h1.get b = h.get b := fun b hb => hext1.get hb (fun q => q)
  simp only at le1 fr1
  generalize hvs : vecsZ zss 3 20 = V at hV
  have hVlen : V.length ≤ 20 := by rw [← hvs]; unfold vecsZ; rw [List.length_map, List.length_take]; omega
  have hVb : ∀ zs ∈ V, Bnd zs := fun zs hz => by
    rw [← hvs] at hz
    unfold vecsZ at hz
    obtain ⟨y, _, rfl⟩ := List.mem_map.1 hz
    exact Bnd_vecZ _ _
  obtain ⟨ov, rfl⟩ := hV.val
  have hmm : 1 + and1 m = 1 ∨ 1 + and1 m = 2 := by omega
  generalize hmt : 1 + and1 m = mt at hmm
  (repeat (first | (with_reducible refine Then.go ?_) | (with_reducible refine Wx.seq ?_) | (with_reducible refine Wx.reg ?_) | ((with_reducible refine Wseq.nil ?_); intro e he; (simp only [ke, Nat.testBit, Nat.reduceShiftRight, Nat.reduceAnd, Nat.reduceBNe, Nat.reduceEqDiff, Nat.reduceAdd, ↓reduceIte, reduceCtorEq, Bool.false_eq_true] at he; subst he)) | ((with_reducible apply Wseq.mv); rfl; (intro v hv; (simp only [kv, Nat.reduceEqDiff, eq_self, ↓reduceIte, reduceCtorEq, List.map_cons, List.map_nil] at hv); subst hv)) | ((with_reducible apply Wseq.as); rfl; (intro v hv; (simp only [kv, Nat.reduceEqDiff, eq_self, ↓reduceIte, reduceCtorEq, List.map_cons, List.map_nil] at hv); subst hv))))
  refine Wseq.call rfl rfl (fnew_spec stdQ (by ((repeat ((with_reducible apply Fresh.put); omega)); ((with_reducible assumption)))) mt hmm) ?_
  rintro v2 h2 c2 r2 w2 ⟨⟨rfl, ga1, ga2, e2⟩, hext2⟩
  simp only at e2
  subst e2
  have fr2 := hext2.fresh
  simp only at fr2
  (repeat (((with_reducible apply Wseq.mv); rfl; (intro v hv; (simp only [kv, Nat.reduceEqDiff, eq_self, ↓reduceIte, reduceCtorEq, List.map_cons, List.map_nil] at hv); subst hv))))
  refine Wseq.call rfl rfl (fnew_spec stdQ (by ((repeat ((with_reducible apply Fresh.put); omega)); ((with_reducible assumption)))) mt hmm) ?_
  rintro v3 h3 c3 r3 w3 ⟨⟨rfl, gb1, gb2, e3⟩, hext3⟩
  simp only at e3
  subst e3
  have fr3 := hext3.fresh
  simp only at fr3
  have k3 : ∀ b, b < c1 + 2 → h3.get b = h2.get b := fun b hb => hext3.get hb (fun q => q)
  have k2 : ∀ b, b < c1 → h2.get b = h1.get b := fun b hb => hext2.get hb (fun q => q)
  have hV3 : VRow h3 c (.slice ov V.length V.length) 3 V := hV.keep fr1 fun b hb _ _ => (k3 b (by omega)).trans (k2 b hb)
  have T3 : Two h3 (c1 + 2 + 2) (c1 + 1) c1 (c1 + 2 + 1) (c1 + 2) mt 3 [] [] := by
    refine ⟨fun b => b = c1 + 1 ∨ b = c1, fun b => b = c1 + 2 + 1 ∨ b = c1 + 2, FlatM.new ((k3 _ (by omega)).trans ga2) ((k3 _ (by omega)).trans ga1) (by omega), FlatM.new gb2 gb1 (by omega), by omega, by omega, by omega, by omega⟩
  have kp3 : ∀ b, b < c → h3.get b = h.get b := fun b hb => (k3 b (by omega)).trans ((k2 b (by omega)).trans (kp1 b hb))
  (repeat (first | (with_reducible refine Then.go ?_) | (with_reducible refine Wx.seq ?_) | (with_reducible refine Wx.block ?_) | (with_reducible refine Wx.reg ?_) | ((with_reducible refine Wseq.nil ?_); intro e he; (simp only [ke, Nat.testBit, Nat.reduceShiftRight, Nat.reduceAnd, Nat.reduceBNe, Nat.reduceEqDiff, Nat.reduceAdd, ↓reduceIte, reduceCtorEq, Bool.false_eq_true] at he; subst he)) | ((with_reducible apply Wseq.mv); rfl; (intro v hv; (simp only [kv, Nat.reduceEqDiff, eq_self, ↓reduceIte, reduceCtorEq, List.map_cons, List.map_nil] at hv); subst hv)) | ((with_reducible apply Wseq.as); rfl; (intro v hv; (simp only [kv, Nat.reduceEqDiff, eq_self, ↓reduceIte, reduceCtorEq, List.map_cons, List.map_nil] at hv); subst hv)) | ((with_reducible apply Wseq.stg (op := Op.call ⟨Callee.builtin Builtin.len, _, _⟩)); rfl; exact to_lenS (sl_ rfl) rfl)))
  refine Wx.cutO (fun e s => ∃ (j13 j34 : Value) (h' : T AObj) (c' : Nat) (rl' wl' : List Nat) (A B : List Rc), e = EF1 mt (.slice oa0 zss.length cap0) (.slice qa qn qc) ((k.tmod 15 + 15).tmod 15) (.slice ov V.length V.length) (c1 + 1) (c1 + 2 + 1) V.length V.length j13 j34 ∧ s = ⟨h', c', rl', wl'⟩ ∧ c1 + 2 + 2 ≤ c' ∧ Fresh h' c' ∧ (∀ b, b < c → h'.get b = h.get b) ∧ VRow h' c (.slice ov V.length V.length) 3 V ∧ Two h' c' (c1 + 1) c1 (c1 + 2 + 1) (c1 + 2) mt 3 A B ∧ (∀ x : Int, getM x A = if 1 ≤ x ∧ x ≤ (V.length : Int) then some (mbR x (V.getD (x - 1).toNat [])) else none) ∧ ∀ x : Int, x < 1 ∨ (V.length : Int) < x → getM x B = none) (by (repeat ((with_reducible exact Resp.fn)))) ?_ ?_
  · refine Wx.loopE (fun k1 e s => ∃ (i : Nat) (z : Int) (j13 j34 : Value) (h' : T AObj) (c' : Nat) (rl' wl' : List Nat) (A B : List Rc), e = EF1 mt (.slice oa0 zss.length cap0) (.slice qa qn qc) ((k.tmod 15 + 15).tmod 15) (.slice ov V.length V.length) (c1 + 1) (c1 + 2 + 1) V.length z j13 j34 ∧ z = i ∧ s = ⟨h', c', rl', wl'⟩ ∧ c1 + 2 + 2 ≤ c' ∧ Fresh h' c' ∧ (∀ b, b < c → h'.get b = h.get b) ∧ VRow h' c (.slice ov V.length V.length) 3 V ∧ Two h' c' (c1 + 1) c1 (c1 + 2 + 1) (c1 + 2) mt 3 A B ∧ (∀ x : Int, getM x A = if 1 ≤ x ∧ x ≤ (i : Int) then some (mbR x (V.getD (x - 1).toNat [])) else none) ∧ (∀ x : Int, x < 1 ∨ (V.length : Int) < x → getM x B = none) ∧ i ≤ V.length ∧ k1 = V.length - i) V.length (EF1 mt (.slice oa0 zss.length cap0) (.slice qa qn qc) ((k.tmod 15 + 15).tmod 15) (.slice ov V.length V.length) (c1 + 1) (c1 + 2 + 1) V.length 0 top top) (by (repeat (first | (with_reducible exact Resp.fn) | (with_reducible apply Resp.out) | (with_reducible apply Resp.cut)))) ?_ ?_ ?_
    · unfold EF1
      (refine EqK.of ?_ ?_ <;> (repeat (first | (exact all_nil) | ((apply all_cons); rfl))))
    · refine ⟨0, 0, _, _, _, _, _, _, [], [], rfl, rfl, rfl, Nat.le_refl _, fr3, kp3, hV3, T3, fun x => ?_, fun x _ => rfl, by omega, rfl⟩
      rw [if_neg (by omega)]; rfl
    · rintro k1 e s ⟨i, z, j13, j34, h', c', rl', wl', A, B, rfl, hz, rfl, hcc, hf', hkp, hV', hT, hA, hB, hid, rfl⟩
      unfold EF1
      by_cases hi : i < V.length
      · obtain ⟨g1, bV, vals, bi, rfl, g2, g3, g4, g5, g6⟩ := hV'.at (List.getElem?_eq_getElem hi)
        have lV := g3.lt hf'
        (repeat (first | (with_reducible refine Then.go ?_) | (with_reducible refine Wx.seq ?_) | (with_reducible refine Wx.skip ?_) | (with_reducible refine Wx.block ?_) | (with_reducible refine Wx.reg ?_) | (refine Wx.condT rfl (by ((rfl))) ?_) | ((with_reducible refine Wseq.nil ?_); intro e he; (simp only [ke, Nat.testBit, Nat.reduceShiftRight, Nat.reduceAnd, Nat.reduceBNe, Nat.reduceEqDiff, Nat.reduceAdd, ↓reduceIte, reduceCtorEq, Bool.false_eq_true] at he; subst he)) | ((with_reducible apply Wseq.mv); rfl; (intro v hv; (simp only [kv, Nat.reduceEqDiff, eq_self, ↓reduceIte, reduceCtorEq, List.map_cons, List.map_nil] at hv); subst hv)) | ((with_reducible apply Wseq.as); rfl; (intro v hv; (simp only [kv, Nat.reduceEqDiff, eq_self, ↓reduceIte, reduceCtorEq, List.map_cons, List.map_nil] at hv); subst hv)) | ((with_reducible apply Wseq.stg (op := Op.binOp BinOp.lss _ _ _ _)); rfl; exact to_lssT rfl rfl (by omega)) | ((with_reducible apply Wseq.stg (op := Op.binOp BinOp.add _ _ _ _)); rfl; exact to_add rfl rfl (by omega) (by omega))))
        ((with_reducible apply Wseq.stg); (focus rfl); (focus (exact to_indexAddr (k := i) el22 rfl rfl hz hi)))
        ((with_reducible apply Wseq.stg); (focus rfl); (focus (exact to_load (pl_ rfl) rfl g3.cel (by omega) g4)))
        refine Wseq.call rfl rfl (hT.putA (by ((repeat ((with_reducible apply Fresh.put); omega)); ((with_reducible assumption)))) (z + 1) (by omega) g6 g1 (hVb _ (List.getElem_mem hi)) (by omega) (by omega)) ?_
        rintro w h4 c4 r4 w4 ⟨hT4, ⟨es4, n4, hm4⟩, hext4⟩
        replace hT4 : Two h4 c4 _ _ _ _ _ _ _ _ := hT4
        have fr4 := hext4.fresh
        have le4 := hext4.c
        simp only at le4 fr4
        have hV4 : VRow h4 c _ 3 V := hV'.keep hf' fun b hb ⟨cs, hcs⟩ _ => hext4.get hb (notMap hcs hm4)
        have hk4 : ∀ b, b < c → h4.get b = h.get b := fun b hb => (hext4.get (by omega) (by omega)).trans (hkp b hb)
        obtain ⟨g1', bV', vals', bi', e', g2', g3', g4', g5', g6'⟩ := hV4.at (i := 0) (List.getElem?_eq_getElem (by omega))
        cases e'
        have lV' := g3'.lt fr4
        (repeat (first | (with_reducible refine Then.go ?_) | (with_reducible refine Wx.reg ?_) | ((with_reducible refine Wseq.nil ?_); intro e he; (simp only [ke, Nat.testBit, Nat.reduceShiftRight, Nat.reduceAnd, Nat.reduceBNe, Nat.reduceEqDiff, Nat.reduceAdd, ↓reduceIte, reduceCtorEq, Bool.false_eq_true] at he; subst he)) | ((with_reducible apply Wseq.mv); rfl; (intro v hv; (simp only [kv, Nat.reduceEqDiff, eq_self, ↓reduceIte, reduceCtorEq, List.map_cons, List.map_nil] at hv); subst hv)) | ((with_reducible apply Wseq.stg (op := Op.call ⟨Callee.builtin Builtin.len, _, _⟩)); rfl; exact to_lenS (sl_ rfl) rfl) | ((with_reducible apply Wseq.stg (op := Op.binOp BinOp.sub _ _ _ _)); rfl; exact to_sub rfl rfl (by omega) (by omega))))
        ((with_reducible apply Wseq.stg); (focus rfl); (focus (exact to_indexAddr (k := 0) el22 rfl rfl rfl (by omega))))
        ((with_reducible apply Wseq.stg); (focus rfl); (focus (exact to_load (pl_ rfl) rfl g3'.cel (by omega) g4')))
        refine Wseq.call rfl rfl (hT4.swap.putA (by ((repeat ((with_reducible apply Fresh.put); omega)); ((with_reducible assumption)))) ((V.length : Int) - z) (by omega) g6' g1' (hVb _ (List.getElem_mem _)) (by omega) (by omega)) ?_
        rintro w h5 c5 r5 w5 ⟨hT5, ⟨es5, n5, hm5⟩, hext5⟩
        replace hT5 : Two h5 c5 _ _ _ _ _ _ _ _ := hT5
        have fr5 := hext5.fresh
        have le5 := hext5.c
        simp only at le5 fr5
        have hV5 : VRow h5 c _ 3 V := hV4.keep fr4 fun b hb ⟨cs, hcs⟩ _ => hext5.get hb (notMap hcs hm5)
        have hk5 : ∀ b, b < c → h5.get b = h.get b := fun b hb => (hext5.get (by omega) (by omega)).trans (hk4 b hb)
        (repeat (first | (with_reducible refine Then.go ?_) | (with_reducible refine Out.go ?_) | (with_reducible refine Wx.reg ?_) | ((with_reducible refine Wseq.nil ?_); intro e he; (simp only [ke, Nat.testBit, Nat.reduceShiftRight, Nat.reduceAnd, Nat.reduceBNe, Nat.reduceEqDiff, Nat.reduceAdd, ↓reduceIte, reduceCtorEq, Bool.false_eq_true] at he; subst he)) | ((with_reducible apply Wseq.mv); rfl; (intro v hv; (simp only [kv, Nat.reduceEqDiff, eq_self, ↓reduceIte, reduceCtorEq, List.map_cons, List.map_nil] at hv); subst hv)) | ((with_reducible apply Wseq.stg (op := Op.binOp BinOp.add _ _ _ _)); rfl; exact to_add rfl rfl (by omega) (by omega))))
        refine RoundE.go (V.length - (i + 1)) (EF1 mt (.slice oa0 zss.length cap0) (.slice qa qn qc) ((k.tmod 15 + 15).tmod 15) (.slice _ V.length V.length) (c1 + 1) (c1 + 2 + 1) V.length (z + 1) _ _) (by omega) (by (refine EqK.of ?_ ?_ <;> (repeat (first | (exact all_nil) | ((apply all_cons); rfl))))) ⟨i + 1, z + 1, _, _, _, _, _, _, _, _, rfl, by omega, rfl, by omega, fr5, hk5, hV5, hT5.swap, fun x => ?_, fun x hx => ?_, by omega, rfl⟩
        · rw [getM_put, hA x]
          by_cases hx : z + 1 = x
          · rw [if_pos hx, if_pos (by omega)]
            subst hx
            rw [show (z + 1 - 1).toNat = i by omega, List.getD_eq_getElem?_getD, List.getElem?_eq_getElem hi]
            rfl
          · rw [if_neg hx]
            by_cases hx2 : 1 ≤ x ∧ x ≤ (i : Int)
            · rw [if_pos hx2, if_pos (by omega)]
            · rw [if_neg hx2, if_neg (by omega)]
        · rw [getM_put, if_neg (by show ¬((V.length : Int) - z = x); omega), hB x hx]
      · (repeat (first | (with_reducible refine Then.go ?_) | (with_reducible refine Then.ex ?_) | (with_reducible refine Out.hit ?_) | (with_reducible refine Wx.seq ?_) | (with_reducible refine Wx.exit ?_) | (with_reducible refine Wx.reg ?_) | (with_reducible refine RoundE.ex ?_) | (refine Wx.condF rfl (by ((rfl))) ?_) | ((with_reducible refine Wseq.nil ?_); intro e he; (simp only [ke, Nat.testBit, Nat.reduceShiftRight, Nat.reduceAnd, Nat.reduceBNe, Nat.reduceEqDiff, Nat.reduceAdd, ↓reduceIte, reduceCtorEq, Bool.false_eq_true] at he; subst he)) | ((with_reducible apply Wseq.stg (op := Op.binOp BinOp.lss _ _ _ _)); rfl; exact to_lssF rfl rfl (by omega))))
        obtain rfl : i = V.length := by omega
        subst hz
        exact CutQ.go (EF1 mt (.slice oa0 zss.length cap0) (.slice qa qn qc) ((k.tmod 15 + 15).tmod 15) (.slice ov V.length V.length) (c1 + 1) (c1 + 2 + 1) V.length V.length _ _) (by (refine EqK.of ?_ ?_ <;> (repeat (first | (exact all_nil) | ((apply all_cons); rfl))))) ⟨_, _, _, _, _, _, A, B, rfl, rfl, hcc, hf', hkp, hV', hT, hA, hB⟩
  · rintro e s ⟨j13, j34, h4, c4, rl4, wl4, A, B, rfl, rfl, hcc, hf4, hkp4, hV4, hT4, hA, hB⟩
    unfold EF1
    have hAlen := fun (M : List Rc) (hr : Rises M) (hM : ∀ x : Int, x < 1 ∨ (V.length : Int) < x → getM x M = none) => getM_len hr hM
    (repeat (first | (with_reducible refine Then.go ?_) | (with_reducible refine Wx.seq ?_) | (with_reducible refine Wx.block ?_) | (with_reducible refine Wx.reg ?_) | ((with_reducible refine Wseq.nil ?_); intro e he; (simp only [ke, Nat.testBit, Nat.reduceShiftRight, Nat.reduceAnd, Nat.reduceBNe, Nat.reduceEqDiff, Nat.reduceAdd, ↓reduceIte, reduceCtorEq, Bool.false_eq_true] at he; subst he)) | ((with_reducible apply Wseq.mv); rfl; (intro v hv; (simp only [kv, Nat.reduceEqDiff, eq_self, ↓reduceIte, reduceCtorEq, List.map_cons, List.map_nil] at hv); subst hv)) | ((with_reducible apply Wseq.stg (op := Op.call ⟨Callee.builtin Builtin.len, _, _⟩)); rfl; exact to_lenS (sl_ rfl) rfl)))
    refine Wx.cutO (fun e s => ∃ (j13 j34 j14 j57 : Value) (h' : T AObj) (c' : Nat) (rl' wl' : List Nat) (B : List Rc), e = EF2 mt (.slice oa0 zss.length cap0) (.slice qa qn qc) ((k.tmod 15 + 15).tmod 15) (.slice ov V.length V.length) (c1 + 1) (c1 + 2 + 1) V.length V.length j13 j34 j14 j57 ∧ s = ⟨h', c', rl', wl'⟩ ∧ c1 + 2 + 2 ≤ c' ∧ Fresh h' c' ∧ (∀ b, b < c → h'.get b = h.get b) ∧ Two h' c' (c1 + 1) c1 (c1 + 2 + 1) (c1 + 2) mt 3 A B ∧ (∀ x : Int, getM x B = if 1 ≤ x ∧ x ≤ (V.length : Int) then some (mbR x (V.getD (x - 1).toNat [])) else none)) (by (repeat ((with_reducible exact Resp.fn)))) ?_ ?_
    · refine Wx.loopE (fun k1 e s => ∃ (i : Nat) (z : Int) (j13 j34 j14 j57 : Value) (h' : T AObj) (c' : Nat) (rl' wl' : List Nat) (B : List Rc), e = EF2 mt (.slice oa0 zss.length cap0) (.slice qa qn qc) ((k.tmod 15 + 15).tmod 15) (.slice ov V.length V.length) (c1 + 1) (c1 + 2 + 1) V.length z j13 j34 j14 j57 ∧ z = i ∧ s = ⟨h', c', rl', wl'⟩ ∧ c1 + 2 + 2 ≤ c' ∧ Fresh h' c' ∧ (∀ b, b < c → h'.get b = h.get b) ∧ VRow h' c (.slice ov V.length V.length) 3 V ∧ Two h' c' (c1 + 1) c1 (c1 + 2 + 1) (c1 + 2) mt 3 A B ∧ (∀ x : Int, (V.length : Int) - i < x ∧ x ≤ (V.length : Int) → getM x B = some (mbR x (V.getD (x - 1).toNat []))) ∧ (∀ x : Int, x < 1 ∨ (V.length : Int) < x → getM x B = none) ∧ i ≤ V.length ∧ k1 = V.length - i) V.length (EF2 mt (.slice oa0 zss.length cap0) (.slice qa qn qc) ((k.tmod 15 + 15).tmod 15) (.slice ov V.length V.length) (c1 + 1) (c1 + 2 + 1) V.length 0 j13 j34 top top) (by (repeat (first | (with_reducible exact Resp.fn) | (with_reducible apply Resp.out) | (with_reducible apply Resp.cut)))) ?_ ?_ ?_
      · unfold EF2
        (refine EqK.of ?_ ?_ <;> (repeat (first | (exact all_nil) | ((apply all_cons); rfl))))
      · exact ⟨0, 0, _, _, _, _, _, _, _, _, B, rfl, rfl, rfl, hcc, hf4, hkp4, hV4, hT4, (fun x hx => by omega), hB, by omega, rfl⟩
      · rintro k1 e s ⟨i, z, j13, j34, j14, j57, h', c', rl', wl', B, rfl, hz, rfl, hcc, hf', hkp, hV', hT, hB1, hB2, hid, rfl⟩
        unfold EF2
        by_cases hi : i < V.length
        · obtain ⟨g1, bV, vals, bi, rfl, g2, g3, g4, g5, g6⟩ := hV'.at (i := V.length - 1 - i) (List.getElem?_eq_getElem (by omega))
          have lV := g3.lt hf'
          (repeat (first | (with_reducible refine Then.go ?_) | (with_reducible refine Wx.seq ?_) | (with_reducible refine Wx.skip ?_) | (with_reducible refine Wx.block ?_) | (with_reducible refine Wx.reg ?_) | (refine Wx.condT rfl (by ((rfl))) ?_) | ((with_reducible refine Wseq.nil ?_); intro e he; (simp only [ke, Nat.testBit, Nat.reduceShiftRight, Nat.reduceAnd, Nat.reduceBNe, Nat.reduceEqDiff, Nat.reduceAdd, ↓reduceIte, reduceCtorEq, Bool.false_eq_true] at he; subst he)) | ((with_reducible apply Wseq.mv); rfl; (intro v hv; (simp only [kv, Nat.reduceEqDiff, eq_self, ↓reduceIte, reduceCtorEq, List.map_cons, List.map_nil] at hv); subst hv)) | ((with_reducible apply Wseq.as); rfl; (intro v hv; (simp only [kv, Nat.reduceEqDiff, eq_self, ↓reduceIte, reduceCtorEq, List.map_cons, List.map_nil] at hv); subst hv)) | ((with_reducible apply Wseq.stg (op := Op.call ⟨Callee.builtin Builtin.len, _, _⟩)); rfl; exact to_lenS (sl_ rfl) rfl) | ((with_reducible apply Wseq.stg (op := Op.binOp BinOp.lss _ _ _ _)); rfl; exact to_lssT rfl rfl (by omega)) | ((with_reducible apply Wseq.stg (op := Op.binOp BinOp.sub _ _ _ _)); rfl; exact to_sub rfl rfl (by omega) (by omega))))
          ((with_reducible apply Wseq.stg); (focus rfl); (focus (exact to_indexAddr (k := V.length - 1 - i) el22 rfl rfl (by omega) (by omega))))
          ((with_reducible apply Wseq.stg); (focus rfl); (focus (exact to_load (pl_ rfl) rfl g3.cel (by omega) g4)))
          refine Wseq.call rfl rfl (hT.swap.putA (by ((repeat ((with_reducible apply Fresh.put); omega)); ((with_reducible assumption)))) ((V.length : Int) - z) (by omega) g6 g1 (hVb _ (List.getElem_mem _)) (by omega) (by omega)) ?_
          rintro w h5 c5 r5 w5 ⟨hT5, ⟨es5, n5, hm5⟩, hext5⟩
          replace hT5 : Two h5 c5 _ _ _ _ _ _ _ _ := hT5
          have fr5 := hext5.fresh
          have le5 := hext5.c
          simp only at le5 fr5
          have hV5 : VRow h5 c _ 3 V := hV'.keep hf' fun b hb ⟨cs, hcs⟩ _ => hext5.get hb (notMap hcs hm5)
          have hk5 : ∀ b, b < c → h5.get b = h.get b := fun b hb => (hext5.get (by omega) (by omega)).trans (hkp b hb)
          (repeat (first | (with_reducible refine Then.go ?_) | (with_reducible refine Out.go ?_) | (with_reducible refine Wx.reg ?_) | ((with_reducible refine Wseq.nil ?_); intro e he; (simp only [ke, Nat.testBit, Nat.reduceShiftRight, Nat.reduceAnd, Nat.reduceBNe, Nat.reduceEqDiff, Nat.reduceAdd, ↓reduceIte, reduceCtorEq, Bool.false_eq_true] at he; subst he)) | ((with_reducible apply Wseq.mv); rfl; (intro v hv; (simp only [kv, Nat.reduceEqDiff, eq_self, ↓reduceIte, reduceCtorEq, List.map_cons, List.map_nil] at hv); subst hv)) | ((with_reducible apply Wseq.stg (op := Op.binOp BinOp.add _ _ _ _)); rfl; exact to_add rfl rfl (by omega) (by omega))))
          refine RoundE.go (V.length - (i + 1)) (EF2 mt (.slice oa0 zss.length cap0) (.slice qa qn qc) ((k.tmod 15 + 15).tmod 15) (.slice _ V.length V.length) (c1 + 1) (c1 + 2 + 1) V.length (z + 1) _ _ _ _) (by omega) (by (refine EqK.of ?_ ?_ <;> (repeat (first | (exact all_nil) | ((apply all_cons); rfl))))) ⟨i + 1, z + 1, _, _, _, _, _, _, _, _, _, rfl, by omega, rfl, by omega, fr5, hk5, hV5, hT5.swap, fun x hx => ?_, fun x hx => ?_, by omega, rfl⟩
          · rw [getM_put]
            by_cases hx1 : (V.length : Int) - z = x
            · rw [if_pos hx1]
              subst hx1
              rw [show ((V.length : Int) - z - 1).toNat = V.length - 1 - i by omega, List.getD_eq_getElem?_getD, List.getElem?_eq_getElem (by omega)]
              rfl
            · rw [if_neg hx1, hB1 x (by omega)]
          · rw [getM_put, if_neg (by show ¬((V.length : Int) - z = x); omega), hB2 x hx]
        · (repeat (first | (with_reducible refine Then.go ?_) | (with_reducible refine Then.ex ?_) | (with_reducible refine Out.hit ?_) | (with_reducible refine Wx.seq ?_) | (with_reducible refine Wx.exit ?_) | (with_reducible refine Wx.reg ?_) | (with_reducible refine RoundE.ex ?_) | (refine Wx.condF rfl (by ((rfl))) ?_) | ((with_reducible refine Wseq.nil ?_); intro e he; (simp only [ke, Nat.testBit, Nat.reduceShiftRight, Nat.reduceAnd, Nat.reduceBNe, Nat.reduceEqDiff, Nat.reduceAdd, ↓reduceIte, reduceCtorEq, Bool.false_eq_true] at he; subst he)) | ((with_reducible apply Wseq.stg (op := Op.binOp BinOp.lss _ _ _ _)); rfl; exact to_lssF rfl rfl (by omega))))
          obtain rfl : i = V.length := by omega
          subst hz
          refine CutQ.go (EF2 mt (.slice oa0 zss.length cap0) (.slice qa qn qc) ((k.tmod 15 + 15).tmod 15) (.slice ov V.length V.length) (c1 + 1) (c1 + 2 + 1) V.length V.length _ _ _ _) (by (refine EqK.of ?_ ?_ <;> (repeat (first | (exact all_nil) | ((apply all_cons); rfl))))) ⟨_, _, _, _, _, _, _, _, B, rfl, rfl, hcc, hf', hkp, hT, fun x => ?_⟩
          by_cases hx : 1 ≤ x ∧ x ≤ (V.length : Int)
          · rw [if_pos hx, hB1 x (by omega)]
          · rw [if_neg hx, hB2 x (by omega)]
    · rintro e s ⟨j13, j34, j14, j57, h5, c5, rl5, wl5, B, rfl, rfl, hcc5, hf5, hkp5, hT5, hBf⟩
      unfold EF2
      obtain ⟨Ua, Ub, qa5, qb5, u1, u2, l1, l2⟩ := hT5.ex
      obtain rfl : B = A := rises_getM qb5.rises qa5.rises fun x => (hBf x).trans (hA x).symm
      have hML : B.length ≤ 20 := by
        have := getM_len (n := V.length) qa5.rises (fun x hx => by rw [hA x, if_neg (by omega)])
        omega
      have hq5 := Row.keepF hq hf hkp5
      (repeat (first | (with_reducible refine Wx.seq ?_) | (with_reducible refine Wx.reg ?_) | ((with_reducible apply Wseq.mv); rfl; (intro v hv; (simp only [kv, Nat.reduceEqDiff, eq_self, ↓reduceIte, reduceCtorEq, List.map_cons, List.map_nil] at hv); subst hv))))
      refine Wseq.call rfl rfl (vec_spec stdQ (by ((repeat ((with_reducible apply Fresh.put); omega)); ((with_reducible assumption)))) hqn hq5 3 (by omega) (fun _ => True) (fun _ _ => trivial)) ?_
      rintro w h6 c6 r6 w6 ⟨⟨rfl, hq6⟩, hext6⟩
      have fr6 := hext6.fresh
      have le6 := hext6.c
      simp only at le6 fr6
      have lq6 := hq6.lt fr6
      have hqr : Row h6 (.slice (some ⟨c5, 0, none⟩) 3 3) 3 1 ((vecZ zq 3).map (Value.int .i32)) := .inr ⟨c5, 0, none, 3, _, rfl, hq6.cel, subN_all _ _ (by rw [List.length_map, vecZ_len])⟩
      have qa6 := qa5.keep hf5 (fun b _ hb => hext6.get hb (fun q => q))
      have qb6 := qb5.keep hf5 (fun b _ hb => hext6.get hb (fun q => q))
      have hkk : max ((k.tmod 15 + 15).tmod 15) 0 = (((k.tmod 15 + 15).tmod 15).toNat : Int) := by omega
      (repeat (first | (with_reducible refine Then.go ?_) | (with_reducible refine Wx.seq ?_) | (with_reducible refine Wx.reg ?_) | ((with_reducible refine Wseq.nil ?_); intro e he; (simp only [ke, Nat.testBit, Nat.reduceShiftRight, Nat.reduceAnd, Nat.reduceBNe, Nat.reduceEqDiff, Nat.reduceAdd, ↓reduceIte, reduceCtorEq, Bool.false_eq_true] at he; subst he)) | ((with_reducible apply Wseq.mv); rfl; (intro v hv; (simp only [kv, Nat.reduceEqDiff, eq_self, ↓reduceIte, reduceCtorEq, List.map_cons, List.map_nil] at hv); subst hv)) | ((with_reducible apply Wseq.as); rfl; (intro v hv; (simp only [kv, Nat.reduceEqDiff, eq_self, ↓reduceIte, reduceCtorEq, List.map_cons, List.map_nil] at hv); subst hv))))
      refine Wseq.call rfl rfl (fsearch_spec (by ((repeat ((with_reducible apply Fresh.put); omega)); ((with_reducible assumption)))) qa6 hmm hqr (vecZ_len _ _) (Bnd_vecZ _ _) (by omega) _ hkk (by omega) (by omega) (fun _ => True) (fun _ _ => trivial) (fun _ _ => trivial)) ?_
      rintro w7 h7 c7 r7 w7' ⟨⟨gA1, gA2⟩, hext7⟩
      have fr7 := hext7.fresh
      have le7 := hext7.c
      simp only at le7 fr7
      have qa7 := qa6.keep fr6 (fun b _ hb => hext7.get hb (fun q => q))
      have qb7 := qb6.keep fr6 (fun b _ hb => hext7.get hb (fun q => q))
      have hqr7 := Row.keepF hqr fr6 (fun b hb => hext7.get hb (fun q => q))
      (repeat (((with_reducible apply Wseq.mv); rfl; (intro v hv; (simp only [kv, Nat.reduceEqDiff, eq_self, ↓reduceIte, reduceCtorEq, List.map_cons, List.map_nil] at hv); subst hv))))
      refine Wseq.call rfl rfl (fsearch_spec (by ((repeat ((with_reducible apply Fresh.put); omega)); ((with_reducible assumption)))) qb7 hmm hqr7 (vecZ_len _ _) (Bnd_vecZ _ _) (by omega) _ hkk (by omega) (by omega) (fun _ => True) (fun _ _ => trivial) (fun _ _ => trivial)) ?_
      rintro w8 h8 c8 r8 w8' ⟨⟨gB1, gB2⟩, hext8⟩
      have fr8 := hext8.fresh
      have le8 := hext8.c
      simp only at le8 fr8
      have qa8 := qa7.keep fr7 (fun b _ hb => hext8.get hb (fun q => q))
      have qb8 := qb7.keep fr7 (fun b _ hb => hext8.get hb (fun q => q))
      obtain ⟨oA, cA, rfl, _, rowA⟩ := gA1.row
      obtain ⟨oB, cB, rfl, _, rowB'⟩ := gB1.row
      have rowA8 := Row.keepF rowA fr7 (fun b hb => hext8.get hb (fun q => q))
      have hbl := bestOf_len ((k.tmod 15 + 15).tmod 15).toNat (hitsM mt (vecZ zq 3) B)
      have hhl : (hitsM mt (vecZ zq 3) B).length = B.length := by unfold hitsM; rw [List.length_map]
      skip
      refine Wseq.call rfl rfl (hits_spec stdQ (by ((repeat ((with_reducible apply Fresh.put); omega)); ((with_reducible assumption)))) rowA8 rowB' (by omega)) ?_
      rintro w9 h9 c9 r9 w9' ⟨rfl, e9, e9', hext9⟩
      simp only at e9 e9'
      subst e9 e9'
      (repeat (((with_reducible apply Wseq.mv); rfl; (intro v hv; (simp only [kv, Nat.reduceEqDiff, eq_self, ↓reduceIte, reduceCtorEq, List.map_cons, List.map_nil] at hv); subst hv))))
      refine Wseq.call rfl rfl (fids_spec (by ((repeat ((with_reducible apply Fresh.put); omega)); ((with_reducible assumption)))) qa8 (by omega)) ?_
      rintro wa ha ca ra wa' ⟨iA, hexta⟩
      have fra := hexta.fresh
      have lea := hexta.c
      simp only at lea fra
      have qba := qb8.keep fr8 (fun b _ hb => hexta.get hb (fun q => q))
      (repeat (((with_reducible apply Wseq.mv); rfl; (intro v hv; (simp only [kv, Nat.reduceEqDiff, eq_self, ↓reduceIte, reduceCtorEq, List.map_cons, List.map_nil] at hv); subst hv))))
      refine Wseq.call rfl rfl (fids_spec (by ((repeat ((with_reducible apply Fresh.put); omega)); ((with_reducible assumption)))) qba (by omega)) ?_
      rintro wb hb' cb rb wb' ⟨iB, hextb⟩
      have frb := hextb.fresh
      have leb := hextb.c
      simp only at leb frb
      have iA' : Own hb' c9 wa B.length ((B.map Rc.id).map (Value.int .i64)) := iA.keep fun b hb => hextb.get ((iA.blk hb).2.lt fra) (fun q => q)
      have rA := iA'.row (by rw [List.length_map, List.length_map])
      have rB := iB.row (by rw [List.length_map, List.length_map])
      obtain ⟨a1, k1, rfl⟩ := iA.val
      obtain ⟨a2, k2, rfl⟩ := iB.val
      skip
      refine Wseq.call rfl rfl (ints_spec stdQ (by ((repeat ((with_reducible apply Fresh.put); omega)); ((with_reducible assumption)))) (l := B.map Rc.id) (by rw [List.length_map]) rA rB (by omega)) ?_
      rintro wc hc' cc rc wc' ⟨rfl, e10, e10', hextc⟩
      simp only at e10 e10'
      subst e10 e10'
      (repeat (first | (with_reducible refine Then.go ?_) | (with_reducible refine Wx.ret ?_) | ((with_reducible refine Wseq.nil ?_); intro e he; (simp only [ke, Nat.testBit, Nat.reduceShiftRight, Nat.reduceAnd, Nat.reduceBNe, Nat.reduceEqDiff, Nat.reduceAdd, ↓reduceIte, reduceCtorEq, Bool.false_eq_true] at he; subst he)) | ((with_reducible apply Wseq.as); rfl; (intro v hv; (simp only [kv, Nat.reduceEqDiff, eq_self, ↓reduceIte, reduceCtorEq, List.map_cons, List.map_nil] at hv); subst hv)) | ((with_reducible apply Wseq.pkT); rfl; rfl; (intro v hv; (simp only [kv, Nat.reduceEqDiff, eq_self, ↓reduceIte, reduceCtorEq, List.map_cons, List.map_nil] at hv); subst hv))))
      exact ⟨.inr rfl, Wres.one rfl rfl⟩
end Go.Ab.Seat
