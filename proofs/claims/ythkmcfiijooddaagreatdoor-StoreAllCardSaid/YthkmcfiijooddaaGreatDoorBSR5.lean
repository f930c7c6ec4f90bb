/- The reference's store: swept (the abstract machine). -/
import Derived.Test.YthkmcfiijooddaaGreatDoorBSR3
set_option linter.unusedVariables false
set_option linter.unusedSimpArgs false
namespace Go.Ab.Seat
open Go.Extern Go.Proofs
set_option linter.unusedSimpArgs false
set_option linter.unusedVariables false
set_option maxRecDepth 4000
set_option pp.deepTerms false
set_option pp.deepTerms.threshold 6
variable {sm : Nat → Option (List Value → M Value)}

theorem sweep_snoc (upto : Int) (l : List It) (x : It) : (l ++ [x]).filter (fun y => !sweptR upto y.rc) = l.filter (fun y => !sweptR upto y.rc) ++ (if sweptR upto x.rc then [] else [x]) := by
  rw [List.filter_append, List.filter_cons]
  cases sweptR upto x.rc <;> rfl
theorem take_snocI {rs : List It} {i : Nat} {x : It} (hx : rs[i]? = some x) : rs.take (i + 1) = rs.take i ++ [x] := by rw [List.take_add_one, hx]; rfl

def ESw (p : Nat) (upto : Int) (n : Nat) (w : Value) (z : Int) (j6 j7 j14 j36 : Value) : L :=
  .cons 0 (.pointer (some ⟨p, 0, none⟩)) (.cons 1 (.int .i64 upto) (.cons 4 (.int .i64 0) (.cons 5 w (.cons 6 j6 (.cons 7 j7 (.cons 12 (.int .i64 (n : Int)) (.cons 13 (.int .i64 z) (.cons 14 j14 (.cons 36 j36 .nil)))))))))

/-- Items, laid anew: a block of the call's own. -/
def NewI (h : T AObj) (c : Nat) (w : Value) (l : List It) : Prop := (w = .slice none 0 0 ∧ l = []) ∨ ∃ b, w = .slice (some ⟨b, 0, some 5⟩) l.length l.length ∧ l ≠ [] ∧ c ≤ b ∧ Has h b (.cells (flatI l))

set_option maxHeartbeats 4000000 in
theorem rsweep_spec (H : Std sm) {h : T AObj} {c : Nat} {rl wl : List Nat} (hf : Fresh h c) {p : Nat} {M : List Rc} {U : Nat → Prop} (q : RefM h p M U) (hlt : ∀ b, U b → b < c) (upto : Int) :
    ∃ r s', FnTo (Cs sm) eg 35 [.pointer (some ⟨p, 0, none⟩), .int .i64 upto] ⟨h, c, rl, wl⟩ r s' ∧ (r = .int .i64 ((M.filter (sweptR upto)).length : Int) ∧ RefM s'.h p (sweepM upto M) (fun b => U b ∨ c ≤ b ∧ b < s'.c)) ∧ Ext ⟨h, c, rl, wl⟩ s' (fun _ => True) U := by
  have hml := q.len
  obtain ⟨⟨lv, l, g1, g2, g3, g4, g5⟩, h6, h7, h8⟩ := _root_.id q
  obtain ⟨la, rfl⟩ := g2.val
  have hpc := g1.lt hf
  have hll : l.length = M.length := by rw [← g5, List.length_map]
  have hvs : ∀ x ∈ l, ∃ a n k, x.vec = .slice a n k := fun x hx => by obtain ⟨a, k, e⟩ := (g4 x hx).1.val; exact ⟨_, _, _, e⟩
  generalize hn : l.length = n at *
  refine Fn.go (H 35 rfl) ex35 fn35 km35 rfl rfl ?_
  intro e he
  (simp only [ke, Nat.testBit, Nat.reduceShiftRight, Nat.reduceAnd, Nat.reduceBNe, Nat.reduceEqDiff, Nat.reduceAdd, ↓reduceIte, reduceCtorEq, Bool.false_eq_true] at he; subst he)
  (repeat (first | (with_reducible refine Then.go ?_) | (with_reducible refine Wx.seq ?_) | (with_reducible refine Wx.block ?_) | (with_reducible refine Wx.reg ?_) | ((with_reducible refine Wseq.nil ?_); intro e he; (simp only [ke, Nat.testBit, Nat.reduceShiftRight, Nat.reduceAnd, Nat.reduceBNe, Nat.reduceEqDiff, Nat.reduceAdd, ↓reduceIte, reduceCtorEq, Bool.false_eq_true] at he; subst he)) | ((with_reducible apply Wseq.mv); rfl; (intro v hv; (simp only [kv, Nat.reduceEqDiff, eq_self, ↓reduceIte, reduceCtorEq, List.map_cons, List.map_nil] at hv); subst hv)) | ((with_reducible apply Wseq.as); rfl; (intro v hv; (simp only [kv, Nat.reduceEqDiff, eq_self, ↓reduceIte, reduceCtorEq, List.map_cons, List.map_nil] at hv); subst hv)) | ((with_reducible apply Wseq.stg (op := Op.fieldAddr _ _ _)); rfl; exact to_fieldAddr (fa_ rfl) rfl) | ((with_reducible apply Wseq.stg (op := Op.load _ _)); rfl; exact to_load (pl_ rfl) rfl (by (repeat ((apply Has.cel; assumption)))) (by omega) (by rfl)) | ((with_reducible apply Wseq.stg (op := Op.nilCheck _)); rfl; exact to_nilCheck rfl) | ((with_reducible apply Wseq.stg (op := Op.call ⟨Callee.builtin Builtin.len, _, _⟩)); rfl; exact to_lenS (sl_ rfl) rfl)))
  refine Wx.cutO (fun e s => ∃ (z : Int) (w : Value) (h' : T AObj) (c' : Nat) (rl' wl' : List Nat) (j6 j14 j36 : Value), e = ESw p upto n w z j6 top j14 j36 ∧ s = ⟨h', c', rl', wl'⟩ ∧ Fresh h' c' ∧ c ≤ c' ∧ Kp h h' c (fun _ => False) ∧ NewI h' c w (l.filter fun y => !sweptR upto y.rc) ∧ Lg c (fun _ => True) rl' ∧ Lg c (fun _ => False) wl') (by (repeat ((exact Resp.fn)))) ?_ ?_
  · refine Wx.loopE (fun k1 e s => ∃ (i : Nat) (z : Int) (w : Value) (h' : T AObj) (c' : Nat) (rl' wl' : List Nat) (j6 j14 j36 : Value), e = ESw p upto n w z j6 top j14 j36 ∧ z = i ∧ s = ⟨h', c', rl', wl'⟩ ∧ Fresh h' c' ∧ c ≤ c' ∧ Kp h h' c (fun _ => False) ∧ NewI h' c w ((l.take i).filter fun y => !sweptR upto y.rc) ∧ Lg c (fun _ => True) rl' ∧ Lg c (fun _ => False) wl' ∧ i ≤ n ∧ k1 = n - i) n (ESw p upto n (.slice none 0 0) 0 top top top top) (by (repeat (first | (exact Resp.fn) | (apply Resp.out) | (apply Resp.cut)))) ?_ ?_ ?_
    · unfold ESw
      (refine EqK.of ?_ ?_ <;> (repeat (first | (exact all_nil) | (apply all_cons; rfl))))
    · exact ⟨0, 0, _, _, _, _, _, _, _, _, rfl, rfl, rfl, hf, by omega, Kp.refl, .inl ⟨rfl, rfl⟩, (by (repeat (first | (exact Lg.nil) | (apply Lg.cons; (focus ((right; (simp; done)))))))), (by (repeat ((exact Lg.nil)))), by omega, rfl⟩
    · rintro k1 e s ⟨i, z, w, h2, c2, rl2, wl2, j6, j14, j36, rfl, hz, rfl, hf2, hc2, hkp, hN, hlr, hlw, hin, rfl⟩
      unfold ESw
      have P2 : Has h2 p (.cells [.slice la n n]) := (hkp p hpc (fun q => q)).trans g1
      by_cases hi : i < n
      rotate_left
      · (repeat (first | (with_reducible refine Then.go ?_) | (with_reducible refine Then.ex ?_) | (with_reducible refine Out.hit ?_) | (with_reducible refine Wx.seq ?_) | (with_reducible refine Wx.exit ?_) | (with_reducible refine Wx.reg ?_) | (with_reducible refine RoundE.ex ?_) | (refine Wx.condF rfl (by rfl) ?_) | ((with_reducible refine Wseq.nil ?_); intro e he; (simp only [ke, Nat.testBit, Nat.reduceShiftRight, Nat.reduceAnd, Nat.reduceBNe, Nat.reduceEqDiff, Nat.reduceAdd, ↓reduceIte, reduceCtorEq, Bool.false_eq_true] at he; subst he)) | ((with_reducible apply Wseq.stg (op := Op.binOp BinOp.lss _ _ _ _)); rfl; exact to_lssF rfl rfl (by omega))))
        refine CutQ.go (ESw p upto n w z j6 top _ j36) (by unfold ESw; (refine EqK.of ?_ ?_ <;> (repeat (first | (exact all_nil) | (apply all_cons; rfl))))) ⟨z, w, _, _, _, _, _, _, _, rfl, rfl, hf2, hc2, hkp, ?_, (by (repeat ((assumption)))), (by (repeat ((assumption))))⟩
        rw [List.take_of_length_le (by omega)] at hN
        exact hN
      rcases g2 with ⟨_, rfl⟩ | ⟨bl, e, hlne, hbl⟩
      · cases hn; cases hi
      obtain rfl : la = some ⟨bl, 0, some 5⟩ := by simp only [Value.slice.injEq] at e; exact e.1
      have lbl := hbl.lt hf
      have B2 : Has h2 bl (.cells (flatI l)) := (hkp bl lbl (fun q => q)).trans hbl
      have hxi : l[i]? = some l[i] := List.getElem?_eq_getElem (by omega)
      have hsub := sub_item (o := 0) (subN_all (flatI l) _ (flatI_len l).symm) hxi
      have hsn := sweep_snoc upto (l.take i) l[i]
      rw [← take_snocI hxi] at hsn
      have hym : l[i] ∈ l := List.getElem_mem _
      generalize l[i] = y at *
      obtain ⟨ay, ny, ky, hy⟩ := hvs y hym
      obtain ⟨yid, yvec, yxs, ypay, yseq, yg⟩ := y
      dsimp only at hy
      subst hy
      have hcy : (⟨yid, .slice ay ny ky, yxs, ypay, yseq, yg⟩ : It).cells = [.int .i64 yid, .slice ay ny ky, .string ypay, .int .i64 yseq, .bool yg] := rfl
      rw [hcy] at hsub
      obtain ⟨d0, d3, d4⟩ := sub_nth hsub
      have hsw : sweptR upto (⟨yid, .slice ay ny ky, yxs, ypay, yseq, yg⟩ : It).rc = (yg && decide (yseq ≤ upto)) := rfl
      rw [hsw] at hsn
      have hlen : ((l.take i).filter fun y => !sweptR upto y.rc).length ≤ i := by
        have := List.length_filter_le (fun y => !sweptR upto (It.rc y)) (l.take i)
        rw [List.length_take] at this
        omega
      generalize (l.take i).filter (fun y => !sweptR upto y.rc) = L at *
      by_cases hs : yg = true ∧ yseq ≤ upto
      · obtain ⟨rfl, hs2⟩ := hs
        rw [decide_eq_true hs2] at hsn
        simp only [Bool.and_self, ↓reduceIte, List.append_nil] at hsn
        (repeat (first | (with_reducible refine Then.go ?_) | (with_reducible refine Wx.seq ?_) | (with_reducible refine Wx.skip ?_) | (with_reducible refine Wx.block ?_) | (with_reducible refine Wx.reg ?_) | (refine Wx.condT rfl (by rfl) ?_) | ((with_reducible refine Wseq.nil ?_); intro e he; (simp only [ke, Nat.testBit, Nat.reduceShiftRight, Nat.reduceAnd, Nat.reduceBNe, Nat.reduceEqDiff, Nat.reduceAdd, ↓reduceIte, reduceCtorEq, Bool.false_eq_true] at he; subst he)) | ((with_reducible apply Wseq.mv); rfl; (intro v hv; (simp only [kv, Nat.reduceEqDiff, eq_self, ↓reduceIte, reduceCtorEq, List.map_cons, List.map_nil] at hv); subst hv)) | ((with_reducible apply Wseq.as); rfl; (intro v hv; (simp only [kv, Nat.reduceEqDiff, eq_self, ↓reduceIte, reduceCtorEq, List.map_cons, List.map_nil] at hv); subst hv)) | ((with_reducible apply Wseq.stg (op := Op.fieldAddr _ _ _)); rfl; exact to_fieldAddr (fa_ rfl) rfl) | ((with_reducible apply Wseq.stg (op := Op.load _ _)); rfl; exact to_load (pl_ rfl) rfl (by (repeat ((apply Has.cel; assumption)))) (by omega) (by rfl)) | ((with_reducible apply Wseq.stg (op := Op.nilCheck _)); rfl; exact to_nilCheck rfl) | ((with_reducible apply Wseq.stg (op := Op.binOp BinOp.lss _ _ _ _)); rfl; exact to_lssT rfl rfl (by omega))))
        ((with_reducible apply Wseq.stg); (focus rfl); (focus (exact to_indexAddr (k := i) el49 rfl rfl hz (by omega))))
        (repeat (((with_reducible apply Wseq.stg (op := Op.fieldAddr _ _ _)); rfl; exact to_fieldAddr (fa_ rfl) rfl)))
        ((with_reducible apply Wseq.stg); (focus rfl); (focus (exact to_load (pl_ rfl) rfl B2.cel (by omega) d4)))
        (repeat (first | ((with_reducible apply Wseq.mv); rfl; (intro v hv; (simp only [kv, Nat.reduceEqDiff, eq_self, ↓reduceIte, reduceCtorEq, List.map_cons, List.map_nil] at hv); subst hv)) | ((with_reducible apply Wseq.stg (op := Op.fieldAddr _ _ _)); rfl; exact to_fieldAddr (fa_ rfl) rfl) | ((with_reducible apply Wseq.stg (op := Op.load _ _)); rfl; exact to_load (pl_ rfl) rfl (by (repeat ((apply Has.cel; assumption)))) (by omega) (by rfl)) | ((with_reducible apply Wseq.stg (op := Op.nilCheck _)); rfl; exact to_nilCheck rfl) | ((with_reducible apply Wseq.stg (op := Op.unOp UnOp.not _ _)); rfl; exact to_notT rfl)))
        ((with_reducible apply Wseq.stg); (focus rfl); (focus (exact to_indexAddr (k := i) el49 rfl rfl hz (by omega))))
        (repeat (((with_reducible apply Wseq.stg (op := Op.fieldAddr _ _ _)); rfl; exact to_fieldAddr (fa_ rfl) rfl)))
        ((with_reducible apply Wseq.stg); (focus rfl); (focus (exact to_load (pl_ rfl) rfl B2.cel (by omega) d3)))
        (repeat (first | (with_reducible refine Then.go ?_) | (with_reducible refine Out.go ?_) | (with_reducible refine Wx.skip ?_) | (with_reducible refine Wx.reg ?_) | (refine Wx.condF rfl (by rfl) ?_) | ((with_reducible refine Wseq.nil ?_); intro e he; (simp only [ke, Nat.testBit, Nat.reduceShiftRight, Nat.reduceAnd, Nat.reduceBNe, Nat.reduceEqDiff, Nat.reduceAdd, ↓reduceIte, reduceCtorEq, Bool.false_eq_true] at he; subst he)) | ((with_reducible apply Wseq.mv); rfl; (intro v hv; (simp only [kv, Nat.reduceEqDiff, eq_self, ↓reduceIte, reduceCtorEq, List.map_cons, List.map_nil] at hv); subst hv)) | ((with_reducible apply Wseq.pkF); rfl; rfl; (intro v hv; (simp only [kv, Nat.reduceEqDiff, eq_self, ↓reduceIte, reduceCtorEq, List.map_cons, List.map_nil] at hv); subst hv)) | ((with_reducible apply Wseq.stg (op := Op.binOp BinOp.gtr _ _ _ _)); rfl; exact to_gtrF rfl rfl (by omega)) | ((with_reducible apply Wseq.stg (op := Op.binOp BinOp.add _ _ _ _)); rfl; exact to_add rfl rfl (by omega) (by omega))))
        refine RoundE.go (n - (i + 1)) (ESw p upto n w (z + 1) _ top _ _) (by omega) (by unfold ESw; (refine EqK.of ?_ ?_ <;> (repeat (first | (exact all_nil) | (apply all_cons; rfl))))) ⟨i + 1, z + 1, w, _, _, _, _, _, _, _, rfl, by omega, rfl, hf2, hc2, hkp, by rw [hsn]; exact hN, (by (repeat (first | (assumption) | (apply Lg.cons; (focus ((right; (simp; done)))))))), (by (repeat ((assumption)))), by omega, rfl⟩
      · have hb : (yg && decide (yseq ≤ upto)) = false := by
          cases yg with
          | false => rfl
          | true => rw [decide_eq_false (fun h => hs ⟨rfl, h⟩)]; rfl
        rw [hb] at hsn
        simp only [Bool.false_eq_true, ↓reduceIte] at hsn
        have hat : ∀ v ∈ ([.int .i64 yid, .slice ay ny ky, .string ypay, .int .i64 yseq, .bool yg] : List Value), atom v = true := all_cons rfl (all_cons rfl (all_cons rfl (all_cons rfl (all_cons rfl all_nil))))
        have hfl : flatI (L ++ [⟨yid, .slice ay ny ky, yxs, ypay, yseq, yg⟩]) = flatI L ++ [.int .i64 yid, .slice ay ny ky, .string ypay, .int .i64 yseq, .bool yg] := by rw [flatI_app]; rfl
        rcases hN with ⟨rfl, rfl⟩ | ⟨bn, rfl, hLne, hbn, hBn⟩
        · cases yg with
          | false =>
            (repeat (first | (with_reducible refine Then.go ?_) | (with_reducible refine Wx.seq ?_) | (with_reducible refine Wx.skip ?_) | (with_reducible refine Wx.block ?_) | (with_reducible refine Wx.reg ?_) | (refine Wx.condT rfl (by rfl) ?_) | ((with_reducible refine Wseq.nil ?_); intro e he; (simp only [ke, Nat.testBit, Nat.reduceShiftRight, Nat.reduceAnd, Nat.reduceBNe, Nat.reduceEqDiff, Nat.reduceAdd, ↓reduceIte, reduceCtorEq, Bool.false_eq_true] at he; subst he)) | ((with_reducible apply Wseq.mv); rfl; (intro v hv; (simp only [kv, Nat.reduceEqDiff, eq_self, ↓reduceIte, reduceCtorEq, List.map_cons, List.map_nil] at hv); subst hv)) | ((with_reducible apply Wseq.as); rfl; (intro v hv; (simp only [kv, Nat.reduceEqDiff, eq_self, ↓reduceIte, reduceCtorEq, List.map_cons, List.map_nil] at hv); subst hv)) | ((with_reducible apply Wseq.stg (op := Op.fieldAddr _ _ _)); rfl; exact to_fieldAddr (fa_ rfl) rfl) | ((with_reducible apply Wseq.stg (op := Op.load _ _)); rfl; exact to_load (pl_ rfl) rfl (by (repeat ((apply Has.cel; assumption)))) (by omega) (by rfl)) | ((with_reducible apply Wseq.stg (op := Op.nilCheck _)); rfl; exact to_nilCheck rfl) | ((with_reducible apply Wseq.stg (op := Op.binOp BinOp.lss _ _ _ _)); rfl; exact to_lssT rfl rfl (by omega))))
            ((with_reducible apply Wseq.stg); (focus rfl); (focus (exact to_indexAddr (k := i) el49 rfl rfl hz (by omega))))
            (repeat (((with_reducible apply Wseq.stg (op := Op.fieldAddr _ _ _)); rfl; exact to_fieldAddr (fa_ rfl) rfl)))
            ((with_reducible apply Wseq.stg); (focus rfl); (focus (exact to_load (pl_ rfl) rfl B2.cel (by omega) d4)))
            (repeat (first | (with_reducible refine Then.go ?_) | (with_reducible refine Wx.reg ?_) | (refine Wx.condT rfl (by rfl) ?_) | ((with_reducible refine Wseq.nil ?_); intro e he; (simp only [ke, Nat.testBit, Nat.reduceShiftRight, Nat.reduceAnd, Nat.reduceBNe, Nat.reduceEqDiff, Nat.reduceAdd, ↓reduceIte, reduceCtorEq, Bool.false_eq_true] at he; subst he)) | ((with_reducible apply Wseq.mv); rfl; (intro v hv; (simp only [kv, Nat.reduceEqDiff, eq_self, ↓reduceIte, reduceCtorEq, List.map_cons, List.map_nil] at hv); subst hv)) | ((with_reducible apply Wseq.pkT); rfl; rfl; (intro v hv; (simp only [kv, Nat.reduceEqDiff, eq_self, ↓reduceIte, reduceCtorEq, List.map_cons, List.map_nil] at hv); subst hv)) | ((with_reducible apply Wseq.stg (op := Op.fieldAddr _ _ _)); rfl; exact to_fieldAddr (fa_ rfl) rfl) | ((with_reducible apply Wseq.stg (op := Op.load _ _)); rfl; exact to_load (pl_ rfl) rfl (by (repeat ((apply Has.cel; assumption)))) (by omega) (by rfl)) | ((with_reducible apply Wseq.stg (op := Op.nilCheck _)); rfl; exact to_nilCheck rfl) | ((with_reducible apply Wseq.stg (op := Op.unOp UnOp.not _ _)); rfl; exact to_notF rfl) | (refine Wseq.no rfl ?_)))
            ((with_reducible apply Wseq.stg); (focus rfl); (focus (exact to_indexAddr (k := i) el49 rfl rfl hz (by omega))))
            ((with_reducible apply Wseq.stg); (focus rfl); (focus (exact to_loadS ag59 rfl B2.cel (by omega) hsub)))
            (repeat (((with_reducible apply Wseq.bs); rfl; exact (ro_ rfl); rfl; exact (by ((repeat (apply Fresh.put; omega)); ((assumption)))); (intro v hv; (simp only [kv, Nat.reduceEqDiff, eq_self, ↓reduceIte, reduceCtorEq, List.map_cons, List.map_nil] at hv); subst hv); refine ⟨_, rfl, ?_⟩)))
            ((with_reducible apply Wseq.stg); (focus rfl); (focus (exact to_appNil ro49 sl49 rfl rfl (by (repeat ((exact Has.same.cel)))) (by omega) (by rfl) (by decide) (by ((repeat (apply Fresh.put; omega)); ((exact Fresh.up (by assumption) (by omega))))))))
            (repeat (first | (with_reducible refine Then.go ?_) | (with_reducible refine Out.go ?_) | (with_reducible refine Wx.reg ?_) | ((with_reducible refine Wseq.nil ?_); intro e he; (simp only [ke, Nat.testBit, Nat.reduceShiftRight, Nat.reduceAnd, Nat.reduceBNe, Nat.reduceEqDiff, Nat.reduceAdd, ↓reduceIte, reduceCtorEq, Bool.false_eq_true] at he; subst he)) | ((with_reducible apply Wseq.mv); rfl; (intro v hv; (simp only [kv, Nat.reduceEqDiff, eq_self, ↓reduceIte, reduceCtorEq, List.map_cons, List.map_nil] at hv); subst hv)) | ((with_reducible apply Wseq.as); rfl; (intro v hv; (simp only [kv, Nat.reduceEqDiff, eq_self, ↓reduceIte, reduceCtorEq, List.map_cons, List.map_nil] at hv); subst hv)) | ((with_reducible apply Wseq.stg (op := Op.binOp BinOp.add _ _ _ _)); rfl; exact to_add rfl rfl (by omega) (by omega))))
            refine RoundE.go (n - (i + 1)) (ESw p upto n (.slice (some ⟨c2 + 1, 0, some 5⟩) 1 1) (z + 1) _ top _ _) (by omega) (by unfold ESw; (refine EqK.of ?_ ?_ <;> (repeat (first | (exact all_nil) | (apply all_cons; rfl))))) ⟨i + 1, z + 1, _, _, _, _, _, _, _, _, rfl, by omega, rfl, (by ((repeat (apply Fresh.put; omega)); ((exact Fresh.up (by assumption) (by omega))))), by omega, (by (repeat (first | (assumption) | (apply Kp.set; (focus (left; omega)))))), .inr ⟨c2 + 1, by rw [hsn]; rfl, by rw [hsn]; simp, by omega, by rw [hsn, hfl]; exact Has.same⟩, (by (repeat (first | (assumption) | (apply Lg.cons; (focus (first | (left; omega) | (right; (simp; done)))))))), (by (repeat ((assumption)))), by omega, rfl⟩
          | true =>
            have hs2 : upto < yseq := by
              have : ¬yseq ≤ upto := fun h => hs ⟨rfl, h⟩
              omega
            (repeat (first | (with_reducible refine Then.go ?_) | (with_reducible refine Wx.seq ?_) | (with_reducible refine Wx.skip ?_) | (with_reducible refine Wx.block ?_) | (with_reducible refine Wx.reg ?_) | (refine Wx.condT rfl (by rfl) ?_) | ((with_reducible refine Wseq.nil ?_); intro e he; (simp only [ke, Nat.testBit, Nat.reduceShiftRight, Nat.reduceAnd, Nat.reduceBNe, Nat.reduceEqDiff, Nat.reduceAdd, ↓reduceIte, reduceCtorEq, Bool.false_eq_true] at he; subst he)) | ((with_reducible apply Wseq.mv); rfl; (intro v hv; (simp only [kv, Nat.reduceEqDiff, eq_self, ↓reduceIte, reduceCtorEq, List.map_cons, List.map_nil] at hv); subst hv)) | ((with_reducible apply Wseq.as); rfl; (intro v hv; (simp only [kv, Nat.reduceEqDiff, eq_self, ↓reduceIte, reduceCtorEq, List.map_cons, List.map_nil] at hv); subst hv)) | ((with_reducible apply Wseq.stg (op := Op.fieldAddr _ _ _)); rfl; exact to_fieldAddr (fa_ rfl) rfl) | ((with_reducible apply Wseq.stg (op := Op.load _ _)); rfl; exact to_load (pl_ rfl) rfl (by (repeat ((apply Has.cel; assumption)))) (by omega) (by rfl)) | ((with_reducible apply Wseq.stg (op := Op.nilCheck _)); rfl; exact to_nilCheck rfl) | ((with_reducible apply Wseq.stg (op := Op.binOp BinOp.lss _ _ _ _)); rfl; exact to_lssT rfl rfl (by omega))))
            ((with_reducible apply Wseq.stg); (focus rfl); (focus (exact to_indexAddr (k := i) el49 rfl rfl hz (by omega))))
            (repeat (((with_reducible apply Wseq.stg (op := Op.fieldAddr _ _ _)); rfl; exact to_fieldAddr (fa_ rfl) rfl)))
            ((with_reducible apply Wseq.stg); (focus rfl); (focus (exact to_load (pl_ rfl) rfl B2.cel (by omega) d4)))
            (repeat (first | ((with_reducible apply Wseq.mv); rfl; (intro v hv; (simp only [kv, Nat.reduceEqDiff, eq_self, ↓reduceIte, reduceCtorEq, List.map_cons, List.map_nil] at hv); subst hv)) | ((with_reducible apply Wseq.stg (op := Op.fieldAddr _ _ _)); rfl; exact to_fieldAddr (fa_ rfl) rfl) | ((with_reducible apply Wseq.stg (op := Op.load _ _)); rfl; exact to_load (pl_ rfl) rfl (by (repeat ((apply Has.cel; assumption)))) (by omega) (by rfl)) | ((with_reducible apply Wseq.stg (op := Op.nilCheck _)); rfl; exact to_nilCheck rfl) | ((with_reducible apply Wseq.stg (op := Op.unOp UnOp.not _ _)); rfl; exact to_notT rfl)))
            ((with_reducible apply Wseq.stg); (focus rfl); (focus (exact to_indexAddr (k := i) el49 rfl rfl hz (by omega))))
            (repeat (((with_reducible apply Wseq.stg (op := Op.fieldAddr _ _ _)); rfl; exact to_fieldAddr (fa_ rfl) rfl)))
            ((with_reducible apply Wseq.stg); (focus rfl); (focus (exact to_load (pl_ rfl) rfl B2.cel (by omega) d3)))
            (repeat (first | (with_reducible refine Then.go ?_) | (with_reducible refine Wx.reg ?_) | (refine Wx.condT rfl (by rfl) ?_) | ((with_reducible refine Wseq.nil ?_); intro e he; (simp only [ke, Nat.testBit, Nat.reduceShiftRight, Nat.reduceAnd, Nat.reduceBNe, Nat.reduceEqDiff, Nat.reduceAdd, ↓reduceIte, reduceCtorEq, Bool.false_eq_true] at he; subst he)) | ((with_reducible apply Wseq.mv); rfl; (intro v hv; (simp only [kv, Nat.reduceEqDiff, eq_self, ↓reduceIte, reduceCtorEq, List.map_cons, List.map_nil] at hv); subst hv)) | ((with_reducible apply Wseq.pkF); rfl; rfl; (intro v hv; (simp only [kv, Nat.reduceEqDiff, eq_self, ↓reduceIte, reduceCtorEq, List.map_cons, List.map_nil] at hv); subst hv)) | ((with_reducible apply Wseq.stg (op := Op.fieldAddr _ _ _)); rfl; exact to_fieldAddr (fa_ rfl) rfl) | ((with_reducible apply Wseq.stg (op := Op.load _ _)); rfl; exact to_load (pl_ rfl) rfl (by (repeat ((apply Has.cel; assumption)))) (by omega) (by rfl)) | ((with_reducible apply Wseq.stg (op := Op.nilCheck _)); rfl; exact to_nilCheck rfl) | ((with_reducible apply Wseq.stg (op := Op.binOp BinOp.gtr _ _ _ _)); rfl; exact to_gtrT rfl rfl (by omega))))
            ((with_reducible apply Wseq.stg); (focus rfl); (focus (exact to_indexAddr (k := i) el49 rfl rfl hz (by omega))))
            ((with_reducible apply Wseq.stg); (focus rfl); (focus (exact to_loadS ag59 rfl B2.cel (by omega) hsub)))
            (repeat (((with_reducible apply Wseq.bs); rfl; exact (ro_ rfl); rfl; exact (by ((repeat (apply Fresh.put; omega)); ((assumption)))); (intro v hv; (simp only [kv, Nat.reduceEqDiff, eq_self, ↓reduceIte, reduceCtorEq, List.map_cons, List.map_nil] at hv); subst hv); refine ⟨_, rfl, ?_⟩)))
            ((with_reducible apply Wseq.stg); (focus rfl); (focus (exact to_appNil ro49 sl49 rfl rfl (by (repeat ((exact Has.same.cel)))) (by omega) (by rfl) (by decide) (by ((repeat (apply Fresh.put; omega)); ((exact Fresh.up (by assumption) (by omega))))))))
            (repeat (first | (with_reducible refine Then.go ?_) | (with_reducible refine Out.go ?_) | (with_reducible refine Wx.reg ?_) | ((with_reducible refine Wseq.nil ?_); intro e he; (simp only [ke, Nat.testBit, Nat.reduceShiftRight, Nat.reduceAnd, Nat.reduceBNe, Nat.reduceEqDiff, Nat.reduceAdd, ↓reduceIte, reduceCtorEq, Bool.false_eq_true] at he; subst he)) | ((with_reducible apply Wseq.mv); rfl; (intro v hv; (simp only [kv, Nat.reduceEqDiff, eq_self, ↓reduceIte, reduceCtorEq, List.map_cons, List.map_nil] at hv); subst hv)) | ((with_reducible apply Wseq.as); rfl; (intro v hv; (simp only [kv, Nat.reduceEqDiff, eq_self, ↓reduceIte, reduceCtorEq, List.map_cons, List.map_nil] at hv); subst hv)) | ((with_reducible apply Wseq.stg (op := Op.binOp BinOp.add _ _ _ _)); rfl; exact to_add rfl rfl (by omega) (by omega))))
            refine RoundE.go (n - (i + 1)) (ESw p upto n (.slice (some ⟨c2 + 1, 0, some 5⟩) 1 1) (z + 1) _ top _ _) (by omega) (by unfold ESw; (refine EqK.of ?_ ?_ <;> (repeat (first | (exact all_nil) | (apply all_cons; rfl))))) ⟨i + 1, z + 1, _, _, _, _, _, _, _, _, rfl, by omega, rfl, (by ((repeat (apply Fresh.put; omega)); ((exact Fresh.up (by assumption) (by omega))))), by omega, (by (repeat (first | (assumption) | (apply Kp.set; (focus (left; omega)))))), .inr ⟨c2 + 1, by rw [hsn]; rfl, by rw [hsn]; simp, by omega, by rw [hsn, hfl]; exact Has.same⟩, (by (repeat (first | (assumption) | (apply Lg.cons; (focus (first | (left; omega) | (right; (simp; done)))))))), (by (repeat ((assumption)))), by omega, rfl⟩
        · have lbn := hBn.lt hf2
          have hs0 := subN_all (flatI L) _ (flatI_len L).symm
          cases yg with
          | false =>
            (repeat (first | (with_reducible refine Then.go ?_) | (with_reducible refine Wx.seq ?_) | (with_reducible refine Wx.skip ?_) | (with_reducible refine Wx.block ?_) | (with_reducible refine Wx.reg ?_) | (refine Wx.condT rfl (by rfl) ?_) | ((with_reducible refine Wseq.nil ?_); intro e he; (simp only [ke, Nat.testBit, Nat.reduceShiftRight, Nat.reduceAnd, Nat.reduceBNe, Nat.reduceEqDiff, Nat.reduceAdd, ↓reduceIte, reduceCtorEq, Bool.false_eq_true] at he; subst he)) | ((with_reducible apply Wseq.mv); rfl; (intro v hv; (simp only [kv, Nat.reduceEqDiff, eq_self, ↓reduceIte, reduceCtorEq, List.map_cons, List.map_nil] at hv); subst hv)) | ((with_reducible apply Wseq.as); rfl; (intro v hv; (simp only [kv, Nat.reduceEqDiff, eq_self, ↓reduceIte, reduceCtorEq, List.map_cons, List.map_nil] at hv); subst hv)) | ((with_reducible apply Wseq.stg (op := Op.fieldAddr _ _ _)); rfl; exact to_fieldAddr (fa_ rfl) rfl) | ((with_reducible apply Wseq.stg (op := Op.load _ _)); rfl; exact to_load (pl_ rfl) rfl (by (repeat ((apply Has.cel; assumption)))) (by omega) (by rfl)) | ((with_reducible apply Wseq.stg (op := Op.nilCheck _)); rfl; exact to_nilCheck rfl) | ((with_reducible apply Wseq.stg (op := Op.binOp BinOp.lss _ _ _ _)); rfl; exact to_lssT rfl rfl (by omega))))
            ((with_reducible apply Wseq.stg); (focus rfl); (focus (exact to_indexAddr (k := i) el49 rfl rfl hz (by omega))))
            (repeat (((with_reducible apply Wseq.stg (op := Op.fieldAddr _ _ _)); rfl; exact to_fieldAddr (fa_ rfl) rfl)))
            ((with_reducible apply Wseq.stg); (focus rfl); (focus (exact to_load (pl_ rfl) rfl B2.cel (by omega) d4)))
            (repeat (first | (with_reducible refine Then.go ?_) | (with_reducible refine Wx.reg ?_) | (refine Wx.condT rfl (by rfl) ?_) | ((with_reducible refine Wseq.nil ?_); intro e he; (simp only [ke, Nat.testBit, Nat.reduceShiftRight, Nat.reduceAnd, Nat.reduceBNe, Nat.reduceEqDiff, Nat.reduceAdd, ↓reduceIte, reduceCtorEq, Bool.false_eq_true] at he; subst he)) | ((with_reducible apply Wseq.mv); rfl; (intro v hv; (simp only [kv, Nat.reduceEqDiff, eq_self, ↓reduceIte, reduceCtorEq, List.map_cons, List.map_nil] at hv); subst hv)) | ((with_reducible apply Wseq.pkT); rfl; rfl; (intro v hv; (simp only [kv, Nat.reduceEqDiff, eq_self, ↓reduceIte, reduceCtorEq, List.map_cons, List.map_nil] at hv); subst hv)) | ((with_reducible apply Wseq.stg (op := Op.fieldAddr _ _ _)); rfl; exact to_fieldAddr (fa_ rfl) rfl) | ((with_reducible apply Wseq.stg (op := Op.load _ _)); rfl; exact to_load (pl_ rfl) rfl (by (repeat ((apply Has.cel; assumption)))) (by omega) (by rfl)) | ((with_reducible apply Wseq.stg (op := Op.nilCheck _)); rfl; exact to_nilCheck rfl) | ((with_reducible apply Wseq.stg (op := Op.unOp UnOp.not _ _)); rfl; exact to_notF rfl) | (refine Wseq.no rfl ?_)))
            ((with_reducible apply Wseq.stg); (focus rfl); (focus (exact to_indexAddr (k := i) el49 rfl rfl hz (by omega))))
            ((with_reducible apply Wseq.stg); (focus rfl); (focus (exact to_loadS ag59 rfl B2.cel (by omega) hsub)))
            (repeat (((with_reducible apply Wseq.bs); rfl; exact (ro_ rfl); rfl; exact (by ((repeat (apply Fresh.put; omega)); ((assumption)))); (intro v hv; (simp only [kv, Nat.reduceEqDiff, eq_self, ↓reduceIte, reduceCtorEq, List.map_cons, List.map_nil] at hv); subst hv); refine ⟨_, rfl, ?_⟩)))
            ((with_reducible apply Wseq.stg); (focus rfl); (focus (exact to_appG ro49 sl49 rfl rfl (by (repeat ((exact Has.same.cel)))) (by omega) (by rfl) (by omega) (by unfold big; omega) (by (repeat (first | (assumption) | (apply Has.other; omega)))) (by omega) hs0 hat (by ((repeat (apply Fresh.put; omega)); ((exact Fresh.up (by assumption) (by omega))))))))
            (repeat (first | (with_reducible refine Then.go ?_) | (with_reducible refine Out.go ?_) | (with_reducible refine Wx.reg ?_) | ((with_reducible refine Wseq.nil ?_); intro e he; (simp only [ke, Nat.testBit, Nat.reduceShiftRight, Nat.reduceAnd, Nat.reduceBNe, Nat.reduceEqDiff, Nat.reduceAdd, ↓reduceIte, reduceCtorEq, Bool.false_eq_true] at he; subst he)) | ((with_reducible apply Wseq.mv); rfl; (intro v hv; (simp only [kv, Nat.reduceEqDiff, eq_self, ↓reduceIte, reduceCtorEq, List.map_cons, List.map_nil] at hv); subst hv)) | ((with_reducible apply Wseq.as); rfl; (intro v hv; (simp only [kv, Nat.reduceEqDiff, eq_self, ↓reduceIte, reduceCtorEq, List.map_cons, List.map_nil] at hv); subst hv)) | ((with_reducible apply Wseq.stg (op := Op.binOp BinOp.add _ _ _ _)); rfl; exact to_add rfl rfl (by omega) (by omega))))
            refine RoundE.go (n - (i + 1)) (ESw p upto n (.slice (some ⟨c2 + 1, 0, some 5⟩) (L.length + 1) (L.length + 1)) (z + 1) _ top _ _) (by omega) (by unfold ESw; (refine EqK.of ?_ ?_ <;> (repeat (first | (exact all_nil) | (apply all_cons; rfl))))) ⟨i + 1, z + 1, _, _, _, _, _, _, _, _, rfl, by omega, rfl, (by ((repeat (apply Fresh.put; omega)); ((exact Fresh.up (by assumption) (by omega))))), by omega, (by (repeat (first | (assumption) | (apply Kp.set; (focus (left; omega)))))), .inr ⟨c2 + 1, by rw [hsn, List.length_append]; rfl, by rw [hsn]; simp, by omega, by rw [hsn, hfl]; exact Has.same⟩, (by (repeat (first | (assumption) | (apply Lg.cons; (focus (first | (left; omega) | (right; (simp; done)))))))), (by (repeat (first | (assumption) | (apply Lg.cons; (focus (left; omega)))))), by omega, rfl⟩
          | true =>
            have hs2 : upto < yseq := by
              have : ¬yseq ≤ upto := fun h => hs ⟨rfl, h⟩
              omega
            (repeat (first | (with_reducible refine Then.go ?_) | (with_reducible refine Wx.seq ?_) | (with_reducible refine Wx.skip ?_) | (with_reducible refine Wx.block ?_) | (with_reducible refine Wx.reg ?_) | (refine Wx.condT rfl (by rfl) ?_) | ((with_reducible refine Wseq.nil ?_); intro e he; (simp only [ke, Nat.testBit, Nat.reduceShiftRight, Nat.reduceAnd, Nat.reduceBNe, Nat.reduceEqDiff, Nat.reduceAdd, ↓reduceIte, reduceCtorEq, Bool.false_eq_true] at he; subst he)) | ((with_reducible apply Wseq.mv); rfl; (intro v hv; (simp only [kv, Nat.reduceEqDiff, eq_self, ↓reduceIte, reduceCtorEq, List.map_cons, List.map_nil] at hv); subst hv)) | ((with_reducible apply Wseq.as); rfl; (intro v hv; (simp only [kv, Nat.reduceEqDiff, eq_self, ↓reduceIte, reduceCtorEq, List.map_cons, List.map_nil] at hv); subst hv)) | ((with_reducible apply Wseq.stg (op := Op.fieldAddr _ _ _)); rfl; exact to_fieldAddr (fa_ rfl) rfl) | ((with_reducible apply Wseq.stg (op := Op.load _ _)); rfl; exact to_load (pl_ rfl) rfl (by (repeat ((apply Has.cel; assumption)))) (by omega) (by rfl)) | ((with_reducible apply Wseq.stg (op := Op.nilCheck _)); rfl; exact to_nilCheck rfl) | ((with_reducible apply Wseq.stg (op := Op.binOp BinOp.lss _ _ _ _)); rfl; exact to_lssT rfl rfl (by omega))))
            ((with_reducible apply Wseq.stg); (focus rfl); (focus (exact to_indexAddr (k := i) el49 rfl rfl hz (by omega))))
            (repeat (((with_reducible apply Wseq.stg (op := Op.fieldAddr _ _ _)); rfl; exact to_fieldAddr (fa_ rfl) rfl)))
            ((with_reducible apply Wseq.stg); (focus rfl); (focus (exact to_load (pl_ rfl) rfl B2.cel (by omega) d4)))
            (repeat (first | ((with_reducible apply Wseq.mv); rfl; (intro v hv; (simp only [kv, Nat.reduceEqDiff, eq_self, ↓reduceIte, reduceCtorEq, List.map_cons, List.map_nil] at hv); subst hv)) | ((with_reducible apply Wseq.stg (op := Op.fieldAddr _ _ _)); rfl; exact to_fieldAddr (fa_ rfl) rfl) | ((with_reducible apply Wseq.stg (op := Op.load _ _)); rfl; exact to_load (pl_ rfl) rfl (by (repeat ((apply Has.cel; assumption)))) (by omega) (by rfl)) | ((with_reducible apply Wseq.stg (op := Op.nilCheck _)); rfl; exact to_nilCheck rfl) | ((with_reducible apply Wseq.stg (op := Op.unOp UnOp.not _ _)); rfl; exact to_notT rfl)))
            ((with_reducible apply Wseq.stg); (focus rfl); (focus (exact to_indexAddr (k := i) el49 rfl rfl hz (by omega))))
            (repeat (((with_reducible apply Wseq.stg (op := Op.fieldAddr _ _ _)); rfl; exact to_fieldAddr (fa_ rfl) rfl)))
            ((with_reducible apply Wseq.stg); (focus rfl); (focus (exact to_load (pl_ rfl) rfl B2.cel (by omega) d3)))
            (repeat (first | (with_reducible refine Then.go ?_) | (with_reducible refine Wx.reg ?_) | (refine Wx.condT rfl (by rfl) ?_) | ((with_reducible refine Wseq.nil ?_); intro e he; (simp only [ke, Nat.testBit, Nat.reduceShiftRight, Nat.reduceAnd, Nat.reduceBNe, Nat.reduceEqDiff, Nat.reduceAdd, ↓reduceIte, reduceCtorEq, Bool.false_eq_true] at he; subst he)) | ((with_reducible apply Wseq.mv); rfl; (intro v hv; (simp only [kv, Nat.reduceEqDiff, eq_self, ↓reduceIte, reduceCtorEq, List.map_cons, List.map_nil] at hv); subst hv)) | ((with_reducible apply Wseq.pkF); rfl; rfl; (intro v hv; (simp only [kv, Nat.reduceEqDiff, eq_self, ↓reduceIte, reduceCtorEq, List.map_cons, List.map_nil] at hv); subst hv)) | ((with_reducible apply Wseq.stg (op := Op.fieldAddr _ _ _)); rfl; exact to_fieldAddr (fa_ rfl) rfl) | ((with_reducible apply Wseq.stg (op := Op.load _ _)); rfl; exact to_load (pl_ rfl) rfl (by (repeat ((apply Has.cel; assumption)))) (by omega) (by rfl)) | ((with_reducible apply Wseq.stg (op := Op.nilCheck _)); rfl; exact to_nilCheck rfl) | ((with_reducible apply Wseq.stg (op := Op.binOp BinOp.gtr _ _ _ _)); rfl; exact to_gtrT rfl rfl (by omega))))
            ((with_reducible apply Wseq.stg); (focus rfl); (focus (exact to_indexAddr (k := i) el49 rfl rfl hz (by omega))))
            ((with_reducible apply Wseq.stg); (focus rfl); (focus (exact to_loadS ag59 rfl B2.cel (by omega) hsub)))
            (repeat (((with_reducible apply Wseq.bs); rfl; exact (ro_ rfl); rfl; exact (by ((repeat (apply Fresh.put; omega)); ((assumption)))); (intro v hv; (simp only [kv, Nat.reduceEqDiff, eq_self, ↓reduceIte, reduceCtorEq, List.map_cons, List.map_nil] at hv); subst hv); refine ⟨_, rfl, ?_⟩)))
            ((with_reducible apply Wseq.stg); (focus rfl); (focus (exact to_appG ro49 sl49 rfl rfl (by (repeat ((exact Has.same.cel)))) (by omega) (by rfl) (by omega) (by unfold big; omega) (by (repeat (first | (assumption) | (apply Has.other; omega)))) (by omega) hs0 hat (by ((repeat (apply Fresh.put; omega)); ((exact Fresh.up (by assumption) (by omega))))))))
            (repeat (first | (with_reducible refine Then.go ?_) | (with_reducible refine Out.go ?_) | (with_reducible refine Wx.reg ?_) | ((with_reducible refine Wseq.nil ?_); intro e he; (simp only [ke, Nat.testBit, Nat.reduceShiftRight, Nat.reduceAnd, Nat.reduceBNe, Nat.reduceEqDiff, Nat.reduceAdd, ↓reduceIte, reduceCtorEq, Bool.false_eq_true] at he; subst he)) | ((with_reducible apply Wseq.mv); rfl; (intro v hv; (simp only [kv, Nat.reduceEqDiff, eq_self, ↓reduceIte, reduceCtorEq, List.map_cons, List.map_nil] at hv); subst hv)) | ((with_reducible apply Wseq.as); rfl; (intro v hv; (simp only [kv, Nat.reduceEqDiff, eq_self, ↓reduceIte, reduceCtorEq, List.map_cons, List.map_nil] at hv); subst hv)) | ((with_reducible apply Wseq.stg (op := Op.binOp BinOp.add _ _ _ _)); rfl; exact to_add rfl rfl (by omega) (by omega))))
            refine RoundE.go (n - (i + 1)) (ESw p upto n (.slice (some ⟨c2 + 1, 0, some 5⟩) (L.length + 1) (L.length + 1)) (z + 1) _ top _ _) (by omega) (by unfold ESw; (refine EqK.of ?_ ?_ <;> (repeat (first | (exact all_nil) | (apply all_cons; rfl))))) ⟨i + 1, z + 1, _, _, _, _, _, _, _, _, rfl, by omega, rfl, (by ((repeat (apply Fresh.put; omega)); ((exact Fresh.up (by assumption) (by omega))))), by omega, (by (repeat (first | (assumption) | (apply Kp.set; (focus (left; omega)))))), .inr ⟨c2 + 1, by rw [hsn, List.length_append]; rfl, by rw [hsn]; simp, by omega, by rw [hsn, hfl]; exact Has.same⟩, (by (repeat (first | (assumption) | (apply Lg.cons; (focus (first | (left; omega) | (right; (simp; done)))))))), (by (repeat (first | (assumption) | (apply Lg.cons; (focus (left; omega)))))), by omega, rfl⟩
  · rintro kk ss ⟨z, w, h2, c2, rl2, wl2, j6, j14, j36, rfl, rfl, hf2, hc2, hkp, hN, hlr, hlw⟩
    have P2 : Has h2 p (.cells [.slice la n n]) := (hkp p hpc (fun q => q)).trans g1
    have hsl := sweepM_len upto M
    have hmap : (l.filter fun y => !sweptR upto y.rc).map It.rc = sweepM upto M := by
      unfold sweepM
      rw [← g5, List.filter_map]
      rfl
    have hlm : (l.filter fun y => !sweptR upto y.rc).length = (sweepM upto M).length := by rw [← hmap, List.length_map]
    have hmem : ∀ x ∈ l.filter (fun y => !sweptR upto y.rc), x ∈ l := fun x hx => (List.mem_filter.1 hx).1
    generalize l.filter (fun y => !sweptR upto y.rc) = L at *
    obtain ⟨aw, rfl⟩ : ∃ aw, w = .slice aw L.length L.length := by
      rcases hN with ⟨rfl, rfl⟩ | ⟨b, rfl, _⟩
      · exact ⟨_, rfl⟩
      · exact ⟨_, rfl⟩
    have hlrU : Lg c U wl2 := fun b hb => (hlw b hb).imp id (fun q => q.elim)
    have hkU : Kp h h2 c U := fun b hb _ => hkp b hb (fun q => q)
    unfold ESw
    (repeat (first | (with_reducible refine Then.go ?_) | (with_reducible refine Wx.seq ?_) | (with_reducible refine Wx.ret ?_) | (with_reducible refine Wx.reg ?_) | ((with_reducible refine Wseq.nil ?_); intro e he; (simp only [ke, Nat.testBit, Nat.reduceShiftRight, Nat.reduceAnd, Nat.reduceBNe, Nat.reduceEqDiff, Nat.reduceAdd, ↓reduceIte, reduceCtorEq, Bool.false_eq_true] at he; subst he)) | ((with_reducible apply Wseq.mv); rfl; (intro v hv; (simp only [kv, Nat.reduceEqDiff, eq_self, ↓reduceIte, reduceCtorEq, List.map_cons, List.map_nil] at hv); subst hv)) | ((with_reducible apply Wseq.as); rfl; (intro v hv; (simp only [kv, Nat.reduceEqDiff, eq_self, ↓reduceIte, reduceCtorEq, List.map_cons, List.map_nil] at hv); subst hv)) | ((with_reducible apply Wseq.so); rfl; exact (sz_ rfl); rfl; exact (by (repeat ((assumption)))); omega; (intro v hv; (simp only [kv, Nat.reduceEqDiff, eq_self, ↓reduceIte, reduceCtorEq, List.map_cons, List.map_nil] at hv); subst hv); refine ⟨_, _, (by ((exact cellsA_agg _))), rfl, rfl, ?_⟩) | ((with_reducible apply Wseq.stg (op := Op.fieldAddr _ _ _)); rfl; exact to_fieldAddr (fa_ rfl) rfl) | ((with_reducible apply Wseq.stg (op := Op.load _ _)); rfl; exact to_load (pl_ rfl) rfl (by (repeat ((apply Has.cel; assumption)))) (by omega) (by rfl)) | ((with_reducible apply Wseq.stg (op := Op.nilCheck _)); rfl; exact to_nilCheck rfl) | ((with_reducible apply Wseq.stg (op := Op.call ⟨Callee.builtin Builtin.len, _, _⟩)); rfl; exact to_lenS (sl_ rfl) rfl) | ((with_reducible apply Wseq.stg (op := Op.binOp BinOp.sub _ _ _ _)); rfl; exact to_sub rfl rfl (by omega) (by omega))))
    refine ⟨.inr rfl, Wres.one rfl ⟨⟨?_, ?_⟩, ?_⟩⟩
    · have : ((n : Int) - (L.length : Int)) = ((M.filter (sweptR upto)).length : Int) := by omega
      rw [← this]
      rfl
    · have bnc : ∀ b, blkOf (.slice aw L.length L.length) = some b → c ≤ b ∧ b < c2 ∧ b ≠ p := by
        intro b hb
        rcases hN with ⟨e, _⟩ | ⟨b', e, _, hb', hB⟩
        · rw [e] at hb; cases hb
        · rw [e] at hb
          simp only [blkOf, Option.some.injEq] at hb
          have := hB.lt hf2
          exact ⟨by omega, by omega, by omega⟩
      refine ⟨⟨_, L, Has.same, ?_, fun b hb => ?_, fun x hx => ?_, hmap⟩, .inl h6, h7.filter _, fun r hr => h8 r (List.mem_filter.1 hr).1⟩
      · rcases hN with hN | ⟨b', e, e2, hb', hB⟩
        · exact .inl hN
        · exact .inr ⟨b', e, e2, Has.other (by omega) hB⟩
      · obtain ⟨u1, u2, u3⟩ := bnc b hb
        exact ⟨.inr ⟨u1, u2⟩, u3⟩
      · obtain ⟨o1, o2⟩ := g4 x (hmem x hx)
        refine ⟨o1.keep fun b hb => ?_, fun b hb => ⟨.inl (o2 b hb).1, (o2 b hb).2.1, fun e => ?_⟩⟩
        · exact (get_other (o2 b hb).2.1).trans (hkp b ((o1.blk hb).2.lt hf) (fun q => q))
        · have := (bnc b e).1
          have := (o1.blk hb).2.lt hf
          omega
    · (dsimp only; exact Ext.of (by omega) (by ((repeat (apply Fresh.put; omega)); ((assumption)))) (by (repeat (first | (assumption) | (apply Kp.set; (focus ((right; (assumption)))))))) (by (repeat (first | (assumption) | (apply Lg.cons; (focus ((right; (simp; done)))))))) (by (repeat (first | (assumption) | (apply Lg.cons; (focus ((right; (assumption)))))))))
end Go.Ab.Seat
