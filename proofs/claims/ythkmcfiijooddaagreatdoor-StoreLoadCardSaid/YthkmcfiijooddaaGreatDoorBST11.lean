/- Vectors, items, rows of items alike: the reference's own (the abstract machine). -/
import Derived.Test.YthkmcfiijooddaaGreatDoorBSM2
import Derived.Test.YthkmcfiijooddaaGreatDoorE48
set_option linter.unusedVariables false
set_option linter.unusedSimpArgs false
namespace Go.Ab.Seat
open Go.Extern Go.Proofs
set_option linter.unusedSimpArgs false
set_option linter.unusedVariables false
set_option maxRecDepth 4000
set_option pp.deepTerms false
set_option pp.deepTerms.threshold 6
variable {sm : Nat → Option (List Value → M Value)}

theorem ints_inj {a b : List Int} (h : a.map (Value.int .i32) = b.map (Value.int .i32)) : a = b :=
  (List.map_inj_right (fun x y e => by cases e; rfl)).1 h

def EVq (a : Option Addr) (n k : Nat) (b : Option Addr) (k' : Nat) (z : Int) (j5 j14 j24 : Value) : L :=
  .cons 0 (.slice a n k) (.cons 1 (.slice b n k') (.cons 4 (.bool false) (.cons 5 j5 (.cons 10 (.bool false) (.cons 12 (.int .i64 (n : Int)) (.cons 13 (.int .i64 z) (.cons 14 j14 (.cons 24 j24 .nil))))))))

theorem eqVec_spec (H : Std sm) {h : T AObj} {c : Nat} {rl wl : List Nat} (hf : Fresh h c) {a b : Option Addr} {n n' k k' : Nat} {zs ys : List Int} (hn : zs.length = n) (hn' : ys.length = n') (hx : Row h (.slice a n k) n 1 (zs.map (Value.int .i32))) (hy : Row h (.slice b n' k') n' 1 (ys.map (Value.int .i32))) (hb : n ≤ 9223372036854775807) :
    ∃ r s', FnTo (Cs sm) eg 66 [.slice a n k, .slice b n' k'] ⟨h, c, rl, wl⟩ r s' ∧ (∃ q : Bool, r = .bool q ∧ (q = true ↔ zs = ys)) ∧ Ext ⟨h, c, rl, wl⟩ s' (fun _ => True) (fun _ => False) := by
  refine Fn.go (H 66 rfl) ex66 fn66 km66 rfl rfl ?_
  intro e he
  (simp only [ke, Nat.testBit, Nat.reduceShiftRight, Nat.reduceAnd, Nat.reduceBNe, Nat.reduceEqDiff, Nat.reduceAdd, ↓reduceIte, reduceCtorEq, Bool.false_eq_true] at he; subst he)
  by_cases hnn : n = n'
  · subst hnn
    (repeat (first | (with_reducible refine Then.go ?_) | (with_reducible refine Wx.seq ?_) | (with_reducible refine Wx.skip ?_) | (with_reducible refine Wx.block ?_) | (with_reducible refine Wx.reg ?_) | (refine Wx.condF rfl (by rfl) ?_) | ((with_reducible refine Wseq.nil ?_); intro e he; (simp only [ke, Nat.testBit, Nat.reduceShiftRight, Nat.reduceAnd, Nat.reduceBNe, Nat.reduceEqDiff, Nat.reduceAdd, ↓reduceIte, reduceCtorEq, Bool.false_eq_true] at he; subst he)) | ((with_reducible apply Wseq.mv); rfl; (intro v hv; (simp only [kv, Nat.reduceEqDiff, eq_self, ↓reduceIte, reduceCtorEq, List.map_cons, List.map_nil] at hv); subst hv)) | ((with_reducible apply Wseq.as); rfl; (intro v hv; (simp only [kv, Nat.reduceEqDiff, eq_self, ↓reduceIte, reduceCtorEq, List.map_cons, List.map_nil] at hv); subst hv)) | ((with_reducible apply Wseq.stg (op := Op.call ⟨Callee.builtin Builtin.len, _, _⟩)); rfl; exact to_lenS (sl_ rfl) rfl) | ((with_reducible apply Wseq.stg (op := Op.binOp BinOp.neq _ _ _ _)); rfl; exact to_neIF rfl rfl (by omega))))
    refine Wx.loopE (fun k1 e s => ∃ (i : Nat) (z : Int) (rl' : List Nat) (j5 j14 j24 : Value), e = EVq a n k b k' z j5 j14 j24 ∧ z = i ∧ s = ⟨h, c, rl', []⟩ ∧ Lg c (fun _ => True) rl' ∧ zs.take i = ys.take i ∧ i ≤ n ∧ k1 = n - i) n (EVq a n k b k' 0 top top top) (by (repeat (first | (exact Resp.fn) | (apply Resp.then) | (apply Resp.out)))) ?_ ?_ ?_
    · unfold EVq
      (refine EqK.of ?_ ?_ <;> (repeat (first | (exact all_nil) | (apply all_cons; rfl))))
    · exact ⟨0, 0, _, _, _, _, rfl, rfl, rfl, (by (repeat ((exact Lg.nil)))), rfl, by omega, rfl⟩
    · rintro k1 e s ⟨i, z, rl', j5, j14, j24, rfl, hz, rfl, hlr, htk, hin, rfl⟩
      unfold EVq
      by_cases hi : i < n
      · have hzs : (zs.map (Value.int .i32))[i]? = some (.int .i32 zs[i]) := by simp
        have hys : (ys.map (Value.int .i32))[i]? = some (.int .i32 ys[i]) := by simp
        have htz : zs.take (i + 1) = zs.take i ++ [zs[i]] := by rw [List.take_add_one, List.getElem?_eq_getElem (by omega)]; rfl
        have hty : ys.take (i + 1) = ys.take i ++ [ys[i]] := by rw [List.take_add_one, List.getElem?_eq_getElem (by omega)]; rfl
        have hne : zs[i] ≠ ys[i] → ¬zs = ys := by
          rintro h1 rfl
          exact h1 rfl
        generalize zs[i] = x0 at *
        generalize ys[i] = y0 at *
        obtain ⟨b1, o1, sp1, cs1, rfl, hc1, hn1⟩ := rowCell hx (j := i * 1) (by omega) (by rw [Nat.mul_one]; exact hzs)
        obtain ⟨b2, o2, sp2, cs2, rfl, hc2, hn2⟩ := rowCell hy (j := i * 1) (by omega) (by rw [Nat.mul_one]; exact hys)
        have l1 := hc1.lt hf
        have l2 := hc2.lt hf
        by_cases hxy : x0 = y0
        · (repeat (first | (with_reducible refine Then.go ?_) | (with_reducible refine Wx.seq ?_) | (with_reducible refine Wx.skip ?_) | (with_reducible refine Wx.block ?_) | (with_reducible refine Wx.reg ?_) | (refine Wx.dreg rfl ?_) | (refine Wx.condT rfl (by rfl) ?_) | ((with_reducible refine Wseq.nil ?_); intro e he; (simp only [ke, Nat.testBit, Nat.reduceShiftRight, Nat.reduceAnd, Nat.reduceBNe, Nat.reduceEqDiff, Nat.reduceAdd, ↓reduceIte, reduceCtorEq, Bool.false_eq_true] at he; subst he)) | ((with_reducible apply Wseq.mv); rfl; (intro v hv; (simp only [kv, Nat.reduceEqDiff, eq_self, ↓reduceIte, reduceCtorEq, List.map_cons, List.map_nil] at hv); subst hv)) | ((with_reducible apply Wseq.as); rfl; (intro v hv; (simp only [kv, Nat.reduceEqDiff, eq_self, ↓reduceIte, reduceCtorEq, List.map_cons, List.map_nil] at hv); subst hv)) | ((with_reducible apply Wseq.stg (op := Op.binOp BinOp.lss _ _ _ _)); rfl; exact to_lssT rfl rfl (by omega)) | ((with_reducible apply Wtr.mv); rfl; (intro v hv; (simp only [kv, Nat.reduceEqDiff, eq_self, ↓reduceIte, reduceCtorEq, List.map_cons, List.map_nil] at hv); subst hv))))
          ((with_reducible apply Wtr.stq); rfl; exact to_indexAddr (k := i) el33 rfl rfl hz (by omega))
          ((with_reducible apply Wtr.stx); rfl; exact to_load (pl_ rfl) rfl hc1 (by omega) hn1; repeat ((exact all_nil)))
          (repeat (((with_reducible apply Wtr.mv); rfl; (intro v hv; (simp only [kv, Nat.reduceEqDiff, eq_self, ↓reduceIte, reduceCtorEq, List.map_cons, List.map_nil] at hv); subst hv))))
          ((with_reducible apply Wtr.stq); rfl; exact to_indexAddr (k := i) el33 rfl rfl hz (by omega))
          ((with_reducible apply Wtr.stx); rfl; exact to_load (pl_ rfl) rfl hc2 (by omega) hn2; (focus (repeat (first | (exact all_nil) | (apply all_cons; (focus ((right; exact ApartP.rr))))))))
          (repeat (first | (with_reducible refine Then.go ?_) | (with_reducible refine Out.go ?_) | (with_reducible refine Wx.skip ?_) | (with_reducible refine Wx.reg ?_) | (refine Wx.condF rfl (by rfl) ?_) | ((with_reducible refine Wseq.nil ?_); intro e he; (simp only [ke, Nat.testBit, Nat.reduceShiftRight, Nat.reduceAnd, Nat.reduceBNe, Nat.reduceEqDiff, Nat.reduceAdd, ↓reduceIte, reduceCtorEq, Bool.false_eq_true] at he; subst he)) | ((with_reducible apply Wseq.mv); rfl; (intro v hv; (simp only [kv, Nat.reduceEqDiff, eq_self, ↓reduceIte, reduceCtorEq, List.map_cons, List.map_nil] at hv); subst hv)) | ((with_reducible apply Wseq.stg (op := Op.binOp BinOp.add _ _ _ _)); rfl; exact to_add rfl rfl (by omega) (by omega)) | ((with_reducible refine Wtr.nil ?_); intro e he; (simp only [ke, Nat.testBit, Nat.reduceShiftRight, Nat.reduceAnd, Nat.reduceBNe, Nat.reduceEqDiff, Nat.reduceAdd, ↓reduceIte, reduceCtorEq, Bool.false_eq_true] at he; subst he)) | ((with_reducible apply Wtr.stq (op := Op.binOp BinOp.neq _ _ _ _)); rfl; exact to_neIF rfl rfl (by omega))))
          refine RoundE.go (n - (i + 1)) (EVq _ n k _ k' (z + 1) _ _ _) (by omega) (by (refine EqK.of ?_ ?_ <;> (repeat (first | (exact all_nil) | (apply all_cons; rfl))))) ⟨i + 1, z + 1, _, _, _, _, rfl, by omega, rfl, (by (repeat (first | (exact Lg.nil) | (assumption) | (apply Lg.cons; (focus ((right; (simp; done))))) | (apply Lg.app)))), by rw [htz, hty, htk, hxy], by omega, rfl⟩
        · (repeat (first | (with_reducible refine Then.go ?_) | (with_reducible refine Wx.seq ?_) | (with_reducible refine Wx.skip ?_) | (with_reducible refine Wx.block ?_) | (with_reducible refine Wx.reg ?_) | (refine Wx.dreg rfl ?_) | (refine Wx.condT rfl (by rfl) ?_) | ((with_reducible refine Wseq.nil ?_); intro e he; (simp only [ke, Nat.testBit, Nat.reduceShiftRight, Nat.reduceAnd, Nat.reduceBNe, Nat.reduceEqDiff, Nat.reduceAdd, ↓reduceIte, reduceCtorEq, Bool.false_eq_true] at he; subst he)) | ((with_reducible apply Wseq.mv); rfl; (intro v hv; (simp only [kv, Nat.reduceEqDiff, eq_self, ↓reduceIte, reduceCtorEq, List.map_cons, List.map_nil] at hv); subst hv)) | ((with_reducible apply Wseq.as); rfl; (intro v hv; (simp only [kv, Nat.reduceEqDiff, eq_self, ↓reduceIte, reduceCtorEq, List.map_cons, List.map_nil] at hv); subst hv)) | ((with_reducible apply Wseq.stg (op := Op.binOp BinOp.lss _ _ _ _)); rfl; exact to_lssT rfl rfl (by omega)) | ((with_reducible apply Wtr.mv); rfl; (intro v hv; (simp only [kv, Nat.reduceEqDiff, eq_self, ↓reduceIte, reduceCtorEq, List.map_cons, List.map_nil] at hv); subst hv))))
          ((with_reducible apply Wtr.stq); rfl; exact to_indexAddr (k := i) el33 rfl rfl hz (by omega))
          ((with_reducible apply Wtr.stx); rfl; exact to_load (pl_ rfl) rfl hc1 (by omega) hn1; repeat ((exact all_nil)))
          (repeat (((with_reducible apply Wtr.mv); rfl; (intro v hv; (simp only [kv, Nat.reduceEqDiff, eq_self, ↓reduceIte, reduceCtorEq, List.map_cons, List.map_nil] at hv); subst hv))))
          ((with_reducible apply Wtr.stq); rfl; exact to_indexAddr (k := i) el33 rfl rfl hz (by omega))
          ((with_reducible apply Wtr.stx); rfl; exact to_load (pl_ rfl) rfl hc2 (by omega) hn2; (focus (repeat (first | (exact all_nil) | (apply all_cons; (focus ((right; exact ApartP.rr))))))))
          (repeat (first | (with_reducible refine Then.go ?_) | (with_reducible refine Then.rt ?_) | (with_reducible refine Out.rt ?_) | (with_reducible refine Wx.seq ?_) | (with_reducible refine Wx.ret ?_) | (with_reducible refine Wx.reg ?_) | (with_reducible refine RoundE.rt ?_) | (refine Wx.condT rfl (by rfl) ?_) | ((with_reducible refine Wseq.nil ?_); intro e he; (simp only [ke, Nat.testBit, Nat.reduceShiftRight, Nat.reduceAnd, Nat.reduceBNe, Nat.reduceEqDiff, Nat.reduceAdd, ↓reduceIte, reduceCtorEq, Bool.false_eq_true] at he; subst he)) | ((with_reducible apply Wseq.as); rfl; (intro v hv; (simp only [kv, Nat.reduceEqDiff, eq_self, ↓reduceIte, reduceCtorEq, List.map_cons, List.map_nil] at hv); subst hv)) | ((with_reducible refine Wtr.nil ?_); intro e he; (simp only [ke, Nat.testBit, Nat.reduceShiftRight, Nat.reduceAnd, Nat.reduceBNe, Nat.reduceEqDiff, Nat.reduceAdd, ↓reduceIte, reduceCtorEq, Bool.false_eq_true] at he; subst he)) | ((with_reducible apply Wtr.stq (op := Op.binOp BinOp.neq _ _ _ _)); rfl; exact to_neIT rfl rfl (by omega))))
          refine ⟨.inr rfl, Wres.one rfl ⟨⟨false, rfl, ⟨(fun h => by cases h), (fun h => absurd h (hne hxy))⟩⟩, ?_⟩⟩
          (dsimp only; exact Ext.of (by omega) (by ((repeat (apply Fresh.put; omega)); ((assumption)))) (by (repeat ((exact Kp.refl)))) (by (repeat (first | (exact Lg.nil) | (assumption) | (apply Lg.cons; (focus ((right; (simp; done))))) | (apply Lg.app)))) (by (repeat (first | (exact Lg.nil) | (apply Lg.app)))))
      · (repeat (first | (with_reducible refine Then.go ?_) | (with_reducible refine Then.ex ?_) | (with_reducible refine Out.hit ?_) | (with_reducible refine Wx.seq ?_) | (with_reducible refine Wx.exit ?_) | (with_reducible refine Wx.ret ?_) | (with_reducible refine Wx.reg ?_) | (with_reducible refine RoundE.ex ?_) | (refine Wx.condF rfl (by rfl) ?_) | ((with_reducible refine Wseq.nil ?_); intro e he; (simp only [ke, Nat.testBit, Nat.reduceShiftRight, Nat.reduceAnd, Nat.reduceBNe, Nat.reduceEqDiff, Nat.reduceAdd, ↓reduceIte, reduceCtorEq, Bool.false_eq_true] at he; subst he)) | ((with_reducible apply Wseq.as); rfl; (intro v hv; (simp only [kv, Nat.reduceEqDiff, eq_self, ↓reduceIte, reduceCtorEq, List.map_cons, List.map_nil] at hv); subst hv)) | ((with_reducible apply Wseq.stg (op := Op.binOp BinOp.lss _ _ _ _)); rfl; exact to_lssF rfl rfl (by omega))))
        refine ⟨.inr rfl, Wres.one rfl ⟨⟨true, rfl, ⟨(fun _ => ?_), (fun _ => rfl)⟩⟩, ?_⟩⟩
        · rw [List.take_of_length_le (by omega), List.take_of_length_le (by omega)] at htk
          exact htk
        · (dsimp only; exact Ext.of (by omega) (by ((repeat (apply Fresh.put; omega)); ((assumption)))) (by (repeat ((exact Kp.refl)))) (by (repeat ((assumption)))) (by (repeat ((exact Lg.nil)))))
  · (repeat (first | (with_reducible refine Then.go ?_) | (with_reducible refine Then.rt ?_) | (with_reducible refine Wx.seq ?_) | (with_reducible refine Wx.ret ?_) | (with_reducible refine Wx.reg ?_) | (refine Wx.condT rfl (by rfl) ?_) | ((with_reducible refine Wseq.nil ?_); intro e he; (simp only [ke, Nat.testBit, Nat.reduceShiftRight, Nat.reduceAnd, Nat.reduceBNe, Nat.reduceEqDiff, Nat.reduceAdd, ↓reduceIte, reduceCtorEq, Bool.false_eq_true] at he; subst he)) | ((with_reducible apply Wseq.mv); rfl; (intro v hv; (simp only [kv, Nat.reduceEqDiff, eq_self, ↓reduceIte, reduceCtorEq, List.map_cons, List.map_nil] at hv); subst hv)) | ((with_reducible apply Wseq.as); rfl; (intro v hv; (simp only [kv, Nat.reduceEqDiff, eq_self, ↓reduceIte, reduceCtorEq, List.map_cons, List.map_nil] at hv); subst hv)) | ((with_reducible apply Wseq.stg (op := Op.call ⟨Callee.builtin Builtin.len, _, _⟩)); rfl; exact to_lenS (sl_ rfl) rfl) | ((with_reducible apply Wseq.stg (op := Op.binOp BinOp.neq _ _ _ _)); rfl; exact to_neIT rfl rfl (by omega))))
    refine ⟨.inr rfl, Wres.one rfl ⟨⟨false, rfl, ⟨(fun h => by cases h), (fun h => absurd (by rw [← hn, ← hn', h]) hnn)⟩⟩, ?_⟩⟩
    (dsimp only; exact Ext.of (by omega) (by ((repeat (apply Fresh.put; omega)); ((assumption)))) (by (repeat ((exact Kp.refl)))) (by (repeat ((exact Lg.nil)))) (by (repeat ((exact Lg.nil)))))

/-- A record of an item whose vector may be read. -/
def ItemOf (h : T AObj) (v : Value) (r : Rc) : Prop := ∃ w, v = itv r.id w r.pay r.seq r.gone ∧ Row h w r.xs.length 1 r.xs ∧ ∃ zs : List Int, r.xs = zs.map (Value.int .i32)
def rc0 : Rc := ⟨0, [], .empty, 0, false⟩
theorem itemOf0 (h : T AObj) : ItemOf h it0 rc0 := ⟨_, rfl, .inl ⟨rfl, rfl, _, _, rfl⟩, [], rfl⟩
theorem Told.item {h : T AObj} {c : Nat} {r : Rc} {v : Value} (x : Told h c r v) (hz : ∃ zs : List Int, r.xs = zs.map (Value.int .i32)) : ItemOf h v r := by
  obtain ⟨w, h1, h2⟩ := x
  exact ⟨w, h1, h2.row rfl, hz⟩
theorem ItemOf.keep {h h' : T AObj} {c : Nat} {v : Value} {r : Rc} (x : ItemOf h v r) (hf : Fresh h c) (k : ∀ b, b < c → h'.get b = h.get b) : ItemOf h' v r := by
  obtain ⟨w, h1, h2, h3⟩ := x
  exact ⟨w, h1, Row.keepF h2 hf k, h3⟩

theorem eqItem_spec (H : Std sm) {h : T AObj} {c : Nat} {rl wl : List Nat} (hf : Fresh h c) {v v' : Value} {r r' : Rc} (hx : ItemOf h v r) (hy : ItemOf h v' r') (hb : r.xs.length ≤ 9223372036854775807) :
    ∃ q s', FnTo (Cs sm) eg 26 [v, v'] ⟨h, c, rl, wl⟩ q s' ∧ (∃ q0 : Bool, q = .bool q0 ∧ (q0 = true ↔ r = r')) ∧ Ext ⟨h, c, rl, wl⟩ s' (fun _ => True) (fun _ => False) := by
  obtain ⟨w, rfl, hw, zs, hzs⟩ := hx
  obtain ⟨w', rfl, hw', zs', hzs'⟩ := hy
  obtain ⟨id, xs, pay, seq, g⟩ := r
  obtain ⟨id', xs', pay', seq', g'⟩ := r'
  dsimp only at hw hw' hb hzs hzs' ⊢
  subst hzs
  subst hzs'
  rw [List.length_map] at hw hw' hb
  have val : ∀ {h : T AObj} {w : Value} {n k : Nat} {ys : List Value}, Row h w n k ys → ∃ a m, w = .slice a n m := by
    rintro h w n k ys (⟨rfl, _, a, m, rfl⟩ | ⟨b, o, sp, m, cs, rfl, _⟩)
    · exact ⟨_, _, rfl⟩
    · exact ⟨_, _, rfl⟩
  obtain ⟨a, m, rfl⟩ := val hw
  obtain ⟨a', m', rfl⟩ := val hw'
  refine Fn.go (H 26 rfl) ex26 fn26 km26 rfl rfl ?_
  intro e he
  (simp only [ke, Nat.testBit, Nat.reduceShiftRight, Nat.reduceAnd, Nat.reduceBNe, Nat.reduceEqDiff, Nat.reduceAdd, ↓reduceIte, reduceCtorEq, Bool.false_eq_true] at he; subst he)
  by_cases h1 : id = id'
  rotate_left
  · (repeat (first | (with_reducible refine Then.go ?_) | (with_reducible refine Wx.seq ?_) | (with_reducible refine Wx.ret ?_) | (with_reducible refine Wx.reg ?_) | ((with_reducible refine Wseq.nil ?_); intro e he; (simp only [ke, Nat.testBit, Nat.reduceShiftRight, Nat.reduceAnd, Nat.reduceBNe, Nat.reduceEqDiff, Nat.reduceAdd, ↓reduceIte, reduceCtorEq, Bool.false_eq_true] at he; subst he)) | ((with_reducible apply Wseq.mv); rfl; (intro v hv; (simp only [kv, Nat.reduceEqDiff, eq_self, ↓reduceIte, reduceCtorEq, List.map_cons, List.map_nil] at hv); subst hv)) | ((with_reducible apply Wseq.as); rfl; (intro v hv; (simp only [kv, Nat.reduceEqDiff, eq_self, ↓reduceIte, reduceCtorEq, List.map_cons, List.map_nil] at hv); subst hv)) | ((with_reducible apply Wseq.pkF); rfl; rfl; (intro v hv; (simp only [kv, Nat.reduceEqDiff, eq_self, ↓reduceIte, reduceCtorEq, List.map_cons, List.map_nil] at hv); subst hv)) | ((with_reducible apply Wseq.bx); rfl; exact (by ((repeat (apply Fresh.put; omega)); (first | (assumption) | (exact Fresh.up (by assumption) (by omega))))); (intro v hv; (simp only [kv, Nat.reduceEqDiff, eq_self, ↓reduceIte, reduceCtorEq, List.map_cons, List.map_nil] at hv); subst hv); refine ⟨_, (by ((exact cellsA_agg _))), ?_⟩) | ((with_reducible apply Wseq.stg (op := Op.fieldAddr _ _ _)); rfl; exact to_fieldAddr (fa_ rfl) rfl) | ((with_reducible apply Wseq.stg (op := Op.load _ _)); rfl; exact to_load (pl_ rfl) rfl (by (repeat (first | (exact Has.same.cel) | (apply Cel.other; omega)))) (by omega) (by rfl)) | ((with_reducible apply Wseq.stg (op := Op.binOp BinOp.eql _ _ _ _)); rfl; exact to_eqIF rfl rfl (by omega)) | (refine Wseq.no rfl ?_)))
    refine ⟨.inr rfl, Wres.one rfl ⟨⟨false, rfl, ⟨(fun h => by cases h), (fun h => absurd (congrArg Rc.id h) h1)⟩⟩, ?_⟩⟩
    (dsimp only; exact Ext.of (by omega) (by ((repeat (apply Fresh.put; omega)); ((exact Fresh.up (by assumption) (by omega))))) (by (repeat (first | (exact Kp.refl) | (apply Kp.set; (focus (left; omega)))))) (by (repeat (first | (exact Lg.nil) | (apply Lg.cons; (focus (left; omega)))))) (by (repeat ((exact Lg.nil)))))
  subst h1
  (repeat (first | (with_reducible refine Then.go ?_) | (with_reducible refine Wx.seq ?_) | (with_reducible refine Wx.reg ?_) | ((with_reducible refine Wseq.nil ?_); intro e he; (simp only [ke, Nat.testBit, Nat.reduceShiftRight, Nat.reduceAnd, Nat.reduceBNe, Nat.reduceEqDiff, Nat.reduceAdd, ↓reduceIte, reduceCtorEq, Bool.false_eq_true] at he; subst he)) | ((with_reducible apply Wseq.mv); rfl; (intro v hv; (simp only [kv, Nat.reduceEqDiff, eq_self, ↓reduceIte, reduceCtorEq, List.map_cons, List.map_nil] at hv); subst hv)) | ((with_reducible apply Wseq.as); rfl; (intro v hv; (simp only [kv, Nat.reduceEqDiff, eq_self, ↓reduceIte, reduceCtorEq, List.map_cons, List.map_nil] at hv); subst hv)) | ((with_reducible apply Wseq.bx); rfl; exact (by ((repeat (apply Fresh.put; omega)); (first | (assumption) | (exact Fresh.up (by assumption) (by omega))))); (intro v hv; (simp only [kv, Nat.reduceEqDiff, eq_self, ↓reduceIte, reduceCtorEq, List.map_cons, List.map_nil] at hv); subst hv); refine ⟨_, (by ((exact cellsA_agg _))), ?_⟩) | ((with_reducible apply Wseq.stg (op := Op.fieldAddr _ _ _)); rfl; exact to_fieldAddr (fa_ rfl) rfl) | ((with_reducible apply Wseq.stg (op := Op.load _ _)); rfl; exact to_load (pl_ rfl) rfl (by (repeat (first | (exact Has.same.cel) | (apply Cel.other; omega)))) (by omega) (by rfl)) | ((with_reducible apply Wseq.stg (op := Op.binOp BinOp.eql _ _ _ _)); rfl; exact to_eqIT rfl rfl (by omega))))
  refine Wseq.call rfl rfl (eqVec_spec H (by ((repeat (apply Fresh.put; omega)); ((exact Fresh.up (by assumption) (by omega))))) rfl rfl ((Row.keepF hw hf fun b hb => by rw [get_other (by omega), get_other (by omega)])) ((Row.keepF hw' hf fun b hb => by rw [get_other (by omega), get_other (by omega)])) hb) ?_
  rintro v h1 c1 r1 w1 ⟨⟨q0, rfl, hq⟩, hext⟩
  have q1 := hext.c
  dsimp only at q1
  have hf1 : Fresh h1 c1 := hext.fresh
  have kp := Kp.ext (W := fun _ => False) (h := h) (c := c) (h1 := (h.set c _).set (c + 1) _) (by (repeat (first | (exact Kp.refl) | (apply Kp.set; (focus (left; omega)))))) hext (by omega) (fun _ _ q => q)
  have lr := Lg.extR (R := fun _ => True) (c := c) (by (repeat (first | (exact Lg.nil) | (apply Lg.cons; (focus (left; omega)))))) hext (fun _ _ q => trivial)
  have lw := Lg.extW (W := fun _ => False) (c := c) (by (repeat ((exact Lg.nil)))) hext (fun _ _ q => q)
  have B1 := hext.hs (b := c) (Has.other (by omega) Has.same) (by omega) (fun q => q)
  have B2 := hext.hs (b := c + 1) Has.same (by omega) (fun q => q)
  cases q0 with
  | false =>
    (repeat (first | (with_reducible refine Then.go ?_) | (with_reducible refine Wx.ret ?_) | ((with_reducible refine Wseq.nil ?_); intro e he; (simp only [ke, Nat.testBit, Nat.reduceShiftRight, Nat.reduceAnd, Nat.reduceBNe, Nat.reduceEqDiff, Nat.reduceAdd, ↓reduceIte, reduceCtorEq, Bool.false_eq_true] at he; subst he)) | ((with_reducible apply Wseq.mv); rfl; (intro v hv; (simp only [kv, Nat.reduceEqDiff, eq_self, ↓reduceIte, reduceCtorEq, List.map_cons, List.map_nil] at hv); subst hv)) | ((with_reducible apply Wseq.as); rfl; (intro v hv; (simp only [kv, Nat.reduceEqDiff, eq_self, ↓reduceIte, reduceCtorEq, List.map_cons, List.map_nil] at hv); subst hv)) | ((with_reducible apply Wseq.pkT); rfl; rfl; (intro v hv; (simp only [kv, Nat.reduceEqDiff, eq_self, ↓reduceIte, reduceCtorEq, List.map_cons, List.map_nil] at hv); subst hv)) | ((with_reducible apply Wseq.pkF); rfl; rfl; (intro v hv; (simp only [kv, Nat.reduceEqDiff, eq_self, ↓reduceIte, reduceCtorEq, List.map_cons, List.map_nil] at hv); subst hv)) | (refine Wseq.no rfl ?_)))
    refine ⟨.inr rfl, Wres.one rfl ⟨⟨false, rfl, ⟨(fun h => by cases h), (fun h => ?_)⟩⟩, ?_⟩⟩
    · exact hq.2 (ints_inj (congrArg Rc.xs h))
    · (dsimp only; exact Ext.of (by omega) (by ((repeat (apply Fresh.put; omega)); ((assumption)))) (by (repeat ((assumption)))) (by (repeat ((assumption)))) (by (repeat ((assumption)))))
  | true =>
    obtain rfl := hq.1 rfl
    by_cases h2 : pay = pay'
    rotate_left
    · (repeat (first | ((with_reducible apply Wseq.mv); rfl; (intro v hv; (simp only [kv, Nat.reduceEqDiff, eq_self, ↓reduceIte, reduceCtorEq, List.map_cons, List.map_nil] at hv); subst hv)) | ((with_reducible apply Wseq.pkT); rfl; rfl; (intro v hv; (simp only [kv, Nat.reduceEqDiff, eq_self, ↓reduceIte, reduceCtorEq, List.map_cons, List.map_nil] at hv); subst hv)) | ((with_reducible apply Wseq.stg (op := Op.fieldAddr _ _ _)); rfl; exact to_fieldAddr (fa_ rfl) rfl) | ((with_reducible apply Wseq.stg (op := Op.load _ _)); rfl; exact to_load (pl_ rfl) rfl (by (repeat ((apply Has.cel; assumption)))) (by omega) (by rfl))))
      ((with_reducible apply Wseq.stg); rfl; exact to_eqStr rfl rfl)
      rw [decide_eq_false h2]
      (repeat (first | (with_reducible refine Then.go ?_) | (with_reducible refine Wx.ret ?_) | ((with_reducible refine Wseq.nil ?_); intro e he; (simp only [ke, Nat.testBit, Nat.reduceShiftRight, Nat.reduceAnd, Nat.reduceBNe, Nat.reduceEqDiff, Nat.reduceAdd, ↓reduceIte, reduceCtorEq, Bool.false_eq_true] at he; subst he)) | ((with_reducible apply Wseq.mv); rfl; (intro v hv; (simp only [kv, Nat.reduceEqDiff, eq_self, ↓reduceIte, reduceCtorEq, List.map_cons, List.map_nil] at hv); subst hv)) | ((with_reducible apply Wseq.as); rfl; (intro v hv; (simp only [kv, Nat.reduceEqDiff, eq_self, ↓reduceIte, reduceCtorEq, List.map_cons, List.map_nil] at hv); subst hv)) | ((with_reducible apply Wseq.pkT); rfl; rfl; (intro v hv; (simp only [kv, Nat.reduceEqDiff, eq_self, ↓reduceIte, reduceCtorEq, List.map_cons, List.map_nil] at hv); subst hv)) | ((with_reducible apply Wseq.pkF); rfl; rfl; (intro v hv; (simp only [kv, Nat.reduceEqDiff, eq_self, ↓reduceIte, reduceCtorEq, List.map_cons, List.map_nil] at hv); subst hv)) | (refine Wseq.no rfl ?_)))
      refine ⟨.inr rfl, Wres.one rfl ⟨⟨false, rfl, ⟨(fun h => by cases h), (fun h => absurd (congrArg Rc.pay h) h2)⟩⟩, ?_⟩⟩
      (dsimp only; exact Ext.of (by omega) (by ((repeat (apply Fresh.put; omega)); ((assumption)))) (by (repeat ((assumption)))) (by (repeat (first | (assumption) | (apply Lg.cons; (focus (left; omega)))))) (by (repeat ((assumption)))))
    subst h2
    by_cases h3 : seq = seq'
    rotate_left
    · (repeat (first | ((with_reducible apply Wseq.mv); rfl; (intro v hv; (simp only [kv, Nat.reduceEqDiff, eq_self, ↓reduceIte, reduceCtorEq, List.map_cons, List.map_nil] at hv); subst hv)) | ((with_reducible apply Wseq.pkT); rfl; rfl; (intro v hv; (simp only [kv, Nat.reduceEqDiff, eq_self, ↓reduceIte, reduceCtorEq, List.map_cons, List.map_nil] at hv); subst hv)) | ((with_reducible apply Wseq.stg (op := Op.fieldAddr _ _ _)); rfl; exact to_fieldAddr (fa_ rfl) rfl) | ((with_reducible apply Wseq.stg (op := Op.load _ _)); rfl; exact to_load (pl_ rfl) rfl (by (repeat ((apply Has.cel; assumption)))) (by omega) (by rfl))))
      ((with_reducible apply Wseq.stg); rfl; exact to_eqStr rfl rfl)
      rw [decide_eq_true rfl]
      (repeat (first | (with_reducible refine Then.go ?_) | (with_reducible refine Wx.ret ?_) | ((with_reducible refine Wseq.nil ?_); intro e he; (simp only [ke, Nat.testBit, Nat.reduceShiftRight, Nat.reduceAnd, Nat.reduceBNe, Nat.reduceEqDiff, Nat.reduceAdd, ↓reduceIte, reduceCtorEq, Bool.false_eq_true] at he; subst he)) | ((with_reducible apply Wseq.mv); rfl; (intro v hv; (simp only [kv, Nat.reduceEqDiff, eq_self, ↓reduceIte, reduceCtorEq, List.map_cons, List.map_nil] at hv); subst hv)) | ((with_reducible apply Wseq.as); rfl; (intro v hv; (simp only [kv, Nat.reduceEqDiff, eq_self, ↓reduceIte, reduceCtorEq, List.map_cons, List.map_nil] at hv); subst hv)) | ((with_reducible apply Wseq.pkT); rfl; rfl; (intro v hv; (simp only [kv, Nat.reduceEqDiff, eq_self, ↓reduceIte, reduceCtorEq, List.map_cons, List.map_nil] at hv); subst hv)) | ((with_reducible apply Wseq.pkF); rfl; rfl; (intro v hv; (simp only [kv, Nat.reduceEqDiff, eq_self, ↓reduceIte, reduceCtorEq, List.map_cons, List.map_nil] at hv); subst hv)) | ((with_reducible apply Wseq.stg (op := Op.fieldAddr _ _ _)); rfl; exact to_fieldAddr (fa_ rfl) rfl) | ((with_reducible apply Wseq.stg (op := Op.load _ _)); rfl; exact to_load (pl_ rfl) rfl (by (repeat ((apply Has.cel; assumption)))) (by omega) (by rfl)) | ((with_reducible apply Wseq.stg (op := Op.binOp BinOp.eql _ _ _ _)); rfl; exact to_eqIF rfl rfl (by omega)) | (refine Wseq.no rfl ?_)))
      refine ⟨.inr rfl, Wres.one rfl ⟨⟨false, rfl, ⟨(fun h => by cases h), (fun h => absurd (congrArg Rc.seq h) h3)⟩⟩, ?_⟩⟩
      (dsimp only; exact Ext.of (by omega) (by ((repeat (apply Fresh.put; omega)); ((assumption)))) (by (repeat ((assumption)))) (by (repeat (first | (assumption) | (apply Lg.cons; (focus (left; omega)))))) (by (repeat ((assumption)))))
    subst h3
    (repeat (first | ((with_reducible apply Wseq.mv); rfl; (intro v hv; (simp only [kv, Nat.reduceEqDiff, eq_self, ↓reduceIte, reduceCtorEq, List.map_cons, List.map_nil] at hv); subst hv)) | ((with_reducible apply Wseq.pkT); rfl; rfl; (intro v hv; (simp only [kv, Nat.reduceEqDiff, eq_self, ↓reduceIte, reduceCtorEq, List.map_cons, List.map_nil] at hv); subst hv)) | ((with_reducible apply Wseq.stg (op := Op.fieldAddr _ _ _)); rfl; exact to_fieldAddr (fa_ rfl) rfl) | ((with_reducible apply Wseq.stg (op := Op.load _ _)); rfl; exact to_load (pl_ rfl) rfl (by (repeat ((apply Has.cel; assumption)))) (by omega) (by rfl))))
    ((with_reducible apply Wseq.stg); rfl; exact to_eqStr rfl rfl)
    rw [decide_eq_true rfl]
    (repeat (first | (with_reducible refine Then.go ?_) | (with_reducible refine Wx.ret ?_) | ((with_reducible refine Wseq.nil ?_); intro e he; (simp only [ke, Nat.testBit, Nat.reduceShiftRight, Nat.reduceAnd, Nat.reduceBNe, Nat.reduceEqDiff, Nat.reduceAdd, ↓reduceIte, reduceCtorEq, Bool.false_eq_true] at he; subst he)) | ((with_reducible apply Wseq.mv); rfl; (intro v hv; (simp only [kv, Nat.reduceEqDiff, eq_self, ↓reduceIte, reduceCtorEq, List.map_cons, List.map_nil] at hv); subst hv)) | ((with_reducible apply Wseq.as); rfl; (intro v hv; (simp only [kv, Nat.reduceEqDiff, eq_self, ↓reduceIte, reduceCtorEq, List.map_cons, List.map_nil] at hv); subst hv)) | ((with_reducible apply Wseq.pkT); rfl; rfl; (intro v hv; (simp only [kv, Nat.reduceEqDiff, eq_self, ↓reduceIte, reduceCtorEq, List.map_cons, List.map_nil] at hv); subst hv)) | ((with_reducible apply Wseq.stg (op := Op.fieldAddr _ _ _)); rfl; exact to_fieldAddr (fa_ rfl) rfl) | ((with_reducible apply Wseq.stg (op := Op.load _ _)); rfl; exact to_load (pl_ rfl) rfl (by (repeat ((apply Has.cel; assumption)))) (by omega) (by rfl)) | ((with_reducible apply Wseq.stg (op := Op.binOp BinOp.eql _ _ _ _)); rfl; exact to_eqIT rfl rfl (by omega)) | ((with_reducible apply Wseq.stg (op := Op.binOp BinOp.eql _ _ _ _)); rfl; exact to_eqB (un_ rfl) rfl rfl)))
    refine ⟨.inr rfl, Wres.one rfl ⟨⟨_, rfl, ?_⟩, ?_⟩⟩
    · cases g <;> cases g' <;> simp
    · (dsimp only; exact Ext.of (by omega) (by ((repeat (apply Fresh.put; omega)); ((assumption)))) (by (repeat ((assumption)))) (by (repeat (first | (assumption) | (apply Lg.cons; (focus (left; omega)))))) (by (repeat ((assumption)))))

/-- A slice of items that may be read. -/
structure ItRow (h : T AObj) (c0 : Nat) (v : Value) (rs : List Rc) : Prop where
  val : ∃ a k, v = .slice a rs.length k ∧ ∀ i r, rs[i]? = some r → ∃ b o sp cs aw kw, a = some ⟨b, o, sp⟩ ∧ Cel h b cs ∧ subN (o + i * 5) 5 cs = some [.int .i64 r.id, .slice aw r.xs.length kw, .string r.pay, .int .i64 r.seq, .bool r.gone] ∧ Row h (.slice aw r.xs.length kw) r.xs.length 1 r.xs ∧ (aw = none → kw = 0) ∧ ∀ x, aw = some x → x.block < c0
  ints : ∀ r ∈ rs, ∃ zs : List Int, r.xs = zs.map (Value.int .i32)

theorem ItRow.keep {h h' : T AObj} {c c0 : Nat} {v : Value} {rs : List Rc} (x : ItRow h c0 v rs) (hf : Fresh h c) (k : ∀ b, b < c → h'.get b = h.get b) : ItRow h' c0 v rs := by
  obtain ⟨a, m, h1, h2⟩ := x.val
  refine ⟨⟨a, m, h1, fun i r hr => ?_⟩, x.ints⟩
  obtain ⟨b, o, sp, cs, w, kw, e1, e2, e3, e4, e5⟩ := h2 i r hr
  refine ⟨b, o, sp, cs, w, kw, e1, ?_, e3, Row.keepF e4 hf k, e5⟩
  have := k b (e2.lt hf)
  unfold Cel Has at e2 ⊢
  rw [this]; exact e2

theorem ItemsR.it {h : T AObj} {c c0 : Nat} {v : Value} {l : List It} (x : ItemsR h c0 v l) (hf : Fresh h c) (hz : ∀ r ∈ l.map It.rc, ∃ zs : List Int, r.xs = zs.map (Value.int .i32)) : ItRow h c v (l.map It.rc) := by
  refine ⟨?_, hz⟩
  rcases x.row with ⟨rfl, rfl⟩ | ⟨b, o, cs, rfl, hb, hs⟩
  · exact ⟨none, 0, rfl, fun i r hr => by cases hr⟩
  · refine ⟨_, _, by rw [List.length_map], fun i r hr => ?_⟩
    rw [List.getElem?_map, Option.map_eq_some_iff] at hr
    obtain ⟨y, hy, rfl⟩ := hr
    have hy' := sub_item hs hy
    have ho := x.vec y (List.mem_of_getElem? hy)
    obtain ⟨aw, kw, hw⟩ := ho.val
    unfold It.cells at hy'
    rw [hw] at hy' ho
    refine ⟨b, o, _, cs, aw, kw, rfl, hb.cel, hy', ho.row rfl, ?_, ?_⟩
    · rintro rfl
      rcases ho with ⟨e, _⟩ | ⟨b, sp, cap, e, _⟩
      · simp only [Value.slice.injEq] at e; exact e.2.2
      · simp only [Value.slice.injEq] at e; cases e.1
    · rintro x rfl
      exact (ho.blk (b := x.block) rfl).2.lt hf

def EI2 (a : Option Addr) (n k : Nat) (b : Option Addr) (k' : Nat) (z : Int) (j5 j14 j25 : Value) : L :=
  .cons 0 (.slice a n k) (.cons 1 (.slice b n k') (.cons 4 (.bool false) (.cons 5 j5 (.cons 10 (.bool false) (.cons 12 (.int .i64 (n : Int)) (.cons 13 (.int .i64 z) (.cons 14 j14 (.cons 25 j25 .nil))))))))

theorem itemsEq_spec (H : Std sm) {h : T AObj} {c : Nat} {rl wl : List Nat} (hf : Fresh h c) {v v' : Value} {rs rs' : List Rc} {c0 c0' : Nat} (hx : ItRow h c0 v rs) (hy : ItRow h c0' v' rs') (hb : rs.length ≤ 1000000) (hb2 : ∀ r ∈ rs, r.xs.length ≤ 9223372036854775807) :
    ∃ q s', FnTo (Cs sm) eg 22 [v, v'] ⟨h, c, rl, wl⟩ q s' ∧ (∃ q0 : Bool, q = .bool q0 ∧ (q0 = true ↔ rs = rs')) ∧ Ext ⟨h, c, rl, wl⟩ s' (fun _ => True) (fun _ => False) := by
  obtain ⟨a, k, rfl, hc⟩ := hx.val
  obtain ⟨b, k', rfl, hc'⟩ := hy.val
  refine Fn.go (H 22 rfl) ex22 fn22 km22 rfl rfl ?_
  intro e he
  (simp only [ke, Nat.testBit, Nat.reduceShiftRight, Nat.reduceAnd, Nat.reduceBNe, Nat.reduceEqDiff, Nat.reduceAdd, ↓reduceIte, reduceCtorEq, Bool.false_eq_true] at he; subst he)
  by_cases hnn : rs.length = rs'.length
  rotate_left
  · (repeat (first | (with_reducible refine Then.go ?_) | (with_reducible refine Then.rt ?_) | (with_reducible refine Wx.seq ?_) | (with_reducible refine Wx.ret ?_) | (with_reducible refine Wx.reg ?_) | (refine Wx.condT rfl (by rfl) ?_) | ((with_reducible refine Wseq.nil ?_); intro e he; (simp only [ke, Nat.testBit, Nat.reduceShiftRight, Nat.reduceAnd, Nat.reduceBNe, Nat.reduceEqDiff, Nat.reduceAdd, ↓reduceIte, reduceCtorEq, Bool.false_eq_true] at he; subst he)) | ((with_reducible apply Wseq.mv); rfl; (intro v hv; (simp only [kv, Nat.reduceEqDiff, eq_self, ↓reduceIte, reduceCtorEq, List.map_cons, List.map_nil] at hv); subst hv)) | ((with_reducible apply Wseq.as); rfl; (intro v hv; (simp only [kv, Nat.reduceEqDiff, eq_self, ↓reduceIte, reduceCtorEq, List.map_cons, List.map_nil] at hv); subst hv)) | ((with_reducible apply Wseq.stg (op := Op.call ⟨Callee.builtin Builtin.len, _, _⟩)); rfl; exact to_lenS (sl_ rfl) rfl) | ((with_reducible apply Wseq.stg (op := Op.binOp BinOp.neq _ _ _ _)); rfl; exact to_neIT rfl rfl (by omega))))
    refine ⟨.inr rfl, Wres.one rfl ⟨⟨false, rfl, ⟨(fun h => by cases h), (fun h => absurd (by rw [h]) hnn)⟩⟩, ?_⟩⟩
    (dsimp only; exact Ext.of (by omega) (by ((repeat (apply Fresh.put; omega)); ((assumption)))) (by (repeat ((exact Kp.refl)))) (by (repeat ((exact Lg.nil)))) (by (repeat ((exact Lg.nil)))))
  rw [← hnn]
  generalize hn : rs.length = n at *
  (repeat (first | (with_reducible refine Then.go ?_) | (with_reducible refine Wx.seq ?_) | (with_reducible refine Wx.skip ?_) | (with_reducible refine Wx.block ?_) | (with_reducible refine Wx.reg ?_) | (refine Wx.condF rfl (by rfl) ?_) | ((with_reducible refine Wseq.nil ?_); intro e he; (simp only [ke, Nat.testBit, Nat.reduceShiftRight, Nat.reduceAnd, Nat.reduceBNe, Nat.reduceEqDiff, Nat.reduceAdd, ↓reduceIte, reduceCtorEq, Bool.false_eq_true] at he; subst he)) | ((with_reducible apply Wseq.mv); rfl; (intro v hv; (simp only [kv, Nat.reduceEqDiff, eq_self, ↓reduceIte, reduceCtorEq, List.map_cons, List.map_nil] at hv); subst hv)) | ((with_reducible apply Wseq.as); rfl; (intro v hv; (simp only [kv, Nat.reduceEqDiff, eq_self, ↓reduceIte, reduceCtorEq, List.map_cons, List.map_nil] at hv); subst hv)) | ((with_reducible apply Wseq.stg (op := Op.call ⟨Callee.builtin Builtin.len, _, _⟩)); rfl; exact to_lenS (sl_ rfl) rfl) | ((with_reducible apply Wseq.stg (op := Op.binOp BinOp.neq _ _ _ _)); rfl; exact to_neIF rfl rfl (by omega))))
  refine Wx.loopE (fun k1 e s => ∃ (i : Nat) (z : Int) (h' : T AObj) (c' : Nat) (rl' wl' : List Nat) (j5 j14 j25 : Value), e = EI2 a n k b k' z j5 j14 j25 ∧ z = i ∧ s = ⟨h', c', rl', wl'⟩ ∧ Fresh h' c' ∧ c ≤ c' ∧ Kp h h' c (fun _ => False) ∧ Lg c (fun _ => True) rl' ∧ Lg c (fun _ => False) wl' ∧ rs.take i = rs'.take i ∧ i ≤ n ∧ k1 = n - i) n (EI2 a n k b k' 0 top top top) (by (repeat (first | (exact Resp.fn) | (apply Resp.then) | (apply Resp.out)))) ?_ ?_ ?_
  · unfold EI2
    (refine EqK.of ?_ ?_ <;> (repeat (first | (exact all_nil) | (apply all_cons; rfl))))
  · exact ⟨0, 0, _, _, _, _, _, _, _, rfl, rfl, rfl, hf, by omega, Kp.refl, (by (repeat ((exact Lg.nil)))), (by (repeat ((exact Lg.nil)))), rfl, by omega, rfl⟩
  · rintro k1 e s ⟨i, z, h2, c2, rl2, wl2, j5, j14, j25, rfl, hz, rfl, hf2, hc2, hkp, hlr, hlw, htk, hin, rfl⟩
    unfold EI2
    by_cases hi : i < n
    · have hrs : rs[i]? = some rs[i] := List.getElem?_eq_getElem (by omega)
      have hrs' : rs'[i]? = some rs'[i] := List.getElem?_eq_getElem (by omega)
      have ht1 : rs.take (i + 1) = rs.take i ++ [rs[i]] := by rw [List.take_add_one, hrs]; rfl
      have ht2 : rs'.take (i + 1) = rs'.take i ++ [rs'[i]] := by rw [List.take_add_one, hrs']; rfl
      have hm : rs[i] ∈ rs := List.getElem_mem _
      have hm' : rs'[i] ∈ rs' := List.getElem_mem _
      have hne : rs[i] ≠ rs'[i] → ¬rs = rs' := by
        rintro h1 rfl
        exact h1 rfl
      generalize rs[i] = r at *
      generalize rs'[i] = r' at *
      obtain ⟨b1, o1, sp1, cs1, w1, k1, rfl, hc1, hn1, hr1, _⟩ := hc i r hrs
      obtain ⟨b2, o2, sp2, cs2, w2, k2, rfl, hc2', hn2, hr2, _⟩ := hc' i r' hrs'
      have l1 := hc1.lt hf
      have l2 := hc2'.lt hf
      have D1 : Cel h2 b1 cs1 := by unfold Cel Has at hc1 ⊢; rw [hkp b1 l1 (fun q => q)]; exact hc1
      have D2 : Cel h2 b2 cs2 := by unfold Cel Has at hc2' ⊢; rw [hkp b2 l2 (fun q => q)]; exact hc2'
      (repeat (first | (with_reducible refine Then.go ?_) | (with_reducible refine Wx.seq ?_) | (with_reducible refine Wx.skip ?_) | (with_reducible refine Wx.block ?_) | (with_reducible refine Wx.reg ?_) | (refine Wx.dreg rfl ?_) | (refine Wx.condT rfl (by rfl) ?_) | ((with_reducible refine Wseq.nil ?_); intro e he; (simp only [ke, Nat.testBit, Nat.reduceShiftRight, Nat.reduceAnd, Nat.reduceBNe, Nat.reduceEqDiff, Nat.reduceAdd, ↓reduceIte, reduceCtorEq, Bool.false_eq_true] at he; subst he)) | ((with_reducible apply Wseq.mv); rfl; (intro v hv; (simp only [kv, Nat.reduceEqDiff, eq_self, ↓reduceIte, reduceCtorEq, List.map_cons, List.map_nil] at hv); subst hv)) | ((with_reducible apply Wseq.as); rfl; (intro v hv; (simp only [kv, Nat.reduceEqDiff, eq_self, ↓reduceIte, reduceCtorEq, List.map_cons, List.map_nil] at hv); subst hv)) | ((with_reducible apply Wseq.stg (op := Op.binOp BinOp.lss _ _ _ _)); rfl; exact to_lssT rfl rfl (by omega)) | ((with_reducible apply Wtr.mv); rfl; (intro v hv; (simp only [kv, Nat.reduceEqDiff, eq_self, ↓reduceIte, reduceCtorEq, List.map_cons, List.map_nil] at hv); subst hv))))
      ((with_reducible apply Wtr.stq); rfl; exact to_indexAddr (k := i) el49 rfl rfl hz (by omega))
      ((with_reducible apply Wtr.stx); rfl; exact to_loadS ag59 rfl D1 (by omega) hn1; repeat ((exact all_nil)))
      (repeat (((with_reducible apply Wtr.mv); rfl; (intro v hv; (simp only [kv, Nat.reduceEqDiff, eq_self, ↓reduceIte, reduceCtorEq, List.map_cons, List.map_nil] at hv); subst hv))))
      ((with_reducible apply Wtr.stq); rfl; exact to_indexAddr (k := i) el49 rfl rfl hz (by omega))
      ((with_reducible apply Wtr.stx); rfl; exact to_loadS ag59 rfl D2 (by omega) hn2; (focus (repeat (first | (exact all_nil) | (apply all_cons; (focus ((right; exact ApartP.rr))))))))
      skip
      refine Wtr.call rfl rfl (eqItem_spec H (by ((repeat (apply Fresh.put; omega)); ((assumption)))) (r := r) (r' := r') ⟨.slice w1 r.xs.length k1, rfl, Row.keepF hr1 hf fun b hb => hkp b hb (fun q => q), hx.ints r hm⟩ ⟨.slice w2 r'.xs.length k2, rfl, Row.keepF hr2 hf fun b hb => hkp b hb (fun q => q), hy.ints r' hm'⟩ (hb2 r hm)) ?_
      rintro v3 h3 c3 r3 w3 ⟨⟨q0, rfl, hq⟩, x3⟩
      have y3 := x3.c
      dsimp only at y3
      have f3 : Fresh h3 c3 := x3.fresh
      have hw3 := x3.quiet (fun _ _ q => q)
      have K3 := Kp.ext (W := fun _ => False) (h := h) (c := c) hkp x3 (by omega) (fun _ _ q => q)
      have lr := Lg.extR (R := fun _ => True) (c := c) Lg.nil x3 (fun _ _ q => trivial)
      have lw := Lg.extW (W := fun _ => False) (c := c) Lg.nil x3 (fun _ _ q => q)
      refine ⟨(by (repeat (first | (exact all_nil) | (apply all_cons; (focus ((left; dsimp only; decide +kernel))))))), ?_⟩
      cases q0 with
      | true =>
        obtain rfl := hq.1 rfl
        (repeat (first | (with_reducible refine Then.go ?_) | (with_reducible refine Out.go ?_) | (with_reducible refine Wx.skip ?_) | (with_reducible refine Wx.reg ?_) | (refine Wx.condF rfl (by rfl) ?_) | ((with_reducible refine Wseq.nil ?_); intro e he; (simp only [ke, Nat.testBit, Nat.reduceShiftRight, Nat.reduceAnd, Nat.reduceBNe, Nat.reduceEqDiff, Nat.reduceAdd, ↓reduceIte, reduceCtorEq, Bool.false_eq_true] at he; subst he)) | ((with_reducible apply Wseq.mv); rfl; (intro v hv; (simp only [kv, Nat.reduceEqDiff, eq_self, ↓reduceIte, reduceCtorEq, List.map_cons, List.map_nil] at hv); subst hv)) | ((with_reducible apply Wseq.stg (op := Op.binOp BinOp.add _ _ _ _)); rfl; exact to_add rfl rfl (by omega) (by omega)) | ((with_reducible refine Wtr.nil ?_); intro e he; (simp only [ke, Nat.testBit, Nat.reduceShiftRight, Nat.reduceAnd, Nat.reduceBNe, Nat.reduceEqDiff, Nat.reduceAdd, ↓reduceIte, reduceCtorEq, Bool.false_eq_true] at he; subst he)) | ((with_reducible apply Wtr.stq (op := Op.unOp UnOp.not _ _)); rfl; exact to_notT rfl)))
        refine RoundE.go (n - (i + 1)) (EI2 _ n k _ k' (z + 1) _ _ _) (by omega) (by (refine EqK.of ?_ ?_ <;> (repeat (first | (exact all_nil) | (apply all_cons; rfl))))) ⟨i + 1, z + 1, _, _, _, _, _, _, _, rfl, by omega, rfl, f3, by omega, K3, (by (repeat (first | (exact Lg.nil) | (assumption) | (apply Lg.cons; (focus ((right; (simp; done))))) | (apply Lg.app)))), (by (repeat (first | (exact Lg.nil) | (assumption) | (apply Lg.app)))), by rw [ht1, ht2, htk], by omega, rfl⟩
      | false =>
        (repeat (first | (with_reducible refine Then.go ?_) | (with_reducible refine Then.rt ?_) | (with_reducible refine Out.rt ?_) | (with_reducible refine Wx.seq ?_) | (with_reducible refine Wx.ret ?_) | (with_reducible refine Wx.reg ?_) | (with_reducible refine RoundE.rt ?_) | (refine Wx.condT rfl (by rfl) ?_) | ((with_reducible refine Wseq.nil ?_); intro e he; (simp only [ke, Nat.testBit, Nat.reduceShiftRight, Nat.reduceAnd, Nat.reduceBNe, Nat.reduceEqDiff, Nat.reduceAdd, ↓reduceIte, reduceCtorEq, Bool.false_eq_true] at he; subst he)) | ((with_reducible apply Wseq.as); rfl; (intro v hv; (simp only [kv, Nat.reduceEqDiff, eq_self, ↓reduceIte, reduceCtorEq, List.map_cons, List.map_nil] at hv); subst hv)) | ((with_reducible refine Wtr.nil ?_); intro e he; (simp only [ke, Nat.testBit, Nat.reduceShiftRight, Nat.reduceAnd, Nat.reduceBNe, Nat.reduceEqDiff, Nat.reduceAdd, ↓reduceIte, reduceCtorEq, Bool.false_eq_true] at he; subst he)) | ((with_reducible apply Wtr.stq (op := Op.unOp UnOp.not _ _)); rfl; exact to_notF rfl)))
        refine ⟨.inr rfl, Wres.one rfl ⟨⟨false, rfl, ⟨(fun h => by cases h), (fun h => ?_)⟩⟩, ?_⟩⟩
        · exact absurd h (hne fun e => by have := hq.2 e; cases this)
        · (dsimp only; exact Ext.of (by omega) (by ((repeat (apply Fresh.put; omega)); ((assumption)))) (by (repeat ((assumption)))) (by (repeat (first | (exact Lg.nil) | (assumption) | (apply Lg.cons; (focus ((right; (simp; done))))) | (apply Lg.app)))) (by (repeat (first | (exact Lg.nil) | (assumption) | (apply Lg.app)))))
    · (repeat (first | (with_reducible refine Then.go ?_) | (with_reducible refine Then.ex ?_) | (with_reducible refine Out.hit ?_) | (with_reducible refine Wx.seq ?_) | (with_reducible refine Wx.exit ?_) | (with_reducible refine Wx.ret ?_) | (with_reducible refine Wx.reg ?_) | (with_reducible refine RoundE.ex ?_) | (refine Wx.condF rfl (by rfl) ?_) | ((with_reducible refine Wseq.nil ?_); intro e he; (simp only [ke, Nat.testBit, Nat.reduceShiftRight, Nat.reduceAnd, Nat.reduceBNe, Nat.reduceEqDiff, Nat.reduceAdd, ↓reduceIte, reduceCtorEq, Bool.false_eq_true] at he; subst he)) | ((with_reducible apply Wseq.as); rfl; (intro v hv; (simp only [kv, Nat.reduceEqDiff, eq_self, ↓reduceIte, reduceCtorEq, List.map_cons, List.map_nil] at hv); subst hv)) | ((with_reducible apply Wseq.stg (op := Op.binOp BinOp.lss _ _ _ _)); rfl; exact to_lssF rfl rfl (by omega))))
      refine ⟨.inr rfl, Wres.one rfl ⟨⟨true, rfl, ⟨(fun _ => ?_), (fun _ => rfl)⟩⟩, ?_⟩⟩
      · rw [List.take_of_length_le (by omega), List.take_of_length_le (by omega)] at htk
        exact htk
      · (dsimp only; exact Ext.of (by omega) (by ((repeat (apply Fresh.put; omega)); ((assumption)))) (by (repeat ((assumption)))) (by (repeat ((assumption)))) (by (repeat ((assumption)))))
end Go.Ab.Seat
