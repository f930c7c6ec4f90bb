/- The reference's store: put, let go, swept (the abstract machine). -/
import Derived.Test.YthkmcfiijooddaaGreatDoorBSR3
set_option linter.unusedVariables false
set_option linter.unusedSimpArgs false
namespace Go.Ab.Seat
open Go.Extern Go.Proofs
set_option linter.unusedSimpArgs false
set_option linter.unusedVariables false
set_option maxRecDepth 4000
set_option pp.deepTerms false
set_option pp.deepTerms.threshold 6
variable {sm : Nat → Option (List Value → M Value)}

theorem copyVec_spec (H : Std sm) {h : T AObj} {c : Nat} {rl wl : List Nat} (hf : Fresh h c) {a : Option Addr} {n k : Nat} {xs : List Value} (hv : Row h (.slice a n k) n 1 xs) (hn : n ≤ big) :
    ∃ r s', FnTo (Cs sm) eg 69 [.slice a n k] ⟨h, c, rl, wl⟩ r s' ∧ Own s'.h c r n xs ∧ Ext ⟨h, c, rl, wl⟩ s' (fun _ => True) (fun _ => False) := by
  refine Fn.go (H 69 rfl) ex69 fn69 km69 rfl rfl ?_
  intro e he
  (simp only [ke, Nat.testBit, Nat.reduceShiftRight, Nat.reduceAnd, Nat.reduceBNe, Nat.reduceEqDiff, Nat.reduceAdd, ↓reduceIte, reduceCtorEq, Bool.false_eq_true] at he; subst he)
  rcases n with _ | n
  · have hx : xs = [] := by
      rcases hv with ⟨_, rfl, _⟩ | ⟨b, o, sp, cap, cs, _, _, hs⟩
      · rfl
      · exact List.length_eq_zero_iff.1 (by have := (subN_some _ _ _ _ hs).1; simpa using this)
    subst hx
    (repeat (first | (with_reducible refine Then.go ?_) | (with_reducible refine Wx.seq ?_) | (with_reducible refine Wx.reg ?_) | ((with_reducible refine Wseq.nil ?_); intro e he; (simp only [ke, Nat.testBit, Nat.reduceShiftRight, Nat.reduceAnd, Nat.reduceBNe, Nat.reduceEqDiff, Nat.reduceAdd, ↓reduceIte, reduceCtorEq, Bool.false_eq_true] at he; subst he)) | ((with_reducible apply Wseq.mv); rfl; (intro v hv; (simp only [kv, Nat.reduceEqDiff, eq_self, ↓reduceIte, reduceCtorEq, List.map_cons, List.map_nil] at hv); subst hv)) | ((with_reducible apply Wseq.as); rfl; (intro v hv; (simp only [kv, Nat.reduceEqDiff, eq_self, ↓reduceIte, reduceCtorEq, List.map_cons, List.map_nil] at hv); subst hv))))
    ((with_reducible apply Wseq.stg); (focus rfl); (focus (exact to_appZero ro33 sl33 rfl rfl (by omega))))
    (repeat (first | (with_reducible refine Then.go ?_) | (with_reducible refine Wx.ret ?_) | ((with_reducible refine Wseq.nil ?_); intro e he; (simp only [ke, Nat.testBit, Nat.reduceShiftRight, Nat.reduceAnd, Nat.reduceBNe, Nat.reduceEqDiff, Nat.reduceAdd, ↓reduceIte, reduceCtorEq, Bool.false_eq_true] at he; subst he)) | ((with_reducible apply Wseq.as); rfl; (intro v hv; (simp only [kv, Nat.reduceEqDiff, eq_self, ↓reduceIte, reduceCtorEq, List.map_cons, List.map_nil] at hv); subst hv))))
    refine ⟨.inr rfl, Wres.one rfl ⟨.inl ⟨rfl, rfl, rfl⟩, ?_⟩⟩
    (dsimp only; exact Ext.of (by omega) (by ((repeat (apply Fresh.put; omega)); ((assumption)))) (by (repeat ((exact Kp.refl)))) (by (repeat ((exact Lg.nil)))) (by (repeat ((exact Lg.nil)))))
  · rcases hv with ⟨h0, _⟩ | ⟨b, o, sp, cap, cs, e, hc, hs⟩
    · cases h0
    cases e
    have l1 := hc.lt hf
    rw [Nat.mul_one] at hs
    (repeat (first | (with_reducible refine Then.go ?_) | (with_reducible refine Wx.seq ?_) | (with_reducible refine Wx.reg ?_) | ((with_reducible refine Wseq.nil ?_); intro e he; (simp only [ke, Nat.testBit, Nat.reduceShiftRight, Nat.reduceAnd, Nat.reduceBNe, Nat.reduceEqDiff, Nat.reduceAdd, ↓reduceIte, reduceCtorEq, Bool.false_eq_true] at he; subst he)) | ((with_reducible apply Wseq.mv); rfl; (intro v hv; (simp only [kv, Nat.reduceEqDiff, eq_self, ↓reduceIte, reduceCtorEq, List.map_cons, List.map_nil] at hv); subst hv)) | ((with_reducible apply Wseq.as); rfl; (intro v hv; (simp only [kv, Nat.reduceEqDiff, eq_self, ↓reduceIte, reduceCtorEq, List.map_cons, List.map_nil] at hv); subst hv))))
    ((with_reducible apply Wseq.stg); (focus rfl); (focus (exact to_appNil ro33 sl33 rfl rfl hc (by omega) (by rw [Nat.mul_one]; exact hs) hn (by ((repeat (apply Fresh.put; omega)); ((assumption)))))))
    (repeat (first | (with_reducible refine Then.go ?_) | (with_reducible refine Wx.ret ?_) | ((with_reducible refine Wseq.nil ?_); intro e he; (simp only [ke, Nat.testBit, Nat.reduceShiftRight, Nat.reduceAnd, Nat.reduceBNe, Nat.reduceEqDiff, Nat.reduceAdd, ↓reduceIte, reduceCtorEq, Bool.false_eq_true] at he; subst he)) | ((with_reducible apply Wseq.as); rfl; (intro v hv; (simp only [kv, Nat.reduceEqDiff, eq_self, ↓reduceIte, reduceCtorEq, List.map_cons, List.map_nil] at hv); subst hv))))
    refine ⟨.inr rfl, Wres.one rfl ⟨.inr ⟨c, _, _, rfl, Nat.le_refl _, Nat.le_refl _, Has.same⟩, ?_⟩⟩
    (dsimp only; exact Ext.of (by omega) (by ((repeat (apply Fresh.put; omega)); ((exact Fresh.up (by assumption) (by omega))))) (by (repeat (first | (exact Kp.refl) | (apply Kp.set; (focus (left; omega)))))) (by (repeat (first | (exact Lg.nil) | (apply Lg.cons; (focus ((right; (simp; done)))))))) (by (repeat ((exact Lg.nil)))))

theorem rput_spec (H : Std sm) {h : T AObj} {c : Nat} {rl wl : List Nat} (hf : Fresh h c) {p : Nat} {M : List Rc} {U : Nat → Prop} (q : RefM h p M U) (hlt : ∀ b, U b → b < c) (id seq : Int) (pay : ByteArray) {a : Option Addr} {k cap : Nat} {zs : List Int} (hv : Row h (.slice a k cap) k 1 (zs.map (Value.int .i32))) (hx : zs.length = k) (hn : k ≤ big) :
    ∃ r s', FnTo (Cs sm) eg 32 [.pointer (some ⟨p, 0, none⟩), .int .i64 id, .slice a k cap, .string pay, .int .i64 seq] ⟨h, c, rl, wl⟩ r s' ∧ (r = .int .i64 (putZ id seq pay M) ∧ RefM s'.h p (putL id seq (zs.map (Value.int .i32)) pay M) (fun b => U b ∨ c ≤ b ∧ b < s'.c)) ∧ Ext ⟨h, c, rl, wl⟩ s' (fun _ => True) U := by
  have hml := q.len
  obtain ⟨v0, hp0, hI0⟩ := q.view hf
  have hpc := hp0.lt hf
  refine Fn.go (H 32 rfl) ex32 fn32 km32 rfl rfl ?_
  intro e he
  (simp only [ke, Nat.testBit, Nat.reduceShiftRight, Nat.reduceAnd, Nat.reduceBNe, Nat.reduceEqDiff, Nat.reduceAdd, ↓reduceIte, reduceCtorEq, Bool.false_eq_true] at he; subst he)
  (repeat (first | (with_reducible refine Then.go ?_) | (with_reducible refine Wx.seq ?_) | (with_reducible refine Wx.reg ?_) | ((with_reducible refine Wseq.nil ?_); intro e he; (simp only [ke, Nat.testBit, Nat.reduceShiftRight, Nat.reduceAnd, Nat.reduceBNe, Nat.reduceEqDiff, Nat.reduceAdd, ↓reduceIte, reduceCtorEq, Bool.false_eq_true] at he; subst he)) | ((with_reducible apply Wseq.mv); rfl; (intro v hv; (simp only [kv, Nat.reduceEqDiff, eq_self, ↓reduceIte, reduceCtorEq, List.map_cons, List.map_nil] at hv); subst hv)) | ((with_reducible apply Wseq.as); rfl; (intro v hv; (simp only [kv, Nat.reduceEqDiff, eq_self, ↓reduceIte, reduceCtorEq, List.map_cons, List.map_nil] at hv); subst hv))))
  refine Wseq.call rfl rfl (place_spec H (by ((repeat (apply Fresh.put; omega)); ((assumption)))) hp0 hI0 (by omega) id) ?_
  rintro v1 h1 c1 r1 w1 ⟨hr, x1⟩
  have y1 := x1.c
  dsimp only at y1
  have f1 : Fresh h1 c1 := x1.fresh
  have K1 := Kp.ext (W := fun _ => False) (h := h) (c := c) Kp.refl x1 (by omega) (fun _ _ q => q)
  have kpU : Kp h h1 c U := fun b hb _ => K1 b hb (fun q => q)
  have lr := Lg.extR (R := fun _ => True) (c := c) Lg.nil x1 (fun _ _ q => trivial)
  have lw := Lg.extW (W := U) (c := c) Lg.nil x1 (fun _ _ q => q.elim)
  have p1 := x1.hs hp0 hpc (fun q => q)
  have q1 : RefM h1 p M U := q.keep hf fun b hb hl => K1 b hl (fun q => q)
  have I1 : ItRow h1 c v0 M := hI0.keep hf fun b hb => K1 b hb (fun q => q)
  rcases hr with ⟨hg, rfl⟩ | ⟨i, x, rfl, hk, hg⟩
  · have hsq : seqM id M = 0 := by unfold seqM; rw [hg]
    by_cases e1 : id < 1
    · have hz : putZ id seq pay M = 2 := by unfold putZ; rw [if_pos (.inl e1)]
      (repeat (first | (with_reducible refine Then.go ?_) | (with_reducible refine Then.rt ?_) | (with_reducible refine Out.rt ?_) | (with_reducible refine Wx.seq ?_) | (with_reducible refine Wx.skip ?_) | (with_reducible refine Wx.block ?_) | (with_reducible refine Wx.ret ?_) | (with_reducible refine Wx.reg ?_) | (refine Wx.condT rfl (by rfl) ?_) | (refine Wx.condF rfl (by rfl) ?_) | ((with_reducible refine Wseq.nil ?_); intro e he; (simp only [ke, Nat.testBit, Nat.reduceShiftRight, Nat.reduceAnd, Nat.reduceBNe, Nat.reduceEqDiff, Nat.reduceAdd, ↓reduceIte, reduceCtorEq, Bool.false_eq_true] at he; subst he)) | ((with_reducible apply Wseq.mv); rfl; (intro v hv; (simp only [kv, Nat.reduceEqDiff, eq_self, ↓reduceIte, reduceCtorEq, List.map_cons, List.map_nil] at hv); subst hv)) | ((with_reducible apply Wseq.as); rfl; (intro v hv; (simp only [kv, Nat.reduceEqDiff, eq_self, ↓reduceIte, reduceCtorEq, List.map_cons, List.map_nil] at hv); subst hv)) | ((with_reducible apply Wseq.pkT); rfl; rfl; (intro v hv; (simp only [kv, Nat.reduceEqDiff, eq_self, ↓reduceIte, reduceCtorEq, List.map_cons, List.map_nil] at hv); subst hv)) | ((with_reducible apply Wseq.stg (op := Op.binOp BinOp.lss _ _ _ _)); rfl; exact to_lssT rfl rfl (by omega)) | ((with_reducible apply Wseq.stg (op := Op.binOp BinOp.geq _ _ _ _)); rfl; exact to_geqF rfl rfl (by omega)) | (refine Wseq.no rfl ?_)))
      refine ⟨.inr rfl, Wres.one rfl ⟨⟨by rw [hz]; rfl, ?_⟩, ?_⟩⟩
      · unfold putL
        rw [hz, if_neg (by decide)]
        exact q1.wide fun b hb => .inl hb
      · (dsimp only; exact Ext.of (by omega) (by ((repeat (apply Fresh.put; omega)); ((assumption)))) (by (repeat ((assumption)))) (by (repeat ((assumption)))) (by (repeat ((assumption)))))
    by_cases e2 : 1000 < id
    · have hz : putZ id seq pay M = 2 := by unfold putZ; rw [if_pos (.inr e2)]
      (repeat (first | (with_reducible refine Then.go ?_) | (with_reducible refine Then.rt ?_) | (with_reducible refine Out.rt ?_) | (with_reducible refine Wx.seq ?_) | (with_reducible refine Wx.skip ?_) | (with_reducible refine Wx.block ?_) | (with_reducible refine Wx.ret ?_) | (with_reducible refine Wx.reg ?_) | (refine Wx.condT rfl (by rfl) ?_) | (refine Wx.condF rfl (by rfl) ?_) | ((with_reducible refine Wseq.nil ?_); intro e he; (simp only [ke, Nat.testBit, Nat.reduceShiftRight, Nat.reduceAnd, Nat.reduceBNe, Nat.reduceEqDiff, Nat.reduceAdd, ↓reduceIte, reduceCtorEq, Bool.false_eq_true] at he; subst he)) | ((with_reducible apply Wseq.mv); rfl; (intro v hv; (simp only [kv, Nat.reduceEqDiff, eq_self, ↓reduceIte, reduceCtorEq, List.map_cons, List.map_nil] at hv); subst hv)) | ((with_reducible apply Wseq.as); rfl; (intro v hv; (simp only [kv, Nat.reduceEqDiff, eq_self, ↓reduceIte, reduceCtorEq, List.map_cons, List.map_nil] at hv); subst hv)) | ((with_reducible apply Wseq.pkF); rfl; rfl; (intro v hv; (simp only [kv, Nat.reduceEqDiff, eq_self, ↓reduceIte, reduceCtorEq, List.map_cons, List.map_nil] at hv); subst hv)) | ((with_reducible apply Wseq.stg (op := Op.binOp BinOp.lss _ _ _ _)); rfl; exact to_lssF rfl rfl (by omega)) | ((with_reducible apply Wseq.stg (op := Op.binOp BinOp.gtr _ _ _ _)); rfl; exact to_gtrT rfl rfl (by omega)) | ((with_reducible apply Wseq.stg (op := Op.binOp BinOp.geq _ _ _ _)); rfl; exact to_geqF rfl rfl (by omega))))
      refine ⟨.inr rfl, Wres.one rfl ⟨⟨by rw [hz]; rfl, ?_⟩, ?_⟩⟩
      · unfold putL
        rw [hz, if_neg (by decide)]
        exact q1.wide fun b hb => .inl hb
      · (dsimp only; exact Ext.of (by omega) (by ((repeat (apply Fresh.put; omega)); ((assumption)))) (by (repeat ((assumption)))) (by (repeat ((assumption)))) (by (repeat ((assumption)))))
    by_cases e3 : 40 < pay.size
    · have hz : putZ id seq pay M = 11 := by unfold putZ; rw [if_neg (by omega), if_pos e3]
      (repeat (first | (with_reducible refine Then.go ?_) | (with_reducible refine Then.rt ?_) | (with_reducible refine Out.rt ?_) | (with_reducible refine Wx.seq ?_) | (with_reducible refine Wx.skip ?_) | (with_reducible refine Wx.block ?_) | (with_reducible refine Wx.ret ?_) | (with_reducible refine Wx.reg ?_) | (refine Wx.condT rfl (by rfl) ?_) | (refine Wx.condF rfl (by rfl) ?_) | ((with_reducible refine Wseq.nil ?_); intro e he; (simp only [ke, Nat.testBit, Nat.reduceShiftRight, Nat.reduceAnd, Nat.reduceBNe, Nat.reduceEqDiff, Nat.reduceAdd, ↓reduceIte, reduceCtorEq, Bool.false_eq_true] at he; subst he)) | ((with_reducible apply Wseq.mv); rfl; (intro v hv; (simp only [kv, Nat.reduceEqDiff, eq_self, ↓reduceIte, reduceCtorEq, List.map_cons, List.map_nil] at hv); subst hv)) | ((with_reducible apply Wseq.as); rfl; (intro v hv; (simp only [kv, Nat.reduceEqDiff, eq_self, ↓reduceIte, reduceCtorEq, List.map_cons, List.map_nil] at hv); subst hv)) | ((with_reducible apply Wseq.pkF); rfl; rfl; (intro v hv; (simp only [kv, Nat.reduceEqDiff, eq_self, ↓reduceIte, reduceCtorEq, List.map_cons, List.map_nil] at hv); subst hv)) | ((with_reducible apply Wseq.stg (op := Op.call ⟨Callee.builtin Builtin.len, _, _⟩)); rfl; exact to_lenStr (sr_ rfl) rfl) | ((with_reducible apply Wseq.stg (op := Op.binOp BinOp.lss _ _ _ _)); rfl; exact to_lssF rfl rfl (by omega)) | ((with_reducible apply Wseq.stg (op := Op.binOp BinOp.gtr _ _ _ _)); rfl; exact to_gtrT rfl rfl (by omega)) | ((with_reducible apply Wseq.stg (op := Op.binOp BinOp.gtr _ _ _ _)); rfl; exact to_gtrF rfl rfl (by omega)) | ((with_reducible apply Wseq.stg (op := Op.binOp BinOp.geq _ _ _ _)); rfl; exact to_geqF rfl rfl (by omega))))
      refine ⟨.inr rfl, Wres.one rfl ⟨⟨by rw [hz]; rfl, ?_⟩, ?_⟩⟩
      · unfold putL
        rw [hz, if_neg (by decide)]
        exact q1.wide fun b hb => .inl hb
      · (dsimp only; exact Ext.of (by omega) (by ((repeat (apply Fresh.put; omega)); ((assumption)))) (by (repeat ((assumption)))) (by (repeat ((assumption)))) (by (repeat ((assumption)))))
    by_cases e4 : seq ≤ 0
    · have hz : putZ id seq pay M = 1 := by unfold putZ; rw [if_neg (by omega), if_neg e3, hsq, if_pos e4]
      (repeat (first | (with_reducible refine Then.go ?_) | (with_reducible refine Then.rt ?_) | (with_reducible refine Out.rt ?_) | (with_reducible refine Wx.seq ?_) | (with_reducible refine Wx.skip ?_) | (with_reducible refine Wx.block ?_) | (with_reducible refine Wx.ret ?_) | (with_reducible refine Wx.reg ?_) | (refine Wx.condT rfl (by rfl) ?_) | (refine Wx.condF rfl (by rfl) ?_) | ((with_reducible refine Wseq.nil ?_); intro e he; (simp only [ke, Nat.testBit, Nat.reduceShiftRight, Nat.reduceAnd, Nat.reduceBNe, Nat.reduceEqDiff, Nat.reduceAdd, ↓reduceIte, reduceCtorEq, Bool.false_eq_true] at he; subst he)) | ((with_reducible apply Wseq.mv); rfl; (intro v hv; (simp only [kv, Nat.reduceEqDiff, eq_self, ↓reduceIte, reduceCtorEq, List.map_cons, List.map_nil] at hv); subst hv)) | ((with_reducible apply Wseq.as); rfl; (intro v hv; (simp only [kv, Nat.reduceEqDiff, eq_self, ↓reduceIte, reduceCtorEq, List.map_cons, List.map_nil] at hv); subst hv)) | ((with_reducible apply Wseq.pkF); rfl; rfl; (intro v hv; (simp only [kv, Nat.reduceEqDiff, eq_self, ↓reduceIte, reduceCtorEq, List.map_cons, List.map_nil] at hv); subst hv)) | ((with_reducible apply Wseq.stg (op := Op.call ⟨Callee.builtin Builtin.len, _, _⟩)); rfl; exact to_lenStr (sr_ rfl) rfl) | ((with_reducible apply Wseq.stg (op := Op.binOp BinOp.lss _ _ _ _)); rfl; exact to_lssF rfl rfl (by omega)) | ((with_reducible apply Wseq.stg (op := Op.binOp BinOp.leq _ _ _ _)); rfl; exact to_leqT rfl rfl (by omega)) | ((with_reducible apply Wseq.stg (op := Op.binOp BinOp.gtr _ _ _ _)); rfl; exact to_gtrF rfl rfl (by omega)) | ((with_reducible apply Wseq.stg (op := Op.binOp BinOp.geq _ _ _ _)); rfl; exact to_geqF rfl rfl (by omega))))
      refine ⟨.inr rfl, Wres.one rfl ⟨⟨by rw [hz]; rfl, ?_⟩, ?_⟩⟩
      · unfold putL
        rw [hz, if_neg (by decide)]
        exact q1.wide fun b hb => .inl hb
      · (dsimp only; exact Ext.of (by omega) (by ((repeat (apply Fresh.put; omega)); ((assumption)))) (by (repeat ((assumption)))) (by (repeat ((assumption)))) (by (repeat ((assumption)))))
    have hz : putZ id seq pay M = 0 := by unfold putZ; rw [if_neg (by omega), if_neg e3, hsq, if_neg e4]
    (repeat (first | (with_reducible refine Then.go ?_) | (with_reducible refine Out.go ?_) | (with_reducible refine Wx.seq ?_) | (with_reducible refine Wx.skip ?_) | (with_reducible refine Wx.block ?_) | (with_reducible refine Wx.reg ?_) | (refine Wx.condF rfl (by rfl) ?_) | ((with_reducible refine Wseq.nil ?_); intro e he; (simp only [ke, Nat.testBit, Nat.reduceShiftRight, Nat.reduceAnd, Nat.reduceBNe, Nat.reduceEqDiff, Nat.reduceAdd, ↓reduceIte, reduceCtorEq, Bool.false_eq_true] at he; subst he)) | ((with_reducible apply Wseq.mv); rfl; (intro v hv; (simp only [kv, Nat.reduceEqDiff, eq_self, ↓reduceIte, reduceCtorEq, List.map_cons, List.map_nil] at hv); subst hv)) | ((with_reducible apply Wseq.as); rfl; (intro v hv; (simp only [kv, Nat.reduceEqDiff, eq_self, ↓reduceIte, reduceCtorEq, List.map_cons, List.map_nil] at hv); subst hv)) | ((with_reducible apply Wseq.pkF); rfl; rfl; (intro v hv; (simp only [kv, Nat.reduceEqDiff, eq_self, ↓reduceIte, reduceCtorEq, List.map_cons, List.map_nil] at hv); subst hv)) | ((with_reducible apply Wseq.stg (op := Op.call ⟨Callee.builtin Builtin.len, _, _⟩)); rfl; exact to_lenStr (sr_ rfl) rfl) | ((with_reducible apply Wseq.stg (op := Op.binOp BinOp.lss _ _ _ _)); rfl; exact to_lssF rfl rfl (by omega)) | ((with_reducible apply Wseq.stg (op := Op.binOp BinOp.leq _ _ _ _)); rfl; exact to_leqF rfl rfl (by omega)) | ((with_reducible apply Wseq.stg (op := Op.binOp BinOp.gtr _ _ _ _)); rfl; exact to_gtrF rfl rfl (by omega)) | ((with_reducible apply Wseq.stg (op := Op.binOp BinOp.geq _ _ _ _)); rfl; exact to_geqF rfl rfl (by omega))))
    refine Wseq.call rfl rfl (copyVec_spec H (by ((repeat (apply Fresh.put; omega)); ((assumption)))) (Row.keepF hv hf fun b hb => K1 b hb (fun q => q)) hn) ?_
    rintro v2 h2 c2 r2 w2 ⟨o2, x2⟩
    have y2 := x2.c
    dsimp only at y2 o2
    have f2 : Fresh h2 c2 := x2.fresh
    obtain ⟨a2, k2, rfl⟩ := o2.val
    have K2 := Kp.ext (W := fun _ => False) (h := h) (c := c) K1 x2 (by omega) (fun _ _ q => q)
    have lr2 := Lg.extR (R := fun _ => True) (c := c) (by (repeat ((assumption)))) x2 (fun _ _ q => trivial)
    have lw2 := Lg.extW (W := U) (c := c) (by (repeat ((assumption)))) x2 (fun _ _ q => q.elim)
    have q2 : RefM h2 p M U := q1.keep f1 fun b hb hl => x2.get hl (fun q => q)
    (repeat (first | ((with_reducible apply Wseq.mv); rfl; (intro v hv; (simp only [kv, Nat.reduceEqDiff, eq_self, ↓reduceIte, reduceCtorEq, List.map_cons, List.map_nil] at hv); subst hv)) | ((with_reducible apply Wseq.bd); rfl; exact (bt_ rfl); (intro v hv; (simp only [kv, Nat.reduceEqDiff, eq_self, ↓reduceIte, reduceCtorEq, List.map_cons, List.map_nil] at hv); subst hv); refine ⟨_, rfl, ?_⟩)))
    refine Wseq.call rfl rfl (lay_spec H (by ((repeat (apply Fresh.put; omega)); ((assumption)))) (U := fun b => U b ∨ c ≤ b ∧ b < c2) q2 (fun b hb => .inl hb) (it := ⟨id, .slice a2 k k2, zs.map (Value.int .i32), pay, seq, false⟩) (by dsimp only; omega) ⟨zs, rfl⟩ (by dsimp only; rw [List.length_map, hx]; exact o2.low (Nat.zero_le _)) (fun b hb => ?_)) ?_
    · obtain ⟨u1, u2⟩ := o2.blk hb
      have u3 := u2.lt f2
      exact ⟨.inr ⟨by omega, u3⟩, fun e => by have := hlt b e; omega⟩
    rintro v3 h3 c3 r3 w3 ⟨⟨rfl, q3⟩, x3⟩
    have y3 := x3.c
    dsimp only at y3 q3
    have f3 : Fresh h3 c3 := x3.fresh
    have kp3 := Kp.ext (W := U) (h := h) (c := c) (fun b hb _ => K2 b hb (fun q => q)) x3 (by omega) (fun _ _ q => q)
    have lr3 := Lg.extR (R := fun _ => True) (c := c) (by (repeat ((assumption)))) x3 (fun _ _ q => trivial)
    have lw3 := Lg.extW (W := U) (c := c) (by (repeat ((assumption)))) x3 (fun _ _ q => q)
    (repeat (first | (with_reducible refine Then.go ?_) | (with_reducible refine Wx.seq ?_) | (with_reducible refine Wx.ret ?_) | (with_reducible refine Wx.reg ?_) | ((with_reducible refine Wseq.nil ?_); intro e he; (simp only [ke, Nat.testBit, Nat.reduceShiftRight, Nat.reduceAnd, Nat.reduceBNe, Nat.reduceEqDiff, Nat.reduceAdd, ↓reduceIte, reduceCtorEq, Bool.false_eq_true] at he; subst he)) | ((with_reducible apply Wseq.as); rfl; (intro v hv; (simp only [kv, Nat.reduceEqDiff, eq_self, ↓reduceIte, reduceCtorEq, List.map_cons, List.map_nil] at hv); subst hv))))
    refine ⟨.inr rfl, Wres.one rfl ⟨⟨by rw [hz]; rfl, ?_⟩, ?_⟩⟩
    · unfold putL
      rw [if_pos hz]
      exact q3.wide fun b hb => by rcases hb with (hb | hb) | hb <;> first | exact .inl hb | exact .inr ⟨by omega, by dsimp only; omega⟩
    · (dsimp only; exact Ext.of (by omega) (by ((repeat (apply Fresh.put; omega)); ((assumption)))) (by (repeat ((assumption)))) (by (repeat ((assumption)))) (by (repeat ((assumption)))))
  · have hsq : seqM id M = x.seq := by unfold seqM; rw [hg]
    obtain ⟨oa, kk, rfl, hc⟩ := I1.val
    obtain ⟨b1, o1, sp1, cs1, aw, kw, rfl, D1, hn1, _⟩ := hc i x hk
    obtain ⟨g0, g3, g4⟩ := sub_nth hn1
    have l1 := D1.lt f1
    have hkl : i < M.length := (List.getElem?_eq_some_iff.1 hk).1
    by_cases e1 : id < 1
    · have hz : putZ id seq pay M = 2 := by unfold putZ; rw [if_pos (.inl e1)]
      (repeat (first | (with_reducible refine Then.go ?_) | (with_reducible refine Wx.seq ?_) | (with_reducible refine Wx.reg ?_) | (refine Wx.condT rfl (by rfl) ?_) | ((with_reducible refine Wseq.nil ?_); intro e he; (simp only [ke, Nat.testBit, Nat.reduceShiftRight, Nat.reduceAnd, Nat.reduceBNe, Nat.reduceEqDiff, Nat.reduceAdd, ↓reduceIte, reduceCtorEq, Bool.false_eq_true] at he; subst he)) | ((with_reducible apply Wseq.mv); rfl; (intro v hv; (simp only [kv, Nat.reduceEqDiff, eq_self, ↓reduceIte, reduceCtorEq, List.map_cons, List.map_nil] at hv); subst hv)) | ((with_reducible apply Wseq.as); rfl; (intro v hv; (simp only [kv, Nat.reduceEqDiff, eq_self, ↓reduceIte, reduceCtorEq, List.map_cons, List.map_nil] at hv); subst hv)) | ((with_reducible apply Wseq.stg (op := Op.fieldAddr _ _ _)); rfl; exact to_fieldAddr (fa_ rfl) rfl) | ((with_reducible apply Wseq.stg (op := Op.load _ _)); rfl; exact to_load (pl_ rfl) rfl (by (repeat ((apply Has.cel; assumption)))) (by omega) (by rfl)) | ((with_reducible apply Wseq.stg (op := Op.nilCheck _)); rfl; exact to_nilCheck rfl) | ((with_reducible apply Wseq.stg (op := Op.binOp BinOp.geq _ _ _ _)); rfl; exact to_geqT rfl rfl (by omega))))
      ((with_reducible apply Wseq.stg); (focus rfl); (focus (exact to_indexAddr (k := i) el49 rfl rfl rfl (by omega))))
      (repeat (((with_reducible apply Wseq.stg (op := Op.fieldAddr _ _ _)); rfl; exact to_fieldAddr (fa_ rfl) rfl)))
      ((with_reducible apply Wseq.stg); (focus rfl); (focus (exact to_load (pl_ rfl) rfl D1 (by omega) g3)))
      (repeat (first | (with_reducible refine Then.go ?_) | (with_reducible refine Then.rt ?_) | (with_reducible refine Out.rt ?_) | (with_reducible refine Wx.seq ?_) | (with_reducible refine Wx.block ?_) | (with_reducible refine Wx.ret ?_) | (with_reducible refine Wx.reg ?_) | (refine Wx.condT rfl (by rfl) ?_) | ((with_reducible refine Wseq.nil ?_); intro e he; (simp only [ke, Nat.testBit, Nat.reduceShiftRight, Nat.reduceAnd, Nat.reduceBNe, Nat.reduceEqDiff, Nat.reduceAdd, ↓reduceIte, reduceCtorEq, Bool.false_eq_true] at he; subst he)) | ((with_reducible apply Wseq.mv); rfl; (intro v hv; (simp only [kv, Nat.reduceEqDiff, eq_self, ↓reduceIte, reduceCtorEq, List.map_cons, List.map_nil] at hv); subst hv)) | ((with_reducible apply Wseq.as); rfl; (intro v hv; (simp only [kv, Nat.reduceEqDiff, eq_self, ↓reduceIte, reduceCtorEq, List.map_cons, List.map_nil] at hv); subst hv)) | ((with_reducible apply Wseq.pkT); rfl; rfl; (intro v hv; (simp only [kv, Nat.reduceEqDiff, eq_self, ↓reduceIte, reduceCtorEq, List.map_cons, List.map_nil] at hv); subst hv)) | ((with_reducible apply Wseq.stg (op := Op.binOp BinOp.lss _ _ _ _)); rfl; exact to_lssT rfl rfl (by omega)) | (refine Wseq.no rfl ?_)))
      refine ⟨.inr rfl, Wres.one rfl ⟨⟨by rw [hz]; rfl, ?_⟩, ?_⟩⟩
      · unfold putL
        rw [hz, if_neg (by decide)]
        exact q1.wide fun b hb => .inl hb
      · (dsimp only; exact Ext.of (by omega) (by ((repeat (apply Fresh.put; omega)); ((assumption)))) (by (repeat ((assumption)))) (by (repeat (first | (assumption) | (apply Lg.cons; (focus ((right; (simp; done)))))))) (by (repeat ((assumption)))))
    by_cases e2 : 1000 < id
    · have hz : putZ id seq pay M = 2 := by unfold putZ; rw [if_pos (.inr e2)]
      (repeat (first | (with_reducible refine Then.go ?_) | (with_reducible refine Wx.seq ?_) | (with_reducible refine Wx.reg ?_) | (refine Wx.condT rfl (by rfl) ?_) | ((with_reducible refine Wseq.nil ?_); intro e he; (simp only [ke, Nat.testBit, Nat.reduceShiftRight, Nat.reduceAnd, Nat.reduceBNe, Nat.reduceEqDiff, Nat.reduceAdd, ↓reduceIte, reduceCtorEq, Bool.false_eq_true] at he; subst he)) | ((with_reducible apply Wseq.mv); rfl; (intro v hv; (simp only [kv, Nat.reduceEqDiff, eq_self, ↓reduceIte, reduceCtorEq, List.map_cons, List.map_nil] at hv); subst hv)) | ((with_reducible apply Wseq.as); rfl; (intro v hv; (simp only [kv, Nat.reduceEqDiff, eq_self, ↓reduceIte, reduceCtorEq, List.map_cons, List.map_nil] at hv); subst hv)) | ((with_reducible apply Wseq.stg (op := Op.fieldAddr _ _ _)); rfl; exact to_fieldAddr (fa_ rfl) rfl) | ((with_reducible apply Wseq.stg (op := Op.load _ _)); rfl; exact to_load (pl_ rfl) rfl (by (repeat ((apply Has.cel; assumption)))) (by omega) (by rfl)) | ((with_reducible apply Wseq.stg (op := Op.nilCheck _)); rfl; exact to_nilCheck rfl) | ((with_reducible apply Wseq.stg (op := Op.binOp BinOp.geq _ _ _ _)); rfl; exact to_geqT rfl rfl (by omega))))
      ((with_reducible apply Wseq.stg); (focus rfl); (focus (exact to_indexAddr (k := i) el49 rfl rfl rfl (by omega))))
      (repeat (((with_reducible apply Wseq.stg (op := Op.fieldAddr _ _ _)); rfl; exact to_fieldAddr (fa_ rfl) rfl)))
      ((with_reducible apply Wseq.stg); (focus rfl); (focus (exact to_load (pl_ rfl) rfl D1 (by omega) g3)))
      (repeat (first | (with_reducible refine Then.go ?_) | (with_reducible refine Then.rt ?_) | (with_reducible refine Out.rt ?_) | (with_reducible refine Wx.seq ?_) | (with_reducible refine Wx.block ?_) | (with_reducible refine Wx.ret ?_) | (with_reducible refine Wx.reg ?_) | (refine Wx.condT rfl (by rfl) ?_) | ((with_reducible refine Wseq.nil ?_); intro e he; (simp only [ke, Nat.testBit, Nat.reduceShiftRight, Nat.reduceAnd, Nat.reduceBNe, Nat.reduceEqDiff, Nat.reduceAdd, ↓reduceIte, reduceCtorEq, Bool.false_eq_true] at he; subst he)) | ((with_reducible apply Wseq.mv); rfl; (intro v hv; (simp only [kv, Nat.reduceEqDiff, eq_self, ↓reduceIte, reduceCtorEq, List.map_cons, List.map_nil] at hv); subst hv)) | ((with_reducible apply Wseq.as); rfl; (intro v hv; (simp only [kv, Nat.reduceEqDiff, eq_self, ↓reduceIte, reduceCtorEq, List.map_cons, List.map_nil] at hv); subst hv)) | ((with_reducible apply Wseq.pkF); rfl; rfl; (intro v hv; (simp only [kv, Nat.reduceEqDiff, eq_self, ↓reduceIte, reduceCtorEq, List.map_cons, List.map_nil] at hv); subst hv)) | ((with_reducible apply Wseq.stg (op := Op.binOp BinOp.lss _ _ _ _)); rfl; exact to_lssF rfl rfl (by omega)) | ((with_reducible apply Wseq.stg (op := Op.binOp BinOp.gtr _ _ _ _)); rfl; exact to_gtrT rfl rfl (by omega))))
      refine ⟨.inr rfl, Wres.one rfl ⟨⟨by rw [hz]; rfl, ?_⟩, ?_⟩⟩
      · unfold putL
        rw [hz, if_neg (by decide)]
        exact q1.wide fun b hb => .inl hb
      · (dsimp only; exact Ext.of (by omega) (by ((repeat (apply Fresh.put; omega)); ((assumption)))) (by (repeat ((assumption)))) (by (repeat (first | (assumption) | (apply Lg.cons; (focus ((right; (simp; done)))))))) (by (repeat ((assumption)))))
    by_cases e3 : 40 < pay.size
    · have hz : putZ id seq pay M = 11 := by unfold putZ; rw [if_neg (by omega), if_pos e3]
      (repeat (first | (with_reducible refine Then.go ?_) | (with_reducible refine Wx.seq ?_) | (with_reducible refine Wx.reg ?_) | (refine Wx.condT rfl (by rfl) ?_) | ((with_reducible refine Wseq.nil ?_); intro e he; (simp only [ke, Nat.testBit, Nat.reduceShiftRight, Nat.reduceAnd, Nat.reduceBNe, Nat.reduceEqDiff, Nat.reduceAdd, ↓reduceIte, reduceCtorEq, Bool.false_eq_true] at he; subst he)) | ((with_reducible apply Wseq.mv); rfl; (intro v hv; (simp only [kv, Nat.reduceEqDiff, eq_self, ↓reduceIte, reduceCtorEq, List.map_cons, List.map_nil] at hv); subst hv)) | ((with_reducible apply Wseq.as); rfl; (intro v hv; (simp only [kv, Nat.reduceEqDiff, eq_self, ↓reduceIte, reduceCtorEq, List.map_cons, List.map_nil] at hv); subst hv)) | ((with_reducible apply Wseq.stg (op := Op.fieldAddr _ _ _)); rfl; exact to_fieldAddr (fa_ rfl) rfl) | ((with_reducible apply Wseq.stg (op := Op.load _ _)); rfl; exact to_load (pl_ rfl) rfl (by (repeat ((apply Has.cel; assumption)))) (by omega) (by rfl)) | ((with_reducible apply Wseq.stg (op := Op.nilCheck _)); rfl; exact to_nilCheck rfl) | ((with_reducible apply Wseq.stg (op := Op.binOp BinOp.geq _ _ _ _)); rfl; exact to_geqT rfl rfl (by omega))))
      ((with_reducible apply Wseq.stg); (focus rfl); (focus (exact to_indexAddr (k := i) el49 rfl rfl rfl (by omega))))
      (repeat (((with_reducible apply Wseq.stg (op := Op.fieldAddr _ _ _)); rfl; exact to_fieldAddr (fa_ rfl) rfl)))
      ((with_reducible apply Wseq.stg); (focus rfl); (focus (exact to_load (pl_ rfl) rfl D1 (by omega) g3)))
      (repeat (first | (with_reducible refine Then.go ?_) | (with_reducible refine Then.rt ?_) | (with_reducible refine Out.rt ?_) | (with_reducible refine Wx.seq ?_) | (with_reducible refine Wx.block ?_) | (with_reducible refine Wx.ret ?_) | (with_reducible refine Wx.reg ?_) | (refine Wx.condT rfl (by rfl) ?_) | (refine Wx.condF rfl (by rfl) ?_) | ((with_reducible refine Wseq.nil ?_); intro e he; (simp only [ke, Nat.testBit, Nat.reduceShiftRight, Nat.reduceAnd, Nat.reduceBNe, Nat.reduceEqDiff, Nat.reduceAdd, ↓reduceIte, reduceCtorEq, Bool.false_eq_true] at he; subst he)) | ((with_reducible apply Wseq.mv); rfl; (intro v hv; (simp only [kv, Nat.reduceEqDiff, eq_self, ↓reduceIte, reduceCtorEq, List.map_cons, List.map_nil] at hv); subst hv)) | ((with_reducible apply Wseq.as); rfl; (intro v hv; (simp only [kv, Nat.reduceEqDiff, eq_self, ↓reduceIte, reduceCtorEq, List.map_cons, List.map_nil] at hv); subst hv)) | ((with_reducible apply Wseq.pkF); rfl; rfl; (intro v hv; (simp only [kv, Nat.reduceEqDiff, eq_self, ↓reduceIte, reduceCtorEq, List.map_cons, List.map_nil] at hv); subst hv)) | ((with_reducible apply Wseq.stg (op := Op.call ⟨Callee.builtin Builtin.len, _, _⟩)); rfl; exact to_lenStr (sr_ rfl) rfl) | ((with_reducible apply Wseq.stg (op := Op.binOp BinOp.lss _ _ _ _)); rfl; exact to_lssF rfl rfl (by omega)) | ((with_reducible apply Wseq.stg (op := Op.binOp BinOp.gtr _ _ _ _)); rfl; exact to_gtrT rfl rfl (by omega)) | ((with_reducible apply Wseq.stg (op := Op.binOp BinOp.gtr _ _ _ _)); rfl; exact to_gtrF rfl rfl (by omega))))
      refine ⟨.inr rfl, Wres.one rfl ⟨⟨by rw [hz]; rfl, ?_⟩, ?_⟩⟩
      · unfold putL
        rw [hz, if_neg (by decide)]
        exact q1.wide fun b hb => .inl hb
      · (dsimp only; exact Ext.of (by omega) (by ((repeat (apply Fresh.put; omega)); ((assumption)))) (by (repeat ((assumption)))) (by (repeat (first | (assumption) | (apply Lg.cons; (focus ((right; (simp; done)))))))) (by (repeat ((assumption)))))
    by_cases e4 : seq ≤ x.seq
    · have hz : putZ id seq pay M = 1 := by unfold putZ; rw [if_neg (by omega), if_neg e3, hsq, if_pos e4]
      (repeat (first | (with_reducible refine Then.go ?_) | (with_reducible refine Wx.seq ?_) | (with_reducible refine Wx.reg ?_) | (refine Wx.condT rfl (by rfl) ?_) | ((with_reducible refine Wseq.nil ?_); intro e he; (simp only [ke, Nat.testBit, Nat.reduceShiftRight, Nat.reduceAnd, Nat.reduceBNe, Nat.reduceEqDiff, Nat.reduceAdd, ↓reduceIte, reduceCtorEq, Bool.false_eq_true] at he; subst he)) | ((with_reducible apply Wseq.mv); rfl; (intro v hv; (simp only [kv, Nat.reduceEqDiff, eq_self, ↓reduceIte, reduceCtorEq, List.map_cons, List.map_nil] at hv); subst hv)) | ((with_reducible apply Wseq.as); rfl; (intro v hv; (simp only [kv, Nat.reduceEqDiff, eq_self, ↓reduceIte, reduceCtorEq, List.map_cons, List.map_nil] at hv); subst hv)) | ((with_reducible apply Wseq.stg (op := Op.fieldAddr _ _ _)); rfl; exact to_fieldAddr (fa_ rfl) rfl) | ((with_reducible apply Wseq.stg (op := Op.load _ _)); rfl; exact to_load (pl_ rfl) rfl (by (repeat ((apply Has.cel; assumption)))) (by omega) (by rfl)) | ((with_reducible apply Wseq.stg (op := Op.nilCheck _)); rfl; exact to_nilCheck rfl) | ((with_reducible apply Wseq.stg (op := Op.binOp BinOp.geq _ _ _ _)); rfl; exact to_geqT rfl rfl (by omega))))
      ((with_reducible apply Wseq.stg); (focus rfl); (focus (exact to_indexAddr (k := i) el49 rfl rfl rfl (by omega))))
      (repeat (((with_reducible apply Wseq.stg (op := Op.fieldAddr _ _ _)); rfl; exact to_fieldAddr (fa_ rfl) rfl)))
      ((with_reducible apply Wseq.stg); (focus rfl); (focus (exact to_load (pl_ rfl) rfl D1 (by omega) g3)))
      (repeat (first | (with_reducible refine Then.go ?_) | (with_reducible refine Then.rt ?_) | (with_reducible refine Out.rt ?_) | (with_reducible refine Wx.seq ?_) | (with_reducible refine Wx.block ?_) | (with_reducible refine Wx.ret ?_) | (with_reducible refine Wx.reg ?_) | (refine Wx.condT rfl (by rfl) ?_) | (refine Wx.condF rfl (by rfl) ?_) | ((with_reducible refine Wseq.nil ?_); intro e he; (simp only [ke, Nat.testBit, Nat.reduceShiftRight, Nat.reduceAnd, Nat.reduceBNe, Nat.reduceEqDiff, Nat.reduceAdd, ↓reduceIte, reduceCtorEq, Bool.false_eq_true] at he; subst he)) | ((with_reducible apply Wseq.mv); rfl; (intro v hv; (simp only [kv, Nat.reduceEqDiff, eq_self, ↓reduceIte, reduceCtorEq, List.map_cons, List.map_nil] at hv); subst hv)) | ((with_reducible apply Wseq.as); rfl; (intro v hv; (simp only [kv, Nat.reduceEqDiff, eq_self, ↓reduceIte, reduceCtorEq, List.map_cons, List.map_nil] at hv); subst hv)) | ((with_reducible apply Wseq.pkF); rfl; rfl; (intro v hv; (simp only [kv, Nat.reduceEqDiff, eq_self, ↓reduceIte, reduceCtorEq, List.map_cons, List.map_nil] at hv); subst hv)) | ((with_reducible apply Wseq.stg (op := Op.call ⟨Callee.builtin Builtin.len, _, _⟩)); rfl; exact to_lenStr (sr_ rfl) rfl) | ((with_reducible apply Wseq.stg (op := Op.binOp BinOp.lss _ _ _ _)); rfl; exact to_lssF rfl rfl (by omega)) | ((with_reducible apply Wseq.stg (op := Op.binOp BinOp.leq _ _ _ _)); rfl; exact to_leqT rfl rfl (by omega)) | ((with_reducible apply Wseq.stg (op := Op.binOp BinOp.gtr _ _ _ _)); rfl; exact to_gtrF rfl rfl (by omega))))
      refine ⟨.inr rfl, Wres.one rfl ⟨⟨by rw [hz]; rfl, ?_⟩, ?_⟩⟩
      · unfold putL
        rw [hz, if_neg (by decide)]
        exact q1.wide fun b hb => .inl hb
      · (dsimp only; exact Ext.of (by omega) (by ((repeat (apply Fresh.put; omega)); ((assumption)))) (by (repeat ((assumption)))) (by (repeat (first | (assumption) | (apply Lg.cons; (focus ((right; (simp; done)))))))) (by (repeat ((assumption)))))
    have hz : putZ id seq pay M = 0 := by unfold putZ; rw [if_neg (by omega), if_neg e3, hsq, if_neg e4]
    (repeat (first | (with_reducible refine Then.go ?_) | (with_reducible refine Wx.seq ?_) | (with_reducible refine Wx.reg ?_) | (refine Wx.condT rfl (by rfl) ?_) | ((with_reducible refine Wseq.nil ?_); intro e he; (simp only [ke, Nat.testBit, Nat.reduceShiftRight, Nat.reduceAnd, Nat.reduceBNe, Nat.reduceEqDiff, Nat.reduceAdd, ↓reduceIte, reduceCtorEq, Bool.false_eq_true] at he; subst he)) | ((with_reducible apply Wseq.mv); rfl; (intro v hv; (simp only [kv, Nat.reduceEqDiff, eq_self, ↓reduceIte, reduceCtorEq, List.map_cons, List.map_nil] at hv); subst hv)) | ((with_reducible apply Wseq.as); rfl; (intro v hv; (simp only [kv, Nat.reduceEqDiff, eq_self, ↓reduceIte, reduceCtorEq, List.map_cons, List.map_nil] at hv); subst hv)) | ((with_reducible apply Wseq.stg (op := Op.fieldAddr _ _ _)); rfl; exact to_fieldAddr (fa_ rfl) rfl) | ((with_reducible apply Wseq.stg (op := Op.load _ _)); rfl; exact to_load (pl_ rfl) rfl (by (repeat ((apply Has.cel; assumption)))) (by omega) (by rfl)) | ((with_reducible apply Wseq.stg (op := Op.nilCheck _)); rfl; exact to_nilCheck rfl) | ((with_reducible apply Wseq.stg (op := Op.binOp BinOp.geq _ _ _ _)); rfl; exact to_geqT rfl rfl (by omega))))
    ((with_reducible apply Wseq.stg); (focus rfl); (focus (exact to_indexAddr (k := i) el49 rfl rfl rfl (by omega))))
    (repeat (((with_reducible apply Wseq.stg (op := Op.fieldAddr _ _ _)); rfl; exact to_fieldAddr (fa_ rfl) rfl)))
    ((with_reducible apply Wseq.stg); (focus rfl); (focus (exact to_load (pl_ rfl) rfl D1 (by omega) g3)))
    (repeat (first | (with_reducible refine Then.go ?_) | (with_reducible refine Out.go ?_) | (with_reducible refine Wx.seq ?_) | (with_reducible refine Wx.skip ?_) | (with_reducible refine Wx.block ?_) | (with_reducible refine Wx.reg ?_) | (refine Wx.condF rfl (by rfl) ?_) | ((with_reducible refine Wseq.nil ?_); intro e he; (simp only [ke, Nat.testBit, Nat.reduceShiftRight, Nat.reduceAnd, Nat.reduceBNe, Nat.reduceEqDiff, Nat.reduceAdd, ↓reduceIte, reduceCtorEq, Bool.false_eq_true] at he; subst he)) | ((with_reducible apply Wseq.mv); rfl; (intro v hv; (simp only [kv, Nat.reduceEqDiff, eq_self, ↓reduceIte, reduceCtorEq, List.map_cons, List.map_nil] at hv); subst hv)) | ((with_reducible apply Wseq.as); rfl; (intro v hv; (simp only [kv, Nat.reduceEqDiff, eq_self, ↓reduceIte, reduceCtorEq, List.map_cons, List.map_nil] at hv); subst hv)) | ((with_reducible apply Wseq.pkF); rfl; rfl; (intro v hv; (simp only [kv, Nat.reduceEqDiff, eq_self, ↓reduceIte, reduceCtorEq, List.map_cons, List.map_nil] at hv); subst hv)) | ((with_reducible apply Wseq.stg (op := Op.call ⟨Callee.builtin Builtin.len, _, _⟩)); rfl; exact to_lenStr (sr_ rfl) rfl) | ((with_reducible apply Wseq.stg (op := Op.binOp BinOp.lss _ _ _ _)); rfl; exact to_lssF rfl rfl (by omega)) | ((with_reducible apply Wseq.stg (op := Op.binOp BinOp.leq _ _ _ _)); rfl; exact to_leqF rfl rfl (by omega)) | ((with_reducible apply Wseq.stg (op := Op.binOp BinOp.gtr _ _ _ _)); rfl; exact to_gtrF rfl rfl (by omega))))
    refine Wseq.call rfl rfl (copyVec_spec H (by ((repeat (apply Fresh.put; omega)); ((assumption)))) (Row.keepF hv hf fun b hb => K1 b hb (fun q => q)) hn) ?_
    rintro v2 h2 c2 r2 w2 ⟨o2, x2⟩
    have y2 := x2.c
    dsimp only at y2 o2
    have f2 : Fresh h2 c2 := x2.fresh
    obtain ⟨a2, k2, rfl⟩ := o2.val
    have K2 := Kp.ext (W := fun _ => False) (h := h) (c := c) K1 x2 (by omega) (fun _ _ q => q)
    have lr2 := Lg.extR (R := fun _ => True) (c := c) (by (repeat (first | (assumption) | (apply Lg.cons; (focus ((right; (simp; done)))))))) x2 (fun _ _ q => trivial)
    have lw2 := Lg.extW (W := U) (c := c) (by (repeat ((assumption)))) x2 (fun _ _ q => q.elim)
    have q2 : RefM h2 p M U := q1.keep f1 fun b hb hl => x2.get hl (fun q => q)
    (repeat (first | ((with_reducible apply Wseq.mv); rfl; (intro v hv; (simp only [kv, Nat.reduceEqDiff, eq_self, ↓reduceIte, reduceCtorEq, List.map_cons, List.map_nil] at hv); subst hv)) | ((with_reducible apply Wseq.bd); rfl; exact (bt_ rfl); (intro v hv; (simp only [kv, Nat.reduceEqDiff, eq_self, ↓reduceIte, reduceCtorEq, List.map_cons, List.map_nil] at hv); subst hv); refine ⟨_, rfl, ?_⟩)))
    refine Wseq.call rfl rfl (lay_spec H (by ((repeat (apply Fresh.put; omega)); ((assumption)))) (U := fun b => U b ∨ c ≤ b ∧ b < c2) q2 (fun b hb => .inl hb) (it := ⟨id, .slice a2 k k2, zs.map (Value.int .i32), pay, seq, false⟩) (by dsimp only; omega) ⟨zs, rfl⟩ (by dsimp only; rw [List.length_map, hx]; exact o2.low (Nat.zero_le _)) (fun b hb => ?_)) ?_
    · obtain ⟨u1, u2⟩ := o2.blk hb
      have u3 := u2.lt f2
      exact ⟨.inr ⟨by omega, u3⟩, fun e => by have := hlt b e; omega⟩
    rintro v3 h3 c3 r3 w3 ⟨⟨rfl, q3⟩, x3⟩
    have y3 := x3.c
    dsimp only at y3 q3
    have f3 : Fresh h3 c3 := x3.fresh
    have kp3 := Kp.ext (W := U) (h := h) (c := c) (fun b hb _ => K2 b hb (fun q => q)) x3 (by omega) (fun _ _ q => q)
    have lr3 := Lg.extR (R := fun _ => True) (c := c) (by (repeat ((assumption)))) x3 (fun _ _ q => trivial)
    have lw3 := Lg.extW (W := U) (c := c) (by (repeat ((assumption)))) x3 (fun _ _ q => q)
    (repeat (first | (with_reducible refine Then.go ?_) | (with_reducible refine Wx.seq ?_) | (with_reducible refine Wx.ret ?_) | (with_reducible refine Wx.reg ?_) | ((with_reducible refine Wseq.nil ?_); intro e he; (simp only [ke, Nat.testBit, Nat.reduceShiftRight, Nat.reduceAnd, Nat.reduceBNe, Nat.reduceEqDiff, Nat.reduceAdd, ↓reduceIte, reduceCtorEq, Bool.false_eq_true] at he; subst he)) | ((with_reducible apply Wseq.as); rfl; (intro v hv; (simp only [kv, Nat.reduceEqDiff, eq_self, ↓reduceIte, reduceCtorEq, List.map_cons, List.map_nil] at hv); subst hv))))
    refine ⟨.inr rfl, Wres.one rfl ⟨⟨by rw [hz]; rfl, ?_⟩, ?_⟩⟩
    · unfold putL
      rw [if_pos hz]
      exact q3.wide fun b hb => by rcases hb with (hb | hb) | hb <;> first | exact .inl hb | exact .inr ⟨by omega, by dsimp only; omega⟩
    · (dsimp only; exact Ext.of (by omega) (by ((repeat (apply Fresh.put; omega)); ((assumption)))) (by (repeat ((assumption)))) (by (repeat ((assumption)))) (by (repeat ((assumption)))))

theorem rdel_spec (H : Std sm) {h : T AObj} {c : Nat} {rl wl : List Nat} (hf : Fresh h c) {p : Nat} {M : List Rc} {U : Nat → Prop} (q : RefM h p M U) (hlt : ∀ b, U b → b < c) (id seq : Int) :
    ∃ r s', FnTo (Cs sm) eg 33 [.pointer (some ⟨p, 0, none⟩), .int .i64 id, .int .i64 seq] ⟨h, c, rl, wl⟩ r s' ∧ (r = .int .i64 (delZ id seq M) ∧ RefM s'.h p (delL id seq M) (fun b => U b ∨ c ≤ b ∧ b < s'.c)) ∧ Ext ⟨h, c, rl, wl⟩ s' (fun _ => True) U := by
  have hml := q.len
  obtain ⟨v0, hp0, hI0⟩ := q.view hf
  have hpc := hp0.lt hf
  refine Fn.go (H 33 rfl) ex33 fn33 km33 rfl rfl ?_
  intro e he
  (simp only [ke, Nat.testBit, Nat.reduceShiftRight, Nat.reduceAnd, Nat.reduceBNe, Nat.reduceEqDiff, Nat.reduceAdd, ↓reduceIte, reduceCtorEq, Bool.false_eq_true] at he; subst he)
  (repeat (first | (with_reducible refine Then.go ?_) | (with_reducible refine Wx.seq ?_) | (with_reducible refine Wx.reg ?_) | ((with_reducible refine Wseq.nil ?_); intro e he; (simp only [ke, Nat.testBit, Nat.reduceShiftRight, Nat.reduceAnd, Nat.reduceBNe, Nat.reduceEqDiff, Nat.reduceAdd, ↓reduceIte, reduceCtorEq, Bool.false_eq_true] at he; subst he)) | ((with_reducible apply Wseq.mv); rfl; (intro v hv; (simp only [kv, Nat.reduceEqDiff, eq_self, ↓reduceIte, reduceCtorEq, List.map_cons, List.map_nil] at hv); subst hv)) | ((with_reducible apply Wseq.as); rfl; (intro v hv; (simp only [kv, Nat.reduceEqDiff, eq_self, ↓reduceIte, reduceCtorEq, List.map_cons, List.map_nil] at hv); subst hv))))
  refine Wseq.call rfl rfl (rget_spec H (by ((repeat (apply Fresh.put; omega)); ((assumption)))) hp0 hI0 (by omega) id) ?_
  rintro v1 h1 c1 r1 w1 ⟨hr, x1⟩
  have y1 := x1.c
  dsimp only at y1
  have f1 : Fresh h1 c1 := x1.fresh
  have K1 := Kp.ext (W := fun _ => False) (h := h) (c := c) Kp.refl x1 (by omega) (fun _ _ q => q)
  have kpU : Kp h h1 c U := fun b hb _ => K1 b hb (fun q => q)
  have lr := Lg.extR (R := fun _ => True) (c := c) Lg.nil x1 (fun _ _ q => trivial)
  have lw := Lg.extW (W := U) (c := c) Lg.nil x1 (fun _ _ q => q.elim)
  have q1 : RefM h1 p M U := q.keep hf fun b hb hl => K1 b hl (fun q => q)
  rcases hr with ⟨hg, rfl⟩ | ⟨x, aw, kw, hg, rfl, _⟩
  · have hz : delZ id seq M = 3 := by
      unfold delZ
      unfold liveG at hg
      cases h9 : getM id M with
      | none => rfl
      | some r =>
        rw [h9] at hg
        simp only at hg ⊢
        by_cases h8 : r.gone = true
        · rw [if_pos h8]
        · rw [if_neg h8] at hg; cases hg
    (repeat (first | (with_reducible refine Then.go ?_) | (with_reducible refine Then.rt ?_) | (with_reducible refine Wx.seq ?_) | (with_reducible refine Wx.ret ?_) | (with_reducible refine Wx.reg ?_) | (refine Wx.condT rfl (by rfl) ?_) | ((with_reducible refine Wseq.nil ?_); intro e he; (simp only [ke, Nat.testBit, Nat.reduceShiftRight, Nat.reduceAnd, Nat.reduceBNe, Nat.reduceEqDiff, Nat.reduceAdd, ↓reduceIte, reduceCtorEq, Bool.false_eq_true] at he; subst he)) | ((with_reducible apply Wseq.mv); rfl; (intro v hv; (simp only [kv, Nat.reduceEqDiff, eq_self, ↓reduceIte, reduceCtorEq, List.map_cons, List.map_nil] at hv); subst hv)) | ((with_reducible apply Wseq.as); rfl; (intro v hv; (simp only [kv, Nat.reduceEqDiff, eq_self, ↓reduceIte, reduceCtorEq, List.map_cons, List.map_nil] at hv); subst hv)) | ((with_reducible apply Wseq.so); rfl; exact (sz_ rfl); rfl; exact (by (repeat ((exact Has.same)))); omega; (intro v hv; (simp only [kv, Nat.reduceEqDiff, eq_self, ↓reduceIte, reduceCtorEq, List.map_cons, List.map_nil] at hv); subst hv); refine ⟨_, _, (by ((exact cellsA_agg _))), rfl, rfl, ?_⟩) | ((with_reducible apply Wseq.stg (op := Op.alloc _)); rfl; exact to_alloc (ze_ rfl) (by ((exact cellsA_agg _))) (by ((repeat (apply Fresh.put; omega)); ((assumption))))) | ((with_reducible apply Wseq.stg (op := Op.extract _ _)); rfl; exact to_extract rfl rfl) | ((with_reducible apply Wseq.stg (op := Op.unOp UnOp.not _ _)); rfl; exact to_notF rfl)))
    refine ⟨.inr rfl, Wres.one rfl ⟨⟨by rw [hz]; rfl, ?_⟩, ?_⟩⟩
    · unfold delL
      rw [hz, if_neg (by decide)]
      exact (q1.keep f1 fun b hb hl => by rw [get_other (by omega), get_other (by omega)]).wide fun b hb => .inl hb
    · (dsimp only; exact Ext.of (by omega) (by ((repeat (apply Fresh.put; omega)); ((exact Fresh.up (by assumption) (by omega))))) (by (repeat (first | (assumption) | (apply Kp.set; (focus (left; omega)))))) (by (repeat (first | (assumption) | (apply Lg.cons; (focus (left; omega)))))) (by (repeat (first | (assumption) | (apply Lg.cons; (focus (left; omega)))))))
  · obtain ⟨hx1, hx2⟩ : getM id M = some x ∧ ¬x.gone = true := by
      unfold liveG at hg
      cases h9 : getM id M with
      | none => rw [h9] at hg; cases hg
      | some r =>
        rw [h9] at hg
        simp only at hg
        by_cases h8 : r.gone = true
        · rw [if_pos h8] at hg; cases hg
        · rw [if_neg h8] at hg
          cases hg
          exact ⟨rfl, h8⟩
    obtain ⟨hxm, hxi⟩ := getM_mem hx1
    obtain ⟨g1, g2, _⟩ := q.ok x hxm
    by_cases e1 : seq ≤ x.seq
    · have hz : delZ id seq M = 1 := by unfold delZ; rw [hx1]; simp only; rw [if_neg hx2, if_pos e1]
      (repeat (first | (with_reducible refine Then.go ?_) | (with_reducible refine Then.rt ?_) | (with_reducible refine Wx.seq ?_) | (with_reducible refine Wx.skip ?_) | (with_reducible refine Wx.ret ?_) | (with_reducible refine Wx.reg ?_) | (refine Wx.condT rfl (by rfl) ?_) | (refine Wx.condF rfl (by rfl) ?_) | ((with_reducible refine Wseq.nil ?_); intro e he; (simp only [ke, Nat.testBit, Nat.reduceShiftRight, Nat.reduceAnd, Nat.reduceBNe, Nat.reduceEqDiff, Nat.reduceAdd, ↓reduceIte, reduceCtorEq, Bool.false_eq_true] at he; subst he)) | ((with_reducible apply Wseq.mv); rfl; (intro v hv; (simp only [kv, Nat.reduceEqDiff, eq_self, ↓reduceIte, reduceCtorEq, List.map_cons, List.map_nil] at hv); subst hv)) | ((with_reducible apply Wseq.as); rfl; (intro v hv; (simp only [kv, Nat.reduceEqDiff, eq_self, ↓reduceIte, reduceCtorEq, List.map_cons, List.map_nil] at hv); subst hv)) | ((with_reducible apply Wseq.so); rfl; exact (sz_ rfl); rfl; exact (by (repeat ((exact Has.same)))); omega; (intro v hv; (simp only [kv, Nat.reduceEqDiff, eq_self, ↓reduceIte, reduceCtorEq, List.map_cons, List.map_nil] at hv); subst hv); refine ⟨_, _, (by ((exact cellsA_agg _))), rfl, rfl, ?_⟩) | ((with_reducible apply Wseq.stg (op := Op.fieldAddr _ _ _)); rfl; exact to_fieldAddr (fa_ rfl) rfl) | ((with_reducible apply Wseq.stg (op := Op.load _ _)); rfl; exact to_load (pl_ rfl) rfl (by (repeat ((exact Has.same.cel)))) (by omega) (by rfl)) | ((with_reducible apply Wseq.stg (op := Op.alloc _)); rfl; exact to_alloc (ze_ rfl) (by ((exact cellsA_agg _))) (by ((repeat (apply Fresh.put; omega)); ((assumption))))) | ((with_reducible apply Wseq.stg (op := Op.extract _ _)); rfl; exact to_extract rfl rfl) | ((with_reducible apply Wseq.stg (op := Op.unOp UnOp.not _ _)); rfl; exact to_notT rfl) | ((with_reducible apply Wseq.stg (op := Op.binOp BinOp.leq _ _ _ _)); rfl; exact to_leqT rfl rfl (by omega))))
      refine ⟨.inr rfl, Wres.one rfl ⟨⟨by rw [hz]; rfl, ?_⟩, ?_⟩⟩
      · unfold delL
        rw [hz, if_neg (by decide)]
        exact (q1.keep f1 fun b hb hl => by rw [get_other (by omega), get_other (by omega)]).wide fun b hb => .inl hb
      · (dsimp only; exact Ext.of (by omega) (by ((repeat (apply Fresh.put; omega)); ((exact Fresh.up (by assumption) (by omega))))) (by (repeat (first | (assumption) | (apply Kp.set; (focus (left; omega)))))) (by (repeat (first | (assumption) | (apply Lg.cons; (focus (left; omega)))))) (by (repeat (first | (assumption) | (apply Lg.cons; (focus (left; omega)))))))
    have hz : delZ id seq M = 0 := by unfold delZ; rw [hx1]; simp only; rw [if_neg hx2, if_neg e1]
    have q2 : ∀ x y, RefM ((h1.set c1 x).set c1 y) p M U := fun x y => q1.keep f1 fun b hb hl => by rw [get_other (by omega), get_other (by omega)]
    (repeat (first | (with_reducible refine Then.go ?_) | (with_reducible refine Wx.seq ?_) | (with_reducible refine Wx.skip ?_) | (with_reducible refine Wx.reg ?_) | (refine Wx.condF rfl (by rfl) ?_) | ((with_reducible refine Wseq.nil ?_); intro e he; (simp only [ke, Nat.testBit, Nat.reduceShiftRight, Nat.reduceAnd, Nat.reduceBNe, Nat.reduceEqDiff, Nat.reduceAdd, ↓reduceIte, reduceCtorEq, Bool.false_eq_true] at he; subst he)) | ((with_reducible apply Wseq.mv); rfl; (intro v hv; (simp only [kv, Nat.reduceEqDiff, eq_self, ↓reduceIte, reduceCtorEq, List.map_cons, List.map_nil] at hv); subst hv)) | ((with_reducible apply Wseq.as); rfl; (intro v hv; (simp only [kv, Nat.reduceEqDiff, eq_self, ↓reduceIte, reduceCtorEq, List.map_cons, List.map_nil] at hv); subst hv)) | ((with_reducible apply Wseq.bd); rfl; exact (bt_ rfl); (intro v hv; (simp only [kv, Nat.reduceEqDiff, eq_self, ↓reduceIte, reduceCtorEq, List.map_cons, List.map_nil] at hv); subst hv); refine ⟨_, rfl, ?_⟩) | ((with_reducible apply Wseq.so); rfl; exact (sz_ rfl); rfl; exact (by (repeat ((exact Has.same)))); omega; (intro v hv; (simp only [kv, Nat.reduceEqDiff, eq_self, ↓reduceIte, reduceCtorEq, List.map_cons, List.map_nil] at hv); subst hv); refine ⟨_, _, (by ((exact cellsA_agg _))), rfl, rfl, ?_⟩) | ((with_reducible apply Wseq.stg (op := Op.fieldAddr _ _ _)); rfl; exact to_fieldAddr (fa_ rfl) rfl) | ((with_reducible apply Wseq.stg (op := Op.load _ _)); rfl; exact to_load (pl_ rfl) rfl (by (repeat ((exact Has.same.cel)))) (by omega) (by rfl)) | ((with_reducible apply Wseq.stg (op := Op.alloc _)); rfl; exact to_alloc (ze_ rfl) (by ((exact cellsA_agg _))) (by ((repeat (apply Fresh.put; omega)); ((assumption))))) | ((with_reducible apply Wseq.stg (op := Op.extract _ _)); rfl; exact to_extract rfl rfl) | ((with_reducible apply Wseq.stg (op := Op.unOp UnOp.not _ _)); rfl; exact to_notT rfl) | ((with_reducible apply Wseq.stg (op := Op.binOp BinOp.leq _ _ _ _)); rfl; exact to_leqF rfl rfl (by omega))))
    refine Wseq.call rfl rfl (lay_spec H (by ((repeat (apply Fresh.put; omega)); ((exact Fresh.up (by assumption) (by omega))))) (U := U) (q2 _ _) (fun b hb => hb) (it := ⟨id, .slice none 0 0, [], .empty, seq, true⟩) (by dsimp only; omega) ⟨[], rfl⟩ (.inl ⟨rfl, rfl, rfl⟩) (fun b hb => by cases hb)) ?_
    rintro v3 h3 c3 r3 w3 ⟨⟨rfl, q3⟩, x3⟩
    have y3 := x3.c
    dsimp only at y3 q3
    have f3 : Fresh h3 c3 := x3.fresh
    have kp3 := Kp.ext (W := U) (h := h) (c := c) (h1 := (h1.set c1 _).set c1 _) (by (repeat (first | (assumption) | (apply Kp.set; (focus (left; omega)))))) x3 (by omega) (fun _ _ q => q)
    have lr3 := Lg.extR (R := fun _ => True) (c := c) (by (repeat (first | (assumption) | (apply Lg.cons; (focus (left; omega)))))) x3 (fun _ _ q => trivial)
    have lw3 := Lg.extW (W := U) (c := c) (by (repeat (first | (assumption) | (apply Lg.cons; (focus (left; omega)))))) x3 (fun _ _ q => q)
    (repeat (first | (with_reducible refine Then.go ?_) | (with_reducible refine Wx.seq ?_) | (with_reducible refine Wx.ret ?_) | (with_reducible refine Wx.reg ?_) | ((with_reducible refine Wseq.nil ?_); intro e he; (simp only [ke, Nat.testBit, Nat.reduceShiftRight, Nat.reduceAnd, Nat.reduceBNe, Nat.reduceEqDiff, Nat.reduceAdd, ↓reduceIte, reduceCtorEq, Bool.false_eq_true] at he; subst he)) | ((with_reducible apply Wseq.as); rfl; (intro v hv; (simp only [kv, Nat.reduceEqDiff, eq_self, ↓reduceIte, reduceCtorEq, List.map_cons, List.map_nil] at hv); subst hv))))
    refine ⟨.inr rfl, Wres.one rfl ⟨⟨by rw [hz]; rfl, ?_⟩, ?_⟩⟩
    · unfold delL
      rw [if_pos hz]
      exact q3.wide fun b hb => by rcases hb with hb | hb <;> first | exact .inl hb | exact .inr ⟨by omega, by dsimp only; omega⟩
    · (dsimp only; exact Ext.of (by omega) (by ((repeat (apply Fresh.put; omega)); ((assumption)))) (by (repeat ((assumption)))) (by (repeat ((assumption)))) (by (repeat ((assumption)))))
end Go.Ab.Seat
