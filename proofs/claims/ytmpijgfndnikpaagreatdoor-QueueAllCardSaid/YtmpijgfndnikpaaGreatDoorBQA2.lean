/- QueueAll answers true (the abstract machine). -/
import Derived.Test.YtmpijgfndnikpaaGreatDoorBQA1
set_option linter.unusedVariables false
set_option linter.unusedSimpArgs false
namespace Go.Ab
section cut
variable {C : Ctx} {eg : TypeId → Bool} {km : Nat} {Q : Ex → Env → St → Prop}
/-- What lies between two parts of a code. -/
def CutE (J : L → St → Prop) (x : Ex) (e : Env) (s : St) : Prop := x = .normal ∧ ∃ k k1, e = .mk .nil k ∧ EqK k1 k ∧ J k1 s
theorem Wx.cutT {a b : Code} {e : Env} {s : St} (J : L → St → Prop) (hQ : Resp Q) (h1 : Wx C eg km a e s (CutE J)) (h2 : ∀ k s, J k s → Wx C eg km b (.mk .nil k) s Q) : Wx C eg km a e s (Then C eg km b Q) := by
  refine h1.mono fun x e' s' h => ?_
  obtain ⟨rfl, k, k1, rfl, hk, hJ⟩ := h
  exact Wx.swap hQ hk (h2 k1 s' hJ)
theorem CutE.go {J : L → St → Prop} {k : L} {s : St} (k1 : L) (h2 : EqK k1 k) (h3 : J k1 s) : CutE J .normal (.mk .nil k) s := ⟨rfl, k, k1, rfl, h2, h3⟩
end cut
end Go.Ab
namespace Go.Ab.Seat
open Go.Extern Go.Proofs
set_option linter.unusedSimpArgs false
set_option linter.unusedVariables false
set_option maxRecDepth 4000
set_option pp.deepTerms false
set_option pp.deepTerms.threshold 6

/-- Operations on a queue as they come in. -/
def Ops (h : T AObj) (oa : Option Addr) (n : Nat) : Prop := ∀ i, i < n → ∃ b o sp cs kd id va nv kv, ∃ zs : List Int, ∃ dr g, oa = some ⟨b, o, sp⟩ ∧ Cel h b cs ∧ nth cs (o + i * 5 + 0) = some (.int .i64 kd) ∧ subN (o + i * 5 + 1) 4 cs = some [.int .i64 id, .slice va nv kv, .int .u32 dr, .bool g] ∧
  Row h (.slice va nv kv) nv 1 (zs.map (Value.int .i32)) ∧ zs.length = nv ∧ nv ≤ kv ∧ (va = none → kv = 0) ∧ ∀ a, va = some a → a.spot = none ∨ a.spot = some 1

structure WRow (h : T AObj) (w : Value) (l : List Chg) (V : Nat → Prop) : Prop where
  row : LRow h w l
  sep : ∀ b, blkOf w = some b → V b
  vec : ∀ x ∈ l, Own h 0 x.vec x.xs.length x.xs
  vsep : ∀ x ∈ l, ∀ b, blkOf x.vec = some b → V b ∧ blkOf w ≠ some b

theorem WRow.val {h : T AObj} {v : Value} {l : List Chg} {V : Nat → Prop} (x : WRow h v l V) : ∃ a, v = .slice a l.length l.length := by
  rcases x.row with ⟨rfl, rfl⟩ | ⟨b, o, cs, rfl, _⟩
  · exact ⟨_, rfl⟩
  · exact ⟨_, rfl⟩

theorem WRow.keep {h h' : T AObj} {c : Nat} {w : Value} {l : List Chg} {V : Nat → Prop} (x : WRow h w l V) (hf : Fresh h c) (k : ∀ b, V b → b < c → h'.get b = h.get b) : WRow h' w l V := by
  refine ⟨?_, x.sep, fun y hy => (x.vec y hy).keep fun b hb => k b (x.vsep y hy b hb).1 (((x.vec y hy).blk hb).2.lt hf), x.vsep⟩
  rcases x.row with r | ⟨b, o, cs, rfl, h1, h2⟩
  · exact .inl r
  · exact .inr ⟨b, o, cs, rfl, (k b (x.sep b rfl) (h1.lt hf)).trans h1, h2⟩

theorem WRow.wide {h : T AObj} {w : Value} {l : List Chg} {V V' : Nat → Prop} (x : WRow h w l V) (k : ∀ b, V b → V' b) : WRow h w l V' :=
  ⟨x.row, fun b hb => k b (x.sep b hb), x.vec, fun y hy b hb => ⟨k b (x.vsep y hy b hb).1, (x.vsep y hy b hb).2⟩⟩

theorem Row.keepF {h h' : T AObj} {c : Nat} {v : Value} {n k : Nat} {xs : List Value} (x : Row h v n k xs) (hf : Fresh h c) (hk : ∀ b, b < c → h'.get b = h.get b) : Row h' v n k xs := by
  rcases x with x | ⟨b, o, sp, cap, cs, rfl, hc, hs⟩
  · exact .inl x
  · refine .inr ⟨b, o, sp, cap, cs, rfl, ?_, hs⟩
    have := hk b (hc.lt hf)
    unfold Cel Has at hc ⊢
    rw [this]; exact hc

theorem Row.cut {h : T AObj} {oa : Option Addr} {n cap : Nat} {xs : List Value} (x : Row h (.slice oa n cap) n 1 xs) {m : Nat} (hm : m ≤ n) : Row h (.slice oa m cap) m 1 (xs.take m) := by
  rcases x with ⟨rfl, rfl, a, c', e⟩ | ⟨b, o, sp, cap', cs, e, hc, hs⟩
  · obtain rfl : m = 0 := by omega
    exact .inl ⟨rfl, rfl, _, _, rfl⟩
  · cases e
    refine .inr ⟨b, o, sp, cap, cs, rfl, hc, ?_⟩
    obtain ⟨h1, h2, _⟩ := subN_some _ _ _ _ hs
    have e2 : xs = xs.take m ++ xs.drop m := (List.take_append_drop m xs).symm
    rw [e2, show n * 1 = m * 1 + (n - m) * 1 by omega] at hs
    exact (subN_app hs (by rw [List.length_take]; omega)).1

/-- What the loop keeps. -/
structure QI (h0 : T AObj) (c M : Nat) (h : T AObj) (c' : Nat) (qv : Value) (l : List Chg) (U : Nat → Prop) (w : Value) (lw : List Chg) (V : Nat → Prop) : Prop where
  f : Fresh h c'
  le : c + 1 ≤ c'
  kp : Kp h0 h c (fun _ => False)
  q : QueueR h c M qv l U
  U1 : ∀ b, U b → c ≤ b ∧ b < c'
  w : WRow h w lw V
  V1 : ∀ b, V b → c ≤ b ∧ b < c' ∧ ¬U b
  st : l.map Chg.strip = lw.map Chg.strip
  ints : ∀ x ∈ lw, ∃ zs : List Int, x.xs = zs.map (Value.int .i32) ∧ zs.length ≤ 8
  len : l.length ≤ M

theorem QI.keep {h0 : T AObj} {c M : Nat} {h h2 : T AObj} {c' c2 : Nat} {qv : Value} {l : List Chg} {U : Nat → Prop} {w : Value} {lw : List Chg} {V : Nat → Prop} (x : QI h0 c M h c' qv l U w lw V) (hf : Fresh h2 c2) (hc : c' ≤ c2) (K : Kp h h2 c' (fun _ => False)) : QI h0 c M h2 c2 qv l U w lw V :=
  ⟨hf, by have := x.le; omega, fun b hb _ => (K b (by have := x.le; omega) (fun q => q)).trans (x.kp b hb (fun q => q)), x.q.keep x.f fun b hb hlt => K b hlt (fun q => q), fun b hb => by have := x.U1 b hb; omega, x.w.keep x.f fun b hb hlt => K b hlt (fun q => q), fun b hb => by have := x.V1 b hb; exact ⟨by omega, by omega, this.2.2⟩, x.st, x.ints, x.len⟩

theorem QI.eqlen {h0 : T AObj} {c M : Nat} {h : T AObj} {c' : Nat} {qv : Value} {l : List Chg} {U : Nat → Prop} {w : Value} {lw : List Chg} {V : Nat → Prop} (x : QI h0 c M h c' qv l U w lw V) : l.length = lw.length := by
  have := congrArg List.length x.st
  simpa using this

def E9 (c M : Nat) (oa : Option Addr) (n k : Nat) (w : Value) (z : Int) (j9 j10 j11 j12 j13 j14 j30 j51 j70 j72 j111 j112 j128 j130 j131 j132 j143 j150 : Value) : L :=
  .cons 0 (.int .i64 (M : Int)) (.cons 1 (.slice oa n k) (.cons 4 (.bool false) (.cons 5 (.bool true) (.cons 6 (.pointer (some ⟨c, 0, none⟩)) (.cons 7 w (.cons 8 (.int .i64 z) (.cons 9 j9 (.cons 10 j10 (.cons 11 j11 (.cons 12 j12 (.cons 13 j13 (.cons 14 j14 (.cons 30 j30 (.cons 51 j51 (.cons 70 j70 (.cons 72 j72 (.cons 111 j111 (.cons 112 j112 (.cons 128 j128 (.cons 130 j130 (.cons 131 j131 (.cons 132 j132 (.cons 143 j143 (.cons 150 j150 (.cons 17 (.bool false) .nil)))))))))))))))))))))))))
def E92 (c M : Nat) (oa : Option Addr) (n k : Nat) (w : Value) (z : Int) (la : Option Addr) (len : Nat) (y : Int) (j9 j10 j11 j12 j14 j30 j51 j70 j72 j111 j112 j128 j132 j143 j150 : Value) : L :=
  .cons 0 (.int .i64 (M : Int)) (.cons 1 (.slice oa n k) (.cons 4 (.bool false) (.cons 5 (.bool true) (.cons 6 (.pointer (some ⟨c, 0, none⟩)) (.cons 7 w (.cons 8 (.int .i64 z) (.cons 9 j9 (.cons 10 j10 (.cons 11 j11 (.cons 12 j12 (.cons 13 (.slice la len len) (.cons 14 j14 (.cons 30 j30 (.cons 51 j51 (.cons 70 j70 (.cons 72 j72 (.cons 111 j111 (.cons 112 j112 (.cons 128 j128 (.cons 130 (.int .i64 (len : Int)) (.cons 131 (.int .i64 y) (.cons 132 j132 (.cons 143 j143 (.cons 150 j150 (.cons 17 (.bool false) .nil)))))))))))))))))))))))))

set_option maxHeartbeats 8000000 in
theorem queueAll_run (m0 : Int) {oa : Option Addr} {n k : Nat} {h : T AObj} {c : Nat} (hf : Fresh h c) (hg : Glob h) (hops : Ops h oa n) :
    ∃ v s', FnTo (Cs smQ) eg 9 [.int .i64 m0, .slice oa n k] ⟨h, c, [], []⟩ v s' ∧ v = .bool true := by
  have H := stdQ
  refine Fn.go (H 9 rfl) ex9 fn9 km9 rfl rfl ?_
  intro e he
  (simp only [envOf_eq, keepFrom_cons, keepFrom_nil, flushE_mk, flL_cons, flL_nil, st_cons, st_nil, Nat.testBit, Nat.reduceShiftRight, Nat.reduceAnd, Nat.reduceBNe, Nat.reduceEqDiff, Nat.reduceAdd, ↓reduceIte, reduceCtorEq, Bool.false_eq_true] at he; subst he)
  (repeat (first | (with_reducible refine Then.go ?_) | (with_reducible refine Wx.seq ?_) | (with_reducible refine Wx.reg ?_) | ((with_reducible refine Wseq.nil ?_); intro e he; (simp only [envOf_eq, keepFrom_cons, keepFrom_nil, flushE_mk, flL_cons, flL_nil, st_cons, st_nil, Nat.testBit, Nat.reduceShiftRight, Nat.reduceAnd, Nat.reduceBNe, Nat.reduceEqDiff, Nat.reduceAdd, ↓reduceIte, reduceCtorEq, Bool.false_eq_true] at he; subst he)) | ((with_reducible apply Wseq.as); (focus rfl); (intro v hv; (simp only [ev_tmp, ev_const, ev_global, ev_func, look_if, lk_nil, Nat.reduceEqDiff, eq_self, ↓reduceIte, reduceCtorEq, partsOf_arr, List.map_cons, List.map_nil] at hv); subst hv))))
  refine Wseq.call rfl rfl (begunQ (by ((repeat ((with_reducible apply Fresh.put); (focus omega))); (first | (with_reducible assumption) | (exact Fresh.up (by with_reducible assumption) (by omega))))) hg) ?_
  rintro v h1 c1 rl1 wl1 ⟨rfl, hs⟩
  cases hs
  (repeat (first | (with_reducible refine Then.go ?_) | (with_reducible refine Wx.seq ?_) | (with_reducible refine Wx.skip ?_) | (with_reducible refine Wx.reg ?_) | (refine Wx.condF rfl (by (first | rfl | (simp only [decide_eq_false_iff_not, Bool.not_eq_false', decide_eq_true_eq, Option.isNone_none, Option.isNone_some, Option.isSome_none, Option.isSome_some, beq_self_eq_true, Bool.not_true, Bool.not_false]; first | done | omega))) ?_) | ((with_reducible refine Wseq.nil ?_); intro e he; (simp only [envOf_eq, keepFrom_cons, keepFrom_nil, flushE_mk, flL_cons, flL_nil, st_cons, st_nil, Nat.testBit, Nat.reduceShiftRight, Nat.reduceAnd, Nat.reduceBNe, Nat.reduceEqDiff, Nat.reduceAdd, ↓reduceIte, reduceCtorEq, Bool.false_eq_true] at he; subst he)) | ((with_reducible apply Wseq.mv); (focus rfl); (intro v hv; (simp only [ev_tmp, ev_const, ev_global, ev_func, look_if, lk_nil, Nat.reduceEqDiff, eq_self, ↓reduceIte, reduceCtorEq, partsOf_arr, List.map_cons, List.map_nil] at hv); subst hv)) | ((with_reducible apply Wseq.as); (focus rfl); (intro v hv; (simp only [ev_tmp, ev_const, ev_global, ev_func, look_if, lk_nil, Nat.reduceEqDiff, eq_self, ↓reduceIte, reduceCtorEq, partsOf_arr, List.map_cons, List.map_nil] at hv); subst hv)) | ((with_reducible apply Wseq.stg (op := Op.unOp UnOp.not _ _)); (focus rfl); (focus (exact to_notT rfl)))))
  obtain ⟨M, hM⟩ : ∃ M : Nat, min (max m0 1) 2000 = (M : Int) := ⟨(min (max m0 1) 2000).toNat, by omega⟩
  have hM2 : max 1 (min m0 2000) = (M : Int) := by omega
  have hM1 : 1 ≤ M ∧ M ≤ 2000 := by omega
  refine Wseq.call rfl rfl (qnew_spec H (by ((repeat ((with_reducible apply Fresh.put); (focus omega))); (first | (with_reducible assumption) | (exact Fresh.up (by with_reducible assumption) (by omega))))) m0 M hM) ?_
  rintro v h1 c1 r1 w1 ⟨rfl, q1, x1⟩
  have y1 := x1.c
  dsimp only at q1 y1
  have f1 : Fresh h1 c1 := x1.fresh
  have lp := q1.ptr.lt f1
  have K1 := Kp.ext (W := fun _ => False) (h := h) (c := c) Kp.refl x1 (by omega) (fun _ _ q => q)
  have G : ∀ h' : T AObj, Kp h h' c (fun _ => False) → Glob h' := fun h' K => ⟨(K 0 (hg.g0.lt hf) (fun q => q)).trans hg.g0, (K 1 (hg.g1.lt hf) (fun q => q)).trans hg.g1⟩
  (repeat (first | (with_reducible refine Then.go ?_) | (with_reducible refine Wx.seq ?_) | (with_reducible refine Wx.block ?_) | (with_reducible refine Wx.reg ?_) | ((with_reducible refine Wseq.nil ?_); intro e he; (simp only [envOf_eq, keepFrom_cons, keepFrom_nil, flushE_mk, flL_cons, flL_nil, st_cons, st_nil, Nat.testBit, Nat.reduceShiftRight, Nat.reduceAnd, Nat.reduceBNe, Nat.reduceEqDiff, Nat.reduceAdd, ↓reduceIte, reduceCtorEq, Bool.false_eq_true] at he; subst he)) | ((with_reducible apply Wseq.mv); (focus rfl); (intro v hv; (simp only [ev_tmp, ev_const, ev_global, ev_func, look_if, lk_nil, Nat.reduceEqDiff, eq_self, ↓reduceIte, reduceCtorEq, partsOf_arr, List.map_cons, List.map_nil] at hv); subst hv)) | ((with_reducible apply Wseq.as); (focus rfl); (intro v hv; (simp only [ev_tmp, ev_const, ev_global, ev_func, look_if, lk_nil, Nat.reduceEqDiff, eq_self, ↓reduceIte, reduceCtorEq, partsOf_arr, List.map_cons, List.map_nil] at hv); subst hv)) | ((with_reducible apply Wseq.stg (op := Op.call ⟨Callee.builtin Builtin.min, _, _⟩)); (focus rfl); (focus (exact to_min rfl rfl))) | ((with_reducible apply Wseq.stg (op := Op.call ⟨Callee.builtin Builtin.max, _, _⟩)); (focus rfl); (focus (exact to_max rfl rfl)))))
  rw [hM2]
  refine Wx.loopE (fun k1 e s => ∃ (i : Nat) (z : Int) (h' : T AObj) (c' : Nat) (rl' wl' : List Nat) (qv : Value) (l : List Chg) (U : Nat → Prop) (w : Value) (lw : List Chg) (V : Nat → Prop) (j9 j10 j11 j12 j13 j14 j30 j51 j70 j72 j111 j112 j128 j130 j131 j132 j143 j150 : Value), e = E9 c M oa n k w z j9 j10 j11 j12 j13 j14 j30 j51 j70 j72 j111 j112 j128 j130 j131 j132 j143 j150 ∧ z = i ∧ s = ⟨h', c', rl', wl'⟩ ∧ QI h c M h' c' qv l U w lw V ∧ i ≤ 60 ∧ k1 = 60 - i) 60 (E9 c M oa n k (.slice none 0 0) 0 top top top top top top top top top top top top top top top top top top) (by (repeat (first | (with_reducible exact Resp.fn) | (with_reducible apply Resp.then) | (with_reducible apply Resp.out) | (with_reducible apply Resp.round)))) ?_ ?_ ?_
  · unfold E9
    (refine EqK.of ?_ ?_ <;> (repeat (first | (exact all_nil) | ((apply all_cons); (focus rfl)))))
  · exact ⟨0, 0, _, _, _, _, _, [], (fun b => b = c), _, [], (fun _ => False), _, _, _, _, _, _, _, _, _, _, _, _, _, _, _, _, _, _, rfl, rfl, rfl, ⟨f1, by omega, K1, q1, (by rintro b rfl; omega), ⟨.inl ⟨rfl, rfl⟩, (by rintro b ⟨⟩), (by intro x hx; cases hx), (by intro x hx; cases hx)⟩, (fun b hb => hb.elim), rfl, (by intro x hx; cases hx), by simp⟩, by omega, rfl⟩
  · rintro k1 e s ⟨i, z, h2, c2, rl2, wl2, qv, l, U, w, lw, V, j9, j10, j11, j12, j13, j14, j30, j51, j70, j72, j111, j112, j128, j130, j131, j132, j143, j150, rfl, hz, rfl, I2, hi, rfl⟩
    obtain ⟨wa, rfl⟩ := I2.w.val
    have f2 := I2.f
    have y2 := I2.le
    have hel := I2.eqlen
    unfold E9
    by_cases hi1 : n ≤ i
    · (repeat (first | (with_reducible refine Then.go ?_) | (with_reducible refine Then.ex ?_) | (with_reducible refine Out.hit ?_) | (with_reducible refine Wx.seq ?_) | (with_reducible refine Wx.exit ?_) | (with_reducible refine Wx.ret ?_) | (with_reducible refine Wx.reg ?_) | (with_reducible refine RoundE.ex ?_) | (refine Wx.condF rfl (by (first | rfl | (simp only [decide_eq_false_iff_not, Bool.not_eq_false', decide_eq_true_eq, Option.isNone_none, Option.isNone_some, Option.isSome_none, Option.isSome_some, beq_self_eq_true, Bool.not_true, Bool.not_false]; first | done | omega))) ?_) | ((with_reducible refine Wseq.nil ?_); intro e he; (simp only [envOf_eq, keepFrom_cons, keepFrom_nil, flushE_mk, flL_cons, flL_nil, st_cons, st_nil, Nat.testBit, Nat.reduceShiftRight, Nat.reduceAnd, Nat.reduceBNe, Nat.reduceEqDiff, Nat.reduceAdd, ↓reduceIte, reduceCtorEq, Bool.false_eq_true] at he; subst he)) | ((with_reducible apply Wseq.mv); (focus rfl); (intro v hv; (simp only [ev_tmp, ev_const, ev_global, ev_func, look_if, lk_nil, Nat.reduceEqDiff, eq_self, ↓reduceIte, reduceCtorEq, partsOf_arr, List.map_cons, List.map_nil] at hv); subst hv)) | ((with_reducible apply Wseq.as); (focus rfl); (intro v hv; (simp only [ev_tmp, ev_const, ev_global, ev_func, look_if, lk_nil, Nat.reduceEqDiff, eq_self, ↓reduceIte, reduceCtorEq, partsOf_arr, List.map_cons, List.map_nil] at hv); subst hv)) | ((with_reducible apply Wseq.pkF); (focus rfl); (focus rfl); (intro v hv; (simp only [ev_tmp, ev_const, ev_global, ev_func, look_if, lk_nil, Nat.reduceEqDiff, eq_self, ↓reduceIte, reduceCtorEq, partsOf_arr, List.map_cons, List.map_nil] at hv); subst hv)) | ((with_reducible apply Wseq.stg (op := Op.call ⟨Callee.builtin Builtin.len, _, _⟩)); (focus rfl); (focus (exact to_lenS (sl_ rfl) rfl))) | ((with_reducible apply Wseq.stg (op := Op.binOp BinOp.lss _ _ _ _)); (focus rfl); (focus (exact to_lssF rfl rfl (by omega)))) | (refine Wseq.no rfl ?_)))
      exact ⟨.inr rfl, Wres.one rfl rfl⟩
    by_cases hi2 : 60 ≤ i
    · (repeat (first | (with_reducible refine Then.go ?_) | (with_reducible refine Then.ex ?_) | (with_reducible refine Out.hit ?_) | (with_reducible refine Wx.seq ?_) | (with_reducible refine Wx.exit ?_) | (with_reducible refine Wx.ret ?_) | (with_reducible refine Wx.reg ?_) | (with_reducible refine RoundE.ex ?_) | (refine Wx.condF rfl (by (first | rfl | (simp only [decide_eq_false_iff_not, Bool.not_eq_false', decide_eq_true_eq, Option.isNone_none, Option.isNone_some, Option.isSome_none, Option.isSome_some, beq_self_eq_true, Bool.not_true, Bool.not_false]; first | done | omega))) ?_) | ((with_reducible refine Wseq.nil ?_); intro e he; (simp only [envOf_eq, keepFrom_cons, keepFrom_nil, flushE_mk, flL_cons, flL_nil, st_cons, st_nil, Nat.testBit, Nat.reduceShiftRight, Nat.reduceAnd, Nat.reduceBNe, Nat.reduceEqDiff, Nat.reduceAdd, ↓reduceIte, reduceCtorEq, Bool.false_eq_true] at he; subst he)) | ((with_reducible apply Wseq.mv); (focus rfl); (intro v hv; (simp only [ev_tmp, ev_const, ev_global, ev_func, look_if, lk_nil, Nat.reduceEqDiff, eq_self, ↓reduceIte, reduceCtorEq, partsOf_arr, List.map_cons, List.map_nil] at hv); subst hv)) | ((with_reducible apply Wseq.as); (focus rfl); (intro v hv; (simp only [ev_tmp, ev_const, ev_global, ev_func, look_if, lk_nil, Nat.reduceEqDiff, eq_self, ↓reduceIte, reduceCtorEq, partsOf_arr, List.map_cons, List.map_nil] at hv); subst hv)) | ((with_reducible apply Wseq.pkT); (focus rfl); (focus rfl); (intro v hv; (simp only [ev_tmp, ev_const, ev_global, ev_func, look_if, lk_nil, Nat.reduceEqDiff, eq_self, ↓reduceIte, reduceCtorEq, partsOf_arr, List.map_cons, List.map_nil] at hv); subst hv)) | ((with_reducible apply Wseq.stg (op := Op.call ⟨Callee.builtin Builtin.len, _, _⟩)); (focus rfl); (focus (exact to_lenS (sl_ rfl) rfl))) | ((with_reducible apply Wseq.stg (op := Op.binOp BinOp.lss _ _ _ _)); (focus rfl); (focus (exact to_lssT rfl rfl (by omega)))) | ((with_reducible apply Wseq.stg (op := Op.binOp BinOp.lss _ _ _ _)); (focus rfl); (focus (exact to_lssF rfl rfl (by omega))))))
      exact ⟨.inr rfl, Wres.one rfl rfl⟩
    obtain ⟨b1, o1, sp1, cs1, kd, id, va, nv, kv, zs, dr, g, rfl, hc1, hkd, hsub, hrow, hzl, hnk, hvn, hvs⟩ := hops i (by omega)
    have l1 := hc1.lt hf
    have C1 : Cel h2 b1 cs1 := by unfold Cel Has at hc1 ⊢; rw [I2.kp b1 l1 (fun q => q)]; exact hc1
    (repeat (first | (with_reducible refine Then.go ?_) | (with_reducible refine Wx.seq ?_) | (with_reducible refine Wx.skip ?_) | (with_reducible refine Wx.block ?_) | (with_reducible refine Wx.reg ?_) | (refine Wx.condT rfl (by (first | rfl | (simp only [decide_eq_true_eq, Bool.not_eq_true', decide_eq_false_iff_not, Option.isNone_none, Option.isNone_some, Option.isSome_none, Option.isSome_some, beq_self_eq_true, Bool.not_true, Bool.not_false]; first | done | omega) | (simp; omega) | (solve | simp [*]) | fail)) ?_) | ((with_reducible refine Wseq.nil ?_); intro e he; (simp only [envOf_eq, keepFrom_cons, keepFrom_nil, flushE_mk, flL_cons, flL_nil, st_cons, st_nil, Nat.testBit, Nat.reduceShiftRight, Nat.reduceAnd, Nat.reduceBNe, Nat.reduceEqDiff, Nat.reduceAdd, ↓reduceIte, reduceCtorEq, Bool.false_eq_true] at he; subst he)) | ((with_reducible apply Wseq.mv); (focus rfl); (intro v hv; (simp only [ev_tmp, ev_const, ev_global, ev_func, look_if, lk_nil, Nat.reduceEqDiff, eq_self, ↓reduceIte, reduceCtorEq, partsOf_arr, List.map_cons, List.map_nil] at hv); subst hv)) | ((with_reducible apply Wseq.pkT); (focus rfl); (focus rfl); (intro v hv; (simp only [ev_tmp, ev_const, ev_global, ev_func, look_if, lk_nil, Nat.reduceEqDiff, eq_self, ↓reduceIte, reduceCtorEq, partsOf_arr, List.map_cons, List.map_nil] at hv); subst hv)) | ((with_reducible apply Wseq.stg (op := Op.call ⟨Callee.builtin Builtin.len, _, _⟩)); (focus rfl); (focus (exact to_lenS (sl_ rfl) rfl))) | ((with_reducible apply Wseq.stg (op := Op.binOp BinOp.lss _ _ _ _)); (focus rfl); (focus (exact to_lssT rfl rfl (by omega))))))
    ((with_reducible apply Wseq.stg); (focus rfl); (focus (exact to_indexAddr (k := i) el106 rfl rfl hz (by omega))))
    (repeat (first | ((with_reducible apply Wseq.stg (op := Op.fieldAddr _ _ _)); (focus rfl); (focus (exact to_fieldAddr (fa_ rfl) rfl)))))
    ((with_reducible apply Wseq.stg); (focus rfl); (focus (exact to_loadS ag70 rfl C1 (by omega) hsub)))
    (repeat (first | (with_reducible refine Then.go ?_) | (with_reducible refine Wx.seq ?_) | (with_reducible refine Wx.reg ?_) | ((with_reducible refine Wseq.nil ?_); intro e he; (simp only [envOf_eq, keepFrom_cons, keepFrom_nil, flushE_mk, flL_cons, flL_nil, st_cons, st_nil, Nat.testBit, Nat.reduceShiftRight, Nat.reduceAnd, Nat.reduceBNe, Nat.reduceEqDiff, Nat.reduceAdd, ↓reduceIte, reduceCtorEq, Bool.false_eq_true] at he; subst he)) | ((with_reducible apply Wseq.so); (focus rfl); (focus (exact (sz_ rfl))); (focus rfl); (focus (exact (by (repeat (first | (with_reducible exact Has.same) | (with_reducible assumption) | ((with_reducible apply Has.other); (focus omega))))))); (focus omega); (intro v hv; (simp only [ev_tmp, ev_const, ev_global, ev_func, look_if, lk_nil, Nat.reduceEqDiff, eq_self, ↓reduceIte, reduceCtorEq, partsOf_arr, List.map_cons, List.map_nil] at hv); subst hv); refine ⟨_, _, (by (first | exact cellsA_agg _ | rfl)), rfl, rfl, ?_⟩) | ((with_reducible apply Wseq.stg (op := Op.fieldAddr _ _ _)); (focus rfl); (focus (exact to_fieldAddr (fa_ rfl) rfl))) | ((with_reducible apply Wseq.stg (op := Op.load _ _)); (focus rfl); (focus (exact to_load (pl_ rfl) rfl (by (repeat (first | (with_reducible exact Has.same.cel) | (with_reducible assumption) | ((with_reducible apply Has.cel); (focus (with_reducible assumption))) | ((with_reducible apply Cel.other); (focus omega))))) (by omega) (by rfl)))) | ((with_reducible apply Wseq.stg (op := Op.alloc _)); (focus rfl); (focus (exact to_alloc (ze_ rfl) (by (first | exact cellsA_agg _ | rfl)) (by ((repeat ((with_reducible apply Fresh.put); (focus omega))); (first | (with_reducible assumption) | (exact Fresh.up (by with_reducible assumption) (by omega)))))))) | ((with_reducible apply Wseq.stg (op := Op.call ⟨Callee.builtin Builtin.len, _, _⟩)); (focus rfl); (focus (exact to_lenS (sl_ rfl) rfl))) | ((with_reducible apply Wseq.stg (op := Op.call ⟨Callee.builtin Builtin.min, _, _⟩)); (focus rfl); (focus (exact to_min rfl rfl)))))
    ((with_reducible apply Wseq.stg); (focus rfl); (focus (exact to_sliceHi (k := min nv 8) el30 rfl rfl (by omega) (by omega) hvs)))
    (repeat (first | (with_reducible refine Then.go ?_) | (with_reducible refine Wx.seq ?_) | (with_reducible refine Wx.reg ?_) | ((with_reducible refine Wseq.nil ?_); intro e he; (simp only [envOf_eq, keepFrom_cons, keepFrom_nil, flushE_mk, flL_cons, flL_nil, st_cons, st_nil, Nat.testBit, Nat.reduceShiftRight, Nat.reduceAnd, Nat.reduceBNe, Nat.reduceEqDiff, Nat.reduceAdd, ↓reduceIte, reduceCtorEq, Bool.false_eq_true] at he; subst he)) | ((with_reducible apply Wseq.mv); (focus rfl); (intro v hv; (simp only [ev_tmp, ev_const, ev_global, ev_func, look_if, lk_nil, Nat.reduceEqDiff, eq_self, ↓reduceIte, reduceCtorEq, partsOf_arr, List.map_cons, List.map_nil] at hv); subst hv)) | ((with_reducible apply Wseq.so); (focus rfl); (focus (exact (sz_ rfl))); (focus rfl); (focus (exact (by (repeat (first | (with_reducible exact Has.same) | (with_reducible assumption) | ((with_reducible apply Has.other); (focus omega))))))); (focus omega); (intro v hv; (simp only [ev_tmp, ev_const, ev_global, ev_func, look_if, lk_nil, Nat.reduceEqDiff, eq_self, ↓reduceIte, reduceCtorEq, partsOf_arr, List.map_cons, List.map_nil] at hv); subst hv); refine ⟨_, _, (by (first | exact cellsA_agg _ | rfl)), rfl, rfl, ?_⟩) | ((with_reducible apply Wseq.stg (op := Op.fieldAddr _ _ _)); (focus rfl); (focus (exact to_fieldAddr (fa_ rfl) rfl)))))
    ((with_reducible apply Wseq.stg); (focus rfl); (focus (exact to_indexAddr (k := i) el106 rfl rfl hz (by omega))))
    (repeat (first | ((with_reducible apply Wseq.stg (op := Op.fieldAddr _ _ _)); (focus rfl); (focus (exact to_fieldAddr (fa_ rfl) rfl)))))
    ((with_reducible apply Wseq.stg); (focus rfl); (focus (exact to_load (pl_ rfl) rfl (Cel.other (by omega) (Cel.other (by omega) (Cel.other (by omega) C1))) (by omega) hkd)))
    (repeat (first | (with_reducible refine Then.go ?_) | ((with_reducible refine Wseq.nil ?_); intro e he; (simp only [envOf_eq, keepFrom_cons, keepFrom_nil, flushE_mk, flL_cons, flL_nil, st_cons, st_nil, Nat.testBit, Nat.reduceShiftRight, Nat.reduceAnd, Nat.reduceBNe, Nat.reduceEqDiff, Nat.reduceAdd, ↓reduceIte, reduceCtorEq, Bool.false_eq_true] at he; subst he)) | ((with_reducible apply Wseq.stg (op := Op.binOp BinOp.eql _ _ _ _)); (focus rfl); (focus (exact to_eqI rfl rfl)))))
    refine Wx.cutT (fun e s => ∃ (h' : T AObj) (c' : Nat) (rl' wl' : List Nat) (qv : Value) (l : List Chg) (U : Nat → Prop) (w : Value) (lw : List Chg) (V : Nat → Prop) (j9 j10 j11 j12 j13 j14 j30 j51 j70 j72 j111 j112 j128 j130 j131 j132 j143 j150 : Value), e = E9 c M (some ⟨b1, o1, sp1⟩) n k w z j9 j10 j11 j12 j13 j14 j30 j51 j70 j72 j111 j112 j128 j130 j131 j132 j143 j150 ∧ s = ⟨h', c', rl', wl'⟩ ∧ QI h c M h' c' qv l U w lw V) (by (repeat (first | (with_reducible exact Resp.fn) | (with_reducible apply Resp.then) | (with_reducible apply Resp.out) | (with_reducible apply Resp.round)))) ?_ ?_
    · obtain ⟨n8, hn8⟩ : ∃ n8, n8 = min nv 8 := ⟨_, rfl⟩
      rw [← hn8]
      have hn8a : n8 ≤ nv ∧ n8 ≤ 8 := by omega
      obtain ⟨zs8, hzs8⟩ : ∃ zs8, zs8 = zs.take n8 := ⟨_, rfl⟩
      have hz8 : zs8.length = n8 := by rw [hzs8, List.length_take]; omega
      have hrow8 : Row h (.slice va n8 kv) n8 1 (zs8.map (Value.int .i32)) := by
        have := Row.cut hrow hn8a.1
        rw [← List.map_take, ← hzs8] at this
        exact this
      have hbig : n8 ≤ big := by unfold big; omega
      have hxl : (zs8.map (Value.int .i32)).length = n8 := by rw [List.length_map, hz8]
      have rowAt : ∀ h' : T AObj, Kp h h' c (fun _ => False) → Row h' (.slice va n8 kv) n8 1 (zs8.map (Value.int .i32)) := fun h' K => Row.keepF hrow8 hf fun b hb => K b hb (fun q => q)
      have kp2 := I2.kp
      have nU : ∀ b, c2 ≤ b → ¬U b := fun b hb q => by have := I2.U1 b q; omega
      by_cases hkd0 : kd = 0
      · by_cases hroom : l.length < M
        · -- a change behind all
          (repeat (first | (with_reducible refine Wx.seq ?_) | (with_reducible refine Wx.reg ?_) | (refine Wx.condT rfl (by (first | rfl | (simp only [decide_eq_true_eq, Bool.not_eq_true', decide_eq_false_iff_not, Option.isNone_none, Option.isNone_some, Option.isSome_none, Option.isSome_some, beq_self_eq_true, Bool.not_true, Bool.not_false]; first | done | omega) | (simp; omega) | (solve | simp [*]) | fail)) ?_) | ((with_reducible apply Wseq.mv); (focus rfl); (intro v hv; (simp only [ev_tmp, ev_const, ev_global, ev_func, look_if, lk_nil, Nat.reduceEqDiff, eq_self, ↓reduceIte, reduceCtorEq, partsOf_arr, List.map_cons, List.map_nil] at hv); subst hv)) | ((with_reducible apply Wseq.stg (op := Op.load _ _)); (focus rfl); (focus (exact to_loadS (ag_ rfl) rfl (by (repeat (first | (with_reducible exact Has.same.cel) | (with_reducible assumption) | ((with_reducible apply Has.cel); (focus (with_reducible assumption))) | ((with_reducible apply Cel.other); (focus omega))))) (by omega) (by rfl))))))
          refine Wseq.call rfl rfl (qput_room H (by ((repeat ((with_reducible apply Fresh.put); (focus omega))); (first | (with_reducible assumption) | (exact Fresh.up (by with_reducible assumption) (by omega))))) (I2.q.keep (h' := ((h2.set c2 _).set c2 _).set c2 _) f2 fun b hb hlt => by rw [get_other (by omega), get_other (by omega), get_other (by omega)]) hroom hM1.2 id dr g (rowAt _ (by (repeat (first | (with_reducible exact Kp.refl) | (with_reducible assumption) | ((with_reducible apply Kp.set); (focus (first | (left; omega) | (right; first | exact rfl | assumption | (exact Or.inl (by assumption)) | (exact Or.inr (by assumption)) | (simp; done) | omega)))))))) hbig hxl (fun _ e => hvn e) (fun _ => True) (fun _ _ _ _ => trivial)) ?_
          rintro v3 h3 c3 r3 w3 ⟨rfl, ⟨v4, wq, q3⟩, x3⟩
          have y3 := x3.c
          dsimp only at y3 q3
          have f3 : Fresh h3 c3 := x3.fresh
          have K3 := Kp.ext (W := fun _ => False) (h := h) (c := c) (h1 := ((h2.set c2 _).set c2 _).set c2 _) (by (repeat (first | (with_reducible exact Kp.refl) | (with_reducible assumption) | ((with_reducible apply Kp.set); (focus (first | (left; omega) | (right; first | exact rfl | assumption | (exact Or.inl (by assumption)) | (exact Or.inr (by assumption)) | (simp; done) | omega))))))) x3 (by omega) (fun b hb q => by have := I2.U1 b q; omega)
          have B3 := x3.hs (b := c2) Has.same (by omega) (nU c2 (by omega))
          have W3 : WRow h3 (.slice wa lw.length lw.length) lw V := I2.w.keep f2 fun b hb hlt => (x3.get (by omega) (I2.V1 b hb).2.2).trans (by rw [get_other (by omega), get_other (by omega), get_other (by omega)])
          (repeat (first | (with_reducible refine Then.go ?_) | (with_reducible refine Wx.seq ?_) | (with_reducible refine Wx.skip ?_) | (with_reducible refine Wx.reg ?_) | (refine Wx.condT rfl (by (first | rfl | (simp only [decide_eq_true_eq, Bool.not_eq_true', decide_eq_false_iff_not, Option.isNone_none, Option.isNone_some, Option.isSome_none, Option.isSome_some, beq_self_eq_true, Bool.not_true, Bool.not_false]; first | done | omega) | (simp; omega) | (solve | simp [*]) | fail)) ?_) | (refine Wx.condF rfl (by (first | rfl | (simp only [decide_eq_false_iff_not, Bool.not_eq_false', decide_eq_true_eq, Option.isNone_none, Option.isNone_some, Option.isSome_none, Option.isSome_some, beq_self_eq_true, Bool.not_true, Bool.not_false]; first | done | omega))) ?_) | ((with_reducible refine Wseq.nil ?_); intro e he; (simp only [envOf_eq, keepFrom_cons, keepFrom_nil, flushE_mk, flL_cons, flL_nil, st_cons, st_nil, Nat.testBit, Nat.reduceShiftRight, Nat.reduceAnd, Nat.reduceBNe, Nat.reduceEqDiff, Nat.reduceAdd, ↓reduceIte, reduceCtorEq, Bool.false_eq_true] at he; subst he)) | ((with_reducible apply Wseq.mv); (focus rfl); (intro v hv; (simp only [ev_tmp, ev_const, ev_global, ev_func, look_if, lk_nil, Nat.reduceEqDiff, eq_self, ↓reduceIte, reduceCtorEq, partsOf_arr, List.map_cons, List.map_nil] at hv); subst hv)) | ((with_reducible apply Wseq.as); (focus rfl); (intro v hv; (simp only [ev_tmp, ev_const, ev_global, ev_func, look_if, lk_nil, Nat.reduceEqDiff, eq_self, ↓reduceIte, reduceCtorEq, partsOf_arr, List.map_cons, List.map_nil] at hv); subst hv)) | ((with_reducible apply Wseq.pkF); (focus rfl); (focus rfl); (intro v hv; (simp only [ev_tmp, ev_const, ev_global, ev_func, look_if, lk_nil, Nat.reduceEqDiff, eq_self, ↓reduceIte, reduceCtorEq, partsOf_arr, List.map_cons, List.map_nil] at hv); subst hv)) | ((with_reducible apply Wseq.stg (op := Op.fieldAddr _ _ _)); (focus rfl); (focus (exact to_fieldAddr (fa_ rfl) rfl))) | ((with_reducible apply Wseq.stg (op := Op.load _ _)); (focus rfl); (focus (exact to_load (pl_ rfl) rfl (by (repeat (first | (with_reducible exact Has.same.cel) | (with_reducible assumption) | ((with_reducible apply Has.cel); (focus (with_reducible assumption))) | ((with_reducible apply Cel.other); (focus omega))))) (by omega) (by rfl)))) | ((with_reducible apply Wseq.stg (op := Op.call ⟨Callee.builtin Builtin.len, _, _⟩)); (focus rfl); (focus (exact to_lenS (sl_ rfl) rfl))) | ((with_reducible apply Wseq.stg (op := Op.binOp BinOp.lss _ _ _ _)); (focus rfl); (focus (exact to_lssT rfl rfl (by omega)))) | ((with_reducible apply Wseq.stg (op := Op.binOp BinOp.eql _ _ _ _)); (focus rfl); (focus (exact to_eqN (un_ rfl) rfl rfl))) | ((with_reducible apply Wseq.stg (op := Op.binOp BinOp.neq _ _ _ _)); (focus rfl); (focus (exact to_neN (un_ rfl) rfl rfl))) | ((with_reducible apply Wseq.stg (op := Op.binOp BinOp.neq _ _ _ _)); (focus rfl); (focus (exact to_neB (un_ rfl) rfl rfl))) | (refine Wseq.no rfl ?_)))
          refine Wseq.call rfl rfl (copy_spec H (v := .slice va n8 kv) (n := n8) (by ((repeat ((with_reducible apply Fresh.put); (focus omega))); (first | (with_reducible assumption) | (exact Fresh.up (by with_reducible assumption) (by omega))))) (rowAt h3 K3) hbig (fun h0 => ⟨va, kv, by rw [h0], fun e => hvn e⟩) (fun _ => True) (fun _ _ _ _ _ _ => trivial)) ?_
          rintro v5 h5 c5 r5 w5 ⟨o5, x5⟩
          have y5 := x5.c
          dsimp only at y5
          have f5 : Fresh h5 c5 := x5.fresh
          obtain ⟨a5, k5, rfl⟩ := o5.val
          have K5 := Kp.ext (W := fun _ => False) (h := h) (c := c) K3 x5 (by omega) (fun _ _ q => q)
          have B5 := x5.hs (b := c2) B3 (by omega) (fun q => q)
          have W5 : WRow h5 (.slice wa lw.length lw.length) lw V := W3.keep f3 fun b hb hlt => x5.get (by omega) (fun q => q)
          have q5 := q3.keep (h' := h5) f3 fun b hb hlt => x5.get hlt (fun q => q)
          have hints : ∀ x ∈ lw ++ [(⟨id, .slice a5 n8 k5, zs8.map (Value.int .i32), dr, g⟩ : Chg)], ∃ zs : List Int, x.xs = zs.map (Value.int .i32) ∧ zs.length ≤ 8 := by
            intro x hx
            rcases List.mem_append.1 hx with hx | hx
            · exact I2.ints x hx
            · obtain rfl := List.mem_singleton.1 hx
              exact ⟨zs8, rfl, by omega⟩
          have hst : (l ++ [(⟨id, v4, zs8.map (Value.int .i32), dr, g⟩ : Chg)]).map Chg.strip = (lw ++ [(⟨id, .slice a5 n8 k5, zs8.map (Value.int .i32), dr, g⟩ : Chg)]).map Chg.strip := by
            rw [List.map_append, List.map_append, I2.st]; rfl
          have hlen : (l ++ [(⟨id, v4, zs8.map (Value.int .i32), dr, g⟩ : Chg)]).length ≤ M := by simp; omega
          have o5' : ∀ h' : T AObj, (∀ b, c3 ≤ b → b < c5 → h'.get b = h5.get b) → Own h' 0 (.slice a5 n8 k5) (zs8.map (Value.int .i32)).length (zs8.map (Value.int .i32)) := fun h' hh => by
            rw [hxl]
            exact (o5.keep fun b hb => hh b (o5.blk hb).1 ((o5.blk hb).2.lt f5)).low (Nat.zero_le _)
          rcases I2.w.row with ⟨hv, rfl⟩ | ⟨b0, o0, cs0, hv, hb0, hs0⟩
          · cases hv
            (repeat (first | (with_reducible refine Then.go ?_) | (with_reducible refine Wx.reg ?_) | ((with_reducible refine Wseq.nil ?_); intro e he; (simp only [envOf_eq, keepFrom_cons, keepFrom_nil, flushE_mk, flL_cons, flL_nil, st_cons, st_nil, Nat.testBit, Nat.reduceShiftRight, Nat.reduceAnd, Nat.reduceBNe, Nat.reduceEqDiff, Nat.reduceAdd, ↓reduceIte, reduceCtorEq, Bool.false_eq_true] at he; subst he)) | ((with_reducible apply Wseq.mv); (focus rfl); (intro v hv; (simp only [ev_tmp, ev_const, ev_global, ev_func, look_if, lk_nil, Nat.reduceEqDiff, eq_self, ↓reduceIte, reduceCtorEq, partsOf_arr, List.map_cons, List.map_nil] at hv); subst hv)) | ((with_reducible apply Wseq.bs); (focus rfl); (focus (exact (ro_ rfl))); (focus rfl); (focus (exact (by ((repeat ((with_reducible apply Fresh.put); (focus omega))); (first | (with_reducible assumption) | (exact Fresh.up (by with_reducible assumption) (by omega))))))); (intro v hv; (simp only [ev_tmp, ev_const, ev_global, ev_func, look_if, lk_nil, Nat.reduceEqDiff, eq_self, ↓reduceIte, reduceCtorEq, partsOf_arr, List.map_cons, List.map_nil] at hv); subst hv); refine ⟨_, rfl, ?_⟩) | ((with_reducible apply Wseq.so); (focus rfl); (focus (exact (sz_ rfl))); (focus rfl); (focus (exact (by (repeat (first | (with_reducible exact Has.same) | (with_reducible assumption) | ((with_reducible apply Has.other); (focus omega))))))); (focus omega); (intro v hv; (simp only [ev_tmp, ev_const, ev_global, ev_func, look_if, lk_nil, Nat.reduceEqDiff, eq_self, ↓reduceIte, reduceCtorEq, partsOf_arr, List.map_cons, List.map_nil] at hv); subst hv); refine ⟨_, _, (by (first | exact cellsA_agg _ | rfl)), rfl, rfl, ?_⟩) | ((with_reducible apply Wseq.stg (op := Op.fieldAddr _ _ _)); (focus rfl); (focus (exact to_fieldAddr (fa_ rfl) rfl))) | ((with_reducible apply Wseq.stg (op := Op.load _ _)); (focus rfl); (focus (exact to_loadS (ag_ rfl) rfl (by (repeat (first | (with_reducible exact Has.same.cel) | (with_reducible assumption) | ((with_reducible apply Has.cel); (focus (with_reducible assumption))) | ((with_reducible apply Cel.other); (focus omega))))) (by omega) (by rfl))))))
            ((with_reducible apply Wseq.stg); (focus rfl); (focus (exact to_appNil ro86 sl86 rfl rfl (by (repeat (first | (with_reducible exact Has.same.cel) | (with_reducible assumption) | ((with_reducible apply Has.cel); (focus (with_reducible assumption))) | ((with_reducible apply Cel.other); (focus omega))))) (by omega) (by rfl) (by decide) (by ((repeat ((with_reducible apply Fresh.put); (focus omega))); (first | (with_reducible assumption) | (exact Fresh.up (by with_reducible assumption) (by omega))))))))
            (repeat (first | ((with_reducible refine Wseq.nil ?_); intro e he; (simp only [envOf_eq, keepFrom_cons, keepFrom_nil, flushE_mk, flL_cons, flL_nil, st_cons, st_nil, Nat.testBit, Nat.reduceShiftRight, Nat.reduceAnd, Nat.reduceBNe, Nat.reduceEqDiff, Nat.reduceAdd, ↓reduceIte, reduceCtorEq, Bool.false_eq_true] at he; subst he)) | ((with_reducible apply Wseq.as); (focus rfl); (intro v hv; (simp only [ev_tmp, ev_const, ev_global, ev_func, look_if, lk_nil, Nat.reduceEqDiff, eq_self, ↓reduceIte, reduceCtorEq, partsOf_arr, List.map_cons, List.map_nil] at hv); subst hv))))
            refine CutE.go (E9 c M _ n k (.slice (some ⟨c5 + 1, 0, some 4⟩) 1 1) z _ _ _ _ _ _ _ _ _ _ _ _ _ _ _ _ _ _) (by (refine EqK.of ?_ ?_ <;> (repeat (first | (exact all_nil) | ((apply all_cons); (focus rfl)))))) ⟨_, _, _, _, wq, _, _, _, [⟨id, .slice a5 n8 k5, zs8.map (Value.int .i32), dr, g⟩], (fun b => c3 ≤ b ∧ b < c5 + 2), _, _, _, _, _, _, _, _, _, _, _, _, _, _, _, _, _, _, rfl, rfl, (by ((repeat ((with_reducible apply Fresh.put); (focus omega))); (first | (with_reducible assumption) | (exact Fresh.up (by with_reducible assumption) (by omega))))), by omega, (by (repeat (first | (with_reducible exact Kp.refl) | (with_reducible assumption) | ((with_reducible apply Kp.set); (focus (first | (left; omega) | (right; first | exact rfl | assumption | (exact Or.inl (by assumption)) | (exact Or.inr (by assumption)) | (simp; done) | omega))))))), q5.keep f5 (fun b hb hlt => ?_), (fun b hb => ?_), ⟨.inr ⟨c5 + 1, 0, _, rfl, (by (repeat (first | (with_reducible exact Has.same) | (with_reducible assumption) | ((with_reducible apply Has.other); (focus omega))))), rfl⟩, ?_, ?_, ?_⟩, (fun b hb => ?_), hst, hints, hlen⟩
            · have : b ≠ c2 := by
                rintro rfl
                rcases hb with hb | hb
                · exact nU b (by omega) hb
                · omega
              rw [get_other (by omega), get_other (by omega), get_other this]
            · rcases hb with hb | hb
              · have := I2.U1 b hb; omega
              · omega
            · rintro b ⟨⟩
              dsimp only
              omega
            · intro y hy
              obtain rfl := List.mem_singleton.1 hy
              exact o5' _ fun b h1 h2 => by rw [get_other (by omega), get_other (by omega), get_other (by omega)]
            · intro y hy b hb
              obtain rfl := List.mem_singleton.1 hy
              obtain ⟨u1, u2⟩ := o5.blk hb
              have u3 := u2.lt f5
              refine ⟨by omega, ?_⟩
              rintro ⟨⟩
              (try dsimp only at u3); omega
            · refine ⟨by omega, by omega, ?_⟩
              rintro (hb2 | hb2)
              · exact nU b (by omega) hb2
              · omega
          · obtain ⟨rfl, hv2⟩ : wa = some ⟨b0, o0, some 4⟩ ∧ True := by
              simp only [Value.slice.injEq] at hv
              exact ⟨hv.1, trivial⟩
            rcases W5.row with ⟨hv, _⟩ | ⟨b0', o0', cs0', hv', hb5, hs5⟩
            · cases hv
            simp only [Value.slice.injEq, Option.some.injEq, Addr.mk.injEq] at hv'
            obtain ⟨⟨rfl, rfl, _⟩, _⟩ := hv'
            have hbV := I2.V1 b0 (I2.w.sep b0 rfl)
            (repeat (first | (with_reducible refine Then.go ?_) | (with_reducible refine Wx.reg ?_) | ((with_reducible refine Wseq.nil ?_); intro e he; (simp only [envOf_eq, keepFrom_cons, keepFrom_nil, flushE_mk, flL_cons, flL_nil, st_cons, st_nil, Nat.testBit, Nat.reduceShiftRight, Nat.reduceAnd, Nat.reduceBNe, Nat.reduceEqDiff, Nat.reduceAdd, ↓reduceIte, reduceCtorEq, Bool.false_eq_true] at he; subst he)) | ((with_reducible apply Wseq.mv); (focus rfl); (intro v hv; (simp only [ev_tmp, ev_const, ev_global, ev_func, look_if, lk_nil, Nat.reduceEqDiff, eq_self, ↓reduceIte, reduceCtorEq, partsOf_arr, List.map_cons, List.map_nil] at hv); subst hv)) | ((with_reducible apply Wseq.bs); (focus rfl); (focus (exact (ro_ rfl))); (focus rfl); (focus (exact (by ((repeat ((with_reducible apply Fresh.put); (focus omega))); (first | (with_reducible assumption) | (exact Fresh.up (by with_reducible assumption) (by omega))))))); (intro v hv; (simp only [ev_tmp, ev_const, ev_global, ev_func, look_if, lk_nil, Nat.reduceEqDiff, eq_self, ↓reduceIte, reduceCtorEq, partsOf_arr, List.map_cons, List.map_nil] at hv); subst hv); refine ⟨_, rfl, ?_⟩) | ((with_reducible apply Wseq.so); (focus rfl); (focus (exact (sz_ rfl))); (focus rfl); (focus (exact (by (repeat (first | (with_reducible exact Has.same) | (with_reducible assumption) | ((with_reducible apply Has.other); (focus omega))))))); (focus omega); (intro v hv; (simp only [ev_tmp, ev_const, ev_global, ev_func, look_if, lk_nil, Nat.reduceEqDiff, eq_self, ↓reduceIte, reduceCtorEq, partsOf_arr, List.map_cons, List.map_nil] at hv); subst hv); refine ⟨_, _, (by (first | exact cellsA_agg _ | rfl)), rfl, rfl, ?_⟩) | ((with_reducible apply Wseq.stg (op := Op.fieldAddr _ _ _)); (focus rfl); (focus (exact to_fieldAddr (fa_ rfl) rfl))) | ((with_reducible apply Wseq.stg (op := Op.load _ _)); (focus rfl); (focus (exact to_loadS (ag_ rfl) rfl (by (repeat (first | (with_reducible exact Has.same.cel) | (with_reducible assumption) | ((with_reducible apply Has.cel); (focus (with_reducible assumption))) | ((with_reducible apply Cel.other); (focus omega))))) (by omega) (by rfl))))))
            ((with_reducible apply Wseq.stg); (focus rfl); (focus (exact to_appG ro86 sl86 rfl rfl (by (repeat (first | (with_reducible exact Has.same.cel) | (with_reducible assumption) | ((with_reducible apply Has.cel); (focus (with_reducible assumption))) | ((with_reducible apply Cel.other); (focus omega))))) (by omega) (by rfl) (by omega) (by unfold big; omega) (by (repeat (first | (with_reducible exact Has.same) | (with_reducible assumption) | ((with_reducible apply Has.other); (focus omega))))) (by omega) hs5 (all_cons rfl (all_cons rfl (all_cons rfl (all_cons rfl all_nil)))) (by ((repeat ((with_reducible apply Fresh.put); (focus omega))); (first | (with_reducible assumption) | (exact Fresh.up (by with_reducible assumption) (by omega))))))))
            (repeat (first | ((with_reducible refine Wseq.nil ?_); intro e he; (simp only [envOf_eq, keepFrom_cons, keepFrom_nil, flushE_mk, flL_cons, flL_nil, st_cons, st_nil, Nat.testBit, Nat.reduceShiftRight, Nat.reduceAnd, Nat.reduceBNe, Nat.reduceEqDiff, Nat.reduceAdd, ↓reduceIte, reduceCtorEq, Bool.false_eq_true] at he; subst he)) | ((with_reducible apply Wseq.as); (focus rfl); (intro v hv; (simp only [ev_tmp, ev_const, ev_global, ev_func, look_if, lk_nil, Nat.reduceEqDiff, eq_self, ↓reduceIte, reduceCtorEq, partsOf_arr, List.map_cons, List.map_nil] at hv); subst hv))))
            refine CutE.go (E9 c M _ n k (.slice (some ⟨c5 + 1, 0, some 4⟩) (lw.length + 1) (lw.length + 1)) z _ _ _ _ _ _ _ _ _ _ _ _ _ _ _ _ _ _) (by (refine EqK.of ?_ ?_ <;> (repeat (first | (exact all_nil) | ((apply all_cons); (focus rfl)))))) ⟨_, _, _, _, wq, _, _, _, lw ++ [⟨id, .slice a5 n8 k5, zs8.map (Value.int .i32), dr, g⟩], (fun b => V b ∨ c3 ≤ b ∧ b < c5 + 2), _, _, _, _, _, _, _, _, _, _, _, _, _, _, _, _, _, _, rfl, rfl, (by ((repeat ((with_reducible apply Fresh.put); (focus omega))); (first | (with_reducible assumption) | (exact Fresh.up (by with_reducible assumption) (by omega))))), by omega, (by (repeat (first | (with_reducible exact Kp.refl) | (with_reducible assumption) | ((with_reducible apply Kp.set); (focus (first | (left; omega) | (right; first | exact rfl | assumption | (exact Or.inl (by assumption)) | (exact Or.inr (by assumption)) | (simp; done) | omega))))))), q5.keep f5 (fun b hb hlt => ?_), (fun b hb => ?_), ⟨.inr ⟨c5 + 1, 0, _, by simp, (by (repeat (first | (with_reducible exact Has.same) | (with_reducible assumption) | ((with_reducible apply Has.other); (focus omega))))), ?_⟩, ?_, ?_, ?_⟩, (fun b hb => ?_), hst, hints, hlen⟩
            · have h7 : b ≠ c2 ∧ b ≠ b0 := by
                constructor
                · rintro rfl
                  rcases hb with hb | hb
                  · exact nU b (by omega) hb
                  · omega
                · rintro rfl
                  rcases hb with hb | hb
                  · exact hbV.2.2 hb
                  · omega
              rw [get_other (by omega), get_other h7.2, get_other (by omega), get_other h7.1]
            · rcases hb with hb | hb
              · have := I2.U1 b hb; omega
              · omega
            · rw [show flatC (lw ++ [⟨id, .slice a5 n8 k5, zs8.map (Value.int .i32), dr, g⟩]) = flatC lw ++ [.int .i64 id, .slice a5 n8 k5, .int .u32 dr, .bool g] by simp [flatC, Chg.cells]]
              exact subN_all _ _ (by simp [flatC_len]; omega)
            · rintro b ⟨⟩
              dsimp only
              exact .inr (by omega)
            · intro y hy
              rcases List.mem_append.1 hy with hy | hy
              · refine (W5.vec y hy).keep fun b hb => ?_
                obtain ⟨u1, u2⟩ := W5.vsep y hy b hb
                have u3 := I2.V1 b u1
                have u4 : b ≠ b0 := fun e => u2 (by rw [e]; rfl)
                rw [get_other (by omega), get_other u4, get_other (by omega), get_other (by omega)]
              · obtain rfl := List.mem_singleton.1 hy
                exact o5' _ fun b h1 h2 => by rw [get_other (by omega), get_other (by omega), get_other (by omega), get_other (by omega)]
            · intro y hy b hb
              rcases List.mem_append.1 hy with hy | hy
              · obtain ⟨u1, u2⟩ := W5.vsep y hy b hb
                have u3 := I2.V1 b u1
                refine ⟨.inl u1, ?_⟩
                rintro ⟨⟩
                (try dsimp only at u3); omega
              · obtain rfl := List.mem_singleton.1 hy
                obtain ⟨u1, u2⟩ := o5.blk hb
                have u3 := u2.lt f5
                refine ⟨.inr (by omega), ?_⟩
                rintro ⟨⟩
                (try dsimp only at u3); omega
            · rcases hb with hb | hb
              · have u3 := I2.V1 b hb
                refine ⟨by omega, by omega, ?_⟩
                rintro (hb2 | hb2)
                · exact u3.2.2 hb2
                · omega
              · refine ⟨by omega, by omega, ?_⟩
                rintro (hb2 | hb2)
                · exact nU b (by omega) hb2
                · omega
        · -- no room
          (repeat (first | (with_reducible refine Wx.seq ?_) | (with_reducible refine Wx.reg ?_) | (refine Wx.condT rfl (by (first | rfl | (simp only [decide_eq_true_eq, Bool.not_eq_true', decide_eq_false_iff_not, Option.isNone_none, Option.isNone_some, Option.isSome_none, Option.isSome_some, beq_self_eq_true, Bool.not_true, Bool.not_false]; first | done | omega) | (simp; omega) | (solve | simp [*]) | fail)) ?_) | ((with_reducible apply Wseq.mv); (focus rfl); (intro v hv; (simp only [ev_tmp, ev_const, ev_global, ev_func, look_if, lk_nil, Nat.reduceEqDiff, eq_self, ↓reduceIte, reduceCtorEq, partsOf_arr, List.map_cons, List.map_nil] at hv); subst hv)) | ((with_reducible apply Wseq.stg (op := Op.load _ _)); (focus rfl); (focus (exact to_loadS (ag_ rfl) rfl (by (repeat (first | (with_reducible exact Has.same.cel) | (with_reducible assumption) | ((with_reducible apply Has.cel); (focus (with_reducible assumption))) | ((with_reducible apply Cel.other); (focus omega))))) (by omega) (by rfl))))))
          refine Wseq.call rfl rfl (qput_full H (by ((repeat ((with_reducible apply Fresh.put); (focus omega))); (first | (with_reducible assumption) | (exact Fresh.up (by with_reducible assumption) (by omega))))) (I2.q.keep (h' := ((h2.set c2 _).set c2 _).set c2 _) f2 fun b hb hlt => by rw [get_other (by omega), get_other (by omega), get_other (by omega)]) (by omega) id dr g va n8 kv) ?_
          rintro v3 h3 c3 r3 w3 ⟨⟨b4, rfl, hb4, w4, B4⟩, x3⟩
          have y3 := x3.c
          dsimp only at y3 B4
          have f3 : Fresh h3 c3 := x3.fresh
          have K3 := Kp.ext (W := fun _ => False) (h := h) (c := c) (h1 := ((h2.set c2 _).set c2 _).set c2 _) (by (repeat (first | (with_reducible exact Kp.refl) | (with_reducible assumption) | ((with_reducible apply Kp.set); (focus (first | (left; omega) | (right; first | exact rfl | assumption | (exact Or.inl (by assumption)) | (exact Or.inr (by assumption)) | (simp; done) | omega))))))) x3 (by omega) (fun _ _ q => q)
          have K3' := Kp.ext (W := fun _ => False) (h := h2) (c := c2) (h1 := ((h2.set c2 _).set c2 _).set c2 _) (by (repeat (first | (with_reducible exact Kp.refl) | (with_reducible assumption) | ((with_reducible apply Kp.set); (focus (first | (left; omega) | (right; first | exact rfl | assumption | (exact Or.inl (by assumption)) | (exact Or.inr (by assumption)) | (simp; done) | omega))))))) x3 (by omega) (fun _ _ q => q)
          (repeat (first | (with_reducible refine Then.go ?_) | (with_reducible refine Wx.seq ?_) | (with_reducible refine Wx.reg ?_) | ((with_reducible refine Wseq.nil ?_); intro e he; (simp only [envOf_eq, keepFrom_cons, keepFrom_nil, flushE_mk, flL_cons, flL_nil, st_cons, st_nil, Nat.testBit, Nat.reduceShiftRight, Nat.reduceAnd, Nat.reduceBNe, Nat.reduceEqDiff, Nat.reduceAdd, ↓reduceIte, reduceCtorEq, Bool.false_eq_true] at he; subst he)) | ((with_reducible apply Wseq.mv); (focus rfl); (intro v hv; (simp only [ev_tmp, ev_const, ev_global, ev_func, look_if, lk_nil, Nat.reduceEqDiff, eq_self, ↓reduceIte, reduceCtorEq, partsOf_arr, List.map_cons, List.map_nil] at hv); subst hv)) | ((with_reducible apply Wseq.as); (focus rfl); (intro v hv; (simp only [ev_tmp, ev_const, ev_global, ev_func, look_if, lk_nil, Nat.reduceEqDiff, eq_self, ↓reduceIte, reduceCtorEq, partsOf_arr, List.map_cons, List.map_nil] at hv); subst hv)) | ((with_reducible apply Wseq.stg (op := Op.call ⟨Callee.builtin Builtin.len, _, _⟩)); (focus rfl); (focus (exact to_lenS (sl_ rfl) rfl))) | ((with_reducible apply Wseq.stg (op := Op.binOp BinOp.lss _ _ _ _)); (focus rfl); (focus (exact to_lssF rfl rfl (by omega)))) | ((with_reducible apply Wseq.stg (op := Op.binOp BinOp.eql _ _ _ _)); (focus rfl); (focus (exact to_eqF (un_ rfl) rfl rfl))) | ((with_reducible apply Wseq.stg (op := Op.binOp BinOp.neq _ _ _ _)); (focus rfl); (focus (exact to_neF (un_ rfl) rfl rfl))) | ((with_reducible apply Wseq.stg (op := Op.binOp BinOp.neq _ _ _ _)); (focus rfl); (focus (exact to_neB (un_ rfl) rfl rfl)))))
          refine Wseq.call rfl rfl (code_at (by ((repeat ((with_reducible apply Fresh.put); (focus omega))); (first | (with_reducible assumption) | (exact Fresh.up (by with_reducible assumption) (by omega))))) (G h3 K3) (B4 : Has h3 b4 _) (z := 7) (by kernel_rfl)) ?_
          rintro v4 h4 c4 r4 w5 ⟨rfl, e4⟩
          cases e4
          (repeat (first | (with_reducible refine Then.go ?_) | (with_reducible refine Wx.seq ?_) | (with_reducible refine Wx.skip ?_) | (with_reducible refine Wx.reg ?_) | (refine Wx.condF rfl (by (first | rfl | (simp only [decide_eq_false_iff_not, Bool.not_eq_false', decide_eq_true_eq, Option.isNone_none, Option.isNone_some, Option.isSome_none, Option.isSome_some, beq_self_eq_true, Bool.not_true, Bool.not_false]; first | done | omega))) ?_) | ((with_reducible refine Wseq.nil ?_); intro e he; (simp only [envOf_eq, keepFrom_cons, keepFrom_nil, flushE_mk, flL_cons, flL_nil, st_cons, st_nil, Nat.testBit, Nat.reduceShiftRight, Nat.reduceAnd, Nat.reduceBNe, Nat.reduceEqDiff, Nat.reduceAdd, ↓reduceIte, reduceCtorEq, Bool.false_eq_true] at he; subst he)) | ((with_reducible apply Wseq.mv); (focus rfl); (intro v hv; (simp only [ev_tmp, ev_const, ev_global, ev_func, look_if, lk_nil, Nat.reduceEqDiff, eq_self, ↓reduceIte, reduceCtorEq, partsOf_arr, List.map_cons, List.map_nil] at hv); subst hv)) | ((with_reducible apply Wseq.pkT); (focus rfl); (focus rfl); (intro v hv; (simp only [ev_tmp, ev_const, ev_global, ev_func, look_if, lk_nil, Nat.reduceEqDiff, eq_self, ↓reduceIte, reduceCtorEq, partsOf_arr, List.map_cons, List.map_nil] at hv); subst hv)) | ((with_reducible apply Wseq.pkF); (focus rfl); (focus rfl); (intro v hv; (simp only [ev_tmp, ev_const, ev_global, ev_func, look_if, lk_nil, Nat.reduceEqDiff, eq_self, ↓reduceIte, reduceCtorEq, partsOf_arr, List.map_cons, List.map_nil] at hv); subst hv)) | ((with_reducible apply Wseq.stg (op := Op.binOp BinOp.eql _ _ _ _)); (focus rfl); (focus (exact to_eqF (un_ rfl) rfl rfl))) | ((with_reducible apply Wseq.stg (op := Op.binOp BinOp.neq _ _ _ _)); (focus rfl); (focus (exact to_neIF rfl rfl (by omega))))))
          refine CutE.go (E9 c M _ n k (.slice wa lw.length lw.length) z _ _ _ _ _ _ _ _ _ _ _ _ _ _ _ _ _ _) (by (refine EqK.of ?_ ?_ <;> (repeat (first | (exact all_nil) | ((apply all_cons); (focus rfl)))))) ⟨_, _, _, _, qv, l, U, _, lw, V, _, _, _, _, _, _, _, _, _, _, _, _, _, _, _, _, _, _, rfl, rfl, I2.keep f3 (by omega) K3'⟩
      · rcases l with _ | ⟨⟨xid, xvec, xxs, xdr, xg⟩, r⟩
        · obtain rfl : lw = [] := by cases lw with | nil => rfl | cons _ _ => simp at hel
          (repeat (first | (with_reducible refine Wx.seq ?_) | (with_reducible refine Wx.reg ?_) | (refine Wx.condF rfl (by (first | rfl | (simp only [decide_eq_false_iff_not, Bool.not_eq_false', decide_eq_true_eq, Option.isNone_none, Option.isNone_some, Option.isSome_none, Option.isSome_some, beq_self_eq_true, Bool.not_true, Bool.not_false]; first | done | omega))) ?_) | ((with_reducible apply Wseq.mv); (focus rfl); (intro v hv; (simp only [ev_tmp, ev_const, ev_global, ev_func, look_if, lk_nil, Nat.reduceEqDiff, eq_self, ↓reduceIte, reduceCtorEq, partsOf_arr, List.map_cons, List.map_nil] at hv); subst hv))))
          refine Wseq.call rfl rfl (qtake_none H (by ((repeat ((with_reducible apply Fresh.put); (focus omega))); (first | (with_reducible assumption) | (exact Fresh.up (by with_reducible assumption) (by omega))))) (I2.q.keep (h' := ((h2.set c2 _).set c2 _).set c2 _) f2 fun b hb hlt => by rw [get_other (by omega), get_other (by omega), get_other (by omega)])) ?_
          rintro v3 h3 c3 r3 w3 ⟨rfl, x3⟩
          have y3 := x3.c
          dsimp only at y3
          have f3 : Fresh h3 c3 := x3.fresh
          have K3' := Kp.ext (W := fun _ => False) (h := h2) (c := c2) (h1 := ((h2.set c2 _).set c2 _).set c2 _) (by (repeat (first | (with_reducible exact Kp.refl) | (with_reducible assumption) | ((with_reducible apply Kp.set); (focus (first | (left; omega) | (right; first | exact rfl | assumption | (exact Or.inl (by assumption)) | (exact Or.inr (by assumption)) | (simp; done) | omega))))))) x3 (by omega) (fun _ _ q => q)
          (repeat (first | (with_reducible refine Then.go ?_) | (with_reducible refine Wx.seq ?_) | (refine Wx.dreg rfl ?_) | ((with_reducible refine Wseq.nil ?_); intro e he; (simp only [envOf_eq, keepFrom_cons, keepFrom_nil, flushE_mk, flL_cons, flL_nil, st_cons, st_nil, Nat.testBit, Nat.reduceShiftRight, Nat.reduceAnd, Nat.reduceBNe, Nat.reduceEqDiff, Nat.reduceAdd, ↓reduceIte, reduceCtorEq, Bool.false_eq_true] at he; subst he)) | ((with_reducible apply Wseq.mv); (focus rfl); (intro v hv; (simp only [ev_tmp, ev_const, ev_global, ev_func, look_if, lk_nil, Nat.reduceEqDiff, eq_self, ↓reduceIte, reduceCtorEq, partsOf_arr, List.map_cons, List.map_nil] at hv); subst hv)) | ((with_reducible apply Wseq.as); (focus rfl); (intro v hv; (simp only [ev_tmp, ev_const, ev_global, ev_func, look_if, lk_nil, Nat.reduceEqDiff, eq_self, ↓reduceIte, reduceCtorEq, partsOf_arr, List.map_cons, List.map_nil] at hv); subst hv)) | ((with_reducible apply Wseq.so); (focus rfl); (focus (exact (sz_ rfl))); (focus rfl); (focus (exact (by (repeat (first | (with_reducible exact Has.same) | (with_reducible assumption) | ((with_reducible apply Has.other); (focus omega))))))); (focus omega); (intro v hv; (simp only [ev_tmp, ev_const, ev_global, ev_func, look_if, lk_nil, Nat.reduceEqDiff, eq_self, ↓reduceIte, reduceCtorEq, partsOf_arr, List.map_cons, List.map_nil] at hv); subst hv); refine ⟨_, _, (by (first | exact cellsA_agg _ | rfl)), rfl, rfl, ?_⟩) | ((with_reducible apply Wseq.stg (op := Op.alloc _)); (focus rfl); (focus (exact to_alloc (ze_ rfl) (by (first | exact cellsA_agg _ | rfl)) (by ((repeat ((with_reducible apply Fresh.put); (focus omega))); (first | (with_reducible assumption) | (exact Fresh.up (by with_reducible assumption) (by omega)))))))) | ((with_reducible apply Wseq.stg (op := Op.extract _ _)); (focus rfl); (focus (exact to_extract rfl rfl))) | ((with_reducible apply Wtr.mv); (focus rfl); (intro v hv; (simp only [ev_tmp, ev_const, ev_global, ev_func, look_if, lk_nil, Nat.reduceEqDiff, eq_self, ↓reduceIte, reduceCtorEq, partsOf_arr, List.map_cons, List.map_nil] at hv); subst hv)) | ((with_reducible apply Wtr.pkF); (focus rfl); (focus rfl); (intro v hv; (simp only [ev_tmp, ev_const, ev_global, ev_func, look_if, lk_nil, Nat.reduceEqDiff, eq_self, ↓reduceIte, reduceCtorEq, partsOf_arr, List.map_cons, List.map_nil] at hv); subst hv)) | ((with_reducible apply Wtr.bd); (focus rfl); (focus (exact (bt_ rfl))); (intro v hv; (simp only [ev_tmp, ev_const, ev_global, ev_func, look_if, lk_nil, Nat.reduceEqDiff, eq_self, ↓reduceIte, reduceCtorEq, partsOf_arr, List.map_cons, List.map_nil] at hv); subst hv); refine ⟨_, rfl, ?_⟩) | ((with_reducible apply Wtr.stx (op := Op.load _ _)); (focus rfl); (focus (exact to_loadS (ag_ rfl) rfl (by (repeat (first | (with_reducible exact Has.same.cel) | (with_reducible assumption) | ((with_reducible apply Has.cel); (focus (with_reducible assumption))) | ((with_reducible apply Cel.other); (focus omega))))) (by omega) (by rfl))); (focus (repeat (first | (with_reducible exact all_nil) | ((with_reducible apply all_cons); (focus (first | (right; with_reducible exact ApartP.rr) | (right; with_reducible exact ApartP.rn) | (left; dsimp only; decide +kernel) | (right; with_reducible exact ApartP.rc (by assumption)) | (right; refine ⟨?_, ?_, ?_, ?_, ?_⟩ <;> (first | (with_reducible exact all_nil) | (intro b hb; (try simp only [List.mem_cons, List.not_mem_nil, or_false] at hb ⊢); omega)))))))))) | ((with_reducible apply Wtr.stq (op := Op.call ⟨Callee.builtin Builtin.len, _, _⟩)); (focus rfl); (focus (exact to_lenS (sl_ rfl) rfl))) | ((with_reducible apply Wtr.stq (op := Op.unOp UnOp.not _ _)); (focus rfl); (focus (exact to_notF rfl))) | ((with_reducible apply Wtr.stq (op := Op.binOp BinOp.gtr _ _ _ _)); (focus rfl); (focus (exact to_gtr rfl rfl))) | ((with_reducible apply Wtr.stq (op := Op.binOp BinOp.neq _ _ _ _)); (focus rfl); (focus (exact to_neB (un_ rfl) rfl rfl))) | (refine Wtr.no rfl ?_)))
          refine Wtr.call rfl rfl (change_spec H (by ((repeat ((with_reducible apply Fresh.put); (focus omega))); (first | (with_reducible assumption) | (exact Fresh.up (by with_reducible assumption) (by omega))))) 0 0 false (n := 0) (zs := []) rfl (.inl ⟨rfl, rfl, _, _, rfl⟩) (.inl ⟨rfl, rfl, _, _, rfl⟩) (Nat.zero_le _) (fun _ => False) (by rintro x (h | h) <;> cases h)) ?_
          rintro v5 h5 c5 r5 w5 ⟨rfl, x5⟩
          have y5 := x5.c
          dsimp only at y5
          have f5 : Fresh h5 c5 := x5.fresh
          have hw5 := x5.quiet (fun _ _ q => q)
          have K5' := Kp.ext (W := fun _ => False) (h := h2) (c := c2) (h1 := (h3.set c3 _).set c3 _) (by (repeat (first | (with_reducible exact Kp.refl) | (with_reducible assumption) | ((with_reducible apply Kp.set); (focus (first | (left; omega) | (right; first | exact rfl | assumption | (exact Or.inl (by assumption)) | (exact Or.inr (by assumption)) | (simp; done) | omega))))))) x5 (by omega) (fun _ _ q => q)
          refine ⟨(by (repeat (first | (with_reducible exact all_nil) | ((with_reducible apply all_cons); (focus (first | (right; with_reducible exact ApartP.rr) | (right; with_reducible exact ApartP.rn) | (left; dsimp only; decide +kernel) | (right; with_reducible exact ApartP.rc (by assumption)) | (right; refine ⟨?_, ?_, ?_, ?_, ?_⟩ <;> (first | (with_reducible exact all_nil) | (intro b hb; (try simp only [List.mem_cons, List.not_mem_nil, or_false] at hb ⊢); omega))))))))), ?_⟩
          (repeat (first | (with_reducible refine Then.go ?_) | (with_reducible refine Wx.seq ?_) | (with_reducible refine Wx.skip ?_) | (with_reducible refine Wx.reg ?_) | (refine Wx.condF rfl (by (first | rfl | (simp only [decide_eq_false_iff_not, Bool.not_eq_false', decide_eq_true_eq, Option.isNone_none, Option.isNone_some, Option.isSome_none, Option.isSome_some, beq_self_eq_true, Bool.not_true, Bool.not_false]; first | done | omega))) ?_) | ((with_reducible refine Wseq.nil ?_); intro e he; (simp only [envOf_eq, keepFrom_cons, keepFrom_nil, flushE_mk, flL_cons, flL_nil, st_cons, st_nil, Nat.testBit, Nat.reduceShiftRight, Nat.reduceAnd, Nat.reduceBNe, Nat.reduceEqDiff, Nat.reduceAdd, ↓reduceIte, reduceCtorEq, Bool.false_eq_true] at he; subst he)) | ((with_reducible apply Wseq.mv); (focus rfl); (intro v hv; (simp only [ev_tmp, ev_const, ev_global, ev_func, look_if, lk_nil, Nat.reduceEqDiff, eq_self, ↓reduceIte, reduceCtorEq, partsOf_arr, List.map_cons, List.map_nil] at hv); subst hv)) | ((with_reducible refine Wtr.nil ?_); intro e he; (simp only [envOf_eq, keepFrom_cons, keepFrom_nil, flushE_mk, flL_cons, flL_nil, st_cons, st_nil, Nat.testBit, Nat.reduceShiftRight, Nat.reduceAnd, Nat.reduceBNe, Nat.reduceEqDiff, Nat.reduceAdd, ↓reduceIte, reduceCtorEq, Bool.false_eq_true] at he; subst he)) | ((with_reducible apply Wtr.pkT); (focus rfl); (focus rfl); (intro v hv; (simp only [ev_tmp, ev_const, ev_global, ev_func, look_if, lk_nil, Nat.reduceEqDiff, eq_self, ↓reduceIte, reduceCtorEq, partsOf_arr, List.map_cons, List.map_nil] at hv); subst hv)) | ((with_reducible apply Wtr.pkF); (focus rfl); (focus rfl); (intro v hv; (simp only [ev_tmp, ev_const, ev_global, ev_func, look_if, lk_nil, Nat.reduceEqDiff, eq_self, ↓reduceIte, reduceCtorEq, partsOf_arr, List.map_cons, List.map_nil] at hv); subst hv)) | ((with_reducible apply Wtr.stq (op := Op.unOp UnOp.not _ _)); (focus rfl); (focus (exact to_notT rfl)))))
          refine CutE.go (E9 c M _ n k (.slice wa 0 0) z _ _ _ _ _ _ _ _ _ _ _ _ _ _ _ _ _ _) (by (refine EqK.of ?_ ?_ <;> (repeat (first | (exact all_nil) | ((apply all_cons); (focus rfl)))))) ⟨_, _, _, _, qv, [], U, _, [], V, _, _, _, _, _, _, _, _, _, _, _, _, _, _, _, _, _, _, rfl, rfl, I2.keep f5 (by omega) K5'⟩
        · generalize hn0 : lw.length = n0
          rcases lw with _ | ⟨⟨yid, yvec, yxs, ydr, yg⟩, rw'⟩
          · simp at hel
          obtain rfl : n0 = rw'.length + 1 := hn0.symm
          have hst := I2.st
          simp only [List.map_cons, Chg.strip, List.cons.injEq, Prod.mk.injEq] at hst
          obtain ⟨⟨rfl, rfl, rfl, rfl⟩, hst⟩ := hst
          have ox := I2.q.vec _ (List.mem_cons_self ..)
          have sx := I2.q.vsep _ (List.mem_cons_self ..)
          obtain ⟨zs', hz', hz8'⟩ := I2.ints _ (List.mem_cons_self ..)
          dsimp only at hz' ox sx
          subst hz'
          obtain ⟨xa, xk, rfl⟩ := ox.val
          have hll := I2.len
          have hbg' : (zs'.map (Value.int .i32)).length ≤ big := by rw [List.length_map]; unfold big; omega
          (repeat (first | (with_reducible refine Wx.seq ?_) | (with_reducible refine Wx.reg ?_) | (refine Wx.condF rfl (by (first | rfl | (simp only [decide_eq_false_iff_not, Bool.not_eq_false', decide_eq_true_eq, Option.isNone_none, Option.isNone_some, Option.isSome_none, Option.isSome_some, beq_self_eq_true, Bool.not_true, Bool.not_false]; first | done | omega))) ?_) | ((with_reducible apply Wseq.mv); (focus rfl); (intro v hv; (simp only [ev_tmp, ev_const, ev_global, ev_func, look_if, lk_nil, Nat.reduceEqDiff, eq_self, ↓reduceIte, reduceCtorEq, partsOf_arr, List.map_cons, List.map_nil] at hv); subst hv))))
          refine Wseq.call rfl rfl (qtake_some H (by ((repeat ((with_reducible apply Fresh.put); (focus omega))); (first | (with_reducible assumption) | (exact Fresh.up (by with_reducible assumption) (by omega))))) (I2.q.keep (h' := ((h2.set c2 _).set c2 _).set c2 _) f2 fun b hb hlt => by rw [get_other (by omega), get_other (by omega), get_other (by omega)]) (by simp at hll; omega)) ?_
          rintro v3 h3 c3 r3 w3 ⟨rfl, ⟨wq, q3⟩, x3⟩
          have y3 := x3.c
          dsimp only at y3 q3
          have f3 : Fresh h3 c3 := x3.fresh
          have W3 : WRow h3 (.slice wa (rw'.length + 1) (rw'.length + 1)) (⟨_, yvec, _, _, _⟩ :: rw') V := I2.w.keep f2 fun b hb hlt => (x3.get (by omega) (fun e => (I2.V1 b hb).2.2 (by rw [e]; exact I2.q.pU))).trans (by rw [get_other (by omega), get_other (by omega), get_other (by omega)])
          have ox3 : Own h3 0 (.slice xa (zs'.map (Value.int .i32)).length xk) (zs'.map (Value.int .i32)).length (zs'.map (Value.int .i32)) := ox.keep fun b hb => by
            have u1 := (ox.blk hb).2.lt f2
            exact (x3.get (by omega) (sx b hb).2.1).trans (by rw [get_other (by omega), get_other (by omega), get_other (by omega)])
          have oy3 := W3.vec _ (List.mem_cons_self ..)
          dsimp only at oy3
          obtain ⟨ya, yk, rfl⟩ := oy3.val
          rcases W3.row with ⟨_, e⟩ | ⟨b0, o0, cs0, hv, hb0, hs0⟩
          · cases e
          obtain ⟨rfl, hv2⟩ : wa = some ⟨b0, o0, some 4⟩ ∧ True := by
            simp only [Value.slice.injEq] at hv
            exact ⟨hv.1, trivial⟩
          have hb0l := hb0.lt f3
          have hsub0 := sub_chg hs0 (i := 0) rfl
          have hrest := (subN_row (l := rw') (k := 0) hs0 rfl).2
          have K3' := Kp.ext (W := fun b => b = c) (h := h2) (c := c2) (h1 := ((h2.set c2 _).set c2 _).set c2 _) (by (repeat (first | (with_reducible exact Kp.refl) | (with_reducible assumption) | ((with_reducible apply Kp.set); (focus (first | (left; omega) | (right; first | exact rfl | assumption | (exact Or.inl (by assumption)) | (exact Or.inr (by assumption)) | (simp; done) | omega))))))) x3 (by omega) (fun _ _ q => q)
          (repeat (first | (with_reducible refine Then.go ?_) | (with_reducible refine Wx.seq ?_) | (refine Wx.dreg rfl ?_) | ((with_reducible refine Wseq.nil ?_); intro e he; (simp only [envOf_eq, keepFrom_cons, keepFrom_nil, flushE_mk, flL_cons, flL_nil, st_cons, st_nil, Nat.testBit, Nat.reduceShiftRight, Nat.reduceAnd, Nat.reduceBNe, Nat.reduceEqDiff, Nat.reduceAdd, ↓reduceIte, reduceCtorEq, Bool.false_eq_true] at he; subst he)) | ((with_reducible apply Wseq.mv); (focus rfl); (intro v hv; (simp only [ev_tmp, ev_const, ev_global, ev_func, look_if, lk_nil, Nat.reduceEqDiff, eq_self, ↓reduceIte, reduceCtorEq, partsOf_arr, List.map_cons, List.map_nil] at hv); subst hv)) | ((with_reducible apply Wseq.as); (focus rfl); (intro v hv; (simp only [ev_tmp, ev_const, ev_global, ev_func, look_if, lk_nil, Nat.reduceEqDiff, eq_self, ↓reduceIte, reduceCtorEq, partsOf_arr, List.map_cons, List.map_nil] at hv); subst hv)) | ((with_reducible apply Wseq.so); (focus rfl); (focus (exact (sz_ rfl))); (focus rfl); (focus (exact (by (repeat (first | (with_reducible exact Has.same) | (with_reducible assumption) | ((with_reducible apply Has.other); (focus omega))))))); (focus omega); (intro v hv; (simp only [ev_tmp, ev_const, ev_global, ev_func, look_if, lk_nil, Nat.reduceEqDiff, eq_self, ↓reduceIte, reduceCtorEq, partsOf_arr, List.map_cons, List.map_nil] at hv); subst hv); refine ⟨_, _, (by (first | exact cellsA_agg _ | rfl)), rfl, rfl, ?_⟩) | ((with_reducible apply Wseq.stg (op := Op.alloc _)); (focus rfl); (focus (exact to_alloc (ze_ rfl) (by (first | exact cellsA_agg _ | rfl)) (by ((repeat ((with_reducible apply Fresh.put); (focus omega))); (first | (with_reducible assumption) | (exact Fresh.up (by with_reducible assumption) (by omega)))))))) | ((with_reducible apply Wseq.stg (op := Op.extract _ _)); (focus rfl); (focus (exact to_extract rfl rfl))) | ((with_reducible apply Wtr.mv); (focus rfl); (intro v hv; (simp only [ev_tmp, ev_const, ev_global, ev_func, look_if, lk_nil, Nat.reduceEqDiff, eq_self, ↓reduceIte, reduceCtorEq, partsOf_arr, List.map_cons, List.map_nil] at hv); subst hv)) | ((with_reducible apply Wtr.stx (op := Op.load _ _)); (focus rfl); (focus (exact to_loadS (ag_ rfl) rfl (by (repeat (first | (with_reducible exact Has.same.cel) | (with_reducible assumption) | ((with_reducible apply Has.cel); (focus (with_reducible assumption))) | ((with_reducible apply Cel.other); (focus omega))))) (by omega) (by rfl))); (focus (repeat (first | (with_reducible exact all_nil) | ((with_reducible apply all_cons); (focus (first | (right; with_reducible exact ApartP.rr) | (right; with_reducible exact ApartP.rn) | (left; dsimp only; decide +kernel) | (right; with_reducible exact ApartP.rc (by assumption)) | (right; refine ⟨?_, ?_, ?_, ?_, ?_⟩ <;> (first | (with_reducible exact all_nil) | (intro b hb; (try simp only [List.mem_cons, List.not_mem_nil, or_false] at hb ⊢); omega)))))))))) | ((with_reducible apply Wtr.stq (op := Op.call ⟨Callee.builtin Builtin.len, _, _⟩)); (focus rfl); (focus (exact to_lenS (sl_ rfl) rfl))) | ((with_reducible apply Wtr.stq (op := Op.binOp BinOp.gtr _ _ _ _)); (focus rfl); (focus (exact to_gtrT rfl rfl (by omega)))) | ((with_reducible apply Wtr.stq (op := Op.binOp BinOp.neq _ _ _ _)); (focus rfl); (focus (exact to_neB (un_ rfl) rfl rfl)))))
          ((with_reducible apply Wtr.stq); (focus rfl); (focus (exact to_indexAddr (k := 0) el86 rfl rfl (by rfl) (by simp))))
          ((with_reducible apply Wtr.stx); (focus rfl); (focus (exact to_loadS ag70 rfl (Cel.other (by omega) (Cel.other (by omega) hb0.cel)) (by omega) hsub0)); (focus (repeat (first | (with_reducible exact all_nil) | ((with_reducible apply all_cons); (focus (first | (right; with_reducible exact ApartP.rr) | (right; with_reducible exact ApartP.rn) | (left; dsimp only; decide +kernel) | (right; with_reducible exact ApartP.rc (by assumption)) | (right; refine ⟨?_, ?_, ?_, ?_, ?_⟩ <;> (first | (with_reducible exact all_nil) | (intro b hb; (try simp only [List.mem_cons, List.not_mem_nil, or_false] at hb ⊢); omega))))))))))
          refine Wtr.call rfl rfl (change_spec H (by ((repeat ((with_reducible apply Fresh.put); (focus omega))); (first | (with_reducible assumption) | (exact Fresh.up (by with_reducible assumption) (by omega))))) _ _ _ (n := (zs'.map (Value.int .i32)).length) (zs := zs') (by simp) (((ox3.row rfl).new f3).set (fun b o sp m cap e _ => by have := (ox3.blk (b := b) (by rw [e]; rfl)).2.lt f3; omega)) (((oy3.row rfl).new f3).set (fun b o sp m cap e _ => by have := (oy3.blk (b := b) (by rw [e]; rfl)).2.lt f3; omega)) hbg' (fun _ => True) (fun _ _ => trivial)) ?_
          rintro v5 h5 c5 r5 w5 ⟨rfl, x5⟩
          have y5 := x5.c
          dsimp only at y5
          have f5 : Fresh h5 c5 := x5.fresh
          have hw5 := x5.quiet (fun _ _ q => q)
          have K5' : Kp h3 h5 c3 (fun _ => False) := Kp.ext (W := fun _ => False) (h := h3) (c := c3) (h1 := (h3.set c3 _).set c3 _) (by (repeat (first | (with_reducible exact Kp.refl) | (with_reducible assumption) | ((with_reducible apply Kp.set); (focus (first | (left; omega) | (right; first | exact rfl | assumption | (exact Or.inl (by assumption)) | (exact Or.inr (by assumption)) | (simp; done) | omega))))))) x5 (by omega) (fun _ _ q => q)
          have W5 := W3.keep (h' := h5) f3 fun b hb hlt => K5' b hlt (fun q => q)
          have q5 := q3.keep (h' := h5) f3 fun b hb hlt => K5' b hlt (fun q => q)
          refine ⟨(by (repeat (first | (with_reducible exact all_nil) | ((with_reducible apply all_cons); (focus (first | (right; with_reducible exact ApartP.rr) | (right; with_reducible exact ApartP.rn) | (left; dsimp only; decide +kernel) | (right; with_reducible exact ApartP.rc (by assumption)) | (right; refine ⟨?_, ?_, ?_, ?_, ?_⟩ <;> (first | (with_reducible exact all_nil) | (intro b hb; (try simp only [List.mem_cons, List.not_mem_nil, or_false] at hb ⊢); omega))))))))), ?_⟩
          (repeat (first | (with_reducible refine Then.go ?_) | (with_reducible refine Wx.seq ?_) | (with_reducible refine Wx.skip ?_) | (with_reducible refine Wx.reg ?_) | (refine Wx.condT rfl (by (first | rfl | (simp only [decide_eq_true_eq, Bool.not_eq_true', decide_eq_false_iff_not, Option.isNone_none, Option.isNone_some, Option.isSome_none, Option.isSome_some, beq_self_eq_true, Bool.not_true, Bool.not_false]; first | done | omega) | (simp; omega) | (solve | simp [*]) | fail)) ?_) | (refine Wx.condF rfl (by (first | rfl | (simp only [decide_eq_false_iff_not, Bool.not_eq_false', decide_eq_true_eq, Option.isNone_none, Option.isNone_some, Option.isSome_none, Option.isSome_some, beq_self_eq_true, Bool.not_true, Bool.not_false]; first | done | omega))) ?_) | ((with_reducible refine Wseq.nil ?_); intro e he; (simp only [envOf_eq, keepFrom_cons, keepFrom_nil, flushE_mk, flL_cons, flL_nil, st_cons, st_nil, Nat.testBit, Nat.reduceShiftRight, Nat.reduceAnd, Nat.reduceBNe, Nat.reduceEqDiff, Nat.reduceAdd, ↓reduceIte, reduceCtorEq, Bool.false_eq_true] at he; subst he)) | ((with_reducible apply Wseq.mv); (focus rfl); (intro v hv; (simp only [ev_tmp, ev_const, ev_global, ev_func, look_if, lk_nil, Nat.reduceEqDiff, eq_self, ↓reduceIte, reduceCtorEq, partsOf_arr, List.map_cons, List.map_nil] at hv); subst hv)) | ((with_reducible refine Wtr.nil ?_); intro e he; (simp only [envOf_eq, keepFrom_cons, keepFrom_nil, flushE_mk, flL_cons, flL_nil, st_cons, st_nil, Nat.testBit, Nat.reduceShiftRight, Nat.reduceAnd, Nat.reduceBNe, Nat.reduceEqDiff, Nat.reduceAdd, ↓reduceIte, reduceCtorEq, Bool.false_eq_true] at he; subst he)) | ((with_reducible apply Wtr.mv); (focus rfl); (intro v hv; (simp only [ev_tmp, ev_const, ev_global, ev_func, look_if, lk_nil, Nat.reduceEqDiff, eq_self, ↓reduceIte, reduceCtorEq, partsOf_arr, List.map_cons, List.map_nil] at hv); subst hv)) | ((with_reducible apply Wtr.pkT); (focus rfl); (focus rfl); (intro v hv; (simp only [ev_tmp, ev_const, ev_global, ev_func, look_if, lk_nil, Nat.reduceEqDiff, eq_self, ↓reduceIte, reduceCtorEq, partsOf_arr, List.map_cons, List.map_nil] at hv); subst hv)) | ((with_reducible apply Wtr.pkF); (focus rfl); (focus rfl); (intro v hv; (simp only [ev_tmp, ev_const, ev_global, ev_func, look_if, lk_nil, Nat.reduceEqDiff, eq_self, ↓reduceIte, reduceCtorEq, partsOf_arr, List.map_cons, List.map_nil] at hv); subst hv)) | ((with_reducible apply Wtr.stq (op := Op.unOp UnOp.not _ _)); (focus rfl); (focus (exact to_notT rfl))) | (refine Wtr.no rfl ?_)))
          ((with_reducible apply Wseq.stg); (focus rfl); (focus (exact to_sliceOwn (k := 1) el86 rfl rfl rfl (by simp) (by omega))))
          (repeat (first | ((with_reducible refine Wseq.nil ?_); intro e he; (simp only [envOf_eq, keepFrom_cons, keepFrom_nil, flushE_mk, flL_cons, flL_nil, st_cons, st_nil, Nat.testBit, Nat.reduceShiftRight, Nat.reduceAnd, Nat.reduceBNe, Nat.reduceEqDiff, Nat.reduceAdd, ↓reduceIte, reduceCtorEq, Bool.false_eq_true] at he; subst he)) | ((with_reducible apply Wseq.as); (focus rfl); (intro v hv; (simp only [ev_tmp, ev_const, ev_global, ev_func, look_if, lk_nil, Nat.reduceEqDiff, eq_self, ↓reduceIte, reduceCtorEq, partsOf_arr, List.map_cons, List.map_nil] at hv); subst hv))))
          refine CutE.go (E9 c M _ n k (.slice (some ⟨b0, o0 + 1 * 4, some 4⟩) rw'.length rw'.length) z _ _ _ _ _ _ _ _ _ _ _ _ _ _ _ _ _ _) (by (refine EqK.of ?_ ?_ <;> (repeat (first | (exact all_nil) | ((apply all_cons); (focus rfl)))))) ⟨_, _, _, _, wq, r, U, _, rw', V, _, _, _, _, _, _, _, _, _, _, _, _, _, _, _, _, _, _, rfl, rfl, f5, by omega, (fun b hb _ => ?_), q5, (fun b hb => ?_), ⟨.inr ⟨b0, o0 + 1 * 4, cs0, rfl, (K5' b0 hb0l (fun q => q)).trans hb0, hrest⟩, ?_, ?_, ?_⟩, (fun b hb => ?_), hst, (fun x hx => I2.ints x (List.mem_cons_of_mem _ hx)), (by simp at hll; omega)⟩
          · exact (K5' b (by omega) (fun q => q)).trans ((K3' b (by omega) (by omega)).trans (I2.kp b hb (fun q => q)))
          · have := I2.U1 b hb; omega
          · rintro b ⟨⟩
            exact W5.sep b0 rfl
          · exact fun x hx => W5.vec x (List.mem_cons_of_mem _ hx)
          · exact fun x hx b hb => ⟨(W5.vsep x (List.mem_cons_of_mem _ hx) b hb).1, fun e => (W5.vsep x (List.mem_cons_of_mem _ hx) b hb).2 (by cases e; rfl)⟩
          · have := I2.V1 b hb
            exact ⟨by omega, by omega, this.2.2⟩
    · rintro k s ⟨h3, c3, rl3, wl3, qv, l, U, w, lw, V, j9, j10, j11, j12, j13, j14, j30, j51, j70, j72, j111, j112, j128, j130, j131, j132, j143, j150, rfl, rfl, I3⟩
      obtain ⟨wa, rfl⟩ := I3.w.val
      have f3 := I3.f
      have y3 := I3.le
      have hel := I3.eqlen
      have hll := I3.len
      have hbg : ∀ x ∈ l, ∃ zs : List Int, x.xs = zs.map (Value.int .i32) ∧ zs.length ≤ 8 := by
        intro x hx
        have : x.strip ∈ lw.map Chg.strip := by rw [← I3.st]; exact List.mem_map_of_mem hx
        obtain ⟨y, hy, hs⟩ := List.mem_map.1 this
        obtain ⟨zs, h1, h2⟩ := I3.ints y hy
        simp only [Chg.strip, Prod.mk.injEq] at hs
        exact ⟨zs, by rw [← hs.2.1, h1], h2⟩
      unfold E9
      (repeat (first | (with_reducible refine Wx.seq ?_) | (with_reducible refine Wx.reg ?_) | ((with_reducible apply Wseq.mv); (focus rfl); (intro v hv; (simp only [ev_tmp, ev_const, ev_global, ev_func, look_if, lk_nil, Nat.reduceEqDiff, eq_self, ↓reduceIte, reduceCtorEq, partsOf_arr, List.map_cons, List.map_nil] at hv); subst hv))))
      refine Wseq.call rfl rfl (qall_spec H (by ((repeat ((with_reducible apply Fresh.put); (focus omega))); (first | (with_reducible assumption) | (exact Fresh.up (by with_reducible assumption) (by omega))))) I3.q (by omega) (fun x hx => by obtain ⟨zs, h1, h2⟩ := hbg x hx; rw [h1, List.length_map]; unfold big; omega)) ?_
      rintro v4 h4 c4 r4 w4 ⟨⟨la, R4, st4⟩, x4⟩
      have y4 := x4.c
      dsimp only at y4 R4
      have f4 : Fresh h4 c4 := x4.fresh
      have K4 := Kp.ext (W := fun _ => False) (h := h3) (c := c3) Kp.refl x4 (by omega) (fun _ _ q => q)
      obtain ⟨aa, rfl⟩ := R4.val
      have hla : la.length = l.length := by have := congrArg List.length st4; simpa using this
      (repeat (first | (with_reducible refine Then.go ?_) | (with_reducible refine Wx.seq ?_) | (with_reducible refine Wx.reg ?_) | ((with_reducible refine Wseq.nil ?_); intro e he; (simp only [envOf_eq, keepFrom_cons, keepFrom_nil, flushE_mk, flL_cons, flL_nil, st_cons, st_nil, Nat.testBit, Nat.reduceShiftRight, Nat.reduceAnd, Nat.reduceBNe, Nat.reduceEqDiff, Nat.reduceAdd, ↓reduceIte, reduceCtorEq, Bool.false_eq_true] at he; subst he)) | ((with_reducible apply Wseq.mv); (focus rfl); (intro v hv; (simp only [ev_tmp, ev_const, ev_global, ev_func, look_if, lk_nil, Nat.reduceEqDiff, eq_self, ↓reduceIte, reduceCtorEq, partsOf_arr, List.map_cons, List.map_nil] at hv); subst hv)) | ((with_reducible apply Wseq.as); (focus rfl); (intro v hv; (simp only [ev_tmp, ev_const, ev_global, ev_func, look_if, lk_nil, Nat.reduceEqDiff, eq_self, ↓reduceIte, reduceCtorEq, partsOf_arr, List.map_cons, List.map_nil] at hv); subst hv)) | ((with_reducible apply Wseq.stg (op := Op.call ⟨Callee.builtin Builtin.len, _, _⟩)); (focus rfl); (focus (exact to_lenS (sl_ rfl) rfl))) | ((with_reducible apply Wseq.stg (op := Op.binOp BinOp.neq _ _ _ _)); (focus rfl); (focus (exact to_neIF rfl rfl (by omega))))))
      refine Wseq.call rfl rfl (qlen_spec H (by ((repeat ((with_reducible apply Fresh.put); (focus omega))); (first | (with_reducible assumption) | (exact Fresh.up (by with_reducible assumption) (by omega))))) (I3.keep f4 y4 K4).q) ?_
      rintro v5 h5 c5 r5 w5 ⟨rfl, x5⟩
      have y5 := x5.c
      dsimp only at y5
      have f5 : Fresh h5 c5 := x5.fresh
      have K5 := Kp.ext (W := fun _ => False) (h := h3) (c := c3) K4 x5 (by omega) (fun _ _ q => q)
      have R5 := R4.keep (h' := h5) f4 fun b h1 h2 => x5.get h2 (fun q => q)
      (repeat (first | (with_reducible refine Then.go ?_) | (with_reducible refine Wx.seq ?_) | (with_reducible refine Wx.skip ?_) | (with_reducible refine Wx.block ?_) | (with_reducible refine Wx.reg ?_) | (refine Wx.condF rfl (by (first | rfl | (simp only [decide_eq_false_iff_not, Bool.not_eq_false', decide_eq_true_eq, Option.isNone_none, Option.isNone_some, Option.isSome_none, Option.isSome_some, beq_self_eq_true, Bool.not_true, Bool.not_false]; first | done | omega))) ?_) | ((with_reducible refine Wseq.nil ?_); intro e he; (simp only [envOf_eq, keepFrom_cons, keepFrom_nil, flushE_mk, flL_cons, flL_nil, st_cons, st_nil, Nat.testBit, Nat.reduceShiftRight, Nat.reduceAnd, Nat.reduceBNe, Nat.reduceEqDiff, Nat.reduceAdd, ↓reduceIte, reduceCtorEq, Bool.false_eq_true] at he; subst he)) | ((with_reducible apply Wseq.mv); (focus rfl); (intro v hv; (simp only [ev_tmp, ev_const, ev_global, ev_func, look_if, lk_nil, Nat.reduceEqDiff, eq_self, ↓reduceIte, reduceCtorEq, partsOf_arr, List.map_cons, List.map_nil] at hv); subst hv)) | ((with_reducible apply Wseq.pkF); (focus rfl); (focus rfl); (intro v hv; (simp only [ev_tmp, ev_const, ev_global, ev_func, look_if, lk_nil, Nat.reduceEqDiff, eq_self, ↓reduceIte, reduceCtorEq, partsOf_arr, List.map_cons, List.map_nil] at hv); subst hv)) | ((with_reducible apply Wseq.stg (op := Op.call ⟨Callee.builtin Builtin.len, _, _⟩)); (focus rfl); (focus (exact to_lenS (sl_ rfl) rfl))) | ((with_reducible apply Wseq.stg (op := Op.binOp BinOp.neq _ _ _ _)); (focus rfl); (focus (exact to_neIF rfl rfl (by omega))))))
      refine Wx.loopE (fun k1 e s => ∃ (t : Nat) (y : Int) (h' : T AObj) (c' : Nat) (rl' wl' : List Nat) (j9 j10 j11 j12 j14 j30 j51 j70 j72 j111 j112 j128 j132 j143 j150 : Value), e = E92 c M (some ⟨b1, o1, sp1⟩) n k (.slice wa lw.length lw.length) z aa la.length y j9 j10 j11 j12 j14 j30 j51 j70 j72 j111 j112 j128 j132 j143 j150 ∧ y = t ∧ s = ⟨h', c', rl', wl'⟩ ∧ Fresh h' c' ∧ c5 ≤ c' ∧ Kp h3 h' c3 (fun _ => False) ∧ (∀ b, blkOf (.slice aa la.length la.length) = some b → h'.get b = h5.get b) ∧ (∀ (t' : Nat) (x : Chg), t ≤ t' → la[t']? = some x → Own h' c3 x.vec x.xs.length x.xs) ∧ t ≤ la.length ∧ k1 = la.length - t) la.length (E92 c M (some ⟨b1, o1, sp1⟩) n k (.slice wa lw.length lw.length) z aa la.length 0 j9 j10 j11 j12 j14 j30 j51 j70 j72 j111 j112 (.bool false) j132 j143 j150) (by (repeat (first | (with_reducible exact Resp.fn) | (with_reducible apply Resp.then) | (with_reducible apply Resp.out) | (with_reducible apply Resp.round)))) ?_ ?_ ?_
      · unfold E92
        (refine EqK.of ?_ ?_ <;> (repeat (first | (exact all_nil) | ((apply all_cons); (focus rfl)))))
      · exact ⟨0, 0, _, _, _, _, _, _, _, _, _, _, _, _, _, _, _, _, _, _, _, rfl, rfl, rfl, f5, Nat.le_refl _, K5, fun _ _ => rfl, fun t' x _ hx => R5.vec x (List.mem_of_getElem? hx), Nat.zero_le _, rfl⟩
      · rintro k1 e s ⟨t, y, h6, c6, rl6, wl6, j9, j10, j11, j12, j14, j30, j51, j70, j72, j111, j112, j128, j132, j143, j150, rfl, hy, rfl, f6, y6, K6, A6, O6, ht, rfl⟩
        unfold E92
        by_cases ht2 : la.length ≤ t
        · (repeat (first | (with_reducible refine Then.go ?_) | (with_reducible refine Then.ex ?_) | (with_reducible refine Out.go ?_) | (with_reducible refine Out.hit ?_) | (with_reducible refine Wx.seq ?_) | (with_reducible refine Wx.exit ?_) | (with_reducible refine Wx.reg ?_) | (with_reducible refine RoundE.ex ?_) | (refine Wx.condF rfl (by (first | rfl | (simp only [decide_eq_false_iff_not, Bool.not_eq_false', decide_eq_true_eq, Option.isNone_none, Option.isNone_some, Option.isSome_none, Option.isSome_some, beq_self_eq_true, Bool.not_true, Bool.not_false]; first | done | omega))) ?_) | ((with_reducible refine Wseq.nil ?_); intro e he; (simp only [envOf_eq, keepFrom_cons, keepFrom_nil, flushE_mk, flL_cons, flL_nil, st_cons, st_nil, Nat.testBit, Nat.reduceShiftRight, Nat.reduceAnd, Nat.reduceBNe, Nat.reduceEqDiff, Nat.reduceAdd, ↓reduceIte, reduceCtorEq, Bool.false_eq_true] at he; subst he)) | ((with_reducible apply Wseq.mv); (focus rfl); (intro v hv; (simp only [ev_tmp, ev_const, ev_global, ev_func, look_if, lk_nil, Nat.reduceEqDiff, eq_self, ↓reduceIte, reduceCtorEq, partsOf_arr, List.map_cons, List.map_nil] at hv); subst hv)) | ((with_reducible apply Wseq.as); (focus rfl); (intro v hv; (simp only [ev_tmp, ev_const, ev_global, ev_func, look_if, lk_nil, Nat.reduceEqDiff, eq_self, ↓reduceIte, reduceCtorEq, partsOf_arr, List.map_cons, List.map_nil] at hv); subst hv)) | ((with_reducible apply Wseq.stg (op := Op.binOp BinOp.lss _ _ _ _)); (focus rfl); (focus (exact to_lssF rfl rfl (by omega)))) | ((with_reducible apply Wseq.stg (op := Op.binOp BinOp.add _ _ _ _)); (focus rfl); (focus (exact to_add rfl rfl (by omega) (by omega))))))
          refine RoundE.go (60 - (i + 1)) (E9 c M _ n _ (.slice wa lw.length lw.length) (z + 1) _ _ _ _ _ _ _ _ _ _ _ _ _ _ _ _ _ _) (by omega) (by (refine EqK.of ?_ ?_ <;> (repeat (first | (exact all_nil) | ((apply all_cons); (focus rfl)))))) ⟨i + 1, z + 1, _, _, _, _, qv, l, U, _, lw, V, _, _, _, _, _, _, _, _, _, _, _, _, _, _, _, _, _, _, rfl, by omega, rfl, I3.keep f6 (by omega) K6, by omega, rfl⟩
        · have I6 := I3.keep f6 (by omega) K6
          have hx := List.getElem?_eq_getElem (show t < la.length by omega)
          have hyy := List.getElem?_eq_getElem (show t < lw.length by omega)
          generalize la[t] = x at hx
          generalize lw[t] = y' at hyy
          have hs : x.strip = y'.strip := by
            have e1 : (la.map Chg.strip)[t]? = some x.strip := by rw [List.getElem?_map, hx]; rfl
            rw [st4, I3.st, List.getElem?_map, hyy] at e1
            exact (Option.some.inj e1).symm
          have ox := O6 t x (Nat.le_refl _) hx
          have oy := I6.w.vec y' (List.mem_of_getElem? hyy)
          have hxa := R5.sep x (List.mem_of_getElem? hx)
          have hap := R5.apart t
          obtain ⟨zs', hz', hz8'⟩ := I3.ints y' (List.mem_of_getElem? hyy)
          obtain ⟨xid, xvec, xxs, xdr, xg⟩ := x
          obtain ⟨yid, yvec, yxs, ydr, yg⟩ := y'
          simp only [Chg.strip, Prod.mk.injEq] at hs
          dsimp only at ox oy hxa hz'
          obtain ⟨rfl, rfl, rfl, rfl⟩ := hs
          subst hz'
          obtain ⟨xa, xk, rfl⟩ := ox.val
          obtain ⟨ya, yk, rfl⟩ := oy.val
          have hbg' : (zs'.map (Value.int .i32)).length ≤ big := by rw [List.length_map]; unfold big; omega
          rcases R5.row with ⟨_, e⟩ | ⟨rb, ro, rcs, hv, hrb, hrs⟩
          · rw [e] at hx; cases hx
          obtain ⟨rfl, hv2⟩ : aa = some ⟨rb, ro, some 4⟩ ∧ True := by
            simp only [Value.slice.injEq] at hv
            exact ⟨hv.1, trivial⟩
          rcases I6.w.row with ⟨_, e⟩ | ⟨b0, o0, cs0, hv', hb0, hs0⟩
          · rw [e] at hyy; cases hyy
          obtain ⟨rfl, hv2'⟩ : wa = some ⟨b0, o0, some 4⟩ ∧ True := by
            simp only [Value.slice.injEq] at hv'
            exact ⟨hv'.1, trivial⟩
          have hrb6 : Has h6 rb (.cells rcs) := (A6 rb rfl).trans hrb
          have hrbl := hrb6.lt f6
          have hb0l := hb0.lt f6
          have sub1 := sub_chg hrs hx
          have sub2 := sub_chg hs0 hyy
          have hrbc := R5.blk rb rfl
          (repeat (first | (with_reducible refine Then.go ?_) | (with_reducible refine Wx.seq ?_) | (with_reducible refine Wx.skip ?_) | (with_reducible refine Wx.block ?_) | (with_reducible refine Wx.reg ?_) | (refine Wx.dreg rfl ?_) | (refine Wx.condT rfl (by (first | rfl | (simp only [decide_eq_true_eq, Bool.not_eq_true', decide_eq_false_iff_not, Option.isNone_none, Option.isNone_some, Option.isSome_none, Option.isSome_some, beq_self_eq_true, Bool.not_true, Bool.not_false]; first | done | omega) | (simp; omega) | (solve | simp [*]) | fail)) ?_) | ((with_reducible refine Wseq.nil ?_); intro e he; (simp only [envOf_eq, keepFrom_cons, keepFrom_nil, flushE_mk, flL_cons, flL_nil, st_cons, st_nil, Nat.testBit, Nat.reduceShiftRight, Nat.reduceAnd, Nat.reduceBNe, Nat.reduceEqDiff, Nat.reduceAdd, ↓reduceIte, reduceCtorEq, Bool.false_eq_true] at he; subst he)) | ((with_reducible apply Wseq.mv); (focus rfl); (intro v hv; (simp only [ev_tmp, ev_const, ev_global, ev_func, look_if, lk_nil, Nat.reduceEqDiff, eq_self, ↓reduceIte, reduceCtorEq, partsOf_arr, List.map_cons, List.map_nil] at hv); subst hv)) | ((with_reducible apply Wseq.as); (focus rfl); (intro v hv; (simp only [ev_tmp, ev_const, ev_global, ev_func, look_if, lk_nil, Nat.reduceEqDiff, eq_self, ↓reduceIte, reduceCtorEq, partsOf_arr, List.map_cons, List.map_nil] at hv); subst hv)) | ((with_reducible apply Wseq.stg (op := Op.binOp BinOp.lss _ _ _ _)); (focus rfl); (focus (exact to_lssT rfl rfl (by omega)))) | ((with_reducible apply Wtr.mv); (focus rfl); (intro v hv; (simp only [ev_tmp, ev_const, ev_global, ev_func, look_if, lk_nil, Nat.reduceEqDiff, eq_self, ↓reduceIte, reduceCtorEq, partsOf_arr, List.map_cons, List.map_nil] at hv); subst hv))))
          ((with_reducible apply Wtr.stq); (focus rfl); (focus (exact to_indexAddr (k := t) el86 rfl rfl hy (by omega))))
          ((with_reducible apply Wtr.stx); (focus rfl); (focus (exact to_loadS ag70 rfl hrb6.cel (by omega) sub1)); (focus (repeat (first | (with_reducible exact all_nil) | ((with_reducible apply all_cons); (focus (first | (right; with_reducible exact ApartP.rr) | (right; with_reducible exact ApartP.rn) | (left; dsimp only; decide +kernel) | (right; with_reducible exact ApartP.rc (by assumption)) | (right; refine ⟨?_, ?_, ?_, ?_, ?_⟩ <;> (first | (with_reducible exact all_nil) | (intro b hb; (try simp only [List.mem_cons, List.not_mem_nil, or_false] at hb ⊢); omega))))))))))
          (repeat (first | ((with_reducible apply Wtr.mv); (focus rfl); (intro v hv; (simp only [ev_tmp, ev_const, ev_global, ev_func, look_if, lk_nil, Nat.reduceEqDiff, eq_self, ↓reduceIte, reduceCtorEq, partsOf_arr, List.map_cons, List.map_nil] at hv); subst hv))))
          ((with_reducible apply Wtr.stq); (focus rfl); (focus (exact to_indexAddr (k := t) el86 rfl rfl hy (by omega))))
          ((with_reducible apply Wtr.stx); (focus rfl); (focus (exact to_loadS ag70 rfl hb0.cel (by omega) sub2)); (focus (repeat (first | (with_reducible exact all_nil) | ((with_reducible apply all_cons); (focus (first | (right; with_reducible exact ApartP.rr) | (right; with_reducible exact ApartP.rn) | (left; dsimp only; decide +kernel) | (right; with_reducible exact ApartP.rc (by assumption)) | (right; refine ⟨?_, ?_, ?_, ?_, ?_⟩ <;> (first | (with_reducible exact all_nil) | (intro b hb; (try simp only [List.mem_cons, List.not_mem_nil, or_false] at hb ⊢); omega))))))))))
          refine Wtr.call rfl rfl (change_spec H (by ((repeat ((with_reducible apply Fresh.put); (focus omega))); (first | (with_reducible assumption) | (exact Fresh.up (by with_reducible assumption) (by omega))))) _ _ _ (n := (zs'.map (Value.int .i32)).length) (zs := zs') (by simp) (ox.row rfl) (oy.row rfl) hbg' (fun _ => True) (fun _ _ => trivial)) ?_
          rintro v7 h7 c7 r7 w7 ⟨rfl, x7⟩
          have y7 := x7.c
          dsimp only at y7
          have f7 : Fresh h7 c7 := x7.fresh
          have hw7 := x7.quiet (fun _ _ q => q)
          have K7 := Kp.ext (W := fun _ => False) (h := h3) (c := c3) K6 x7 (by omega) (fun _ _ q => q)
          have hrb7 := x7.hs hrb6 (by omega) (fun q => q)
          have hnv : nth rcs (ro + t * 4 + 1) = some (.slice xa (zs'.map (Value.int .i32)).length xk) := by
            have := (subN_some _ _ _ _ sub1).2.2 1 (by omega)
            rw [nth_eq, ← this]; rfl
          refine ⟨(by (repeat (first | (with_reducible exact all_nil) | ((with_reducible apply all_cons); (focus (first | (right; with_reducible exact ApartP.rr) | (right; with_reducible exact ApartP.rn) | (left; dsimp only; decide +kernel) | (right; with_reducible exact ApartP.rc (by assumption)) | (right; refine ⟨?_, ?_, ?_, ?_, ?_⟩ <;> (first | (with_reducible exact all_nil) | (intro b hb; (try simp only [List.mem_cons, List.not_mem_nil, or_false] at hb ⊢); omega))))))))), ?_⟩
          (repeat (first | (with_reducible refine Then.go ?_) | (with_reducible refine Wx.seq ?_) | (with_reducible refine Wx.skip ?_) | (with_reducible refine Wx.reg ?_) | (refine Wx.condF rfl (by (first | rfl | (simp only [decide_eq_false_iff_not, Bool.not_eq_false', decide_eq_true_eq, Option.isNone_none, Option.isNone_some, Option.isSome_none, Option.isSome_some, beq_self_eq_true, Bool.not_true, Bool.not_false]; first | done | omega))) ?_) | ((with_reducible apply Wseq.mv); (focus rfl); (intro v hv; (simp only [ev_tmp, ev_const, ev_global, ev_func, look_if, lk_nil, Nat.reduceEqDiff, eq_self, ↓reduceIte, reduceCtorEq, partsOf_arr, List.map_cons, List.map_nil] at hv); subst hv)) | ((with_reducible refine Wtr.nil ?_); intro e he; (simp only [envOf_eq, keepFrom_cons, keepFrom_nil, flushE_mk, flL_cons, flL_nil, st_cons, st_nil, Nat.testBit, Nat.reduceShiftRight, Nat.reduceAnd, Nat.reduceBNe, Nat.reduceEqDiff, Nat.reduceAdd, ↓reduceIte, reduceCtorEq, Bool.false_eq_true] at he; subst he)) | ((with_reducible apply Wtr.stq (op := Op.unOp UnOp.not _ _)); (focus rfl); (focus (exact to_notT rfl)))))
          ((with_reducible apply Wseq.stg); (focus rfl); (focus (exact to_indexAddr (k := t) el86 rfl rfl hy (by omega))))
          (repeat (first | ((with_reducible apply Wseq.stg (op := Op.fieldAddr _ _ _)); (focus rfl); (focus (exact to_fieldAddr (fa_ rfl) rfl)))))
          ((with_reducible apply Wseq.stg); (focus rfl); (focus (exact to_load (pl_ rfl) rfl hrb7.cel (by omega) hnv)))
          (repeat (first | (with_reducible refine Then.go ?_) | ((with_reducible refine Wseq.nil ?_); intro e he; (simp only [envOf_eq, keepFrom_cons, keepFrom_nil, flushE_mk, flL_cons, flL_nil, st_cons, st_nil, Nat.testBit, Nat.reduceShiftRight, Nat.reduceAnd, Nat.reduceBNe, Nat.reduceEqDiff, Nat.reduceAdd, ↓reduceIte, reduceCtorEq, Bool.false_eq_true] at he; subst he)) | ((with_reducible apply Wseq.stg (op := Op.call ⟨Callee.builtin Builtin.len, _, _⟩)); (focus rfl); (focus (exact to_lenS (sl_ rfl) rfl))) | ((with_reducible apply Wseq.stg (op := Op.binOp BinOp.gtr _ _ _ _)); (focus rfl); (focus (exact to_gtr rfl rfl)))))
          have hA7 : ∀ b, blkOf (.slice (some ⟨rb, ro, some 4⟩) la.length la.length) = some b → h7.get b = h5.get b := fun b hb => by
            cases hb
            exact hrb7.trans hrb.symm
          have O7 : ∀ (t' : Nat) (x : Chg), t ≤ t' → la[t']? = some x → Own h7 c3 x.vec x.xs.length x.xs := fun t' x h1 h2 => (O6 t' x h1 h2).keep fun b hb => x7.get (((O6 t' x h1 h2).blk hb).2.lt f6) (fun q => q)
          by_cases hz0 : (zs'.map (Value.int .i32)).length = 0
          · (repeat (first | (with_reducible refine Then.go ?_) | (with_reducible refine Out.go ?_) | (with_reducible refine Wx.skip ?_) | (with_reducible refine Wx.reg ?_) | (refine Wx.condF rfl (by (first | rfl | (simp only [decide_eq_false_iff_not, Bool.not_eq_false', decide_eq_true_eq, Option.isNone_none, Option.isNone_some, Option.isSome_none, Option.isSome_some, beq_self_eq_true, Bool.not_true, Bool.not_false]; first | done | omega))) ?_) | ((with_reducible refine Wseq.nil ?_); intro e he; (simp only [envOf_eq, keepFrom_cons, keepFrom_nil, flushE_mk, flL_cons, flL_nil, st_cons, st_nil, Nat.testBit, Nat.reduceShiftRight, Nat.reduceAnd, Nat.reduceBNe, Nat.reduceEqDiff, Nat.reduceAdd, ↓reduceIte, reduceCtorEq, Bool.false_eq_true] at he; subst he)) | ((with_reducible apply Wseq.mv); (focus rfl); (intro v hv; (simp only [ev_tmp, ev_const, ev_global, ev_func, look_if, lk_nil, Nat.reduceEqDiff, eq_self, ↓reduceIte, reduceCtorEq, partsOf_arr, List.map_cons, List.map_nil] at hv); subst hv)) | ((with_reducible apply Wseq.stg (op := Op.binOp BinOp.add _ _ _ _)); (focus rfl); (focus (exact to_add rfl rfl (by omega) (by omega))))))
            refine RoundE.go (la.length - (t + 1)) (E92 c M _ n _ (.slice _ lw.length lw.length) z _ la.length (y + 1) _ _ _ _ _ _ _ _ _ _ _ _ _ _ _) (by omega) (by (refine EqK.of ?_ ?_ <;> (repeat (first | (exact all_nil) | ((apply all_cons); (focus rfl)))))) ⟨t + 1, y + 1, _, _, _, _, _, _, _, _, _, _, _, _, _, _, _, _, _, _, _, rfl, by omega, rfl, f7, by omega, K7, hA7, fun t' x h1 h2 => O7 t' x (by omega) h2, by omega, rfl⟩
          · rcases ox with ⟨_, e, _⟩ | ⟨vb, vsp, vk, ev, hvk, hvb, hvB⟩
            · exact absurd e hz0
            simp only [Value.slice.injEq] at ev
            obtain ⟨rfl, _, _⟩ := ev
            have hv7 := x7.hs hvB (hvB.lt f6) (fun q => q)
            have hvl := hv7.lt f7
            obtain ⟨z0, zr, rfl⟩ : ∃ z0 zr, zs' = z0 :: zr := by cases zs' with | nil => simp at hz0 | cons a b => exact ⟨a, b, rfl⟩
            have hne : vb ≠ rb := fun e => hxa vb rfl (by rw [e]; rfl)
            (repeat (first | (with_reducible refine Wx.reg ?_) | (refine Wx.condT rfl (by (first | rfl | (simp only [decide_eq_true_eq, Bool.not_eq_true', decide_eq_false_iff_not, Option.isNone_none, Option.isNone_some, Option.isSome_none, Option.isSome_some, beq_self_eq_true, Bool.not_true, Bool.not_false]; first | done | omega) | (simp; omega) | (solve | simp [*]) | fail)) ?_) | ((with_reducible apply Wseq.mv); (focus rfl); (intro v hv; (simp only [ev_tmp, ev_const, ev_global, ev_func, look_if, lk_nil, Nat.reduceEqDiff, eq_self, ↓reduceIte, reduceCtorEq, partsOf_arr, List.map_cons, List.map_nil] at hv); subst hv))))
            ((with_reducible apply Wseq.stg); (focus rfl); (focus (exact to_indexAddr (k := t) el86 rfl rfl hy (by omega))))
            (repeat (first | ((with_reducible apply Wseq.stg (op := Op.fieldAddr _ _ _)); (focus rfl); (focus (exact to_fieldAddr (fa_ rfl) rfl)))))
            ((with_reducible apply Wseq.stg); (focus rfl); (focus (exact to_load (pl_ rfl) rfl hrb7.cel (by omega) hnv)))
            ((with_reducible apply Wseq.stg); (focus rfl); (focus (exact to_indexAddr (k := 0) el30 rfl rfl (by rfl) (by omega))))
            ((with_reducible apply Wseq.stg); (focus rfl); (focus (exact to_load (pl_ rfl) rfl hv7.cel (by omega) (by rfl))))
            ((with_reducible apply Wseq.stg); (focus rfl); (focus (exact to_bin (v := .int .i32 (wrapA .i32 (z0 + 1))) rfl rfl rfl)))
            ((with_reducible apply Wseq.stg); (focus rfl); (focus (exact to_indexAddr (k := 0) el30 rfl rfl (by rfl) (by omega))))
            ((with_reducible apply Wseq.so); (focus rfl); (focus (exact (sz_ rfl))); (focus rfl); (focus (exact hv7)); (focus omega); (intro v hv; (simp only [ev_tmp, ev_const, ev_global, ev_func, look_if, lk_nil, Nat.reduceEqDiff, eq_self, ↓reduceIte, reduceCtorEq, partsOf_arr, List.map_cons, List.map_nil] at hv); subst hv); refine ⟨_, _, (by (first | exact cellsA_agg _ | rfl)), rfl, setMany_eq _ 0 [.int .i32 (wrapA .i32 (z0 + 1))] (by simp) (all_cons rfl all_nil), ?_⟩)
            (repeat (first | (with_reducible refine Then.go ?_) | (with_reducible refine Out.go ?_) | (with_reducible refine Wx.reg ?_) | ((with_reducible refine Wseq.nil ?_); intro e he; (simp only [envOf_eq, keepFrom_cons, keepFrom_nil, flushE_mk, flL_cons, flL_nil, st_cons, st_nil, Nat.testBit, Nat.reduceShiftRight, Nat.reduceAnd, Nat.reduceBNe, Nat.reduceEqDiff, Nat.reduceAdd, ↓reduceIte, reduceCtorEq, Bool.false_eq_true] at he; subst he)) | ((with_reducible apply Wseq.mv); (focus rfl); (intro v hv; (simp only [ev_tmp, ev_const, ev_global, ev_func, look_if, lk_nil, Nat.reduceEqDiff, eq_self, ↓reduceIte, reduceCtorEq, partsOf_arr, List.map_cons, List.map_nil] at hv); subst hv)) | ((with_reducible apply Wseq.stg (op := Op.binOp BinOp.add _ _ _ _)); (focus rfl); (focus (exact to_add rfl rfl (by omega) (by omega))))))
            refine RoundE.go (la.length - (t + 1)) (E92 c M _ n _ (.slice _ lw.length lw.length) z _ la.length (y + 1) _ _ _ _ _ _ _ _ _ _ _ _ _ _ _) (by omega) (by (refine EqK.of ?_ ?_ <;> (repeat (first | (exact all_nil) | ((apply all_cons); (focus rfl)))))) ⟨t + 1, y + 1, _, _, _, _, _, _, _, _, _, _, _, _, _, _, _, _, _, _, _, rfl, by omega, rfl, (by ((repeat ((with_reducible apply Fresh.put); (focus omega))); (first | (with_reducible assumption) | (exact Fresh.up (by with_reducible assumption) (by omega))))), by omega, (by (repeat (first | (with_reducible exact Kp.refl) | (with_reducible assumption) | ((with_reducible apply Kp.set); (focus (first | (left; omega) | (right; first | exact rfl | assumption | (exact Or.inl (by assumption)) | (exact Or.inr (by assumption)) | (simp; done) | omega))))))), (fun b hb => ?_), (fun t' x h1 h2 => (O7 t' x (by omega) h2).keep fun b hb => get_other fun e => ?_), by omega, rfl⟩
            · cases hb
              rw [get_other (fun e => hne e.symm)]
              exact hA7 rb rfl
            · subst e
              exact hap t' _ x hx h2 (by omega) b rfl hb
end Go.Ab.Seat
