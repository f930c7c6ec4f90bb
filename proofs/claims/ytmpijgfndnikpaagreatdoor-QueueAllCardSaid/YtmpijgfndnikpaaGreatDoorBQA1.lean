/- x[:hi]; changes alike; all of a queue (the abstract machine). -/
import Derived.Test.YtmpijgfndnikpaaGreatDoorBST5
set_option linter.unusedVariables false
set_option linter.unusedSimpArgs false
namespace Go.Ab
section slices
variable {C : Ctx} {eg : TypeId → Bool} {e : Env} {s : St} {d : Option Nat} {ty : TypeId} {ps : String} {af : Array Edge} {g : Option (Nat × Bool)}

/-- x[:hi] -/
theorem to_sliceHi {t : TypeId} {x hi : Operand} {oa : Option Addr} {len cap n k : Nat} {j : IntKind} {z : Int} (ht : elemAt C t = some n) (hx : evalA e x = .slice oa len cap) (hl : evalA e hi = .int j z) (hz : z = (k : Int)) (hk : k ≤ cap) (hsp : ∀ a, oa = some a → a.spot = none ∨ a.spot = some n) :
    OpTo C eg e ⟨d, .slice t x none (some hi) none, ty, ps, af, g⟩ s (.slice oa k cap) s := ⟨0, by
  show opSlice C t (evalA e x) ((none : Option Operand).map (evalA e)) ((some hi).map (evalA e)) ((none : Option Operand).map (evalA e)) s = _
  subst hz
  simp only [Option.map_some, Option.map_none]
  rw [hx, hl]
  unfold elemAt at ht
  unfold opSlice
  cases hu : C.und t with
  | none => rw [hu] at ht; cases ht
  | some u =>
    rw [hu] at ht
    cases u <;> first | (cases ht; done) | skip
    simp only at ht ⊢
    rw [bind_run (lift_run ht)]
    have hb : boundsA len cap none (some (.int j (k : Int))) none = some (0, k, cap) := by
      unfold boundsA
      simp only
      show (match boundA none cap cap with | none => none | some m => _) = _
      simp only [boundA]
      rw [show natOf (.int j (k : Int)) = some k from rfl]
      simp only [ble_iff.2 hk]
    rw [bind_run (lift_run hb)]
    cases oa with
    | none => rfl
    | some a =>
      obtain ⟨b, o, sp⟩ := a
      have e0 : o + 0 * n = o := by omega
      rcases hsp _ rfl with h | h
      · simp only at h
        subst h
        cases hb2 : Nat.beq cap 0 <;> simp only [hb2, e0] <;> rfl
      · simp only at h
        subst h
        simp only [show (Nat.beq n n && Nat.ble k cap) = true by rw [ble_iff.2 hk, Nat.beq_refl]; rfl, e0]
        rfl⟩
end slices
end Go.Ab
namespace Go.Ab.Seat
open Go.Extern Go.Proofs
set_option linter.unusedSimpArgs false
set_option linter.unusedVariables false
set_option maxRecDepth 4000
set_option pp.deepTerms false
set_option pp.deepTerms.threshold 6
variable {sm : Nat → Option (List Value → M Value)}

/-- Changes that are alike. -/
theorem change_spec (H : Std sm) {h : T AObj} {c : Nat} {rl wl : List Nat} (hf : Fresh h c) (id dr : Int) (g : Bool) {a b : Option Addr} {n k k' : Nat} {zs : List Int} (hn : zs.length = n) (hx : Row h (.slice a n k) n 1 (zs.map (Value.int .i32))) (hy : Row h (.slice b n k') n 1 (zs.map (Value.int .i32))) (hb : n ≤ big) (R : Nat → Prop) (hR : ∀ x, blkOf (.slice a n k) = some x ∨ blkOf (.slice b n k') = some x → R x) :
    ∃ r s', FnTo (Cs sm) eg 72 [chg id (.slice a n k) dr g, chg id (.slice b n k') dr g] ⟨h, c, rl, wl⟩ r s' ∧ r = .bool true ∧ Ext ⟨h, c, rl, wl⟩ s' R (fun _ => False) := by
  refine Fn.go (H 72 rfl) ex72 fn72 km72 rfl rfl ?_
  intro e he
  (simp only [envOf_eq, keepFrom_cons, keepFrom_nil, flushE_mk, flL_cons, flL_nil, st_cons, st_nil, Nat.testBit, Nat.reduceShiftRight, Nat.reduceAnd, Nat.reduceBNe, Nat.reduceEqDiff, Nat.reduceAdd, ↓reduceIte, reduceCtorEq, Bool.false_eq_true] at he; subst he)
  (repeat (first | (with_reducible refine Then.go ?_) | (with_reducible refine Wx.seq ?_) | (with_reducible refine Wx.reg ?_) | ((with_reducible refine Wseq.nil ?_); intro e he; (simp only [envOf_eq, keepFrom_cons, keepFrom_nil, flushE_mk, flL_cons, flL_nil, st_cons, st_nil, Nat.testBit, Nat.reduceShiftRight, Nat.reduceAnd, Nat.reduceBNe, Nat.reduceEqDiff, Nat.reduceAdd, ↓reduceIte, reduceCtorEq, Bool.false_eq_true] at he; subst he)) | ((with_reducible apply Wseq.mv); (focus rfl); (intro v hv; (simp only [ev_tmp, ev_const, ev_global, ev_func, look_if, lk_nil, Nat.reduceEqDiff, eq_self, ↓reduceIte, reduceCtorEq, partsOf_arr, List.map_cons, List.map_nil] at hv); subst hv)) | ((with_reducible apply Wseq.as); (focus rfl); (intro v hv; (simp only [ev_tmp, ev_const, ev_global, ev_func, look_if, lk_nil, Nat.reduceEqDiff, eq_self, ↓reduceIte, reduceCtorEq, partsOf_arr, List.map_cons, List.map_nil] at hv); subst hv)) | ((with_reducible apply Wseq.bx); (focus rfl); (focus (exact (by ((repeat ((with_reducible apply Fresh.put); (focus omega))); (first | (with_reducible assumption) | (exact Fresh.up (by with_reducible assumption) (by omega))))))); (intro v hv; (simp only [ev_tmp, ev_const, ev_global, ev_func, look_if, lk_nil, Nat.reduceEqDiff, eq_self, ↓reduceIte, reduceCtorEq, partsOf_arr, List.map_cons, List.map_nil] at hv); subst hv); refine ⟨_, (by (first | exact cellsA_agg _ | rfl)), ?_⟩) | ((with_reducible apply Wseq.stg (op := Op.fieldAddr _ _ _)); (focus rfl); (focus (exact to_fieldAddr (fa_ rfl) rfl))) | ((with_reducible apply Wseq.stg (op := Op.load _ _)); (focus rfl); (focus (exact to_load (pl_ rfl) rfl (by (repeat (first | (with_reducible exact Has.same.cel) | (with_reducible assumption) | ((with_reducible apply Has.cel); (focus (with_reducible assumption))) | ((with_reducible apply Cel.other); (focus omega))))) (by omega) (by rfl)))) | ((with_reducible apply Wseq.stg (op := Op.binOp BinOp.eql _ _ _ _)); (focus rfl); (focus (exact to_eqIT rfl rfl (by omega))))))
  refine Wseq.call rfl rfl (eq_spec H (by ((repeat ((with_reducible apply Fresh.put); (focus omega))); (first | (with_reducible assumption) | (exact Fresh.up (by with_reducible assumption) (by omega))))) hn ((hx.new hf).new hf.new) ((hy.new hf).new hf.new) hb R hR) ?_
  rintro v h1 c1 r1 w1 ⟨rfl, hext⟩
  have q1 := hext.c
  dsimp only at q1
  have hf1 : Fresh h1 c1 := hext.fresh
  have g1 := hext.hs (b := c) (Has.other (by omega) Has.same) (by omega) (fun q => q)
  have g2 := hext.hs (b := c + 1) Has.same (by omega) (fun q => q)
  have kp := Kp.ext (W := fun _ => False) (h := h) (c := c) (by (repeat (first | (with_reducible exact Kp.refl) | (with_reducible assumption) | ((with_reducible apply Kp.set); (focus (first | (left; omega) | (right; first | exact rfl | assumption | (exact Or.inl (by assumption)) | (exact Or.inr (by assumption)) | (simp; done) | omega))))))) hext (by omega) (fun _ _ q => q)
  have lr := Lg.extR (R := R) (c := c) (by (repeat (first | (with_reducible exact Lg.nil) | (with_reducible assumption) | ((with_reducible apply Lg.cons); (focus (first | (left; omega) | (right; first | exact rfl | assumption | (exact Or.inl (by assumption)) | (exact Or.inr (by assumption)) | (simp; done) | omega)))) | (with_reducible apply Lg.app)))) hext (fun _ _ q => q)
  have lw := Lg.extW (W := fun _ => False) (c := c) (by (repeat (first | (with_reducible exact Lg.nil) | (with_reducible assumption) | ((with_reducible apply Lg.cons); (focus (first | (left; omega) | (right; first | exact rfl | assumption | (exact Or.inl (by assumption)) | (exact Or.inr (by assumption)) | (simp; done) | omega)))) | (with_reducible apply Lg.app)))) hext (fun _ _ q => q)
  cases g
  · (repeat (first | (with_reducible refine Then.go ?_) | (with_reducible refine Wx.ret ?_) | ((with_reducible refine Wseq.nil ?_); intro e he; (simp only [envOf_eq, keepFrom_cons, keepFrom_nil, flushE_mk, flL_cons, flL_nil, st_cons, st_nil, Nat.testBit, Nat.reduceShiftRight, Nat.reduceAnd, Nat.reduceBNe, Nat.reduceEqDiff, Nat.reduceAdd, ↓reduceIte, reduceCtorEq, Bool.false_eq_true] at he; subst he)) | ((with_reducible apply Wseq.mv); (focus rfl); (intro v hv; (simp only [ev_tmp, ev_const, ev_global, ev_func, look_if, lk_nil, Nat.reduceEqDiff, eq_self, ↓reduceIte, reduceCtorEq, partsOf_arr, List.map_cons, List.map_nil] at hv); subst hv)) | ((with_reducible apply Wseq.as); (focus rfl); (intro v hv; (simp only [ev_tmp, ev_const, ev_global, ev_func, look_if, lk_nil, Nat.reduceEqDiff, eq_self, ↓reduceIte, reduceCtorEq, partsOf_arr, List.map_cons, List.map_nil] at hv); subst hv)) | ((with_reducible apply Wseq.pkT); (focus rfl); (focus rfl); (intro v hv; (simp only [ev_tmp, ev_const, ev_global, ev_func, look_if, lk_nil, Nat.reduceEqDiff, eq_self, ↓reduceIte, reduceCtorEq, partsOf_arr, List.map_cons, List.map_nil] at hv); subst hv)) | ((with_reducible apply Wseq.stg (op := Op.fieldAddr _ _ _)); (focus rfl); (focus (exact to_fieldAddr (fa_ rfl) rfl))) | ((with_reducible apply Wseq.stg (op := Op.load _ _)); (focus rfl); (focus (exact to_load (pl_ rfl) rfl (by (repeat (first | (with_reducible exact Has.same.cel) | (with_reducible assumption) | ((with_reducible apply Has.cel); (focus (with_reducible assumption))) | ((with_reducible apply Cel.other); (focus omega))))) (by omega) (by rfl)))) | ((with_reducible apply Wseq.stg (op := Op.binOp BinOp.eql _ _ _ _)); (focus rfl); (focus (exact to_eqIT rfl rfl (by omega)))) | ((with_reducible apply Wseq.stg (op := Op.binOp BinOp.eql _ _ _ _)); (focus rfl); (focus (exact to_eqB (un_ rfl) rfl rfl)))))
    refine ⟨.inr rfl, Wres.one rfl ⟨rfl, ?_⟩⟩
    (dsimp only; exact Ext.of (by omega) (by ((repeat ((with_reducible apply Fresh.put); (focus omega))); (first | (with_reducible assumption) | (exact Fresh.up (by with_reducible assumption) (by omega))))) (by (repeat (first | (with_reducible exact Kp.refl) | (with_reducible assumption) | ((with_reducible apply Kp.set); (focus (first | (left; omega) | (right; first | exact rfl | assumption | (exact Or.inl (by assumption)) | (exact Or.inr (by assumption)) | (simp; done) | omega))))))) (by (repeat (first | (with_reducible exact Lg.nil) | (with_reducible assumption) | ((with_reducible apply Lg.cons); (focus (first | (left; omega) | (right; first | exact rfl | assumption | (exact Or.inl (by assumption)) | (exact Or.inr (by assumption)) | (simp; done) | omega)))) | (with_reducible apply Lg.app)))) (by (repeat (first | (with_reducible exact Lg.nil) | (with_reducible assumption) | ((with_reducible apply Lg.cons); (focus (first | (left; omega) | (right; first | exact rfl | assumption | (exact Or.inl (by assumption)) | (exact Or.inr (by assumption)) | (simp; done) | omega)))) | (with_reducible apply Lg.app)))))
  · (repeat (first | (with_reducible refine Then.go ?_) | (with_reducible refine Wx.ret ?_) | ((with_reducible refine Wseq.nil ?_); intro e he; (simp only [envOf_eq, keepFrom_cons, keepFrom_nil, flushE_mk, flL_cons, flL_nil, st_cons, st_nil, Nat.testBit, Nat.reduceShiftRight, Nat.reduceAnd, Nat.reduceBNe, Nat.reduceEqDiff, Nat.reduceAdd, ↓reduceIte, reduceCtorEq, Bool.false_eq_true] at he; subst he)) | ((with_reducible apply Wseq.mv); (focus rfl); (intro v hv; (simp only [ev_tmp, ev_const, ev_global, ev_func, look_if, lk_nil, Nat.reduceEqDiff, eq_self, ↓reduceIte, reduceCtorEq, partsOf_arr, List.map_cons, List.map_nil] at hv); subst hv)) | ((with_reducible apply Wseq.as); (focus rfl); (intro v hv; (simp only [ev_tmp, ev_const, ev_global, ev_func, look_if, lk_nil, Nat.reduceEqDiff, eq_self, ↓reduceIte, reduceCtorEq, partsOf_arr, List.map_cons, List.map_nil] at hv); subst hv)) | ((with_reducible apply Wseq.pkT); (focus rfl); (focus rfl); (intro v hv; (simp only [ev_tmp, ev_const, ev_global, ev_func, look_if, lk_nil, Nat.reduceEqDiff, eq_self, ↓reduceIte, reduceCtorEq, partsOf_arr, List.map_cons, List.map_nil] at hv); subst hv)) | ((with_reducible apply Wseq.stg (op := Op.fieldAddr _ _ _)); (focus rfl); (focus (exact to_fieldAddr (fa_ rfl) rfl))) | ((with_reducible apply Wseq.stg (op := Op.load _ _)); (focus rfl); (focus (exact to_load (pl_ rfl) rfl (by (repeat (first | (with_reducible exact Has.same.cel) | (with_reducible assumption) | ((with_reducible apply Has.cel); (focus (with_reducible assumption))) | ((with_reducible apply Cel.other); (focus omega))))) (by omega) (by rfl)))) | ((with_reducible apply Wseq.stg (op := Op.binOp BinOp.eql _ _ _ _)); (focus rfl); (focus (exact to_eqIT rfl rfl (by omega)))) | ((with_reducible apply Wseq.stg (op := Op.binOp BinOp.eql _ _ _ _)); (focus rfl); (focus (exact to_eqB (un_ rfl) rfl rfl)))))
    refine ⟨.inr rfl, Wres.one rfl ⟨rfl, ?_⟩⟩
    (dsimp only; exact Ext.of (by omega) (by ((repeat ((with_reducible apply Fresh.put); (focus omega))); (first | (with_reducible assumption) | (exact Fresh.up (by with_reducible assumption) (by omega))))) (by (repeat (first | (with_reducible exact Kp.refl) | (with_reducible assumption) | ((with_reducible apply Kp.set); (focus (first | (left; omega) | (right; first | exact rfl | assumption | (exact Or.inl (by assumption)) | (exact Or.inr (by assumption)) | (simp; done) | omega))))))) (by (repeat (first | (with_reducible exact Lg.nil) | (with_reducible assumption) | ((with_reducible apply Lg.cons); (focus (first | (left; omega) | (right; first | exact rfl | assumption | (exact Or.inl (by assumption)) | (exact Or.inr (by assumption)) | (simp; done) | omega)))) | (with_reducible apply Lg.app)))) (by (repeat (first | (with_reducible exact Lg.nil) | (with_reducible assumption) | ((with_reducible apply Lg.cons); (focus (first | (left; omega) | (right; first | exact rfl | assumption | (exact Or.inl (by assumption)) | (exact Or.inr (by assumption)) | (simp; done) | omega)))) | (with_reducible apply Lg.app)))))

def Chg.strip (x : Chg) : Int × List Value × Int × Bool := (x.id, x.xs, x.dr, x.g)

theorem flatC_get {l : List Chg} {i : Nat} {x : Chg} (hx : l[i]? = some x) : ∃ a b, flatC l = a ++ (x.cells ++ b) ∧ a.length = i * 4 := by
  obtain ⟨hi, rfl⟩ := List.getElem?_eq_some_iff.1 hx
  refine ⟨flatC (l.take i), flatC (l.drop (i + 1)), ?_, ?_⟩
  · have : l = l.take i ++ (l[i] :: l.drop (i + 1)) := by simp
    unfold flatC
    conv => lhs; rw [this]
    rw [List.flatMap_append, List.flatMap_cons]
  · rw [flatC_len, List.length_take]
    congr 1
    omega

theorem sub_chg {l : List Chg} {i o : Nat} {cs : List Value} {x : Chg} (h : subN o (l.length * 4) cs = some (flatC l)) (hx : l[i]? = some x) : subN (o + i * 4) 4 cs = some x.cells := by
  obtain ⟨a, b, h1, h2⟩ := flatC_get hx
  have hl := congrArg List.length h1
  rw [flatC_len, List.length_append, h2, List.length_append] at hl
  have h5 : x.cells.length = 4 := rfl
  rw [h1, show l.length * 4 = i * 4 + (4 + b.length) by omega] at h
  have h3 := (subN_app h h2).2
  exact (subN_app h3 h5).1

/-- Changes of the call's own, in a row. -/
structure AllR (h : T AObj) (c0 : Nat) (v : Value) (l : List Chg) : Prop where
  row : LRow h v l
  blk : ∀ b, blkOf v = some b → c0 ≤ b
  vec : ∀ x ∈ l, Own h c0 x.vec x.xs.length x.xs
  sep : ∀ x ∈ l, ∀ b, blkOf x.vec = some b → blkOf v ≠ some b
  apart : ∀ (i j : Nat) (x y : Chg), l[i]? = some x → l[j]? = some y → i ≠ j → ∀ b, blkOf x.vec = some b → blkOf y.vec ≠ some b

theorem AllR.val {h : T AObj} {c0 : Nat} {v : Value} {l : List Chg} (x : AllR h c0 v l) : ∃ a, v = .slice a l.length l.length := by
  rcases x.row with ⟨rfl, rfl⟩ | ⟨b, o, cs, rfl, _⟩
  · exact ⟨_, rfl⟩
  · exact ⟨_, rfl⟩

theorem AllR.keep {h h' : T AObj} {c c0 : Nat} {v : Value} {l : List Chg} (x : AllR h c0 v l) (hf : Fresh h c) (k : ∀ b, c0 ≤ b → b < c → h'.get b = h.get b) : AllR h' c0 v l := by
  refine ⟨?_, x.blk, fun y hy => (x.vec y hy).keep fun b hb => k b ((x.vec y hy).blk hb).1 (((x.vec y hy).blk hb).2.lt hf), x.sep, x.apart⟩
  rcases x.row with r | ⟨b, o, cs, rfl, h1, h2⟩
  · exact .inl r
  · exact .inr ⟨b, o, cs, rfl, (k b (x.blk b rfl) (h1.lt hf)).trans h1, h2⟩

def EA (p : Nat) (v : Value) (n : Nat) (z : Int) (j4 j8 : Value) : L :=
  .cons 0 (.pointer (some ⟨p, 0, none⟩)) (.cons 2 (.slice none 0 0) (.cons 3 v (.cons 4 j4 (.cons 6 (.int .i64 (n : Int)) (.cons 7 (.int .i64 z) (.cons 8 j8 .nil))))))

theorem qall_spec (H : Std sm) {h : T AObj} {c : Nat} {rl wl : List Nat} (hf : Fresh h c) {p most : Nat} {qv : Value} {l0 : List Chg} {U : Nat → Prop} (q : QueueR h p most qv l0 U) (hm : l0.length ≤ 1000000) (hbg : ∀ x ∈ l0, x.xs.length ≤ big) :
    ∃ r s', FnTo (Cs sm) eg 58 [.pointer (some ⟨p, 0, none⟩)] ⟨h, c, rl, wl⟩ r s' ∧ (∃ l, AllR s'.h c r l ∧ l.map Chg.strip = l0.map Chg.strip) ∧ Ext ⟨h, c, rl, wl⟩ s' U (fun _ => False) := by
  have hp := q.ptr
  have hU := q.pU
  have hpc := hp.lt hf
  refine Fn.go (H 58 rfl) ex58 fn58 km58 rfl rfl ?_
  intro e he
  (simp only [envOf_eq, keepFrom_cons, keepFrom_nil, flushE_mk, flL_cons, flL_nil, st_cons, st_nil, Nat.testBit, Nat.reduceShiftRight, Nat.reduceAnd, Nat.reduceBNe, Nat.reduceEqDiff, Nat.reduceAdd, ↓reduceIte, reduceCtorEq, Bool.false_eq_true] at he; subst he)
  (repeat (first | (with_reducible refine Then.go ?_) | (with_reducible refine Wx.seq ?_) | (with_reducible refine Wx.reg ?_) | ((with_reducible refine Wseq.nil ?_); intro e he; (simp only [envOf_eq, keepFrom_cons, keepFrom_nil, flushE_mk, flL_cons, flL_nil, st_cons, st_nil, Nat.testBit, Nat.reduceShiftRight, Nat.reduceAnd, Nat.reduceBNe, Nat.reduceEqDiff, Nat.reduceAdd, ↓reduceIte, reduceCtorEq, Bool.false_eq_true] at he; subst he)) | ((with_reducible apply Wseq.mv); (focus rfl); (intro v hv; (simp only [ev_tmp, ev_const, ev_global, ev_func, look_if, lk_nil, Nat.reduceEqDiff, eq_self, ↓reduceIte, reduceCtorEq, partsOf_arr, List.map_cons, List.map_nil] at hv); subst hv)) | ((with_reducible apply Wseq.as); (focus rfl); (intro v hv; (simp only [ev_tmp, ev_const, ev_global, ev_func, look_if, lk_nil, Nat.reduceEqDiff, eq_self, ↓reduceIte, reduceCtorEq, partsOf_arr, List.map_cons, List.map_nil] at hv); subst hv))))
  refine Wseq.call rfl rfl (qlen_spec H (by ((repeat ((with_reducible apply Fresh.put); (focus omega))); (first | (with_reducible assumption) | (exact Fresh.up (by with_reducible assumption) (by omega))))) q) ?_
  rintro v' h1 c1 r1 w1 ⟨rfl, x1⟩
  have y1 := x1.c
  dsimp only at y1
  have f1 : Fresh h1 c1 := x1.fresh
  have kp := Kp.ext (W := fun _ => False) (h := h) (c := c) (by (repeat (first | (with_reducible exact Kp.refl) | (with_reducible assumption) | ((with_reducible apply Kp.set); (focus (first | (left; omega) | (right; first | exact rfl | assumption | (exact Or.inl (by assumption)) | (exact Or.inr (by assumption)) | (simp; done) | omega))))))) x1 (by omega) (fun _ _ q => q)
  have lr := Lg.extR (R := U) (c := c) (by (repeat (first | (with_reducible exact Lg.nil) | (with_reducible assumption) | ((with_reducible apply Lg.cons); (focus (first | (left; omega) | (right; first | exact rfl | assumption | (exact Or.inl (by assumption)) | (exact Or.inr (by assumption)) | (simp; done) | omega)))) | (with_reducible apply Lg.app)))) x1 (fun _ _ q => q)
  have lw := Lg.extW (W := fun _ => False) (c := c) (by (repeat (first | (with_reducible exact Lg.nil) | (with_reducible assumption) | ((with_reducible apply Lg.cons); (focus (first | (left; omega) | (right; first | exact rfl | assumption | (exact Or.inl (by assumption)) | (exact Or.inr (by assumption)) | (simp; done) | omega)))) | (with_reducible apply Lg.app)))) x1 (fun _ _ q => q)
  (repeat (first | (with_reducible refine Then.go ?_) | (with_reducible refine Wx.block ?_) | ((with_reducible refine Wseq.nil ?_); intro e he; (simp only [envOf_eq, keepFrom_cons, keepFrom_nil, flushE_mk, flL_cons, flL_nil, st_cons, st_nil, Nat.testBit, Nat.reduceShiftRight, Nat.reduceAnd, Nat.reduceBNe, Nat.reduceEqDiff, Nat.reduceAdd, ↓reduceIte, reduceCtorEq, Bool.false_eq_true] at he; subst he)) | ((with_reducible apply Wseq.mv); (focus rfl); (intro v hv; (simp only [ev_tmp, ev_const, ev_global, ev_func, look_if, lk_nil, Nat.reduceEqDiff, eq_self, ↓reduceIte, reduceCtorEq, partsOf_arr, List.map_cons, List.map_nil] at hv); subst hv))))
  refine Wx.loopE (fun k1 e s => ∃ (i : Nat) (z : Int) (h' : T AObj) (c' : Nat) (rl' wl' : List Nat) (v : Value) (l : List Chg) (j4 j8 : Value), e = EA p v l0.length z j4 j8 ∧ z = i ∧ s = ⟨h', c', rl', wl'⟩ ∧ Fresh h' c' ∧ c ≤ c' ∧ Kp h h' c (fun _ => False) ∧ AllR h' c v l ∧ l.map Chg.strip = (l0.take i).map Chg.strip ∧ i ≤ l0.length ∧ Lg c U rl' ∧ Lg c (fun _ => False) wl' ∧ k1 = l0.length - i) l0.length (EA p (.slice none 0 0) l0.length 0 top top) (by (repeat (first | (with_reducible exact Resp.fn) | (with_reducible apply Resp.then) | (with_reducible apply Resp.out) | (with_reducible apply Resp.round)))) ?_ ?_ ?_
  · unfold EA
    (refine EqK.of ?_ ?_ <;> (repeat (first | (exact all_nil) | ((apply all_cons); (focus rfl)))))
  · exact ⟨0, 0, _, _, _, _, _, [], _, _, rfl, rfl, rfl, (by ((repeat ((with_reducible apply Fresh.put); (focus omega))); (first | (with_reducible assumption) | (exact Fresh.up (by with_reducible assumption) (by omega))))), by omega, (by (repeat (first | (with_reducible exact Kp.refl) | (with_reducible assumption) | ((with_reducible apply Kp.set); (focus (first | (left; omega) | (right; first | exact rfl | assumption | (exact Or.inl (by assumption)) | (exact Or.inr (by assumption)) | (simp; done) | omega))))))), ⟨.inl ⟨rfl, rfl⟩, (by rintro b ⟨⟩), (by intro x hx; cases hx), (by intro x hx; cases hx), (by intro i j x y hx; cases hx)⟩, rfl, by omega, (by (repeat (first | (with_reducible exact Lg.nil) | (with_reducible assumption) | ((with_reducible apply Lg.cons); (focus (first | (left; omega) | (right; first | exact rfl | assumption | (exact Or.inl (by assumption)) | (exact Or.inr (by assumption)) | (simp; done) | omega)))) | (with_reducible apply Lg.app)))), (by (repeat (first | (with_reducible exact Lg.nil) | (with_reducible assumption) | ((with_reducible apply Lg.cons); (focus (first | (left; omega) | (right; first | exact rfl | assumption | (exact Or.inl (by assumption)) | (exact Or.inr (by assumption)) | (simp; done) | omega)))) | (with_reducible apply Lg.app)))), rfl⟩
  · rintro k1 e s ⟨i, z, h2, c2, rl2, wl2, v, l, j4, j8, rfl, hz, rfl, hf2, hc2, hkp, hR, hl2, hiN, hlr, hlw, rfl⟩
    obtain ⟨va, rfl⟩ := hR.val
    have hll : l.length = i := by
      have := congrArg List.length hl2
      simp only [List.length_map, List.length_take] at this
      omega
    unfold EA
    by_cases hi : i < l0.length
    · have hx := List.getElem?_eq_getElem hi
      generalize l0[i] = x at hx
      have hxm := List.mem_of_getElem? hx
      have q2 := q.keep (h' := h2) hf fun b _ hb => hkp b hb (fun q => q)
      have hown := q2.vec x hxm
      have hsep := q2.vsep x hxm
      have hxl := hbg x hxm
      rcases q2.row with ⟨_, rfl⟩ | ⟨qb, qo, qcs, rfl, hqb, hqs⟩
      · cases hx
      have hsub := sub_chg hqs hx
      have hqc := hqb.lt hf2
      have hqU := (q2.sep qb rfl).1
      have hqb0 : qb < c := by
        rcases q.row with ⟨e, _⟩ | ⟨b', o', cs', e, hb', _⟩
        · cases e
        · cases e; exact hb'.lt hf
      have hp2 := q2.ptr
      obtain ⟨tid, tvec, txs, tdr, tg⟩ := x
      dsimp only at hown hsep hxl
      obtain ⟨a0, k0, rfl⟩ := hown.val
      have hz0 : txs.length = 0 → a0 = none → k0 = 0 := by
        intro e1 e2
        rcases hown with ⟨e3, _⟩ | ⟨b, sp, cap, e3, _⟩
        · simp only [Value.slice.injEq] at e3; exact e3.2.2
        · simp only [Value.slice.injEq] at e3; rw [e2] at e3; cases e3.1
      have hrow2 := hown.row rfl
      have hbs : ∀ b o sp, a0 = some ⟨b, o, sp⟩ → U b := by
        rintro b o sp rfl
        exact (hsep b rfl).1
      have hl3 : (l.map Chg.strip) ++ [Chg.strip ⟨tid, .slice a0 txs.length k0, txs, tdr, tg⟩] = (l0.take (i + 1)).map Chg.strip := by
        rw [List.take_add_one, hx, List.map_append, ← hl2]; rfl
      rcases hR.row with ⟨hv, rfl⟩ | ⟨b0, o0, cs1, hv, hb0, hs0⟩
      · cases hv
        (repeat (first | (with_reducible refine Then.go ?_) | (with_reducible refine Wx.seq ?_) | (with_reducible refine Wx.skip ?_) | (with_reducible refine Wx.block ?_) | (with_reducible refine Wx.reg ?_) | (refine Wx.condT rfl (by (first | rfl | (simp only [decide_eq_true_eq, Bool.not_eq_true', decide_eq_false_iff_not, Option.isNone_none, Option.isNone_some, Option.isSome_none, Option.isSome_some, beq_self_eq_true, Bool.not_true, Bool.not_false]; first | done | omega) | (simp; omega) | (solve | simp [*]) | fail)) ?_) | ((with_reducible refine Wseq.nil ?_); intro e he; (simp only [envOf_eq, keepFrom_cons, keepFrom_nil, flushE_mk, flL_cons, flL_nil, st_cons, st_nil, Nat.testBit, Nat.reduceShiftRight, Nat.reduceAnd, Nat.reduceBNe, Nat.reduceEqDiff, Nat.reduceAdd, ↓reduceIte, reduceCtorEq, Bool.false_eq_true] at he; subst he)) | ((with_reducible apply Wseq.mv); (focus rfl); (intro v hv; (simp only [ev_tmp, ev_const, ev_global, ev_func, look_if, lk_nil, Nat.reduceEqDiff, eq_self, ↓reduceIte, reduceCtorEq, partsOf_arr, List.map_cons, List.map_nil] at hv); subst hv)) | ((with_reducible apply Wseq.as); (focus rfl); (intro v hv; (simp only [ev_tmp, ev_const, ev_global, ev_func, look_if, lk_nil, Nat.reduceEqDiff, eq_self, ↓reduceIte, reduceCtorEq, partsOf_arr, List.map_cons, List.map_nil] at hv); subst hv)) | ((with_reducible apply Wseq.stg (op := Op.fieldAddr _ _ _)); (focus rfl); (focus (exact to_fieldAddr (fa_ rfl) rfl))) | ((with_reducible apply Wseq.stg (op := Op.load _ _)); (focus rfl); (focus (exact to_load (pl_ rfl) rfl (by (repeat (first | (with_reducible exact Has.same.cel) | (with_reducible assumption) | ((with_reducible apply Has.cel); (focus (with_reducible assumption))) | ((with_reducible apply Cel.other); (focus omega))))) (by omega) (by rfl)))) | ((with_reducible apply Wseq.stg (op := Op.nilCheck _)); (focus rfl); (focus (exact to_nilCheck rfl))) | ((with_reducible apply Wseq.stg (op := Op.binOp BinOp.lss _ _ _ _)); (focus rfl); (focus (exact to_lssT rfl rfl (by omega))))))
        ((with_reducible apply Wseq.stg); (focus rfl); (focus (exact to_indexAddr (k := i) el86 rfl rfl hz (by omega))))
        ((with_reducible apply Wseq.stg); (focus rfl); (focus (exact to_loadS ag70 rfl hqb.cel (by omega) hsub)))
        skip
        refine Wseq.call rfl rfl (copied_spec H (by ((repeat ((with_reducible apply Fresh.put); (focus omega))); (first | (with_reducible assumption) | (exact Fresh.up (by with_reducible assumption) (by omega))))) tid tdr tg (n := txs.length) (xs := txs) hrow2 hxl hz0 U hbs) ?_
        rintro v' h3 c3 r3 w3 ⟨v2, rfl, hown2, hext⟩
        have q3 := hext.c
        dsimp only at q3
        have hf3 : Fresh h3 c3 := hext.fresh
        obtain ⟨a2, k2, rfl⟩ := hown2.val
        have kp := Kp.ext (W := fun _ => False) (h := h) (c := c) (by (repeat (first | (with_reducible exact Kp.refl) | (with_reducible assumption) | ((with_reducible apply Kp.set); (focus (first | (left; omega) | (right; first | exact rfl | assumption | (exact Or.inl (by assumption)) | (exact Or.inr (by assumption)) | (simp; done) | omega))))))) hext (by omega) (fun _ _ q => q)
        have lr := Lg.extR (R := U) (c := c) (by (repeat (first | (with_reducible exact Lg.nil) | (with_reducible assumption) | ((with_reducible apply Lg.cons); (focus (first | (left; omega) | (right; first | exact rfl | assumption | (exact Or.inl (by assumption)) | (exact Or.inr (by assumption)) | (simp; done) | omega)))) | (with_reducible apply Lg.app)))) hext (fun _ _ q => q)
        have lw := Lg.extW (W := fun _ => False) (c := c) (by (repeat (first | (with_reducible exact Lg.nil) | (with_reducible assumption) | ((with_reducible apply Lg.cons); (focus (first | (left; omega) | (right; first | exact rfl | assumption | (exact Or.inl (by assumption)) | (exact Or.inr (by assumption)) | (simp; done) | omega)))) | (with_reducible apply Lg.app)))) hext (fun _ _ q => q)
        (repeat (first | ((with_reducible apply Wseq.bs); (focus rfl); (focus (exact (ro_ rfl))); (focus rfl); (focus (exact (by ((repeat ((with_reducible apply Fresh.put); (focus omega))); (first | (with_reducible assumption) | (exact Fresh.up (by with_reducible assumption) (by omega))))))); (intro v hv; (simp only [ev_tmp, ev_const, ev_global, ev_func, look_if, lk_nil, Nat.reduceEqDiff, eq_self, ↓reduceIte, reduceCtorEq, partsOf_arr, List.map_cons, List.map_nil] at hv); subst hv); refine ⟨_, rfl, ?_⟩)))
        ((with_reducible apply Wseq.stg); (focus rfl); (focus (exact to_appNil ro86 sl86 rfl rfl (by (repeat (first | (with_reducible exact Has.same.cel) | (with_reducible assumption) | ((with_reducible apply Has.cel); (focus (with_reducible assumption))) | ((with_reducible apply Cel.other); (focus omega))))) (by omega) (by rfl) (by decide) (by ((repeat ((with_reducible apply Fresh.put); (focus omega))); (first | (with_reducible assumption) | (exact Fresh.up (by with_reducible assumption) (by omega))))))))
        (repeat (first | (with_reducible refine Then.go ?_) | (with_reducible refine Out.go ?_) | (with_reducible refine Wx.reg ?_) | ((with_reducible refine Wseq.nil ?_); intro e he; (simp only [envOf_eq, keepFrom_cons, keepFrom_nil, flushE_mk, flL_cons, flL_nil, st_cons, st_nil, Nat.testBit, Nat.reduceShiftRight, Nat.reduceAnd, Nat.reduceBNe, Nat.reduceEqDiff, Nat.reduceAdd, ↓reduceIte, reduceCtorEq, Bool.false_eq_true] at he; subst he)) | ((with_reducible apply Wseq.mv); (focus rfl); (intro v hv; (simp only [ev_tmp, ev_const, ev_global, ev_func, look_if, lk_nil, Nat.reduceEqDiff, eq_self, ↓reduceIte, reduceCtorEq, partsOf_arr, List.map_cons, List.map_nil] at hv); subst hv)) | ((with_reducible apply Wseq.as); (focus rfl); (intro v hv; (simp only [ev_tmp, ev_const, ev_global, ev_func, look_if, lk_nil, Nat.reduceEqDiff, eq_self, ↓reduceIte, reduceCtorEq, partsOf_arr, List.map_cons, List.map_nil] at hv); subst hv)) | ((with_reducible apply Wseq.stg (op := Op.binOp BinOp.add _ _ _ _)); (focus rfl); (focus (exact to_add rfl rfl (by omega) (by omega))))))
        refine RoundE.go (l0.length - (i + 1)) (EA p (.slice (some ⟨c3 + 1, 0, some 4⟩) 1 1) l0.length (z + 1) _ _) (by omega) (by (refine EqK.of ?_ ?_ <;> (repeat (first | (exact all_nil) | ((apply all_cons); (focus rfl)))))) ⟨i + 1, z + 1, _, _, _, _, _, [⟨tid, .slice a2 txs.length k2, txs, tdr, tg⟩], _, _, rfl, by omega, rfl, (by ((repeat ((with_reducible apply Fresh.put); (focus omega))); (first | (with_reducible assumption) | (exact Fresh.up (by with_reducible assumption) (by omega))))), by omega, (by (repeat (first | (with_reducible exact Kp.refl) | (with_reducible assumption) | ((with_reducible apply Kp.set); (focus (first | (left; omega) | (right; first | exact rfl | assumption | (exact Or.inl (by assumption)) | (exact Or.inr (by assumption)) | (simp; done) | omega))))))), ⟨.inr ⟨c3 + 1, 0, _, rfl, (by (repeat (first | (with_reducible exact Has.same) | (with_reducible assumption) | ((with_reducible apply Has.other); (focus omega))))), rfl⟩, ?_, ?_, ?_, ?_⟩, ?_, by omega, (by (repeat (first | (with_reducible exact Lg.nil) | (with_reducible assumption) | ((with_reducible apply Lg.cons); (focus (first | (left; omega) | (right; first | exact rfl | assumption | (exact Or.inl (by assumption)) | (exact Or.inr (by assumption)) | (simp; done) | omega)))) | (with_reducible apply Lg.app)))), (by (repeat (first | (with_reducible exact Lg.nil) | (with_reducible assumption) | ((with_reducible apply Lg.cons); (focus (first | (left; omega) | (right; first | exact rfl | assumption | (exact Or.inl (by assumption)) | (exact Or.inr (by assumption)) | (simp; done) | omega)))) | (with_reducible apply Lg.app)))), rfl⟩
        · rintro b ⟨⟩
          dsimp only
          omega
        · intro y hy
          obtain rfl := List.mem_singleton.1 hy
          exact ((hown2.new hf3).new hf3.new).low (by omega)
        · intro y hy b hb
          obtain rfl := List.mem_singleton.1 hy
          have r3 := (hown2.blk hb).2.lt hf3
          rintro ⟨⟩
          (try dsimp only at r3); omega
        · intro i j x y hx hy hij
          have h1 := (List.getElem?_eq_some_iff.1 hx).1
          have h2 := (List.getElem?_eq_some_iff.1 hy).1
          simp at h1 h2
          omega
        · rw [← hl3]; rfl
      · obtain ⟨rfl, hv2⟩ : va = some ⟨b0, o0, some 4⟩ ∧ True := by
          simp only [Value.slice.injEq] at hv
          exact ⟨hv.1, trivial⟩
        have hb0c := hR.blk b0 rfl
        have hb0l := hb0.lt hf2
        (repeat (first | (with_reducible refine Then.go ?_) | (with_reducible refine Wx.seq ?_) | (with_reducible refine Wx.skip ?_) | (with_reducible refine Wx.block ?_) | (with_reducible refine Wx.reg ?_) | (refine Wx.condT rfl (by (first | rfl | (simp only [decide_eq_true_eq, Bool.not_eq_true', decide_eq_false_iff_not, Option.isNone_none, Option.isNone_some, Option.isSome_none, Option.isSome_some, beq_self_eq_true, Bool.not_true, Bool.not_false]; first | done | omega) | (simp; omega) | (solve | simp [*]) | fail)) ?_) | ((with_reducible refine Wseq.nil ?_); intro e he; (simp only [envOf_eq, keepFrom_cons, keepFrom_nil, flushE_mk, flL_cons, flL_nil, st_cons, st_nil, Nat.testBit, Nat.reduceShiftRight, Nat.reduceAnd, Nat.reduceBNe, Nat.reduceEqDiff, Nat.reduceAdd, ↓reduceIte, reduceCtorEq, Bool.false_eq_true] at he; subst he)) | ((with_reducible apply Wseq.mv); (focus rfl); (intro v hv; (simp only [ev_tmp, ev_const, ev_global, ev_func, look_if, lk_nil, Nat.reduceEqDiff, eq_self, ↓reduceIte, reduceCtorEq, partsOf_arr, List.map_cons, List.map_nil] at hv); subst hv)) | ((with_reducible apply Wseq.as); (focus rfl); (intro v hv; (simp only [ev_tmp, ev_const, ev_global, ev_func, look_if, lk_nil, Nat.reduceEqDiff, eq_self, ↓reduceIte, reduceCtorEq, partsOf_arr, List.map_cons, List.map_nil] at hv); subst hv)) | ((with_reducible apply Wseq.stg (op := Op.fieldAddr _ _ _)); (focus rfl); (focus (exact to_fieldAddr (fa_ rfl) rfl))) | ((with_reducible apply Wseq.stg (op := Op.load _ _)); (focus rfl); (focus (exact to_load (pl_ rfl) rfl (by (repeat (first | (with_reducible exact Has.same.cel) | (with_reducible assumption) | ((with_reducible apply Has.cel); (focus (with_reducible assumption))) | ((with_reducible apply Cel.other); (focus omega))))) (by omega) (by rfl)))) | ((with_reducible apply Wseq.stg (op := Op.nilCheck _)); (focus rfl); (focus (exact to_nilCheck rfl))) | ((with_reducible apply Wseq.stg (op := Op.binOp BinOp.lss _ _ _ _)); (focus rfl); (focus (exact to_lssT rfl rfl (by omega))))))
        ((with_reducible apply Wseq.stg); (focus rfl); (focus (exact to_indexAddr (k := i) el86 rfl rfl hz (by omega))))
        ((with_reducible apply Wseq.stg); (focus rfl); (focus (exact to_loadS ag70 rfl hqb.cel (by omega) hsub)))
        skip
        refine Wseq.call rfl rfl (copied_spec H (by ((repeat ((with_reducible apply Fresh.put); (focus omega))); (first | (with_reducible assumption) | (exact Fresh.up (by with_reducible assumption) (by omega))))) tid tdr tg (n := txs.length) (xs := txs) hrow2 hxl hz0 U hbs) ?_
        rintro v' h3 c3 r3 w3 ⟨v2, rfl, hown2, hext⟩
        have q3 := hext.c
        dsimp only at q3
        have hf3 : Fresh h3 c3 := hext.fresh
        obtain ⟨a2, k2, rfl⟩ := hown2.val
        have kp := Kp.ext (W := fun _ => False) (h := h) (c := c) (by (repeat (first | (with_reducible exact Kp.refl) | (with_reducible assumption) | ((with_reducible apply Kp.set); (focus (first | (left; omega) | (right; first | exact rfl | assumption | (exact Or.inl (by assumption)) | (exact Or.inr (by assumption)) | (simp; done) | omega))))))) hext (by omega) (fun _ _ q => q)
        have lr := Lg.extR (R := U) (c := c) (by (repeat (first | (with_reducible exact Lg.nil) | (with_reducible assumption) | ((with_reducible apply Lg.cons); (focus (first | (left; omega) | (right; first | exact rfl | assumption | (exact Or.inl (by assumption)) | (exact Or.inr (by assumption)) | (simp; done) | omega)))) | (with_reducible apply Lg.app)))) hext (fun _ _ q => q)
        have lw := Lg.extW (W := fun _ => False) (c := c) (by (repeat (first | (with_reducible exact Lg.nil) | (with_reducible assumption) | ((with_reducible apply Lg.cons); (focus (first | (left; omega) | (right; first | exact rfl | assumption | (exact Or.inl (by assumption)) | (exact Or.inr (by assumption)) | (simp; done) | omega)))) | (with_reducible apply Lg.app)))) hext (fun _ _ q => q)
        have gb0 := hext.hs (b := b0) hb0 (by omega) (fun q => q)
        (repeat (first | ((with_reducible apply Wseq.bs); (focus rfl); (focus (exact (ro_ rfl))); (focus rfl); (focus (exact (by ((repeat ((with_reducible apply Fresh.put); (focus omega))); (first | (with_reducible assumption) | (exact Fresh.up (by with_reducible assumption) (by omega))))))); (intro v hv; (simp only [ev_tmp, ev_const, ev_global, ev_func, look_if, lk_nil, Nat.reduceEqDiff, eq_self, ↓reduceIte, reduceCtorEq, partsOf_arr, List.map_cons, List.map_nil] at hv); subst hv); refine ⟨_, rfl, ?_⟩)))
        ((with_reducible apply Wseq.stg); (focus rfl); (focus (exact to_appG ro86 sl86 rfl rfl (by (repeat (first | (with_reducible exact Has.same.cel) | (with_reducible assumption) | ((with_reducible apply Has.cel); (focus (with_reducible assumption))) | ((with_reducible apply Cel.other); (focus omega))))) (by omega) (by rfl) (by omega) (by unfold big; omega) (by (repeat (first | (with_reducible exact Has.same) | (with_reducible assumption) | ((with_reducible apply Has.other); (focus omega))))) (by omega) hs0 (all_cons rfl (all_cons rfl (all_cons rfl (all_cons rfl all_nil)))) (by ((repeat ((with_reducible apply Fresh.put); (focus omega))); (first | (with_reducible assumption) | (exact Fresh.up (by with_reducible assumption) (by omega))))))))
        (repeat (first | (with_reducible refine Then.go ?_) | (with_reducible refine Out.go ?_) | (with_reducible refine Wx.reg ?_) | ((with_reducible refine Wseq.nil ?_); intro e he; (simp only [envOf_eq, keepFrom_cons, keepFrom_nil, flushE_mk, flL_cons, flL_nil, st_cons, st_nil, Nat.testBit, Nat.reduceShiftRight, Nat.reduceAnd, Nat.reduceBNe, Nat.reduceEqDiff, Nat.reduceAdd, ↓reduceIte, reduceCtorEq, Bool.false_eq_true] at he; subst he)) | ((with_reducible apply Wseq.mv); (focus rfl); (intro v hv; (simp only [ev_tmp, ev_const, ev_global, ev_func, look_if, lk_nil, Nat.reduceEqDiff, eq_self, ↓reduceIte, reduceCtorEq, partsOf_arr, List.map_cons, List.map_nil] at hv); subst hv)) | ((with_reducible apply Wseq.as); (focus rfl); (intro v hv; (simp only [ev_tmp, ev_const, ev_global, ev_func, look_if, lk_nil, Nat.reduceEqDiff, eq_self, ↓reduceIte, reduceCtorEq, partsOf_arr, List.map_cons, List.map_nil] at hv); subst hv)) | ((with_reducible apply Wseq.stg (op := Op.binOp BinOp.add _ _ _ _)); (focus rfl); (focus (exact to_add rfl rfl (by omega) (by omega))))))
        refine RoundE.go (l0.length - (i + 1)) (EA p (.slice (some ⟨c3 + 1, 0, some 4⟩) (l.length + 1) (l.length + 1)) l0.length (z + 1) _ _) (by omega) (by (refine EqK.of ?_ ?_ <;> (repeat (first | (exact all_nil) | ((apply all_cons); (focus rfl)))))) ⟨i + 1, z + 1, _, _, _, _, _, l ++ [⟨tid, .slice a2 txs.length k2, txs, tdr, tg⟩], _, _, rfl, by omega, rfl, (by ((repeat ((with_reducible apply Fresh.put); (focus omega))); (first | (with_reducible assumption) | (exact Fresh.up (by with_reducible assumption) (by omega))))), by omega, (by (repeat (first | (with_reducible exact Kp.refl) | (with_reducible assumption) | ((with_reducible apply Kp.set); (focus (first | (left; omega) | (right; first | exact rfl | assumption | (exact Or.inl (by assumption)) | (exact Or.inr (by assumption)) | (simp; done) | omega))))))), ⟨.inr ⟨c3 + 1, 0, _, by simp, (by (repeat (first | (with_reducible exact Has.same) | (with_reducible assumption) | ((with_reducible apply Has.other); (focus omega))))), ?_⟩, ?_, ?_, ?_, ?_⟩, ?_, by omega, (by (repeat (first | (with_reducible exact Lg.nil) | (with_reducible assumption) | ((with_reducible apply Lg.cons); (focus (first | (left; omega) | (right; first | exact rfl | assumption | (exact Or.inl (by assumption)) | (exact Or.inr (by assumption)) | (simp; done) | omega)))) | (with_reducible apply Lg.app)))), (by (repeat (first | (with_reducible exact Lg.nil) | (with_reducible assumption) | ((with_reducible apply Lg.cons); (focus (first | (left; omega) | (right; first | exact rfl | assumption | (exact Or.inl (by assumption)) | (exact Or.inr (by assumption)) | (simp; done) | omega)))) | (with_reducible apply Lg.app)))), rfl⟩
        · rw [show flatC (l ++ [⟨tid, .slice a2 txs.length k2, txs, tdr, tg⟩]) = flatC l ++ [.int .i64 tid, .slice a2 txs.length k2, .int .u32 tdr, .bool tg] by simp [flatC, Chg.cells]]
          exact subN_all _ _ (by simp [flatC_len]; omega)
        · rintro b ⟨⟩
          dsimp only
          omega
        · intro y hy
          rcases List.mem_append.1 hy with hy | hy
          · refine (hR.vec y hy).keep fun b hb => ?_
            have u1 := hR.sep y hy b hb
            have u2 := ((hR.vec y hy).blk hb).2.lt hf2
            have u3 : b ≠ b0 := fun e => u1 (by rw [e]; rfl)
            rw [get_other (by omega), get_other u3, get_other (by omega), hext.get (by omega) (fun q => q)]
          · obtain rfl := List.mem_singleton.1 hy
            refine (hown2.low (c1 := c) (by omega)).keep fun b hb => ?_
            obtain ⟨u1, u2⟩ := hown2.blk hb
            have u3 := u2.lt hf3
            rw [get_other (by omega), get_other (by omega), get_other (by omega)]
        · intro y hy b hb
          rcases List.mem_append.1 hy with hy | hy
          · have u2 := ((hR.vec y hy).blk hb).2.lt hf2
            rintro ⟨⟩
            (try dsimp only at u2); omega
          · obtain rfl := List.mem_singleton.1 hy
            have r3 := (hown2.blk hb).2.lt hf3
            rintro ⟨⟩
            (try dsimp only at r3); omega
        · have old : ∀ (i : Nat) (x : Chg), (l ++ [(⟨tid, .slice a2 txs.length k2, txs, tdr, tg⟩ : Chg)])[i]? = some x → (i < l.length ∧ l[i]? = some x) ∨ (i = l.length ∧ x = ⟨tid, .slice a2 txs.length k2, txs, tdr, tg⟩) := by
            intro i x hx
            rcases Nat.lt_trichotomy i l.length with h1 | h1 | h1
            · rw [List.getElem?_append_left h1] at hx; exact .inl ⟨h1, hx⟩
            · rw [List.getElem?_append_right (by omega), h1, Nat.sub_self] at hx; cases hx; exact .inr ⟨h1, rfl⟩
            · rw [List.getElem?_eq_none (by simp; omega)] at hx; cases hx
          intro i j x y hx hy hij b hb
          rcases old i x hx with ⟨_, hx⟩ | ⟨h1, rfl⟩
          · rcases old j y hy with ⟨_, hy⟩ | ⟨h2, rfl⟩
            · exact hR.apart i j x y hx hy hij b hb
            · have u1 := ((hR.vec x (List.mem_of_getElem? hx)).blk hb).2.lt hf2
              intro hb2
              have u2 := (hown2.blk hb2).1
              omega
          · rcases old j y hy with ⟨_, hy⟩ | ⟨h2, rfl⟩
            · have u1 := (hown2.blk hb).1
              intro hb2
              have u2 := ((hR.vec y (List.mem_of_getElem? hy)).blk hb2).2.lt hf2
              omega
            · omega
        · rw [← hl3, List.map_append]; rfl
    · (repeat (first | (with_reducible refine Then.go ?_) | (with_reducible refine Then.ex ?_) | (with_reducible refine Out.hit ?_) | (with_reducible refine Wx.seq ?_) | (with_reducible refine Wx.exit ?_) | (with_reducible refine Wx.ret ?_) | (with_reducible refine Wx.reg ?_) | (with_reducible refine RoundE.ex ?_) | (refine Wx.condF rfl (by (first | rfl | (simp only [decide_eq_false_iff_not, Bool.not_eq_false', decide_eq_true_eq, Option.isNone_none, Option.isNone_some, Option.isSome_none, Option.isSome_some, beq_self_eq_true, Bool.not_true, Bool.not_false]; first | done | omega))) ?_) | ((with_reducible refine Wseq.nil ?_); intro e he; (simp only [envOf_eq, keepFrom_cons, keepFrom_nil, flushE_mk, flL_cons, flL_nil, st_cons, st_nil, Nat.testBit, Nat.reduceShiftRight, Nat.reduceAnd, Nat.reduceBNe, Nat.reduceEqDiff, Nat.reduceAdd, ↓reduceIte, reduceCtorEq, Bool.false_eq_true] at he; subst he)) | ((with_reducible apply Wseq.mv); (focus rfl); (intro v hv; (simp only [ev_tmp, ev_const, ev_global, ev_func, look_if, lk_nil, Nat.reduceEqDiff, eq_self, ↓reduceIte, reduceCtorEq, partsOf_arr, List.map_cons, List.map_nil] at hv); subst hv)) | ((with_reducible apply Wseq.as); (focus rfl); (intro v hv; (simp only [ev_tmp, ev_const, ev_global, ev_func, look_if, lk_nil, Nat.reduceEqDiff, eq_self, ↓reduceIte, reduceCtorEq, partsOf_arr, List.map_cons, List.map_nil] at hv); subst hv)) | ((with_reducible apply Wseq.stg (op := Op.binOp BinOp.lss _ _ _ _)); (focus rfl); (focus (exact to_lssF rfl rfl (by omega))))))
      refine ⟨.inr rfl, Wres.one rfl ⟨⟨l, hR, ?_⟩, ?_⟩⟩
      · rw [hl2, List.take_of_length_le (by omega)]
      · (dsimp only; exact Ext.of (by omega) (by ((repeat ((with_reducible apply Fresh.put); (focus omega))); (first | (with_reducible assumption) | (exact Fresh.up (by with_reducible assumption) (by omega))))) (by (repeat (first | (with_reducible exact Kp.refl) | (with_reducible assumption) | ((with_reducible apply Kp.set); (focus (first | (left; omega) | (right; first | exact rfl | assumption | (exact Or.inl (by assumption)) | (exact Or.inr (by assumption)) | (simp; done) | omega))))))) (by (repeat (first | (with_reducible exact Lg.nil) | (with_reducible assumption) | ((with_reducible apply Lg.cons); (focus (first | (left; omega) | (right; first | exact rfl | assumption | (exact Or.inl (by assumption)) | (exact Or.inr (by assumption)) | (simp; done) | omega)))) | (with_reducible apply Lg.app)))) (by (repeat (first | (with_reducible exact Lg.nil) | (with_reducible assumption) | ((with_reducible apply Lg.cons); (focus (first | (left; omega) | (right; first | exact rfl | assumption | (exact Or.inl (by assumption)) | (exact Or.inr (by assumption)) | (simp; done) | omega)))) | (with_reducible apply Lg.app)))))
end Go.Ab.Seat
