/- Stores: put, get, del (the abstract machine). -/
import Derived.Test.YthkmcfiijooddaaGreatDoorBST1
set_option linter.unusedVariables false
set_option linter.unusedSimpArgs false
namespace Go.Ab.Seat
open Go.Extern Go.Proofs
set_option linter.unusedSimpArgs false
set_option linter.unusedVariables false
set_option maxRecDepth 4000
set_option pp.deepTerms false
set_option pp.deepTerms.threshold 6
variable {sm : Nat → Option (List Value → M Value)}

theorem sput_ok (H : Std sm) {h : T AObj} {c : Nat} {rl wl : List Nat} (hf : Fresh h c) {p m n : Nat} {es : List (Value × Value × Nat)} {U : Nat → Prop} (q : StoreR h p m es n U) (id seq : Int) (pay : ByteArray) (h1 : 1 ≤ id) (h2 : id ≤ 1000) (hp : pay.size ≤ 40)
    {a : Option Addr} {k cap : Nat} {xs : List Value} (hv : Row h (.slice a k cap) k 1 xs) (hx : xs.length = k) (hn : k ≤ bigV) (hz : k = 0 → a = none → cap = 0) (bs : Nat → Prop) (hbs : ∀ b o sp, a = some ⟨b, o, sp⟩ → bs b) (hbm : ¬bs m)
    {i0 : Int} {v0 : Value} {p0 : ByteArray} {s0 : Int} {g0 : Bool} (hcur : curV id es = itv i0 v0 p0 s0 g0) (hs : s0 < seq) :
    ∃ r s', FnTo (Cs sm) eg 12 [.pointer (some ⟨p, 0, none⟩), .int .i64 id, .slice a k cap, .string pay, .int .i64 seq] ⟨h, c, rl, wl⟩ r s' ∧ r = .nilIface ∧
      (∃ v', StoreR s'.h p m (putI .i64 id (itv id v' pay seq false) n es).1 (putI .i64 id (itv id v' pay seq false) n es).2 (fun b => U b ∨ c ≤ b ∧ b < s'.c) ∧ Own s'.h c v' k xs) ∧ Ext ⟨h, c, rl, wl⟩ s' (fun b => U b ∨ bs b) (fun b => b = m) := by
  have hp1 := q.ptr
  have hm1 := q.map
  have hU := q.pU
  have hU' := q.mU
  have hpc := hp1.lt hf
  have hmc := hm1.lt hf
  have hpm := q.ne
  refine Fn.go (H 12 rfl) ex12 fn12 km12 rfl rfl ?_
  intro e he
  (simp only [envOf_eq, keepFrom_cons, keepFrom_nil, flushE_mk, flL_cons, flL_nil, st_cons, st_nil, Nat.testBit, Nat.reduceShiftRight, Nat.reduceAnd, Nat.reduceBNe, Nat.reduceEqDiff, Nat.reduceAdd, ↓reduceIte, reduceCtorEq, Bool.false_eq_true] at he; subst he)
  (repeat (first | (with_reducible refine Then.go ?_) | (with_reducible refine Wx.seq ?_) | (with_reducible refine Wx.block ?_) | (with_reducible refine Wx.reg ?_) | (refine Wx.condF rfl (by rfl) ?_) | ((with_reducible refine Wseq.nil ?_); intro e he; (simp only [envOf_eq, keepFrom_cons, keepFrom_nil, flushE_mk, flL_cons, flL_nil, st_cons, st_nil, Nat.testBit, Nat.reduceShiftRight, Nat.reduceAnd, Nat.reduceBNe, Nat.reduceEqDiff, Nat.reduceAdd, ↓reduceIte, reduceCtorEq, Bool.false_eq_true] at he; subst he)) | ((with_reducible apply Wseq.mv); rfl; (intro v hv; (simp only [ev_tmp, ev_const, ev_global, ev_func, look_if, lk_nil, Nat.reduceEqDiff, eq_self, ↓reduceIte, reduceCtorEq, partsOf_arr, List.map_cons, List.map_nil] at hv); subst hv)) | ((with_reducible apply Wseq.as); rfl; (intro v hv; (simp only [ev_tmp, ev_const, ev_global, ev_func, look_if, lk_nil, Nat.reduceEqDiff, eq_self, ↓reduceIte, reduceCtorEq, partsOf_arr, List.map_cons, List.map_nil] at hv); subst hv)) | ((with_reducible apply Wseq.pkF); rfl; rfl; (intro v hv; (simp only [ev_tmp, ev_const, ev_global, ev_func, look_if, lk_nil, Nat.reduceEqDiff, eq_self, ↓reduceIte, reduceCtorEq, partsOf_arr, List.map_cons, List.map_nil] at hv); subst hv)) | ((with_reducible apply Wseq.stg (op := Op.fieldAddr _ _ _)); rfl; exact to_fieldAddr (fa_ rfl) rfl) | ((with_reducible apply Wseq.stg (op := Op.load _ _)); rfl; exact to_load (pl_ rfl) rfl (by (repeat ((apply Has.cel; assumption)))) (by omega) (by rfl)) | ((with_reducible apply Wseq.stg (op := Op.nilCheck _)); rfl; exact to_nilCheck rfl) | ((with_reducible apply Wseq.stg (op := Op.call ⟨Callee.builtin Builtin.len, _, _⟩)); rfl; exact to_lenStr (sr_ rfl) rfl) | ((with_reducible apply Wseq.stg (op := Op.binOp BinOp.lss _ _ _ _)); rfl; exact to_lssF rfl rfl (by omega)) | ((with_reducible apply Wseq.stg (op := Op.binOp BinOp.gtr _ _ _ _)); rfl; exact to_gtrF rfl rfl (by omega)) | ((with_reducible apply Wseq.stg (op := Op.binOp BinOp.eql _ _ _ _)); rfl; exact to_eqP (un_ rfl) rfl rfl)))
  ((with_reducible apply Wseq.stg); (focus rfl); (focus (exact to_lookup mi113 ze59 rfl rfl hm1 (by omega) q.keys hcur)))
  (repeat (first | (with_reducible refine Then.go ?_) | (with_reducible refine Out.go ?_) | (with_reducible refine Wx.seq ?_) | (with_reducible refine Wx.skip ?_) | (refine Wx.dreg rfl ?_) | (refine Wx.condF rfl (by rfl) ?_) | ((with_reducible refine Wseq.nil ?_); intro e he; (simp only [envOf_eq, keepFrom_cons, keepFrom_nil, flushE_mk, flL_cons, flL_nil, st_cons, st_nil, Nat.testBit, Nat.reduceShiftRight, Nat.reduceAnd, Nat.reduceBNe, Nat.reduceEqDiff, Nat.reduceAdd, ↓reduceIte, reduceCtorEq, Bool.false_eq_true] at he; subst he)) | ((with_reducible apply Wseq.as); rfl; (intro v hv; (simp only [ev_tmp, ev_const, ev_global, ev_func, look_if, lk_nil, Nat.reduceEqDiff, eq_self, ↓reduceIte, reduceCtorEq, partsOf_arr, List.map_cons, List.map_nil] at hv); subst hv)) | ((with_reducible apply Wseq.stg (op := Op.field _ _ _)); rfl; exact to_field (fa_ rfl) (pl_ rfl) rfl rfl) | ((with_reducible apply Wseq.stg (op := Op.binOp BinOp.leq _ _ _ _)); rfl; exact to_leqF rfl rfl (by omega)) | ((with_reducible apply Wtr.mv); rfl; (intro v hv; (simp only [ev_tmp, ev_const, ev_global, ev_func, look_if, lk_nil, Nat.reduceEqDiff, eq_self, ↓reduceIte, reduceCtorEq, partsOf_arr, List.map_cons, List.map_nil] at hv); subst hv)) | ((with_reducible apply Wtr.bd); rfl; exact (bt_ rfl); (intro v hv; (simp only [ev_tmp, ev_const, ev_global, ev_func, look_if, lk_nil, Nat.reduceEqDiff, eq_self, ↓reduceIte, reduceCtorEq, partsOf_arr, List.map_cons, List.map_nil] at hv); subst hv); refine ⟨_, rfl, ?_⟩) | ((with_reducible apply Wtr.stq (op := Op.fieldAddr _ _ _)); rfl; exact to_fieldAddr (fa_ rfl) rfl) | ((with_reducible apply Wtr.stx (op := Op.load _ _)); rfl; exact to_load (pl_ rfl) rfl (by (repeat ((apply Has.cel; assumption)))) (by omega) (by rfl); repeat ((exact all_nil))) | ((with_reducible apply Wtr.stq (op := Op.nilCheck _)); rfl; exact to_nilCheck rfl)))
  refine Wtr.call rfl rfl (scopied_spec H (by ((repeat (apply Fresh.put; omega)); ((assumption)))) id pay seq false hv hn hz bs hbs) ?_
  rintro v' h3 c3 r3 w3 ⟨v2, rfl, hown, hext⟩
  have hw3 := hext.quiet (fun _ _ q => q)
  have q3 := hext.c
  dsimp only at q3
  have hf3 : Fresh h3 c3 := hext.fresh
  obtain ⟨a2, k2, rfl⟩ := hown.val
  have g1 := hext.hs (b := p) hp1 (by omega) (fun q => q)
  have g2 := hext.hs (b := m) hm1 (by omega) (fun q => q)
  have kp := Kp.ext (W := fun b => b = m) (h := h) (c := c) (by (repeat ((exact Kp.refl)))) hext (by omega) (fun _ _ q => q.elim)
  have lr := Lg.extR (R := fun b => U b ∨ bs b) (c := c) Lg.nil hext (fun _ _ q => .inr q)
  have lw : Lg c (fun b => b = m) w3 := fun b hb => (hw3 b hb).elim
  have hr3 : ∀ b ∈ r3, b ≠ m := fun b hb => by
    rcases hext.rl b hb with u | u
    · exact absurd u List.not_mem_nil
    · exact fun e => hbm (e ▸ u.2)
  refine ⟨(by (repeat (first | (exact all_nil) | (apply all_cons; (focus ((right; exact ApartP.rc (by assumption)))))))), ?_⟩
  skip
  refine Wtr.op (s1 := ⟨h3.set m (some (.map (putI .i64 id (itv id (.slice a2 k k2) pay seq false) n es).1 (putI .i64 id (itv id (.slice a2 k k2) pay seq false) n es).2)), c3, [m], [m]⟩) rfl (to_mapUpdate mi113 rfl rfl rfl g2 (g2.lt hf3) q.keys) ?_ ?_
  · (repeat (first | (exact all_nil) | (apply all_cons; (focus ((left; dsimp only; decide +kernel))))))
  dsimp only [put]
  (repeat (first | (with_reducible refine Then.go ?_) | (with_reducible refine Wx.seq ?_) | (with_reducible refine Wx.ret ?_) | (with_reducible refine Wx.reg ?_) | ((with_reducible refine Wseq.nil ?_); intro e he; (simp only [envOf_eq, keepFrom_cons, keepFrom_nil, flushE_mk, flL_cons, flL_nil, st_cons, st_nil, Nat.testBit, Nat.reduceShiftRight, Nat.reduceAnd, Nat.reduceBNe, Nat.reduceEqDiff, Nat.reduceAdd, ↓reduceIte, reduceCtorEq, Bool.false_eq_true] at he; subst he)) | ((with_reducible apply Wseq.as); rfl; (intro v hv; (simp only [ev_tmp, ev_const, ev_global, ev_func, look_if, lk_nil, Nat.reduceEqDiff, eq_self, ↓reduceIte, reduceCtorEq, partsOf_arr, List.map_cons, List.map_nil] at hv); subst hv)) | ((with_reducible refine Wtr.nil ?_); intro e he; (simp only [envOf_eq, keepFrom_cons, keepFrom_nil, flushE_mk, flL_cons, flL_nil, st_cons, st_nil, Nat.testBit, Nat.reduceShiftRight, Nat.reduceAnd, Nat.reduceBNe, Nat.reduceEqDiff, Nat.reduceAdd, ↓reduceIte, reduceCtorEq, Bool.false_eq_true] at he; subst he))))
  refine ⟨.inr rfl, Wres.one rfl ⟨rfl, ⟨.slice a2 k k2, ?_, ?_⟩, ?_⟩⟩
  · refine ⟨Has.other hpm g1, Has.same, .inl hU, .inl hU', fun e he => ?_⟩
    rcases mem_putI he with he | ⟨e1, e2⟩
    · refine ((q.ents e he).keep hf fun b hb hbc hbp hbm => ?_).wide fun b hb => .inl hb
      dsimp only
      rw [get_other hbm]
      exact hext.get hbc (fun q => q)
    · refine ⟨⟨id, .slice a2 k k2, xs, pay, seq, false⟩, e1, e2, ?_, fun b hb => ?_⟩
      · dsimp only
        rw [hx]
        exact (hown.set (by omega)).low (by omega)
      · obtain ⟨u1, u2⟩ := hown.blk hb
        have u3 := u2.lt hf3
        exact ⟨.inr ⟨u1, u3⟩, by omega, by omega⟩
  · exact hown.set (by omega)
  · (dsimp only; exact Ext.of (by omega) (by ((repeat (apply Fresh.put; omega)); ((assumption)))) (by (repeat (first | (assumption) | (apply Kp.set; (focus ((right; (exact rfl)))))))) (by (repeat (first | (exact Lg.nil) | (assumption) | (apply Lg.cons; (focus ((right; (exact Or.inl (by assumption)))))) | (apply Lg.app)))) (by (repeat (first | (exact Lg.nil) | (assumption) | (apply Lg.cons; (focus ((right; (exact rfl))))) | (apply Lg.app)))))

theorem sget_none (H : Std sm) {h : T AObj} {c : Nat} {rl wl : List Nat} (hf : Fresh h c) {p m n : Nat} {es : List (Value × Value × Nat)} {U : Nat → Prop} (q : StoreR h p m es n U) (id : Int)
    {i0 : Int} {av : Option Addr} {nv kv : Nat} {p0 : ByteArray} {s0 : Int} {g0 : Bool} (hcur : curV id es = itv i0 (.slice av nv kv) p0 s0 g0) (hg : (findI id es).isSome = false ∨ (findI id es).isSome = true ∧ g0 = true) :
    ∃ r s', FnTo (Cs sm) eg 24 [.pointer (some ⟨p, 0, none⟩), .int .i64 id] ⟨h, c, rl, wl⟩ r s' ∧ r = .tuple #[it0, .bool false] ∧ Ext ⟨h, c, rl, wl⟩ s' U (fun _ => False) := by
  have hp1 := q.ptr
  have hm1 := q.map
  have hU := q.pU
  have hU' := q.mU
  have hpc := hp1.lt hf
  have hmc := hm1.lt hf
  refine Fn.go (H 24 rfl) ex24 fn24 km24 rfl rfl ?_
  intro e he
  (simp only [envOf_eq, keepFrom_cons, keepFrom_nil, flushE_mk, flL_cons, flL_nil, st_cons, st_nil, Nat.testBit, Nat.reduceShiftRight, Nat.reduceAnd, Nat.reduceBNe, Nat.reduceEqDiff, Nat.reduceAdd, ↓reduceIte, reduceCtorEq, Bool.false_eq_true] at he; subst he)
  rcases hg with hg | ⟨hg, rfl⟩
  · (repeat (first | (with_reducible refine Then.go ?_) | (with_reducible refine Wx.seq ?_) | (with_reducible refine Wx.skip ?_) | (with_reducible refine Wx.reg ?_) | (refine Wx.condF rfl (by rfl) ?_) | ((with_reducible refine Wseq.nil ?_); intro e he; (simp only [envOf_eq, keepFrom_cons, keepFrom_nil, flushE_mk, flL_cons, flL_nil, st_cons, st_nil, Nat.testBit, Nat.reduceShiftRight, Nat.reduceAnd, Nat.reduceBNe, Nat.reduceEqDiff, Nat.reduceAdd, ↓reduceIte, reduceCtorEq, Bool.false_eq_true] at he; subst he)) | ((with_reducible apply Wseq.mv); rfl; (intro v hv; (simp only [ev_tmp, ev_const, ev_global, ev_func, look_if, lk_nil, Nat.reduceEqDiff, eq_self, ↓reduceIte, reduceCtorEq, partsOf_arr, List.map_cons, List.map_nil] at hv); subst hv)) | ((with_reducible apply Wseq.as); rfl; (intro v hv; (simp only [ev_tmp, ev_const, ev_global, ev_func, look_if, lk_nil, Nat.reduceEqDiff, eq_self, ↓reduceIte, reduceCtorEq, partsOf_arr, List.map_cons, List.map_nil] at hv); subst hv)) | ((with_reducible apply Wseq.stg (op := Op.fieldAddr _ _ _)); rfl; exact to_fieldAddr (fa_ rfl) rfl) | ((with_reducible apply Wseq.stg (op := Op.load _ _)); rfl; exact to_load (pl_ rfl) rfl (by (repeat (first | (apply Has.cel; assumption) | (apply Cel.other; omega)))) (by omega) (by rfl)) | ((with_reducible apply Wseq.stg (op := Op.nilCheck _)); rfl; exact to_nilCheck rfl) | ((with_reducible apply Wseq.stg (op := Op.alloc _)); rfl; exact to_alloc (ze_ rfl) (by ((exact cellsA_agg _))) (by ((repeat (apply Fresh.put; omega)); ((assumption))))) | ((with_reducible apply Wseq.stg (op := Op.binOp BinOp.eql _ _ _ _)); rfl; exact to_eqP (un_ rfl) rfl rfl)))
    ((with_reducible apply Wseq.stg); (focus rfl); (focus (exact to_lookupOk mi113 ze59 rfl rfl (Has.other (by omega) hm1) (by omega) q.keys hcur hg)))
    (repeat (first | (with_reducible refine Then.go ?_) | (with_reducible refine Then.rt ?_) | (with_reducible refine Wx.seq ?_) | (with_reducible refine Wx.ret ?_) | (with_reducible refine Wx.reg ?_) | (refine Wx.condT rfl (by rfl) ?_) | ((with_reducible refine Wseq.nil ?_); intro e he; (simp only [envOf_eq, keepFrom_cons, keepFrom_nil, flushE_mk, flL_cons, flL_nil, st_cons, st_nil, Nat.testBit, Nat.reduceShiftRight, Nat.reduceAnd, Nat.reduceBNe, Nat.reduceEqDiff, Nat.reduceAdd, ↓reduceIte, reduceCtorEq, Bool.false_eq_true] at he; subst he)) | ((with_reducible apply Wseq.mv); rfl; (intro v hv; (simp only [ev_tmp, ev_const, ev_global, ev_func, look_if, lk_nil, Nat.reduceEqDiff, eq_self, ↓reduceIte, reduceCtorEq, partsOf_arr, List.map_cons, List.map_nil] at hv); subst hv)) | ((with_reducible apply Wseq.as); rfl; (intro v hv; (simp only [ev_tmp, ev_const, ev_global, ev_func, look_if, lk_nil, Nat.reduceEqDiff, eq_self, ↓reduceIte, reduceCtorEq, partsOf_arr, List.map_cons, List.map_nil] at hv); subst hv)) | ((with_reducible apply Wseq.pkT); rfl; rfl; (intro v hv; (simp only [ev_tmp, ev_const, ev_global, ev_func, look_if, lk_nil, Nat.reduceEqDiff, eq_self, ↓reduceIte, reduceCtorEq, partsOf_arr, List.map_cons, List.map_nil] at hv); subst hv)) | ((with_reducible apply Wseq.bd); rfl; exact (bt_ rfl); (intro v hv; (simp only [ev_tmp, ev_const, ev_global, ev_func, look_if, lk_nil, Nat.reduceEqDiff, eq_self, ↓reduceIte, reduceCtorEq, partsOf_arr, List.map_cons, List.map_nil] at hv); subst hv); refine ⟨_, rfl, ?_⟩) | ((with_reducible apply Wseq.so); rfl; exact (sz_ rfl); rfl; exact (by (repeat (first | (exact Has.same) | (apply Has.other; omega)))); omega; (intro v hv; (simp only [ev_tmp, ev_const, ev_global, ev_func, look_if, lk_nil, Nat.reduceEqDiff, eq_self, ↓reduceIte, reduceCtorEq, partsOf_arr, List.map_cons, List.map_nil] at hv); subst hv); refine ⟨_, _, (by ((exact cellsA_agg _))), rfl, rfl, ?_⟩) | ((with_reducible apply Wseq.stg (op := Op.alloc _)); rfl; exact to_alloc (ze_ rfl) (by ((exact cellsA_agg _))) (by ((repeat (apply Fresh.put; omega)); ((exact Fresh.up (by assumption) (by omega)))))) | ((with_reducible apply Wseq.stg (op := Op.extract _ _)); rfl; exact to_extract rfl rfl) | ((with_reducible apply Wseq.stg (op := Op.unOp UnOp.not _ _)); rfl; exact to_notF rfl) | (refine Wseq.no rfl ?_)))
    refine ⟨.inr rfl, Wres.cellTmp rfl ag59 (by (repeat ((exact Has.same.cel)))) (by omega) (by rfl) rfl ⟨rfl, ?_⟩⟩
    (dsimp only; exact Ext.of (by omega) (by ((repeat (apply Fresh.put; omega)); ((exact Fresh.up (by assumption) (by omega))))) (by (repeat (first | (exact Kp.refl) | (apply Kp.set; (focus (left; omega)))))) (by (repeat (first | (exact Lg.nil) | (apply Lg.cons; (focus (first | (left; omega) | (right; (assumption)))))))) (by (repeat (first | (exact Lg.nil) | (apply Lg.cons; (focus (left; omega)))))))
  · (repeat (first | (with_reducible refine Then.go ?_) | (with_reducible refine Wx.seq ?_) | (with_reducible refine Wx.skip ?_) | (with_reducible refine Wx.reg ?_) | (refine Wx.condF rfl (by rfl) ?_) | ((with_reducible refine Wseq.nil ?_); intro e he; (simp only [envOf_eq, keepFrom_cons, keepFrom_nil, flushE_mk, flL_cons, flL_nil, st_cons, st_nil, Nat.testBit, Nat.reduceShiftRight, Nat.reduceAnd, Nat.reduceBNe, Nat.reduceEqDiff, Nat.reduceAdd, ↓reduceIte, reduceCtorEq, Bool.false_eq_true] at he; subst he)) | ((with_reducible apply Wseq.mv); rfl; (intro v hv; (simp only [ev_tmp, ev_const, ev_global, ev_func, look_if, lk_nil, Nat.reduceEqDiff, eq_self, ↓reduceIte, reduceCtorEq, partsOf_arr, List.map_cons, List.map_nil] at hv); subst hv)) | ((with_reducible apply Wseq.as); rfl; (intro v hv; (simp only [ev_tmp, ev_const, ev_global, ev_func, look_if, lk_nil, Nat.reduceEqDiff, eq_self, ↓reduceIte, reduceCtorEq, partsOf_arr, List.map_cons, List.map_nil] at hv); subst hv)) | ((with_reducible apply Wseq.stg (op := Op.fieldAddr _ _ _)); rfl; exact to_fieldAddr (fa_ rfl) rfl) | ((with_reducible apply Wseq.stg (op := Op.load _ _)); rfl; exact to_load (pl_ rfl) rfl (by (repeat (first | (apply Has.cel; assumption) | (apply Cel.other; omega)))) (by omega) (by rfl)) | ((with_reducible apply Wseq.stg (op := Op.nilCheck _)); rfl; exact to_nilCheck rfl) | ((with_reducible apply Wseq.stg (op := Op.alloc _)); rfl; exact to_alloc (ze_ rfl) (by ((exact cellsA_agg _))) (by ((repeat (apply Fresh.put; omega)); ((assumption))))) | ((with_reducible apply Wseq.stg (op := Op.binOp BinOp.eql _ _ _ _)); rfl; exact to_eqP (un_ rfl) rfl rfl)))
    ((with_reducible apply Wseq.stg); (focus rfl); (focus (exact to_lookupOk mi113 ze59 rfl rfl (Has.other (by omega) hm1) (by omega) q.keys hcur hg)))
    (repeat (first | (with_reducible refine Then.go ?_) | (with_reducible refine Then.rt ?_) | (with_reducible refine Wx.seq ?_) | (with_reducible refine Wx.ret ?_) | (with_reducible refine Wx.reg ?_) | (refine Wx.condT rfl (by rfl) ?_) | ((with_reducible refine Wseq.nil ?_); intro e he; (simp only [envOf_eq, keepFrom_cons, keepFrom_nil, flushE_mk, flL_cons, flL_nil, st_cons, st_nil, Nat.testBit, Nat.reduceShiftRight, Nat.reduceAnd, Nat.reduceBNe, Nat.reduceEqDiff, Nat.reduceAdd, ↓reduceIte, reduceCtorEq, Bool.false_eq_true] at he; subst he)) | ((with_reducible apply Wseq.mv); rfl; (intro v hv; (simp only [ev_tmp, ev_const, ev_global, ev_func, look_if, lk_nil, Nat.reduceEqDiff, eq_self, ↓reduceIte, reduceCtorEq, partsOf_arr, List.map_cons, List.map_nil] at hv); subst hv)) | ((with_reducible apply Wseq.as); rfl; (intro v hv; (simp only [ev_tmp, ev_const, ev_global, ev_func, look_if, lk_nil, Nat.reduceEqDiff, eq_self, ↓reduceIte, reduceCtorEq, partsOf_arr, List.map_cons, List.map_nil] at hv); subst hv)) | ((with_reducible apply Wseq.pkF); rfl; rfl; (intro v hv; (simp only [ev_tmp, ev_const, ev_global, ev_func, look_if, lk_nil, Nat.reduceEqDiff, eq_self, ↓reduceIte, reduceCtorEq, partsOf_arr, List.map_cons, List.map_nil] at hv); subst hv)) | ((with_reducible apply Wseq.bd); rfl; exact (bt_ rfl); (intro v hv; (simp only [ev_tmp, ev_const, ev_global, ev_func, look_if, lk_nil, Nat.reduceEqDiff, eq_self, ↓reduceIte, reduceCtorEq, partsOf_arr, List.map_cons, List.map_nil] at hv); subst hv); refine ⟨_, rfl, ?_⟩) | ((with_reducible apply Wseq.so); rfl; exact (sz_ rfl); rfl; exact (by (repeat (first | (exact Has.same) | (apply Has.other; omega)))); omega; (intro v hv; (simp only [ev_tmp, ev_const, ev_global, ev_func, look_if, lk_nil, Nat.reduceEqDiff, eq_self, ↓reduceIte, reduceCtorEq, partsOf_arr, List.map_cons, List.map_nil] at hv); subst hv); refine ⟨_, _, (by ((exact cellsA_agg _))), rfl, rfl, ?_⟩) | ((with_reducible apply Wseq.stg (op := Op.fieldAddr _ _ _)); rfl; exact to_fieldAddr (fa_ rfl) rfl) | ((with_reducible apply Wseq.stg (op := Op.load _ _)); rfl; exact to_load (pl_ rfl) rfl (by (repeat ((exact Has.same.cel)))) (by omega) (by rfl)) | ((with_reducible apply Wseq.stg (op := Op.alloc _)); rfl; exact to_alloc (ze_ rfl) (by ((exact cellsA_agg _))) (by ((repeat (apply Fresh.put; omega)); ((exact Fresh.up (by assumption) (by omega)))))) | ((with_reducible apply Wseq.stg (op := Op.extract _ _)); rfl; exact to_extract rfl rfl) | ((with_reducible apply Wseq.stg (op := Op.unOp UnOp.not _ _)); rfl; exact to_notT rfl)))
    refine ⟨.inr rfl, Wres.cellTmp rfl ag59 (by (repeat ((exact Has.same.cel)))) (by omega) (by rfl) rfl ⟨rfl, ?_⟩⟩
    (dsimp only; exact Ext.of (by omega) (by ((repeat (apply Fresh.put; omega)); ((exact Fresh.up (by assumption) (by omega))))) (by (repeat (first | (exact Kp.refl) | (apply Kp.set; (focus (left; omega)))))) (by (repeat (first | (exact Lg.nil) | (apply Lg.cons; (focus (first | (left; omega) | (right; (assumption)))))))) (by (repeat (first | (exact Lg.nil) | (apply Lg.cons; (focus (left; omega)))))))

theorem findI_mem {x : Int} : ∀ {es : List (Value × Value × Nat)} {i : Nat} {v : Value}, findI x es = some (i, v) → ∃ e ∈ es, e.2.1 = v := by
  intro es
  induction es with
  | nil => intro i v h; cases h
  | cons e es ih =>
    intro i v h
    obtain ⟨k, w, b⟩ := e
    have tail : (findI x es).map (fun p => (p.1 + 1, p.2)) = some (i, v) → ∃ e ∈ ((k, w, b) :: es), e.2.1 = v := by
      intro h
      cases hf : findI x es with
      | none => rw [hf] at h; cases h
      | some p =>
        rw [hf] at h
        cases h
        obtain ⟨e, h1, h2⟩ := ih (i := p.1) (v := p.2) hf
        exact ⟨e, List.mem_cons_of_mem _ h1, h2⟩
    cases k <;> first | exact tail h | skip
    rename_i j y
    unfold findI at h
    split at h
    · cases h; exact ⟨_, List.mem_cons_self .., rfl⟩
    · exact tail h

theorem sget_some (H : Std sm) {h : T AObj} {c : Nat} {rl wl : List Nat} (hf : Fresh h c) {p m n : Nat} {es : List (Value × Value × Nat)} {U : Nat → Prop} (q : StoreR h p m es n U) (id : Int) {it : It} {i : Nat} (hi : findI id es = some (i, it.val)) (hg : it.gone = false) (hn : it.xs.length ≤ bigV)
    (hown : Own h 0 it.vec it.xs.length it.xs) (hsep : ∀ b, blkOf it.vec = some b → U b) :
    ∃ r s', FnTo (Cs sm) eg 24 [.pointer (some ⟨p, 0, none⟩), .int .i64 id] ⟨h, c, rl, wl⟩ r s' ∧ (∃ v', r = .tuple #[itv it.id v' it.pay it.seq false, .bool true] ∧ Own s'.h c v' it.xs.length it.xs) ∧ Ext ⟨h, c, rl, wl⟩ s' U (fun _ => False) := by
  have hp1 := q.ptr
  have hm1 := q.map
  have hU := q.pU
  have hU' := q.mU
  have hpc := hp1.lt hf
  have hmc := hm1.lt hf
  obtain ⟨tid, tvec, txs, tpay, tseq, tg⟩ := it
  dsimp only at hg hn hown hsep
  subst hg
  obtain ⟨a0, k0, rfl⟩ := hown.val
  have hcur : curV id es = itv tid (.slice a0 txs.length k0) tpay tseq false := by unfold curV; rw [hi]
  have hrow := hown.row rfl
  have hz0 : txs.length = 0 → a0 = none → k0 = 0 := by
    intro e1 e2
    rcases hown with ⟨e3, _⟩ | ⟨b, sp, cap, e3, _⟩
    · simp only [Value.slice.injEq] at e3; exact e3.2.2
    · simp only [Value.slice.injEq] at e3; rw [e2] at e3; cases e3.1
  refine Fn.go (H 24 rfl) ex24 fn24 km24 rfl rfl ?_
  intro e he
  (simp only [envOf_eq, keepFrom_cons, keepFrom_nil, flushE_mk, flL_cons, flL_nil, st_cons, st_nil, Nat.testBit, Nat.reduceShiftRight, Nat.reduceAnd, Nat.reduceBNe, Nat.reduceEqDiff, Nat.reduceAdd, ↓reduceIte, reduceCtorEq, Bool.false_eq_true] at he; subst he)
  (repeat (first | (with_reducible refine Then.go ?_) | (with_reducible refine Wx.seq ?_) | (with_reducible refine Wx.skip ?_) | (with_reducible refine Wx.reg ?_) | (refine Wx.condF rfl (by rfl) ?_) | ((with_reducible refine Wseq.nil ?_); intro e he; (simp only [envOf_eq, keepFrom_cons, keepFrom_nil, flushE_mk, flL_cons, flL_nil, st_cons, st_nil, Nat.testBit, Nat.reduceShiftRight, Nat.reduceAnd, Nat.reduceBNe, Nat.reduceEqDiff, Nat.reduceAdd, ↓reduceIte, reduceCtorEq, Bool.false_eq_true] at he; subst he)) | ((with_reducible apply Wseq.mv); rfl; (intro v hv; (simp only [ev_tmp, ev_const, ev_global, ev_func, look_if, lk_nil, Nat.reduceEqDiff, eq_self, ↓reduceIte, reduceCtorEq, partsOf_arr, List.map_cons, List.map_nil] at hv); subst hv)) | ((with_reducible apply Wseq.as); rfl; (intro v hv; (simp only [ev_tmp, ev_const, ev_global, ev_func, look_if, lk_nil, Nat.reduceEqDiff, eq_self, ↓reduceIte, reduceCtorEq, partsOf_arr, List.map_cons, List.map_nil] at hv); subst hv)) | ((with_reducible apply Wseq.stg (op := Op.fieldAddr _ _ _)); rfl; exact to_fieldAddr (fa_ rfl) rfl) | ((with_reducible apply Wseq.stg (op := Op.load _ _)); rfl; exact to_load (pl_ rfl) rfl (by (repeat (first | (apply Has.cel; assumption) | (apply Cel.other; omega)))) (by omega) (by rfl)) | ((with_reducible apply Wseq.stg (op := Op.nilCheck _)); rfl; exact to_nilCheck rfl) | ((with_reducible apply Wseq.stg (op := Op.alloc _)); rfl; exact to_alloc (ze_ rfl) (by ((exact cellsA_agg _))) (by ((repeat (apply Fresh.put; omega)); ((assumption))))) | ((with_reducible apply Wseq.stg (op := Op.binOp BinOp.eql _ _ _ _)); rfl; exact to_eqP (un_ rfl) rfl rfl)))
  ((with_reducible apply Wseq.stg); (focus rfl); (focus (exact to_lookupOk mi113 ze59 rfl rfl (Has.other (by omega) hm1) (by omega) q.keys hcur (by rw [hi]))))
  (repeat (first | (with_reducible refine Then.go ?_) | (with_reducible refine Wx.seq ?_) | (with_reducible refine Wx.skip ?_) | (with_reducible refine Wx.reg ?_) | (refine Wx.condF rfl (by rfl) ?_) | ((with_reducible refine Wseq.nil ?_); intro e he; (simp only [envOf_eq, keepFrom_cons, keepFrom_nil, flushE_mk, flL_cons, flL_nil, st_cons, st_nil, Nat.testBit, Nat.reduceShiftRight, Nat.reduceAnd, Nat.reduceBNe, Nat.reduceEqDiff, Nat.reduceAdd, ↓reduceIte, reduceCtorEq, Bool.false_eq_true] at he; subst he)) | ((with_reducible apply Wseq.mv); rfl; (intro v hv; (simp only [ev_tmp, ev_const, ev_global, ev_func, look_if, lk_nil, Nat.reduceEqDiff, eq_self, ↓reduceIte, reduceCtorEq, partsOf_arr, List.map_cons, List.map_nil] at hv); subst hv)) | ((with_reducible apply Wseq.as); rfl; (intro v hv; (simp only [ev_tmp, ev_const, ev_global, ev_func, look_if, lk_nil, Nat.reduceEqDiff, eq_self, ↓reduceIte, reduceCtorEq, partsOf_arr, List.map_cons, List.map_nil] at hv); subst hv)) | ((with_reducible apply Wseq.pkF); rfl; rfl; (intro v hv; (simp only [ev_tmp, ev_const, ev_global, ev_func, look_if, lk_nil, Nat.reduceEqDiff, eq_self, ↓reduceIte, reduceCtorEq, partsOf_arr, List.map_cons, List.map_nil] at hv); subst hv)) | ((with_reducible apply Wseq.so); rfl; exact (sz_ rfl); rfl; exact (by (repeat ((exact Has.same)))); omega; (intro v hv; (simp only [ev_tmp, ev_const, ev_global, ev_func, look_if, lk_nil, Nat.reduceEqDiff, eq_self, ↓reduceIte, reduceCtorEq, partsOf_arr, List.map_cons, List.map_nil] at hv); subst hv); refine ⟨_, _, (by ((exact cellsA_agg _))), rfl, rfl, ?_⟩) | ((with_reducible apply Wseq.stg (op := Op.fieldAddr _ _ _)); rfl; exact to_fieldAddr (fa_ rfl) rfl) | ((with_reducible apply Wseq.stg (op := Op.load _ _)); rfl; exact to_load (pl_ rfl) rfl (by (repeat ((exact Has.same.cel)))) (by omega) (by rfl)) | ((with_reducible apply Wseq.stg (op := Op.load _ _)); rfl; exact to_loadS (ag_ rfl) rfl (by (repeat ((exact Has.same.cel)))) (by omega) (by rfl)) | ((with_reducible apply Wseq.stg (op := Op.alloc _)); rfl; exact to_alloc (ze_ rfl) (by ((exact cellsA_agg _))) (by ((repeat (apply Fresh.put; omega)); ((exact Fresh.up (by assumption) (by omega)))))) | ((with_reducible apply Wseq.stg (op := Op.extract _ _)); rfl; exact to_extract rfl rfl) | ((with_reducible apply Wseq.stg (op := Op.unOp UnOp.not _ _)); rfl; exact to_notT rfl)))
  refine Wseq.call rfl rfl (scopied_spec H (by ((repeat (apply Fresh.put; omega)); ((exact Fresh.up (by assumption) (by omega))))) tid tpay tseq false (n := txs.length) (xs := txs) ?_ hn hz0 U ?_) ?_
  · exact ((hrow.new hf).new hf.new).set fun b o sp m cap e _ => by
      have := (hown.blk (b := b) (by rw [e]; rfl)).2.lt hf
      omega
  · rintro b o sp rfl
    exact hsep b rfl
  rintro v' h3 c3 r3 w3 ⟨v2, rfl, hown2, hext⟩
  have q3 := hext.c
  dsimp only at q3
  have hf3 : Fresh h3 c3 := hext.fresh
  obtain ⟨a2, k2, rfl⟩ := hown2.val
  have g1 := hext.hs (b := c) (Has.other (by omega) (Has.other (by omega) Has.same)) (by omega) (fun q => q)
  have kp := Kp.ext (W := fun _ => False) (h := h) (c := c) (by (repeat (first | (exact Kp.refl) | (apply Kp.set; (focus (left; omega)))))) hext (by omega) (fun _ _ q => q)
  have lr := Lg.extR (R := U) (c := c) (by (repeat (first | (exact Lg.nil) | (apply Lg.cons; (focus (first | (left; omega) | (right; (assumption)))))))) hext (fun _ _ q => q)
  have lw := Lg.extW (W := fun _ => False) (c := c) (by (repeat (first | (exact Lg.nil) | (apply Lg.cons; (focus (left; omega)))))) hext (fun _ _ q => q)
  (repeat (first | (with_reducible refine Then.go ?_) | (with_reducible refine Wx.ret ?_) | ((with_reducible refine Wseq.nil ?_); intro e he; (simp only [envOf_eq, keepFrom_cons, keepFrom_nil, flushE_mk, flL_cons, flL_nil, st_cons, st_nil, Nat.testBit, Nat.reduceShiftRight, Nat.reduceAnd, Nat.reduceBNe, Nat.reduceEqDiff, Nat.reduceAdd, ↓reduceIte, reduceCtorEq, Bool.false_eq_true] at he; subst he)) | ((with_reducible apply Wseq.as); rfl; (intro v hv; (simp only [ev_tmp, ev_const, ev_global, ev_func, look_if, lk_nil, Nat.reduceEqDiff, eq_self, ↓reduceIte, reduceCtorEq, partsOf_arr, List.map_cons, List.map_nil] at hv); subst hv)) | ((with_reducible apply Wseq.so); rfl; exact (sz_ rfl); rfl; exact (by (repeat ((assumption)))); omega; (intro v hv; (simp only [ev_tmp, ev_const, ev_global, ev_func, look_if, lk_nil, Nat.reduceEqDiff, eq_self, ↓reduceIte, reduceCtorEq, partsOf_arr, List.map_cons, List.map_nil] at hv); subst hv); refine ⟨_, _, (by ((exact cellsA_agg _))), rfl, rfl, ?_⟩)))
  refine ⟨.inr rfl, Wres.cellTmp rfl ag59 (by (repeat ((exact Has.same.cel)))) (by omega) (by rfl) rfl ⟨⟨_, rfl, ?_⟩, ?_⟩⟩
  · exact (hown2.set (by omega)).low (by omega)
  · (dsimp only; exact Ext.of (by omega) (by ((repeat (apply Fresh.put; omega)); ((assumption)))) (by (repeat (first | (assumption) | (apply Kp.set; (focus (left; omega)))))) (by (repeat (first | (assumption) | (apply Lg.cons; (focus (left; omega)))))) (by (repeat (first | (assumption) | (apply Lg.cons; (focus (left; omega)))))))
end Go.Ab.Seat
