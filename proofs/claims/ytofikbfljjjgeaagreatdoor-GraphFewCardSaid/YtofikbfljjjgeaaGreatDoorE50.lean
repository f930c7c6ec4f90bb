import Derived.Test.YtofikbfljjjgeaaGreatDoorDH0
import Derived.Test.YtofikbfljjjgeaaGreatDoorE48
import Derived.Test.YtofikbfljjjgeaaGreatDoorE43
set_option linter.unusedVariables false
set_option linter.unusedSimpArgs false
section
/- The words of a walk over the abstract machine, as theorems whose last hypothesis is found by steps. -/
namespace Go.Ab.Seat
open Go.Extern Go.Proofs
structure Kk (Q : Prop) : Prop where
 out : Q
section
variable {C : Ctx} {eg : TypeId → Bool} {all os : List Oper} {e : Env} {s : St} {Q : Env → St → Prop} {km : Nat} {c b : Code} {K : Ex → Env → St → Prop} {x : Ex} {bef : List Nat} {done : List (Nat × Fp)} {j : Nat}
theorem hdS (h : Wseq C eg all os e s Q) : Wseq C eg all os e s Q := h
theorem hdT (h : Wtr C eg all bef done j os e s Q) : Wtr C eg all bef done j os e s Q := h
theorem hdX (h : Wx C eg km c e s K) : Wx C eg km c e s K := h
theorem hdH (h : Then C eg km b K x e s) : Then C eg km b K x e s := h
theorem hdO {i : Nat} (h : Out i K x e s) : Out i K x e s := h
theorem hdR {J : Nat → L → St → Prop} {m : Nat} (h : RoundE J m K x e s) : RoundE J m K x e s := h
theorem hdC {J : L → St → Prop} (h : CutQ J K x e s) : CutQ J K x e s := h
variable {d : Nat} {t : TypeId} {y z : Operand} {o : BinOp} {u : TypeId} {ty : TypeId} {ps : String} {af : Array Edge} {g : Option (Nat × Bool)} {E : Env}
theorem hdSB (h : Wseq C eg all (⟨some d, .binOp o t y z u, ty, ps, af, g⟩ :: os) E s Q) : Wseq C eg all (⟨some d, .binOp o t y z u, ty, ps, af, g⟩ :: os) E s Q := h
theorem hdTB (h : Wtr C eg all bef done j (⟨some d, .binOp o t y z u, ty, ps, af, g⟩ :: os) E s Q) : Wtr C eg all bef done j (⟨some d, .binOp o t y z u, ty, ps, af, g⟩ :: os) E s Q := h
end
theorem Zfr {P : Prop} (h : P := by ((repeat ((with_reducible apply Fresh.put); (focus omega))); (first | (with_reducible assumption) | (exact Fresh.up (by with_reducible assumption) (by omega))))) : P := h
theorem Zhs {P : Prop} (h : P := by (repeat (first | (with_reducible exact Has.same) | (with_reducible assumption) | ((with_reducible apply Has.other); (focus omega))))) : P := h
theorem Zce {P : Prop} (h : P := by (repeat (first | (with_reducible exact Has.same.cel) | (with_reducible assumption) | ((with_reducible apply Has.cel); (focus (with_reducible assumption))) | ((with_reducible apply Cel.other); (focus omega))))) : P := h
theorem Zap {P : Prop} (h : P := by (repeat (first | (with_reducible exact all_nil) | ((with_reducible apply all_cons); (focus (first | (right; with_reducible exact ApartP.rr) | (right; with_reducible exact ApartP.rn) | (left; dsimp only; decide +kernel) | (right; with_reducible exact ApartP.rc (by assumption)) | (right; refine ApartP.ow (by assumption) ?_ ?_ <;> omega) | (right; refine ApartP.rw' (by assumption) ?_; omega) | (right; assumption) | (right; refine ⟨?_, ?_, ?_, ?_, ?_⟩ <;> (first | (with_reducible exact all_nil) | (intro b hb; exact List.not_mem_nil) | (intro b hb; (try simp only [List.mem_cons, List.not_mem_nil, or_false] at hb ⊢); omega))))))))) : P := h
theorem Zkp {P : Prop} (h : P := by (repeat (first | (with_reducible exact Kp.refl) | (with_reducible assumption) | ((with_reducible apply Kp.set); (focus (first | (with_reducible assumption) | (left; omega) | (right; first | exact rfl | assumption | (exact Or.inl (by assumption)) | (exact Or.inr (by assumption)) | (simp; done) | omega))))))) : P := h
theorem Zlg {P : Prop} (h : P := by (repeat (first | (with_reducible exact Lg.nil) | (with_reducible assumption) | ((with_reducible apply Lg.cons); (focus (first | (with_reducible assumption) | (left; omega) | (right; first | exact rfl | assumption | (exact Or.inl (by assumption)) | (exact Or.inr (by assumption)) | (simp; done) | omega)))) | (with_reducible apply Lg.app)))) : P := h
theorem Zrs {P : Prop} (h : P := by (repeat (first | (with_reducible exact Resp.fn) | (with_reducible apply Resp.then) | (with_reducible apply Resp.out) | (with_reducible apply Resp.round) | (with_reducible apply Resp.cut)))) : P := h
theorem Zek {P : Prop} (h : P := by (refine EqK.of ?_ ?_ <;> (repeat (first | (exact all_nil) | ((apply all_cons); (focus rfl)))))) : P := h
theorem Zex {s s' : St} {R W : Nat → Prop} (h : Ext s s' R W := by (dsimp only; exact Ext.of (by omega) Zfr Zkp Zlg Zlg)) : Ext s s' R W := h
set_option maxRecDepth 100000 in
theorem Zss {P Q : Prop} (k : Q) (h : Kk Q → P := by (intro k; ((with_reducible refine hdS ?_); (first | ((with_reducible apply Wseq.mv); (focus rfl); (intro v hv; (simp only [ev_tmp, ev_const, ev_global, ev_func, look_if, lk_nil, Nat.reduceEqDiff, eq_self, ↓reduceIte, reduceCtorEq, partsOf_arr, List.map_cons, List.map_nil] at hv); subst hv)) | ((with_reducible apply Wseq.as); (focus rfl); (intro v hv; (simp only [ev_tmp, ev_const, ev_global, ev_func, look_if, lk_nil, Nat.reduceEqDiff, eq_self, ↓reduceIte, reduceCtorEq, partsOf_arr, List.map_cons, List.map_nil] at hv); subst hv)) | ((with_reducible apply Wseq.stg (op := Op.fieldAddr _ _ _)); (focus rfl); (focus (exact to_fieldAddr (fa_ rfl) rfl))) | ((with_reducible apply Wseq.stg (op := Op.load _ _)); (focus rfl); (focus (first | exact to_load (pl_ rfl) rfl Zce (by omega) (by rfl) | exact to_loadS (ag_ rfl) rfl Zce (by omega) (by rfl)))) | ((with_reducible apply Wseq.stg (op := Op.nilCheck _)); (focus rfl); (focus (exact to_nilCheck rfl))) | ((with_reducible apply Wseq.stg (op := Op.field _ _ _)); (focus rfl); (focus (exact to_field (fa_ rfl) (pl_ rfl) rfl rfl))) | ((with_reducible apply Wseq.stg (op := Op.alloc _)); (focus rfl); (focus (exact to_alloc (ze_ rfl) (by (first | exact cellsA_agg _ | rfl)) Zfr))) | ((with_reducible apply Wseq.stg (op := Op.call ⟨Callee.builtin Builtin.len, _, _⟩)); (focus rfl); (focus (first | exact to_lenS (sl_ rfl) rfl | exact to_lenStr (sr_ rfl) rfl | exact to_lenM (mt_ rfl) rfl Zhs (by omega)))) | ((with_reducible refine hdSB ?_); (first | ((with_reducible apply Wseq.stg (op := Op.binOp BinOp.lss _ _ _ _)); (focus rfl); (focus (first | exact to_lssT rfl rfl (by omega) | exact to_lssF rfl rfl (by omega) | exact to_lss rfl rfl))) | ((with_reducible apply Wseq.stg (op := Op.binOp BinOp.leq _ _ _ _)); (focus rfl); (focus (first | exact to_leqT rfl rfl (by omega) | exact to_leqF rfl rfl (by omega) | exact to_leq rfl rfl))) | ((with_reducible apply Wseq.stg (op := Op.binOp BinOp.gtr _ _ _ _)); (focus rfl); (focus (first | exact to_gtrT rfl rfl (by omega) | exact to_gtrF rfl rfl (by omega) | exact to_gtr rfl rfl))) | ((with_reducible apply Wseq.stg (op := Op.binOp BinOp.geq _ _ _ _)); (focus rfl); (focus (first | exact to_geqT rfl rfl (by omega) | exact to_geqF rfl rfl (by omega) | exact to_geq rfl rfl))) | ((with_reducible apply Wseq.stg (op := Op.binOp BinOp.add _ _ _ _)); (focus rfl); (focus (exact to_add rfl rfl (by omega) (by omega)))) | ((with_reducible apply Wseq.stg (op := Op.binOp BinOp.sub _ _ _ _)); (focus rfl); (focus (exact to_sub rfl rfl (by omega) (by omega)))) | ((with_reducible apply Wseq.stg (op := Op.binOp BinOp.mul _ _ _ _)); (focus rfl); (focus (exact to_mul rfl rfl (by omega) (by omega)))) | ((with_reducible apply Wseq.stg (op := Op.binOp BinOp.rem _ _ _ _)); (focus rfl); (focus (exact to_rem rfl rfl (by decide)))) | ((with_reducible apply Wseq.stg (op := Op.binOp BinOp.eql _ _ _ _)); (focus rfl); (focus (first | exact to_eqIT rfl rfl (by omega) | exact to_eqIF rfl rfl (by omega) | exact to_eqI rfl rfl | exact to_eqP (un_ rfl) rfl rfl | exact to_eqS (un_ rfl) rfl rfl | exact to_eqII (un_ rfl) (ci_ rfl) rfl rfl | exact to_eqN (un_ rfl) rfl rfl | exact to_eqF (un_ rfl) rfl rfl | exact to_eqBT (un_ rfl) rfl rfl rfl | exact to_eqB (un_ rfl) rfl rfl | exact to_eqStrT rfl rfl rfl | exact to_eqStrF rfl rfl (by assumption)))) | ((with_reducible apply Wseq.stg (op := Op.binOp BinOp.neq _ _ _ _)); (focus rfl); (focus (first | exact to_neIT rfl rfl (by omega) | exact to_neIF rfl rfl (by omega) | exact to_neI rfl rfl | exact to_neP (un_ rfl) rfl rfl | exact to_neN (un_ rfl) rfl rfl | exact to_neF (un_ rfl) rfl rfl | exact to_neBF (un_ rfl) rfl rfl rfl | exact to_neB (un_ rfl) rfl rfl | exact to_neStrF rfl rfl rfl | exact to_neStrT rfl rfl (by assumption)))))) | ((with_reducible refine Wseq.nil ?_); intro e he; (simp only [envOf_eq, keepFrom_cons, keepFrom_nil, flushE_mk, flL_cons, flL_nil, st_cons, st_nil, Nat.testBit, Nat.reduceShiftRight, Nat.reduceAnd, Nat.reduceBNe, Nat.reduceEqDiff, Nat.reduceAdd, ↓reduceIte, reduceCtorEq, Bool.false_eq_true] at he; subst he)) | ((with_reducible apply Wseq.bx); (focus rfl); (focus (exact Zfr)); (intro v hv; (simp only [ev_tmp, ev_const, ev_global, ev_func, look_if, lk_nil, Nat.reduceEqDiff, eq_self, ↓reduceIte, reduceCtorEq, partsOf_arr, List.map_cons, List.map_nil] at hv); subst hv); refine ⟨_, (by (first | exact cellsA_agg _ | rfl)), ?_⟩) | ((with_reducible apply Wseq.so); (focus rfl); (focus (exact (sz_ rfl))); (focus rfl); (focus (exact Zhs)); (focus omega); (intro v hv; (simp only [ev_tmp, ev_const, ev_global, ev_func, look_if, lk_nil, Nat.reduceEqDiff, eq_self, ↓reduceIte, reduceCtorEq, partsOf_arr, List.map_cons, List.map_nil] at hv); subst hv); refine ⟨_, _, (by (first | exact cellsA_agg _ | rfl)), rfl, rfl, ?_⟩) | ((with_reducible apply Wseq.bd); (focus rfl); (focus (exact (bt_ rfl))); (intro v hv; (simp only [ev_tmp, ev_const, ev_global, ev_func, look_if, lk_nil, Nat.reduceEqDiff, eq_self, ↓reduceIte, reduceCtorEq, partsOf_arr, List.map_cons, List.map_nil] at hv); subst hv); refine ⟨_, rfl, ?_⟩) | ((with_reducible apply Wseq.bs); (focus rfl); (focus (exact (ro_ rfl))); (focus rfl); (focus (exact Zfr)); (intro v hv; (simp only [ev_tmp, ev_const, ev_global, ev_func, look_if, lk_nil, Nat.reduceEqDiff, eq_self, ↓reduceIte, reduceCtorEq, partsOf_arr, List.map_cons, List.map_nil] at hv); subst hv); refine ⟨_, rfl, ?_⟩) | ((with_reducible apply Wseq.mi); (focus rfl); (focus (exact (if_ rfl))); (intro v hv; (simp only [ev_tmp, ev_const, ev_global, ev_func, look_if, lk_nil, Nat.reduceEqDiff, eq_self, ↓reduceIte, reduceCtorEq, partsOf_arr, List.map_cons, List.map_nil] at hv); subst hv)) | ((with_reducible apply Wseq.pkT); (focus rfl); (focus rfl); (intro v hv; (simp only [ev_tmp, ev_const, ev_global, ev_func, look_if, lk_nil, Nat.reduceEqDiff, eq_self, ↓reduceIte, reduceCtorEq, partsOf_arr, List.map_cons, List.map_nil] at hv); subst hv)) | ((with_reducible apply Wseq.pkF); (focus rfl); (focus rfl); (intro v hv; (simp only [ev_tmp, ev_const, ev_global, ev_func, look_if, lk_nil, Nat.reduceEqDiff, eq_self, ↓reduceIte, reduceCtorEq, partsOf_arr, List.map_cons, List.map_nil] at hv); subst hv)) | ((with_reducible apply Wseq.stg (op := Op.call ⟨Callee.builtin Builtin.min, _, _⟩)); (focus rfl); (focus (exact to_min rfl rfl))) | ((with_reducible apply Wseq.stg (op := Op.call ⟨Callee.builtin Builtin.max, _, _⟩)); (focus rfl); (focus (exact to_max rfl rfl))) | ((with_reducible apply Wseq.stg (op := Op.extract _ _)); (focus rfl); (focus (exact to_extract rfl rfl))) | ((with_reducible apply Wseq.stg (op := Op.unOp UnOp.not _ _)); (focus rfl); (focus (first | exact to_notT rfl | exact to_notF rfl | exact to_not rfl))) | ((with_reducible apply Wseq.stg (op := Op.makeMap _ _)); (focus rfl); (focus (exact to_makeMap Zfr))) | ((with_reducible apply Wseq.stg (op := Op.convert _ _ _)); (focus rfl); (focus (exact to_convert (cv_ rfl) rfl))) | ((with_reducible apply Wseq.stg (op := Op.makeFunc _ _ _)); (focus rfl); (focus (exact to_makeFunc rfl rfl))) | (refine Wseq.no rfl ?_))); exact k.out)) : P := h ⟨k⟩
set_option maxRecDepth 100000 in
theorem Zsd {P Q : Prop} (k : Q) (h : Kk Q → P := by (intro k; ((with_reducible refine hdT ?_); (first | ((with_reducible apply Wtr.mv); (focus rfl); (intro v hv; (simp only [ev_tmp, ev_const, ev_global, ev_func, look_if, lk_nil, Nat.reduceEqDiff, eq_self, ↓reduceIte, reduceCtorEq, partsOf_arr, List.map_cons, List.map_nil] at hv); subst hv)) | ((with_reducible apply Wtr.as); (focus rfl); (intro v hv; (simp only [ev_tmp, ev_const, ev_global, ev_func, look_if, lk_nil, Nat.reduceEqDiff, eq_self, ↓reduceIte, reduceCtorEq, partsOf_arr, List.map_cons, List.map_nil] at hv); subst hv)) | ((with_reducible apply Wtr.stq (op := Op.fieldAddr _ _ _)); (focus rfl); (focus (exact to_fieldAddr (fa_ rfl) rfl))) | ((with_reducible apply Wtr.stx (op := Op.load _ _)); (focus rfl); (focus (first | exact to_load (pl_ rfl) rfl Zce (by omega) (by rfl) | exact to_loadS (ag_ rfl) rfl Zce (by omega) (by rfl))); (focus (exact Zap))) | ((with_reducible apply Wtr.stq (op := Op.nilCheck _)); (focus rfl); (focus (exact to_nilCheck rfl))) | ((with_reducible apply Wtr.stq (op := Op.field _ _ _)); (focus rfl); (focus (exact to_field (fa_ rfl) (pl_ rfl) rfl rfl))) | ((with_reducible apply Wtr.stx (op := Op.alloc _)); (focus rfl); (focus (exact to_alloc (ze_ rfl) (by (first | exact cellsA_agg _ | rfl)) Zfr)); (focus (exact Zap))) | ((with_reducible apply Wtr.stq (op := Op.call ⟨Callee.builtin Builtin.len, _, _⟩)); (focus rfl); (focus (first | exact to_lenS (sl_ rfl) rfl | exact to_lenStr (sr_ rfl) rfl))) | ((with_reducible apply Wtr.stx (op := Op.call ⟨Callee.builtin Builtin.len, _, _⟩)); (focus rfl); (focus (exact to_lenM (mt_ rfl) rfl Zhs (by omega))); (focus (exact Zap))) | ((with_reducible refine hdTB ?_); (first | ((with_reducible apply Wtr.stq (op := Op.binOp BinOp.lss _ _ _ _)); (focus rfl); (focus (first | exact to_lssT rfl rfl (by omega) | exact to_lssF rfl rfl (by omega) | exact to_lss rfl rfl))) | ((with_reducible apply Wtr.stq (op := Op.binOp BinOp.leq _ _ _ _)); (focus rfl); (focus (first | exact to_leqT rfl rfl (by omega) | exact to_leqF rfl rfl (by omega) | exact to_leq rfl rfl))) | ((with_reducible apply Wtr.stq (op := Op.binOp BinOp.gtr _ _ _ _)); (focus rfl); (focus (first | exact to_gtrT rfl rfl (by omega) | exact to_gtrF rfl rfl (by omega) | exact to_gtr rfl rfl))) | ((with_reducible apply Wtr.stq (op := Op.binOp BinOp.geq _ _ _ _)); (focus rfl); (focus (first | exact to_geqT rfl rfl (by omega) | exact to_geqF rfl rfl (by omega) | exact to_geq rfl rfl))) | ((with_reducible apply Wtr.stq (op := Op.binOp BinOp.add _ _ _ _)); (focus rfl); (focus (exact to_add rfl rfl (by omega) (by omega)))) | ((with_reducible apply Wtr.stq (op := Op.binOp BinOp.sub _ _ _ _)); (focus rfl); (focus (exact to_sub rfl rfl (by omega) (by omega)))) | ((with_reducible apply Wtr.stq (op := Op.binOp BinOp.mul _ _ _ _)); (focus rfl); (focus (exact to_mul rfl rfl (by omega) (by omega)))) | ((with_reducible apply Wtr.stq (op := Op.binOp BinOp.rem _ _ _ _)); (focus rfl); (focus (exact to_rem rfl rfl (by decide)))) | ((with_reducible apply Wtr.stq (op := Op.binOp BinOp.eql _ _ _ _)); (focus rfl); (focus (first | exact to_eqIT rfl rfl (by omega) | exact to_eqIF rfl rfl (by omega) | exact to_eqI rfl rfl | exact to_eqP (un_ rfl) rfl rfl | exact to_eqS (un_ rfl) rfl rfl | exact to_eqII (un_ rfl) (ci_ rfl) rfl rfl | exact to_eqN (un_ rfl) rfl rfl | exact to_eqF (un_ rfl) rfl rfl | exact to_eqBT (un_ rfl) rfl rfl rfl | exact to_eqB (un_ rfl) rfl rfl | exact to_eqStrT rfl rfl rfl | exact to_eqStrF rfl rfl (by assumption)))) | ((with_reducible apply Wtr.stq (op := Op.binOp BinOp.neq _ _ _ _)); (focus rfl); (focus (first | exact to_neIT rfl rfl (by omega) | exact to_neIF rfl rfl (by omega) | exact to_neI rfl rfl | exact to_neP (un_ rfl) rfl rfl | exact to_neN (un_ rfl) rfl rfl | exact to_neF (un_ rfl) rfl rfl | exact to_neBF (un_ rfl) rfl rfl rfl | exact to_neB (un_ rfl) rfl rfl | exact to_neStrF rfl rfl rfl | exact to_neStrT rfl rfl (by assumption)))))) | ((with_reducible refine Wtr.nil ?_); intro e he; (simp only [envOf_eq, keepFrom_cons, keepFrom_nil, flushE_mk, flL_cons, flL_nil, st_cons, st_nil, Nat.testBit, Nat.reduceShiftRight, Nat.reduceAnd, Nat.reduceBNe, Nat.reduceEqDiff, Nat.reduceAdd, ↓reduceIte, reduceCtorEq, Bool.false_eq_true] at he; subst he)) | ((with_reducible apply Wtr.so); (focus rfl); (focus (exact (sz_ rfl))); (focus rfl); (focus (exact Zhs)); (focus omega); (focus (exact Zap)); (intro v hv; (simp only [ev_tmp, ev_const, ev_global, ev_func, look_if, lk_nil, Nat.reduceEqDiff, eq_self, ↓reduceIte, reduceCtorEq, partsOf_arr, List.map_cons, List.map_nil] at hv); subst hv); refine ⟨_, _, (by (first | exact cellsA_agg _ | rfl)), rfl, rfl, ?_⟩) | ((with_reducible apply Wtr.bd); (focus rfl); (focus (exact (bt_ rfl))); (intro v hv; (simp only [ev_tmp, ev_const, ev_global, ev_func, look_if, lk_nil, Nat.reduceEqDiff, eq_self, ↓reduceIte, reduceCtorEq, partsOf_arr, List.map_cons, List.map_nil] at hv); subst hv); refine ⟨_, rfl, ?_⟩) | ((with_reducible apply Wtr.bs); (focus rfl); (focus (exact (ro_ rfl))); (focus rfl); (focus (exact Zfr)); (focus (exact Zap)); (intro v hv; (simp only [ev_tmp, ev_const, ev_global, ev_func, look_if, lk_nil, Nat.reduceEqDiff, eq_self, ↓reduceIte, reduceCtorEq, partsOf_arr, List.map_cons, List.map_nil] at hv); subst hv); refine ⟨_, rfl, ?_⟩) | ((with_reducible apply Wtr.mi); (focus rfl); (focus (exact (if_ rfl))); (intro v hv; (simp only [ev_tmp, ev_const, ev_global, ev_func, look_if, lk_nil, Nat.reduceEqDiff, eq_self, ↓reduceIte, reduceCtorEq, partsOf_arr, List.map_cons, List.map_nil] at hv); subst hv)) | ((with_reducible apply Wtr.pkT); (focus rfl); (focus rfl); (intro v hv; (simp only [ev_tmp, ev_const, ev_global, ev_func, look_if, lk_nil, Nat.reduceEqDiff, eq_self, ↓reduceIte, reduceCtorEq, partsOf_arr, List.map_cons, List.map_nil] at hv); subst hv)) | ((with_reducible apply Wtr.pkF); (focus rfl); (focus rfl); (intro v hv; (simp only [ev_tmp, ev_const, ev_global, ev_func, look_if, lk_nil, Nat.reduceEqDiff, eq_self, ↓reduceIte, reduceCtorEq, partsOf_arr, List.map_cons, List.map_nil] at hv); subst hv)) | ((with_reducible apply Wtr.stq (op := Op.call ⟨Callee.builtin Builtin.min, _, _⟩)); (focus rfl); (focus (exact to_min rfl rfl))) | ((with_reducible apply Wtr.stq (op := Op.call ⟨Callee.builtin Builtin.max, _, _⟩)); (focus rfl); (focus (exact to_max rfl rfl))) | ((with_reducible apply Wtr.stq (op := Op.extract _ _)); (focus rfl); (focus (exact to_extract rfl rfl))) | ((with_reducible apply Wtr.stq (op := Op.unOp UnOp.not _ _)); (focus rfl); (focus (first | exact to_notT rfl | exact to_notF rfl | exact to_not rfl))) | ((with_reducible apply Wtr.stx (op := Op.makeMap _ _)); (focus rfl); (focus (exact to_makeMap Zfr)); (focus (exact Zap))) | ((with_reducible apply Wtr.stq (op := Op.convert _ _ _)); (focus rfl); (focus (exact to_convert (cv_ rfl) rfl))) | ((with_reducible apply Wtr.stq (op := Op.makeFunc _ _ _)); (focus rfl); (focus (exact to_makeFunc rfl rfl))) | (refine Wtr.no rfl ?_))); exact k.out)) : P := h ⟨k⟩
theorem Zgo {P Q : Prop} (k : Q) (h : Kk Q → P := by (intro k; (repeat (first | ((with_reducible refine hdS ?_); refine Zss ?_) | ((with_reducible refine hdT ?_); refine Zsd ?_) | ((with_reducible refine hdX ?_); (first | (with_reducible refine Wx.seq ?_) | (with_reducible refine Wx.reg ?_) | (with_reducible refine Wx.block ?_) | (with_reducible refine Wx.skip ?_) | (with_reducible refine Wx.exit ?_) | (with_reducible refine Wx.ret ?_) | (refine Wx.dreg rfl ?_) | (refine Wx.condT rfl (by (first | rfl | (simp only [decide_eq_true_eq, Bool.not_eq_true', decide_eq_false_iff_not, Option.isNone_none, Option.isNone_some, Option.isSome_none, Option.isSome_some, beq_self_eq_true, Bool.not_true, Bool.not_false]; first | done | omega) | (simp; omega) | (solve | simp [*]) | fail)) ?_) | (refine Wx.condF rfl (by (first | rfl | (simp only [decide_eq_false_iff_not, Bool.not_eq_false', decide_eq_true_eq, Option.isNone_none, Option.isNone_some, Option.isSome_none, Option.isSome_some, beq_self_eq_true, Bool.not_true, Bool.not_false]; first | done | omega))) ?_))) | ((with_reducible refine hdH ?_); (first | (with_reducible refine Then.go ?_) | (with_reducible refine Then.ex ?_) | (with_reducible refine Then.rt ?_))) | ((with_reducible refine hdO ?_); (first | (with_reducible refine Out.go ?_) | (with_reducible refine Out.rt ?_) | (with_reducible refine Out.hit ?_) | (with_reducible refine Out.miss (by decide) ?_))) | ((with_reducible refine hdR ?_); (first | (with_reducible refine RoundE.ex ?_) | (with_reducible refine RoundE.rt ?_))) | ((with_reducible refine hdC ?_); (first | (with_reducible refine CutQ.ex ?_) | (with_reducible refine CutQ.rt ?_))))); exact k.out)) : P := h ⟨k⟩
theorem Znv {P Q : Prop} (k : Q) (h : Kk Q → P := by (intro k; (intro v hv; (simp only [ev_tmp, ev_const, ev_global, ev_func, look_if, lk_nil, Nat.reduceEqDiff, eq_self, ↓reduceIte, reduceCtorEq, partsOf_arr, List.map_cons, List.map_nil] at hv); subst hv); exact k.out)) : P := h ⟨k⟩
theorem Zev {P Q : Prop} (k : Q) (h : Kk Q → P := by (intro k; intro e he; (simp only [envOf_eq, keepFrom_cons, keepFrom_nil, flushE_mk, flL_cons, flL_nil, st_cons, st_nil, Nat.testBit, Nat.reduceShiftRight, Nat.reduceAnd, Nat.reduceBNe, Nat.reduceEqDiff, Nat.reduceAdd, ↓reduceIte, reduceCtorEq, Bool.false_eq_true] at he; subst he); exact k.out)) : P := h ⟨k⟩
section
variable {C : Ctx} {eg : TypeId → Bool} {all os : List Oper} {loc kept : L} {s s1 : St} {Q : Env → St → Prop} {d : Nat} {op : Op} {ty : TypeId} {ps : String} {af : Array Edge} {g : Option (Nat × Bool)} {h h1 : T AObj} {c c1 : Nat} {rl wl r1 w1 bef : List Nat} {done : List (Nat × Fp)} {j : Nat} {v : Value}
theorem Zu (ho : OpTo C eg (.mk loc kept) ⟨some d, op, ty, ps, af, g⟩ s v s1) (k : Wseq C eg all os (.mk (.cons d v loc) kept) s1 Q) (hw : wantedA all (.mk loc kept) ⟨some d, op, ty, ps, af, g⟩ = some true := by rfl) : Wseq C eg all (⟨some d, op, ty, ps, af, g⟩ :: os) (.mk loc kept) s Q := Wseq.stg hw ho k
theorem Zq (ho : OpTo C eg (.mk loc kept) ⟨some d, op, ty, ps, af, g⟩ ⟨h, c, [], []⟩ v ⟨h, c, [], []⟩) (k : Wtr C eg all bef done (j + 1) os (.mk (.cons d v loc) kept) ⟨h, c, rl, wl⟩ Q) (hw : wantedA all (.mk loc kept) ⟨some d, op, ty, ps, af, g⟩ = some true := by rfl) : Wtr C eg all bef done j (⟨some d, op, ty, ps, af, g⟩ :: os) (.mk loc kept) ⟨h, c, rl, wl⟩ Q := Wtr.stq hw ho k
theorem Zd (ho : OpTo C eg (.mk loc kept) ⟨some d, op, ty, ps, af, g⟩ ⟨h, c, [], []⟩ v ⟨h1, c1, r1, w1⟩) (k : Wtr C eg all bef ((j, ⟨r1, w1, c, c1⟩) :: done) (j + 1) os (.mk (.cons d v loc) kept) ⟨h1, c1, r1 ++ rl, w1 ++ wl⟩ Q) (hw : wantedA all (.mk loc kept) ⟨some d, op, ty, ps, af, g⟩ = some true := by rfl) (ha : ∀ p ∈ done, ordB bef j p.1 = true ∨ ApartP p.2 ⟨r1, w1, c, c1⟩ := by exact Zap) : Wtr C eg all bef done j (⟨some d, op, ty, ps, af, g⟩ :: os) (.mk loc kept) ⟨h, c, rl, wl⟩ Q := Wtr.stx hw ho ha k
end
end Go.Ab.Seat
end
section
/- Copies of vectors; errors. -/
namespace Go.Ab.Seat
open Go.Extern Go.Proofs
def special (f : Nat) : Bool := [15, 71, 195, 262, 84, 144, 200].contains f
def Std (sm : Nat → Option (List Value → M Value)) : Prop := ∀ f, special f = false → sm f = none
set_option maxRecDepth 4000
variable {sm : Nat → Option (List Value → M Value)}
theorem clone_nil (H : Std sm) {h : T AObj} {c : Nat} {rl wl : List Nat} : ∃ v s', FnTo (Cs sm) eg 136 [.slice none 0 0] ⟨h, c, rl, wl⟩ v s' ∧ (v = .slice none 0 0 ∧ s' = ⟨h, c, rl, wl⟩) := by
 refine Fn.go (H 136 rfl) ex136 fn136 km136 rfl rfl ?_
 refine Zev ?_
 refine Zgo ?_
 refine ⟨.inr rfl, Wres.one rfl ⟨rfl, rfl⟩⟩
theorem clone_zero (H : Std sm) {h : T AObj} {c : Nat} {rl wl : List Nat} (hf : Fresh h c) (ad : Addr) (cap : Nat) : ∃ v s', FnTo (Cs sm) eg 136 [.slice (some ad) 0 cap] ⟨h, c, rl, wl⟩ v s' ∧ (v = .slice (some ⟨c, 0, none⟩) 0 0 ∧ s' = ⟨h.set c (some (.cells [])), c + 1, rl, wl⟩) := by
 refine Fn.go (H 136 rfl) ex136 fn136 km136 rfl rfl ?_
 refine Zev ?_
 refine Zgo ?_
 refine Wseq.st (to_appZero ro25 sl25 rfl rfl (by omega)) ?_
 refine Zgo ?_
 refine ⟨.inr rfl, Wres.one rfl ⟨rfl, rfl⟩⟩
theorem clone_some (H : Std sm) {h : T AObj} {c : Nat} {rl wl : List Nat} (hf : Fresh h c) {b o n cap : Nat} {sp : Option Nat} {cs xs : List Value} (hb : Cel h b cs) (hs : subN o ((n + 1) * 1) cs = some xs) (hn : n + 1 ≤ bigV) :
  ∃ v s', FnTo (Cs sm) eg 136 [.slice (some ⟨b, o, sp⟩) (n + 1) cap] ⟨h, c, rl, wl⟩ v s' ∧ (v = .slice (some ⟨c + 1, 0, some 1⟩) (n + 1) (n + 1) ∧ Has s'.h (c + 1) (.cells xs) ∧ Ext ⟨h, c, rl, wl⟩ s' (· = b) (fun _ => False)) := by
 have hbc := hb.lt hf
 refine Fn.go (H 136 rfl) ex136 fn136 km136 rfl rfl ?_
 refine Zev ?_
 refine Zgo ?_
 refine Wseq.st (to_appExB ro25 sl25 rfl rfl Zce (by omega) hs (by decide) (by unfold bigV at hn; omega) Zfr) ?_
 refine Zgo ?_
 refine ⟨.inr rfl, Wres.one rfl ⟨rfl, Zhs, ?_⟩⟩
 exact Zex
theorem clone_spec (H : Std sm) {h : T AObj} {c : Nat} {rl wl : List Nat} (hf : Fresh h c) {v : Value} {n : Nat} {xs : List Value} (hv : Row h v n 1 xs) (hn : n ≤ bigV) (hz : n = 0 → ∃ a cap, v = .slice a 0 cap ∧ (a = none → cap = 0)) (bs : Nat → Prop) (hbs : ∀ b o sp n' cap, v = .slice (some ⟨b, o, sp⟩) n' cap → bs b) :
  ∃ v' s', FnTo (Cs sm) eg 136 [v] ⟨h, c, rl, wl⟩ v' s' ∧ Own s'.h c v' n xs ∧ Ext ⟨h, c, rl, wl⟩ s' bs (fun _ => False) := by
 cases n with
 | zero =>
  obtain ⟨a, cap, rfl, ha⟩ := hz rfl
  have hx : xs = [] := by
   rcases hv with ⟨_, h2, _⟩ | ⟨b, o, sp, cap', cs, _, _, h4⟩
   ·exact h2
   ·have := (subN_some _ _ _ _ h4).1
    simpa using this
  subst hx
  cases a with
  | none =>
   obtain rfl := ha rfl
   obtain ⟨v', s', h1, rfl, rfl⟩ := clone_nil H (h := h) (c := c) (rl := rl) (wl := wl)
   exact ⟨_, _, h1, .inl ⟨rfl, rfl, rfl⟩, Ext.refl hf⟩
  | some ad =>
   obtain ⟨v', s', h1, rfl, rfl⟩ := clone_zero H (rl := rl) (wl := wl) hf ad cap
   refine ⟨_, _, h1, .inr ⟨c, none, 0, rfl, Nat.le_refl _, Nat.le_refl _, Has.same⟩, ⟨by simp, hf.new, fun b hb _ => get_other (by simp at hb; omega), fun _ q => .inl q, fun _ q => .inl q⟩⟩
 | succ n =>
  rcases hv with ⟨h1, _⟩ | ⟨b, o, sp, cap', cs, rfl, h3, h4⟩
  ·cases h1
  ·obtain ⟨v', s', h1, rfl, h5, h6⟩ := clone_some H (rl := rl) (wl := wl) (cap := cap') (sp := sp) hf h3 h4 hn
   exact ⟨_, _, h1, .inr ⟨c + 1, some 1, n + 1, rfl, Nat.le_refl _, by omega, h5⟩, h6.mono (fun x _ q => by subst q; exact hbs _ _ _ _ _ rfl) (fun _ _ q => q)⟩
theorem copy_spec (H : Std sm) {h : T AObj} {c : Nat} {rl wl : List Nat} (hf : Fresh h c) {v : Value} {n : Nat} {xs : List Value} (hv : Row h v n 1 xs) (hn : n ≤ bigV) (hz : n = 0 → ∃ a cap, v = .slice a 0 cap ∧ (a = none → cap = 0)) (bs : Nat → Prop) (hbs : ∀ b o sp n' cap, v = .slice (some ⟨b, o, sp⟩) n' cap → bs b) :
  ∃ v' s', FnTo (Cs sm) eg 73 [v] ⟨h, c, rl, wl⟩ v' s' ∧ Own s'.h c v' n xs ∧ Ext ⟨h, c, rl, wl⟩ s' bs (fun _ => False) := by
 obtain ⟨v', ⟨h1, c1, rl1, wl1⟩, hfn, hown, hext⟩ := clone_spec H (rl := []) (wl := []) hf hv hn hz bs hbs
 refine Fn.go (H 73 rfl) ex73 fn73 km73 rfl rfl ?_
 refine Zev ?_
 refine Zgo ?_
 refine Wseq.st (OpTo.ofCall hfn rfl) ?_
 refine Zgo ?_
 refine ⟨.inr rfl, Wres.one rfl ⟨hown, ?_⟩⟩
 exact Ext.of hext.c hext.fresh hext.h (Lg.extR Lg.nil hext fun _ _ q => q) (Lg.extW Lg.nil hext fun _ _ q => q)
end Go.Ab.Seat
end
section
/- Vectors: alike, cut to size; stores: the next one (the abstract machine). -/
namespace Go.Ab.Seat
open Go.Extern Go.Proofs
set_option maxRecDepth 4000
variable {sm : Nat → Option (List Value → M Value)}
theorem rowCell {h : T AObj} {oa : Option Addr} {n cap k : Nat} {xs : List Value} (hr : Row h (.slice oa n cap) n k xs) {j : Nat} {x : Value} (hj : j < n * k) (hx : xs[j]? = some x) :
  ∃ b o sp cs, oa = some ⟨b, o, sp⟩ ∧ Cel h b cs ∧ nth cs (o + j) = some x := by
 rcases hr with ⟨rfl, rfl, _⟩ | ⟨b, o, sp, cap', cs, e, hc, hs⟩
 ·simp at hx
 ·cases e
  refine ⟨b, o, sp, cs, rfl, hc, ?_⟩
  rw [nth_eq, ← (subN_some _ _ _ _ hs).2.2 j hj]
  exact hx
end Go.Ab.Seat
end
section
/- Vectors: alike, cut to size; stores: the next one (the abstract machine). -/
namespace Go.Ab.Seat
open Go.Extern Go.Proofs
set_option maxRecDepth 4000
variable {sm : Nat → Option (List Value → M Value)}
def clampZ (z : Int) : Int := max (-1048576) (min z 1048576)
def vecC (zs : List Int) (dim i : Nat) : List Value := (List.range dim).map fun j => if j < i then .int .i32 (clampZ (zs.getD j 0)) else .int .i32 0
def vecZ (zs : List Int) (dim : Nat) : List Int := (List.range dim).map fun j => clampZ (zs.getD j 0)
theorem vecZ_len (zs : List Int) (dim : Nat) : (vecZ zs dim).length = dim := by simp [vecZ]
theorem vecC_len (zs : List Int) (dim i : Nat) : (vecC zs dim i).length = dim := by simp [vecC]
theorem vecC_zero (zs : List Int) (dim : Nat) : rep [Value.int .i32 0] dim = vecC zs dim 0 := by
 refine List.ext_getElem? fun i => ?_
 rw [rep_get]
 simp only [vecC, List.length_singleton, Nat.mul_one, Nat.mod_one, List.getElem?_map, List.getElem?_range', Nat.not_lt_zero, if_false]
 by_cases h : i < dim
 ·rw [if_pos h, List.getElem?_range h]; rfl
 ·rw [if_neg h, List.getElem?_eq_none (by simp; omega)]; rfl
theorem vecC_step (zs : List Int) (dim i : Nat) (hi : i < dim) : setMany [.int .i32 (clampZ (zs.getD i 0))] (vecC zs dim i) (0 + i * 1) = some (vecC zs dim (i + 1)) := by
 have h := setMany_eq (vecC zs dim i) (0 + i * 1) [.int .i32 (clampZ (zs.getD i 0))] (by rw [vecC_len]; simp; omega) (all_cons rfl all_nil)
 rw [h]
 congr 1
 refine List.ext_getElem? fun j => ?_
 rw [show 0 + i * 1 = i by omega]
 have e : ∀ m j, (vecC zs dim m)[j]? = if j < dim then some (if j < m then .int .i32 (clampZ (zs.getD j 0)) else .int .i32 0) else none := by
  intro m j
  unfold vecC
  rw [List.getElem?_map]
  by_cases h : j < dim
  ·rw [List.getElem?_range h, if_pos h]; rfl
  ·rw [List.getElem?_eq_none (by simp; omega), if_neg h]; rfl
 rw [e (i + 1) j]
 rcases Nat.lt_trichotomy j i with hj | hj | hj
 ·rw [List.append_assoc, List.getElem?_append_left (by rw [List.length_take, vecC_len]; omega), List.getElem?_take_of_lt hj, e i j, if_pos hj, if_pos (by omega : j < i + 1)]
 ·subst hj
  rw [List.append_assoc, List.getElem?_append_right (by rw [List.length_take, vecC_len]; omega), List.length_take, vecC_len, show j - min j dim = 0 by omega, if_pos hi, if_pos (by omega)]
  rfl
 ·rw [List.getElem?_append_right (by rw [List.length_append, List.length_take, vecC_len]; simp; omega), List.length_append, List.length_take, vecC_len, List.getElem?_drop, show i + [Value.int .i32 (clampZ (zs.getD i 0))].length + (j - (min i dim + [Value.int .i32 (clampZ (zs.getD i 0))].length)) = j by simp; omega, e i j, if_neg (by omega : ¬j < i), if_neg (by omega : ¬j < i + 1)]
theorem vecC_end (zs : List Int) (dim i : Nat) (hi : dim ≤ i ∨ zs.length ≤ i) : vecC zs dim i = (vecZ zs dim).map (Value.int .i32) := by
 unfold vecC vecZ
 rw [List.map_map]
 refine List.map_congr_left fun j hj => ?_
 have hj := List.mem_range.1 hj
 by_cases h : j < i
 ·rw [if_pos h]; rfl
 ·rw [if_neg h]
  have : zs.getD j 0 = 0 := by rw [List.getD_eq_getElem?_getD, List.getElem?_eq_none (by omega)]; rfl
  show Value.int .i32 0 = Value.int .i32 (clampZ (zs.getD j 0))
  rw [this]; rfl
def EV (a : Option Addr) (n k dim c : Nat) (z : Int) (j17 : Value) : L :=
 .cons 0 (.slice a n k) (.cons 1 (.int .i64 (dim : Int)) (.cons 4 (.slice none 0 0) (.cons 5 (.slice (some ⟨c, 0, none⟩) dim dim) (.cons 6 (.int .i64 z) (.cons 17 j17 .nil)))))
theorem vec_spec (H : Std sm) {h : T AObj} {c : Nat} {rl wl : List Nat} (hf : Fresh h c) {a : Option Addr} {n k : Nat} {zs : List Int} (hn : zs.length = n) (hx : Row h (.slice a n k) n 1 (zs.map (Value.int .i32))) (dim : Nat) (hd : dim ≤ 1000) (R : Nat → Prop) (hR : ∀ x, blkOf (.slice a n k) = some x → R x) :
  ∃ r s', FnTo (Cs sm) eg 21 [.slice a n k, .int .i64 (dim : Int)] ⟨h, c, rl, wl⟩ r s' ∧ (r = .slice (some ⟨c, 0, none⟩) dim dim ∧ Has s'.h c (.cells ((vecZ zs dim).map (Value.int .i32)))) ∧ Ext ⟨h, c, rl, wl⟩ s' R (fun _ => False) := by
 refine Fn.go (H 21 rfl) ex21 fn21 km21 rfl rfl ?_
 refine Zev ?_
 refine Zgo ?_
 refine Zu (to_makeSlice (a := dim) (b := dim) ro25 rfl rfl rfl rfl (by omega) (by unfold big; omega) Zfr) ?_
 refine Zgo ?_
 refine Wx.loopE (fun k1 e s => ∃ (i : Nat) (z : Int) (h' : T AObj) (rl' wl' : List Nat) (j17 : Value), e = EV a n k dim c z j17 ∧ z = i ∧ s = ⟨h', c + 1, rl', wl'⟩ ∧ Fresh h' (c + 1) ∧ Kp h h' c (fun _ => False) ∧ Has h' c (.cells (vecC zs dim i)) ∧ Lg c R rl' ∧ Lg c (fun _ => False) wl' ∧ i ≤ dim ∧ k1 = dim - i) dim (EV a n k dim c 0 top) Zrs ?_ ?_ ?_
 ·unfold EV
  exact Zek
 ·exact ⟨0, 0, _, _, _, _, rfl, rfl, rfl, Zfr, Zkp, (by rw [← vecC_zero]; exact Has.same), Zlg, Zlg, by omega, rfl⟩
 ·rintro k1 e s ⟨i, z, h', rl', wl', j17, rfl, hz, rfl, hf', hkp, hB, hlr, hlw, hid, rfl⟩
  unfold EV
  by_cases hi : i < dim
  ·by_cases hi2 : i < n
   ·have hzs : (zs.map (Value.int .i32))[i]? = some (.int .i32 (zs.getD i 0)) := by
     rw [List.getElem?_map, List.getD_eq_getElem?_getD, List.getElem?_eq_getElem (by omega : i < zs.length)]; rfl
    obtain ⟨b1, o1, sp1, cs1, rfl, hc1, hn1⟩ := rowCell hx (j := i * 1) (by omega) (by rw [Nat.mul_one]; exact hzs)
    have hR1 := hR b1 rfl
    have l1 := hc1.lt hf
    have hc1' : Cel h' b1 cs1 := by unfold Cel Has at hc1 ⊢; rw [hkp b1 l1 (fun q => q)]; exact hc1
    refine Zgo ?_
    refine Zu (to_indexAddr (k := i) el25 rfl rfl hz (by omega)) ?_
    refine Zu (to_load (pl_ rfl) rfl hc1' (by omega) hn1) ?_
    refine Zgo ?_
    refine Zu (to_indexAddr (k := i) el25 rfl rfl hz (by omega)) ?_
    ((with_reducible apply Wseq.so); rfl; exact (sz_ rfl); rfl; exact hB; omega; refine Znv ?_; refine ⟨_, _, (by (first | exact cellsA_agg _ | rfl)), rfl, vecC_step zs dim i hi, ?_⟩)
    refine Zgo ?_
    refine RoundE.go (dim - (i + 1)) (EV _ n k dim c (z + 1) _) (by omega) Zek ⟨i + 1, z + 1, _, _, _, _, rfl, by omega, rfl, Zfr, Zkp, Has.same, Zlg, Zlg, by omega, rfl⟩
   ·refine Zgo ?_
    refine ⟨.inr rfl, Wres.one rfl ⟨⟨rfl, ?_⟩, ?_⟩⟩
    ·rw [← vecC_end zs dim i (.inr (by omega))]; exact hB
    ·exact Zex
  ·refine Zgo ?_
   refine ⟨.inr rfl, Wres.one rfl ⟨⟨rfl, ?_⟩, ?_⟩⟩
   ·rw [← vecC_end zs dim i (.inl (by omega))]; exact hB
   ·exact Zex
end Go.Ab.Seat
end
section
/- A closure is called (the abstract machine). -/
namespace Go.Ab
section
variable {C : Ctx} {eg : TypeId → Bool} {e : Env} {s : St}
theorem OpTo.ofCallV {d : Option Nat} {g : Nat} {fo : Operand} {first cap : Array Value} {ar : Array Operand} {ts : Array TypeId} {ty : TypeId} {ps : String} {af : Array Edge} {gd : Option (Nat × Bool)} {args : List Value} {v : Value} {s' : St} (hf : evalA e fo = .func (.func g) first cap) (ha : mapA (evalA e) ar.toList = args)
  (h : FnTo C eg g (app first.toList (app args cap.toList)) s v s') : OpTo C eg e ⟨d, .call ⟨.value fo, ar, ts⟩, ty, ps, af, gd⟩ s v s' := by
 obtain ⟨n, h⟩ := h
 refine ⟨n, ?_⟩
 show callV C (exec C eg n) (evalA e fo) (mapA (evalA e) ar.toList) s = _
 rw [hf, ha]
 exact h
end
section
variable {C : Ctx} {eg : TypeId → Bool} {all os : List Oper} {loc kept : L} {h : T AObj} {c : Nat} {rl wl : List Nat} {Q : Env → St → Prop} {d : Nat} {ty : TypeId} {ps : String} {af : Array Edge} {g : Option (Nat × Bool)}
theorem Wseq.callV {f : Nat} {fo : Operand} {first cap : Array Value} {ar : Array Operand} {ts : Array TypeId} {args : List Value} {P : Value → St → Prop} (hw : wantedA all (.mk loc kept) ⟨some d, .call ⟨.value fo, ar, ts⟩, ty, ps, af, g⟩ = some true) (hf : evalA (.mk loc kept) fo = .func (.func f) first cap) (ha : mapA (evalA (.mk loc kept)) ar.toList = args)
  (hc : ∃ v s', FnTo C eg f (app first.toList (app args cap.toList)) ⟨h, c, rl, wl⟩ v s' ∧ P v s') (k : ∀ v h' c' r1 w1, P v ⟨h', c', r1, w1⟩ → Wseq C eg all os (.mk (.cons d v loc) kept) ⟨h', c', r1, w1⟩ Q) :
  Wseq C eg all (⟨some d, .call ⟨.value fo, ar, ts⟩, ty, ps, af, g⟩ :: os) (.mk loc kept) ⟨h, c, rl, wl⟩ Q := by
 obtain ⟨v, ⟨h', c', r1, w1⟩, h1, h2⟩ := hc
 exact Wseq.op hw (OpTo.ofCallV hf ha h1) (k v h' c' r1 w1 h2)
end
end Go.Ab
end
