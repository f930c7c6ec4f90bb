import Derived.Test.YtcnfbfiakkjabaaGreatDoorDV1
set_option linter.unusedVariables false
set_option linter.unusedSimpArgs false
section
/- Hits, ids held against each other, where they are the same (the abstract machine). -/
namespace Go.Ab.Seat
open Go.Extern Go.Proofs
set_option linter.unusedSimpArgs false
set_option linter.unusedVariables false
set_option maxRecDepth 4000
set_option pp.deepTerms false
set_option pp.deepTerms.threshold 6
variable {sm : Nat → Option (List Value → M Value)}

/-- Two hits held against each other, where they are one. -/
theorem eqH (a b : Int) : eqA (Cs sm) eg 100 41 (hitv a b) (hitv a b) = some true := by
  have h : eqA (Cs sm) eg 100 41 (hitv a b) (hitv a b) = (match decide (a = a) with | true => (match decide (b = b) with | true => some true | false => some false) | false => some false) := by kernel_rfl
  rw [h, decide_eq_true rfl, decide_eq_true rfl]
theorem eg41 : eg 41 = false := by kernel_rfl
theorem to_neH {e : Env} {s : St} {d : Option Nat} {ty t2 : TypeId} {ps : String} {af : Array Edge} {g : Option (Nat × Bool)} {x y : Operand} {a b : Int} (hx : evalA e x = hitv a b) (hy : evalA e y = hitv a b) :
    OpTo (Cs sm) eg e ⟨d, .binOp .neq 41 x y t2, ty, ps, af, g⟩ s (.bool false) s :=
  to_bin hx hy (by
    show (match guardA eg 41 x y (hitv a b) (hitv a b) with | true => (match eqA (Cs sm) eg 100 41 (hitv a b) (hitv a b) with | some r => some (Value.bool (!r)) | none => none) | false => none) = _
    rw [eqH, show guardA eg 41 x y (hitv a b) (hitv a b) = !eg 41 from rfl, eg41]
    rfl)

def EHs (a : Option Addr) (n k : Nat) (b : Option Addr) (k' : Nat) (z : Int) (j5 j14 j24 : Value) : L :=
  .cons 0 (.slice a n k) (.cons 1 (.slice b n k') (.cons 4 (.bool false) (.cons 10 (.bool false) (.cons 12 (.int .i64 (n : Int)) (.cons 13 (.int .i64 z) (.cons 5 j5 (.cons 14 j14 (.cons 24 j24 .nil))))))))

set_option maxHeartbeats 4000000 in
theorem hits_spec (H : Std sm) {h : T AObj} {c : Nat} {rl wl : List Nat} (hf : Fresh h c) {a b : Option Addr} {k k' : Nat} {l : List Ht} (hx : Row h (.slice a l.length k) l.length 2 (flatH l)) (hy : Row h (.slice b l.length k') l.length 2 (flatH l)) (hn : l.length ≤ 1000) :
    ∃ r s', FnTo (Cs sm) eg 14 [.slice a l.length k, .slice b l.length k'] ⟨h, c, rl, wl⟩ r s' ∧ r = .bool true ∧ s'.h = h ∧ s'.c = c ∧ Ext ⟨h, c, rl, wl⟩ s' (fun _ => True) (fun _ => False) := by
  refine Fn.go (H 14 rfl) ex14 fn14 km14 rfl rfl ?_
  intro e he
  (simp only [envOf_eq, keepFrom_cons, keepFrom_nil, flushE_mk, flL_cons, flL_nil, st_cons, st_nil, Nat.testBit, Nat.reduceShiftRight, Nat.reduceAnd, Nat.reduceBNe, Nat.reduceEqDiff, Nat.reduceAdd, ↓reduceIte, reduceCtorEq, Bool.false_eq_true] at he; subst he)
  have lgR : ∀ l : List Nat, Lg c (fun _ => True) l := fun l b hb => .inr trivial
  (repeat (first | (with_reducible refine Then.go ?_) | (with_reducible refine Wx.seq ?_) | (with_reducible refine Wx.skip ?_) | (with_reducible refine Wx.block ?_) | (with_reducible refine Wx.reg ?_) | (refine Wx.condF rfl (by (first | rfl | (simp only [decide_eq_false_iff_not, Bool.not_eq_false', decide_eq_true_eq, Option.isNone_none, Option.isNone_some, Option.isSome_none, Option.isSome_some, beq_self_eq_true, Bool.not_true, Bool.not_false]; first | done | omega))) ?_) | ((with_reducible refine Wseq.nil ?_); intro e he; (simp only [envOf_eq, keepFrom_cons, keepFrom_nil, flushE_mk, flL_cons, flL_nil, st_cons, st_nil, Nat.testBit, Nat.reduceShiftRight, Nat.reduceAnd, Nat.reduceBNe, Nat.reduceEqDiff, Nat.reduceAdd, ↓reduceIte, reduceCtorEq, Bool.false_eq_true] at he; subst he)) | ((with_reducible apply Wseq.mv); (focus rfl); (intro v hv; (simp only [ev_tmp, ev_const, ev_global, ev_func, look_if, lk_nil, Nat.reduceEqDiff, eq_self, ↓reduceIte, reduceCtorEq, partsOf_arr, List.map_cons, List.map_nil] at hv); subst hv)) | ((with_reducible apply Wseq.as); (focus rfl); (intro v hv; (simp only [ev_tmp, ev_const, ev_global, ev_func, look_if, lk_nil, Nat.reduceEqDiff, eq_self, ↓reduceIte, reduceCtorEq, partsOf_arr, List.map_cons, List.map_nil] at hv); subst hv)) | ((with_reducible apply Wseq.stg (op := Op.call ⟨Callee.builtin Builtin.len, _, _⟩)); (focus rfl); (focus (exact to_lenS (sl_ rfl) rfl))) | ((with_reducible apply Wseq.stg (op := Op.binOp BinOp.neq _ _ _ _)); (focus rfl); (focus (exact to_neIF rfl rfl (by omega))))))
  refine Wx.loopE (fun k1 e s => ∃ (i : Nat) (z : Int) (j5 j14 j24 : Value) (rl' : List Nat), e = EHs a l.length k b k' z j5 j14 j24 ∧ z = i ∧ s = ⟨h, c, rl', []⟩ ∧ i ≤ l.length ∧ k1 = l.length - i) l.length (EHs a l.length k b k' 0 top top top) (by (repeat (first | (with_reducible exact Resp.fn) | (with_reducible apply Resp.then) | (with_reducible apply Resp.out) | (with_reducible apply Resp.round) | (with_reducible apply Resp.cut)))) ?_ ?_ ?_
  · unfold EHs
    (refine EqK.of ?_ ?_ <;> (repeat (first | (exact all_nil) | ((apply all_cons); (focus rfl)))))
  · exact ⟨0, 0, _, _, _, _, rfl, rfl, rfl, by omega, rfl⟩
  · rintro k1 e s ⟨i, z, j5, j14, j24, rl', rfl, hz, rfl, hid, rfl⟩
    unfold EHs
    by_cases hi : i < l.length
    · obtain ⟨b1, o1, sp1, cs1, rfl, hc1, hs1⟩ := rowB hx (by omega)
      obtain ⟨b2, o2, sp2, cs2, rfl, hc2, hs2⟩ := rowB hy (by omega)
      have l1 := hc1.lt hf
      have l2 := hc2.lt hf
      have hg1 := sub_hit hs1 (List.getElem?_eq_getElem hi)
      have hg2 := sub_hit hs2 (List.getElem?_eq_getElem hi)
      (repeat (first | (with_reducible refine Then.go ?_) | (with_reducible refine Wx.seq ?_) | (with_reducible refine Wx.skip ?_) | (with_reducible refine Wx.block ?_) | (with_reducible refine Wx.reg ?_) | (refine Wx.dreg rfl ?_) | (refine Wx.condT rfl (by (first | rfl | (simp only [decide_eq_true_eq, Bool.not_eq_true', decide_eq_false_iff_not, Option.isNone_none, Option.isNone_some, Option.isSome_none, Option.isSome_some, beq_self_eq_true, Bool.not_true, Bool.not_false]; first | done | omega) | (simp; omega) | (solve | simp [*]) | fail)) ?_) | ((with_reducible refine Wseq.nil ?_); intro e he; (simp only [envOf_eq, keepFrom_cons, keepFrom_nil, flushE_mk, flL_cons, flL_nil, st_cons, st_nil, Nat.testBit, Nat.reduceShiftRight, Nat.reduceAnd, Nat.reduceBNe, Nat.reduceEqDiff, Nat.reduceAdd, ↓reduceIte, reduceCtorEq, Bool.false_eq_true] at he; subst he)) | ((with_reducible apply Wseq.mv); (focus rfl); (intro v hv; (simp only [ev_tmp, ev_const, ev_global, ev_func, look_if, lk_nil, Nat.reduceEqDiff, eq_self, ↓reduceIte, reduceCtorEq, partsOf_arr, List.map_cons, List.map_nil] at hv); subst hv)) | ((with_reducible apply Wseq.as); (focus rfl); (intro v hv; (simp only [ev_tmp, ev_const, ev_global, ev_func, look_if, lk_nil, Nat.reduceEqDiff, eq_self, ↓reduceIte, reduceCtorEq, partsOf_arr, List.map_cons, List.map_nil] at hv); subst hv)) | ((with_reducible apply Wseq.stg (op := Op.binOp BinOp.lss _ _ _ _)); (focus rfl); (focus (exact to_lssT rfl rfl (by omega)))) | ((with_reducible apply Wtr.mv); (focus rfl); (intro v hv; (simp only [ev_tmp, ev_const, ev_global, ev_func, look_if, lk_nil, Nat.reduceEqDiff, eq_self, ↓reduceIte, reduceCtorEq, partsOf_arr, List.map_cons, List.map_nil] at hv); subst hv))))
      ((with_reducible apply Wtr.stq); (focus rfl); (focus (exact to_indexAddr (k := i) el32 rfl rfl hz (by omega))))
      ((with_reducible apply Wtr.stx); (focus rfl); (focus (exact to_loadS ag41 rfl hc1 (by omega) hg1)); (focus (repeat (first | (with_reducible exact all_nil) | ((with_reducible apply all_cons); (focus (first | (right; with_reducible exact ApartP.rr) | (right; with_reducible exact ApartP.rn) | (left; dsimp only; decide +kernel) | (right; with_reducible exact ApartP.rc (by assumption)) | (right; refine ApartP.ow (by assumption) ?_ ?_ <;> omega) | (right; refine ApartP.rw' (by assumption) ?_; omega) | (right; assumption) | (right; refine ⟨?_, ?_, ?_, ?_, ?_⟩ <;> (first | (with_reducible exact all_nil) | (intro b hb; exact List.not_mem_nil) | (intro b hb; (try simp only [List.mem_cons, List.not_mem_nil, or_false] at hb ⊢); omega))))))))))
      (repeat (first | ((with_reducible apply Wtr.mv); (focus rfl); (intro v hv; (simp only [ev_tmp, ev_const, ev_global, ev_func, look_if, lk_nil, Nat.reduceEqDiff, eq_self, ↓reduceIte, reduceCtorEq, partsOf_arr, List.map_cons, List.map_nil] at hv); subst hv))))
      ((with_reducible apply Wtr.stq); (focus rfl); (focus (exact to_indexAddr (k := i) el32 rfl rfl hz (by omega))))
      ((with_reducible apply Wtr.stx); (focus rfl); (focus (exact to_loadS ag41 rfl hc2 (by omega) hg2)); (focus (repeat (first | (with_reducible exact all_nil) | ((with_reducible apply all_cons); (focus (first | (right; with_reducible exact ApartP.rr) | (right; with_reducible exact ApartP.rn) | (left; dsimp only; decide +kernel) | (right; with_reducible exact ApartP.rc (by assumption)) | (right; refine ApartP.ow (by assumption) ?_ ?_ <;> omega) | (right; refine ApartP.rw' (by assumption) ?_; omega) | (right; assumption) | (right; refine ⟨?_, ?_, ?_, ?_, ?_⟩ <;> (first | (with_reducible exact all_nil) | (intro b hb; exact List.not_mem_nil) | (intro b hb; (try simp only [List.mem_cons, List.not_mem_nil, or_false] at hb ⊢); omega))))))))))
      ((with_reducible apply Wtr.stq); (focus rfl); (focus (exact to_neH rfl rfl)))
      (repeat (first | (with_reducible refine Then.go ?_) | (with_reducible refine Out.go ?_) | (with_reducible refine Wx.skip ?_) | (with_reducible refine Wx.reg ?_) | (refine Wx.condF rfl (by (first | rfl | (simp only [decide_eq_false_iff_not, Bool.not_eq_false', decide_eq_true_eq, Option.isNone_none, Option.isNone_some, Option.isSome_none, Option.isSome_some, beq_self_eq_true, Bool.not_true, Bool.not_false]; first | done | omega))) ?_) | ((with_reducible refine Wseq.nil ?_); intro e he; (simp only [envOf_eq, keepFrom_cons, keepFrom_nil, flushE_mk, flL_cons, flL_nil, st_cons, st_nil, Nat.testBit, Nat.reduceShiftRight, Nat.reduceAnd, Nat.reduceBNe, Nat.reduceEqDiff, Nat.reduceAdd, ↓reduceIte, reduceCtorEq, Bool.false_eq_true] at he; subst he)) | ((with_reducible apply Wseq.mv); (focus rfl); (intro v hv; (simp only [ev_tmp, ev_const, ev_global, ev_func, look_if, lk_nil, Nat.reduceEqDiff, eq_self, ↓reduceIte, reduceCtorEq, partsOf_arr, List.map_cons, List.map_nil] at hv); subst hv)) | ((with_reducible apply Wseq.stg (op := Op.binOp BinOp.add _ _ _ _)); (focus rfl); (focus (exact to_add rfl rfl (by omega) (by omega)))) | ((with_reducible refine Wtr.nil ?_); intro e he; (simp only [envOf_eq, keepFrom_cons, keepFrom_nil, flushE_mk, flL_cons, flL_nil, st_cons, st_nil, Nat.testBit, Nat.reduceShiftRight, Nat.reduceAnd, Nat.reduceBNe, Nat.reduceEqDiff, Nat.reduceAdd, ↓reduceIte, reduceCtorEq, Bool.false_eq_true] at he; subst he))))
      exact RoundE.go (l.length - (i + 1)) (EHs _ l.length k _ k' (z + 1) _ _ _) (by omega) (by (refine EqK.of ?_ ?_ <;> (repeat (first | (exact all_nil) | ((apply all_cons); (focus rfl)))))) ⟨i + 1, z + 1, _, _, _, _, rfl, by omega, rfl, by omega, rfl⟩
    · (repeat (first | (with_reducible refine Then.go ?_) | (with_reducible refine Then.ex ?_) | (with_reducible refine Out.hit ?_) | (with_reducible refine Wx.seq ?_) | (with_reducible refine Wx.exit ?_) | (with_reducible refine Wx.ret ?_) | (with_reducible refine Wx.reg ?_) | (with_reducible refine RoundE.ex ?_) | (refine Wx.condF rfl (by (first | rfl | (simp only [decide_eq_false_iff_not, Bool.not_eq_false', decide_eq_true_eq, Option.isNone_none, Option.isNone_some, Option.isSome_none, Option.isSome_some, beq_self_eq_true, Bool.not_true, Bool.not_false]; first | done | omega))) ?_) | ((with_reducible refine Wseq.nil ?_); intro e he; (simp only [envOf_eq, keepFrom_cons, keepFrom_nil, flushE_mk, flL_cons, flL_nil, st_cons, st_nil, Nat.testBit, Nat.reduceShiftRight, Nat.reduceAnd, Nat.reduceBNe, Nat.reduceEqDiff, Nat.reduceAdd, ↓reduceIte, reduceCtorEq, Bool.false_eq_true] at he; subst he)) | ((with_reducible apply Wseq.as); (focus rfl); (intro v hv; (simp only [ev_tmp, ev_const, ev_global, ev_func, look_if, lk_nil, Nat.reduceEqDiff, eq_self, ↓reduceIte, reduceCtorEq, partsOf_arr, List.map_cons, List.map_nil] at hv); subst hv)) | ((with_reducible apply Wseq.stg (op := Op.binOp BinOp.lss _ _ _ _)); (focus rfl); (focus (exact to_lssF rfl rfl (by omega))))))
      refine ⟨.inr rfl, Wres.one rfl ⟨rfl, rfl, rfl, ?_⟩⟩
      exact Ext.of (Nat.le_refl _) hf Kp.refl (lgR _) (by (repeat (first | (with_reducible exact Lg.nil) | (with_reducible assumption) | ((with_reducible apply Lg.cons); (focus (first | (left; omega) | (right; first | exact rfl | assumption | (exact Or.inl (by assumption)) | (exact Or.inr (by assumption)) | (simp; done) | omega)))) | (with_reducible apply Lg.app))))

set_option maxHeartbeats 4000000 in
theorem ints_spec (H : Std sm) {h : T AObj} {c : Nat} {rl wl : List Nat} (hf : Fresh h c) {a b : Option Addr} {n k k' : Nat} {l : List Int} (hl : l.length = n) (hx : Row h (.slice a n k) n 1 (l.map (Value.int .i64))) (hy : Row h (.slice b n k') n 1 (l.map (Value.int .i64))) (hn : n ≤ 1000) :
    ∃ r s', FnTo (Cs sm) eg 16 [.slice a n k, .slice b n k'] ⟨h, c, rl, wl⟩ r s' ∧ r = .bool true ∧ s'.h = h ∧ s'.c = c ∧ Ext ⟨h, c, rl, wl⟩ s' (fun _ => True) (fun _ => False) := by
  refine Fn.go (H 16 rfl) ex16 fn16 km16 rfl rfl ?_
  intro e he
  (simp only [envOf_eq, keepFrom_cons, keepFrom_nil, flushE_mk, flL_cons, flL_nil, st_cons, st_nil, Nat.testBit, Nat.reduceShiftRight, Nat.reduceAnd, Nat.reduceBNe, Nat.reduceEqDiff, Nat.reduceAdd, ↓reduceIte, reduceCtorEq, Bool.false_eq_true] at he; subst he)
  have lgR : ∀ l : List Nat, Lg c (fun _ => True) l := fun l b hb => .inr trivial
  (repeat (first | (with_reducible refine Then.go ?_) | (with_reducible refine Wx.seq ?_) | (with_reducible refine Wx.skip ?_) | (with_reducible refine Wx.block ?_) | (with_reducible refine Wx.reg ?_) | (refine Wx.condF rfl (by (first | rfl | (simp only [decide_eq_false_iff_not, Bool.not_eq_false', decide_eq_true_eq, Option.isNone_none, Option.isNone_some, Option.isSome_none, Option.isSome_some, beq_self_eq_true, Bool.not_true, Bool.not_false]; first | done | omega))) ?_) | ((with_reducible refine Wseq.nil ?_); intro e he; (simp only [envOf_eq, keepFrom_cons, keepFrom_nil, flushE_mk, flL_cons, flL_nil, st_cons, st_nil, Nat.testBit, Nat.reduceShiftRight, Nat.reduceAnd, Nat.reduceBNe, Nat.reduceEqDiff, Nat.reduceAdd, ↓reduceIte, reduceCtorEq, Bool.false_eq_true] at he; subst he)) | ((with_reducible apply Wseq.mv); (focus rfl); (intro v hv; (simp only [ev_tmp, ev_const, ev_global, ev_func, look_if, lk_nil, Nat.reduceEqDiff, eq_self, ↓reduceIte, reduceCtorEq, partsOf_arr, List.map_cons, List.map_nil] at hv); subst hv)) | ((with_reducible apply Wseq.as); (focus rfl); (intro v hv; (simp only [ev_tmp, ev_const, ev_global, ev_func, look_if, lk_nil, Nat.reduceEqDiff, eq_self, ↓reduceIte, reduceCtorEq, partsOf_arr, List.map_cons, List.map_nil] at hv); subst hv)) | ((with_reducible apply Wseq.stg (op := Op.call ⟨Callee.builtin Builtin.len, _, _⟩)); (focus rfl); (focus (exact to_lenS (sl_ rfl) rfl))) | ((with_reducible apply Wseq.stg (op := Op.binOp BinOp.neq _ _ _ _)); (focus rfl); (focus (exact to_neIF rfl rfl (by omega))))))
  refine Wx.loopE (fun k1 e s => ∃ (i : Nat) (z : Int) (j5 j14 j24 : Value) (rl' : List Nat), e = EHs a n k b k' z j5 j14 j24 ∧ z = i ∧ s = ⟨h, c, rl', []⟩ ∧ i ≤ n ∧ k1 = n - i) n (EHs a n k b k' 0 top top top) (by (repeat (first | (with_reducible exact Resp.fn) | (with_reducible apply Resp.then) | (with_reducible apply Resp.out) | (with_reducible apply Resp.round) | (with_reducible apply Resp.cut)))) ?_ ?_ ?_
  · unfold EHs
    (refine EqK.of ?_ ?_ <;> (repeat (first | (exact all_nil) | ((apply all_cons); (focus rfl)))))
  · exact ⟨0, 0, _, _, _, _, rfl, rfl, rfl, by omega, rfl⟩
  · rintro k1 e s ⟨i, z, j5, j14, j24, rl', rfl, hz, rfl, hid, rfl⟩
    unfold EHs
    by_cases hi : i < n
    · have hg : (l.map (Value.int .i64))[i]? = some (.int .i64 l[i]) := by rw [List.getElem?_map, List.getElem?_eq_getElem (by omega)]; rfl
      obtain ⟨b1, o1, sp1, cs1, rfl, hc1, hn1⟩ := rowCell hx (j := i * 1) (by omega) (by rw [Nat.mul_one]; exact hg)
      obtain ⟨b2, o2, sp2, cs2, rfl, hc2, hn2⟩ := rowCell hy (j := i * 1) (by omega) (by rw [Nat.mul_one]; exact hg)
      have l1 := hc1.lt hf
      have l2 := hc2.lt hf
      (repeat (first | (with_reducible refine Then.go ?_) | (with_reducible refine Wx.seq ?_) | (with_reducible refine Wx.skip ?_) | (with_reducible refine Wx.block ?_) | (with_reducible refine Wx.reg ?_) | (refine Wx.dreg rfl ?_) | (refine Wx.condT rfl (by (first | rfl | (simp only [decide_eq_true_eq, Bool.not_eq_true', decide_eq_false_iff_not, Option.isNone_none, Option.isNone_some, Option.isSome_none, Option.isSome_some, beq_self_eq_true, Bool.not_true, Bool.not_false]; first | done | omega) | (simp; omega) | (solve | simp [*]) | fail)) ?_) | ((with_reducible refine Wseq.nil ?_); intro e he; (simp only [envOf_eq, keepFrom_cons, keepFrom_nil, flushE_mk, flL_cons, flL_nil, st_cons, st_nil, Nat.testBit, Nat.reduceShiftRight, Nat.reduceAnd, Nat.reduceBNe, Nat.reduceEqDiff, Nat.reduceAdd, ↓reduceIte, reduceCtorEq, Bool.false_eq_true] at he; subst he)) | ((with_reducible apply Wseq.mv); (focus rfl); (intro v hv; (simp only [ev_tmp, ev_const, ev_global, ev_func, look_if, lk_nil, Nat.reduceEqDiff, eq_self, ↓reduceIte, reduceCtorEq, partsOf_arr, List.map_cons, List.map_nil] at hv); subst hv)) | ((with_reducible apply Wseq.as); (focus rfl); (intro v hv; (simp only [ev_tmp, ev_const, ev_global, ev_func, look_if, lk_nil, Nat.reduceEqDiff, eq_self, ↓reduceIte, reduceCtorEq, partsOf_arr, List.map_cons, List.map_nil] at hv); subst hv)) | ((with_reducible apply Wseq.stg (op := Op.binOp BinOp.lss _ _ _ _)); (focus rfl); (focus (exact to_lssT rfl rfl (by omega)))) | ((with_reducible apply Wtr.mv); (focus rfl); (intro v hv; (simp only [ev_tmp, ev_const, ev_global, ev_func, look_if, lk_nil, Nat.reduceEqDiff, eq_self, ↓reduceIte, reduceCtorEq, partsOf_arr, List.map_cons, List.map_nil] at hv); subst hv))))
      ((with_reducible apply Wtr.stq); (focus rfl); (focus (exact to_indexAddr (k := i) el35 rfl rfl hz (by omega))))
      ((with_reducible apply Wtr.stx); (focus rfl); (focus (exact to_load (pl_ rfl) rfl hc1 (by omega) hn1)); (focus (repeat (first | (with_reducible exact all_nil) | ((with_reducible apply all_cons); (focus (first | (right; with_reducible exact ApartP.rr) | (right; with_reducible exact ApartP.rn) | (left; dsimp only; decide +kernel) | (right; with_reducible exact ApartP.rc (by assumption)) | (right; refine ApartP.ow (by assumption) ?_ ?_ <;> omega) | (right; refine ApartP.rw' (by assumption) ?_; omega) | (right; assumption) | (right; refine ⟨?_, ?_, ?_, ?_, ?_⟩ <;> (first | (with_reducible exact all_nil) | (intro b hb; exact List.not_mem_nil) | (intro b hb; (try simp only [List.mem_cons, List.not_mem_nil, or_false] at hb ⊢); omega))))))))))
      (repeat (first | ((with_reducible apply Wtr.mv); (focus rfl); (intro v hv; (simp only [ev_tmp, ev_const, ev_global, ev_func, look_if, lk_nil, Nat.reduceEqDiff, eq_self, ↓reduceIte, reduceCtorEq, partsOf_arr, List.map_cons, List.map_nil] at hv); subst hv))))
      ((with_reducible apply Wtr.stq); (focus rfl); (focus (exact to_indexAddr (k := i) el35 rfl rfl hz (by omega))))
      ((with_reducible apply Wtr.stx); (focus rfl); (focus (exact to_load (pl_ rfl) rfl hc2 (by omega) hn2)); (focus (repeat (first | (with_reducible exact all_nil) | ((with_reducible apply all_cons); (focus (first | (right; with_reducible exact ApartP.rr) | (right; with_reducible exact ApartP.rn) | (left; dsimp only; decide +kernel) | (right; with_reducible exact ApartP.rc (by assumption)) | (right; refine ApartP.ow (by assumption) ?_ ?_ <;> omega) | (right; refine ApartP.rw' (by assumption) ?_; omega) | (right; assumption) | (right; refine ⟨?_, ?_, ?_, ?_, ?_⟩ <;> (first | (with_reducible exact all_nil) | (intro b hb; exact List.not_mem_nil) | (intro b hb; (try simp only [List.mem_cons, List.not_mem_nil, or_false] at hb ⊢); omega))))))))))
      (repeat (first | (with_reducible refine Then.go ?_) | (with_reducible refine Out.go ?_) | (with_reducible refine Wx.skip ?_) | (with_reducible refine Wx.reg ?_) | (refine Wx.condF rfl (by (first | rfl | (simp only [decide_eq_false_iff_not, Bool.not_eq_false', decide_eq_true_eq, Option.isNone_none, Option.isNone_some, Option.isSome_none, Option.isSome_some, beq_self_eq_true, Bool.not_true, Bool.not_false]; first | done | omega))) ?_) | ((with_reducible refine Wseq.nil ?_); intro e he; (simp only [envOf_eq, keepFrom_cons, keepFrom_nil, flushE_mk, flL_cons, flL_nil, st_cons, st_nil, Nat.testBit, Nat.reduceShiftRight, Nat.reduceAnd, Nat.reduceBNe, Nat.reduceEqDiff, Nat.reduceAdd, ↓reduceIte, reduceCtorEq, Bool.false_eq_true] at he; subst he)) | ((with_reducible apply Wseq.mv); (focus rfl); (intro v hv; (simp only [ev_tmp, ev_const, ev_global, ev_func, look_if, lk_nil, Nat.reduceEqDiff, eq_self, ↓reduceIte, reduceCtorEq, partsOf_arr, List.map_cons, List.map_nil] at hv); subst hv)) | ((with_reducible apply Wseq.stg (op := Op.binOp BinOp.add _ _ _ _)); (focus rfl); (focus (exact to_add rfl rfl (by omega) (by omega)))) | ((with_reducible refine Wtr.nil ?_); intro e he; (simp only [envOf_eq, keepFrom_cons, keepFrom_nil, flushE_mk, flL_cons, flL_nil, st_cons, st_nil, Nat.testBit, Nat.reduceShiftRight, Nat.reduceAnd, Nat.reduceBNe, Nat.reduceEqDiff, Nat.reduceAdd, ↓reduceIte, reduceCtorEq, Bool.false_eq_true] at he; subst he)) | ((with_reducible apply Wtr.stq (op := Op.binOp BinOp.neq _ _ _ _)); (focus rfl); (focus (exact to_neIF rfl rfl (by omega))))))
      exact RoundE.go (n - (i + 1)) (EHs _ n k _ k' (z + 1) _ _ _) (by omega) (by (refine EqK.of ?_ ?_ <;> (repeat (first | (exact all_nil) | ((apply all_cons); (focus rfl)))))) ⟨i + 1, z + 1, _, _, _, _, rfl, by omega, rfl, by omega, rfl⟩
    · (repeat (first | (with_reducible refine Then.go ?_) | (with_reducible refine Then.ex ?_) | (with_reducible refine Out.hit ?_) | (with_reducible refine Wx.seq ?_) | (with_reducible refine Wx.exit ?_) | (with_reducible refine Wx.ret ?_) | (with_reducible refine Wx.reg ?_) | (with_reducible refine RoundE.ex ?_) | (refine Wx.condF rfl (by (first | rfl | (simp only [decide_eq_false_iff_not, Bool.not_eq_false', decide_eq_true_eq, Option.isNone_none, Option.isNone_some, Option.isSome_none, Option.isSome_some, beq_self_eq_true, Bool.not_true, Bool.not_false]; first | done | omega))) ?_) | ((with_reducible refine Wseq.nil ?_); intro e he; (simp only [envOf_eq, keepFrom_cons, keepFrom_nil, flushE_mk, flL_cons, flL_nil, st_cons, st_nil, Nat.testBit, Nat.reduceShiftRight, Nat.reduceAnd, Nat.reduceBNe, Nat.reduceEqDiff, Nat.reduceAdd, ↓reduceIte, reduceCtorEq, Bool.false_eq_true] at he; subst he)) | ((with_reducible apply Wseq.as); (focus rfl); (intro v hv; (simp only [ev_tmp, ev_const, ev_global, ev_func, look_if, lk_nil, Nat.reduceEqDiff, eq_self, ↓reduceIte, reduceCtorEq, partsOf_arr, List.map_cons, List.map_nil] at hv); subst hv)) | ((with_reducible apply Wseq.stg (op := Op.binOp BinOp.lss _ _ _ _)); (focus rfl); (focus (exact to_lssF rfl rfl (by omega))))))
      refine ⟨.inr rfl, Wres.one rfl ⟨rfl, rfl, rfl, ?_⟩⟩
      exact Ext.of (Nat.le_refl _) hf Kp.refl (lgR _) (by (repeat (first | (with_reducible exact Lg.nil) | (with_reducible assumption) | ((with_reducible apply Lg.cons); (focus (first | (left; omega) | (right; first | exact rfl | assumption | (exact Or.inl (by assumption)) | (exact Or.inr (by assumption)) | (simp; done) | omega)))) | (with_reducible apply Lg.app))))
end Go.Ab.Seat
end
section
/- FlatOrder: the run answers true (the abstract machine). -/
namespace Go.Ab.Seat
open Go.Extern Go.Proofs
set_option linter.unusedSimpArgs false
set_option linter.unusedVariables false
set_option maxRecDepth 4000
set_option pp.deepTerms false
set_option pp.deepTerms.threshold 6

/-- The lowest bit. -/
def and1 (z : Int) : Int := (((BitVec.ofInt 64 z).toNat % 2 : Nat) : Int)
theorem and1_or (z : Int) : and1 z = 0 ∨ and1 z = 1 := by unfold and1; omega
theorem to_and1 {C : Ctx} {e : Env} {s : St} {d : Option Nat} {ty t t2 : TypeId} {ps : String} {af : Array Edge} {g : Option (Nat × Bool)} {x y : Operand} {z : Int} (hx : evalA e x = .int .i64 z) (hy : evalA e y = .int .i64 1) :
    OpTo C eg e ⟨d, .binOp .and t x y t2, ty, ps, af, g⟩ s (.int .i64 (and1 z)) s :=
  to_bin hx hy (by
    have h : ((BitVec.ofInt 64 z &&& BitVec.ofInt 64 1).toNat : Int) = and1 z := by
      unfold and1
      rw [BitVec.toNat_and, show (BitVec.ofInt 64 1).toNat = 1 by decide, Nat.and_one_is_mod]
    show some (Value.int .i64 (wrapA .i64 ((BitVec.ofInt 64 z &&& BitVec.ofInt 64 1).toNat : Int))) = _
    rw [h, wrapA_i64 (by have := and1_or z; omega) (by have := and1_or z; omega)])

theorem rises_getM : ∀ {a b : List Rc}, Rises a → Rises b → (∀ x, getM x a = getM x b) → a = b
  | [], [], _, _, _ => rfl
  | [], y :: b, _, _, h => by
    have := h y.id
    rw [getM, getM, if_pos rfl] at this
    cases this
  | x :: a, [], _, _, h => by
    have := h x.id
    rw [getM, getM, if_pos rfl] at this
    cases this
  | x :: a, y :: b, ha, hb, h => by
    obtain ⟨a1, a2⟩ := List.pairwise_cons.1 ha
    obtain ⟨b1, b2⟩ := List.pairwise_cons.1 hb
    have hxy : x = y := by
      rcases Int.lt_trichotomy x.id y.id with q | q | q
      · have e := h x.id
        rw [getM, if_pos rfl, getM, if_neg (by omega), getM_none.2 fun r hr => by have := b1 r hr; omega] at e
        cases e
      · have e := h x.id
        rw [getM, if_pos rfl, getM, if_pos q.symm] at e
        exact Option.some.inj e
      · have e := h y.id
        rw [getM, if_neg (by omega), getM, if_pos rfl, getM_none.2 fun r hr => by have := a1 r hr; omega] at e
        cases e
    subst hxy
    congr 1
    refine rises_getM a2 b2 fun z => ?_
    have e := h z
    by_cases hz : x.id = z
    · rw [getM_none.2 fun r hr => by have := a1 r hr; omega, getM_none.2 fun r hr => by have := b1 r hr; omega]
    · rw [getM, if_neg hz, getM, if_neg hz] at e
      exact e

theorem getM_len {M : List Rc} {n : Nat} (hr : Rises M) (h : ∀ x : Int, x < 1 ∨ (n : Int) < x → getM x M = none) : M.length ≤ n := by
  have := rises_len (n := (n : Int)) (lo := 1) hr.ids (fun x hx => by
    obtain ⟨r, h1, rfl⟩ := List.mem_map.1 hx
    have h2 := getM_some hr h1 rfl
    refine Classical.byContradiction fun hq => ?_
    rw [h r.id (by omega)] at h2
    cases h2) (by omega)
  rw [List.length_map] at this
  omega

theorem Bnd_vecZ (zs : List Int) (dim : Nat) : Bnd (vecZ zs dim) := by
  intro i
  unfold vecZ
  rw [List.getD_eq_getElem?_getD, List.getElem?_map]
  cases h : (List.range dim)[i]? with
  | none => simp
  | some j =>
    show -1048576 ≤ clampZ _ ∧ clampZ _ ≤ 1048576
    unfold clampZ
    omega

/-- An index of the call's own beside another one. -/
structure Two (h : T AObj) (c : Nat) (pa ma pb mb : Nat) (mt : Int) (dim : Nat) (A B : List Rc) : Prop where
  ex : ∃ Ua Ub : Nat → Prop, FlatM h pa ma mt dim A Ua ∧ FlatM h pb mb mt dim B Ub ∧ ¬Ua mb ∧ ¬Ub ma ∧ ma < c ∧ mb < c

theorem FlatM.hm {h : T AObj} {p m dim : Nat} {mt : Int} {M : List Rc} {U : Nat → Prop} (q : FlatM h p m mt dim M U) : ∃ es n, Has h m (.map es n) := by
  obtain ⟨es, n, h1, _⟩ := q.ex
  exact ⟨es, n, h1⟩
theorem notMap {h : T AObj} {b : Nat} {cs : List Value} {m n : Nat} {es : List (Value × Value × Nat)} (h1 : Has h b (.cells cs)) (h2 : Has h m (.map es n)) : b ≠ m := by
  rintro rfl
  unfold Has at h1 h2
  rw [h1] at h2
  cases h2

/-- One is put into one of the two. -/
theorem Two.putA {h : T AObj} {c : Nat} {rl wl : List Nat} (hf : Fresh h c) {pa ma pb mb dim : Nat} {mt : Int} {A B : List Rc} (t : Two h c pa ma pb mb mt dim A B) (id : Int) (hid : -9223372036854775808 ≤ id ∧ id ≤ 9223372036854775807) {bi : Nat} {zs : List Int} (hv : Has h bi (.cells (zs.map (Value.int .i32)))) (hz : zs.length = dim) (hb : Bnd zs) (hd : 1 ≤ dim) (hd' : dim ≤ 1000) :
    ∃ r s', FnTo (Cs smQ) eg 12 [.pointer (some ⟨pa, 0, none⟩), .int .i64 id, .slice (some ⟨bi, 0, none⟩) dim dim] ⟨h, c, rl, wl⟩ r s' ∧ Two s'.h s'.c pa ma pb mb mt dim (putM (mbR id zs) A) B ∧ (∃ es n, Has h ma (.map es n)) ∧ Ext ⟨h, c, rl, wl⟩ s' (fun _ => True) (fun b => b = ma) := by
  obtain ⟨Ua, Ub, qa, qb, u1, u2, l1, l2⟩ := t.ex
  obtain ⟨es, n, hma⟩ := qa.hm
  have hrow : Row h (.slice (some ⟨bi, 0, none⟩) dim dim) dim 1 (zs.map (Value.int .i32)) := .inr ⟨bi, 0, none, dim, _, rfl, hv.cel, subN_all _ _ (by rw [List.length_map]; omega)⟩
  obtain ⟨r, s', e1, e2, e3⟩ := fput_spec (rl := rl) (wl := wl) hf qa id hid hrow hz hb hd hd' (fun b => b = bi) (fun b o sp e => by cases e; rfl) (fun e => notMap hv hma e.symm)
  have hc := e3.c
  simp only at hc
  refine ⟨r, s', e1, ⟨_, Ub, e2, qb.keep hf fun b hb hc => e3.h b hc (fun e => u2 (e ▸ hb)), ?_, u2, by omega, by omega⟩, ⟨es, n, hma⟩, e3.mono (fun _ _ _ => trivial) fun _ _ q => q⟩
  rintro (q | q)
  · exact u1 q
  · omega
theorem Two.swap {h : T AObj} {c : Nat} {pa ma pb mb dim : Nat} {mt : Int} {A B : List Rc} (t : Two h c pa ma pb mb mt dim A B) : Two h c pb mb pa ma mt dim B A := by
  obtain ⟨Ua, Ub, qa, qb, u1, u2, l1, l2⟩ := t.ex
  exact ⟨Ub, Ua, qb, qa, u2, u1, l2, l1⟩
theorem Two.keep {h h' : T AObj} {c c' : Nat} {pa ma pb mb dim : Nat} {mt : Int} {A B : List Rc} (t : Two h c pa ma pb mb mt dim A B) (hf : Fresh h c) (hc : c ≤ c') (k : ∀ b, b < c → h'.get b = h.get b) : Two h' c' pa ma pb mb mt dim A B := by
  obtain ⟨Ua, Ub, qa, qb, u1, u2, l1, l2⟩ := t.ex
  exact ⟨Ua, Ub, qa.keep hf fun b _ hb => k b hb, qb.keep hf fun b _ hb => k b hb, u1, u2, by omega, by omega⟩
end Go.Ab.Seat
end
