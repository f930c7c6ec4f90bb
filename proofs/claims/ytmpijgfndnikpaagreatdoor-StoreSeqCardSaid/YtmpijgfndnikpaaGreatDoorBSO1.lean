/- StoreOwn answers true (the abstract machine). -/
import Derived.Test.YtmpijgfndnikpaaGreatDoorBST6
set_option linter.unusedVariables false
set_option linter.unusedSimpArgs false
namespace Go.Ab.Seat
open Go.Extern Go.Proofs
set_option linter.unusedSimpArgs false
set_option linter.unusedVariables false
set_option maxRecDepth 4000
set_option pp.deepTerms false
set_option pp.deepTerms.threshold 6

theorem put_one (x : Int) (v : Value) : putI .i64 x v 0 [] = ([(.int .i64 x, v, 0)], 1) := rfl
theorem find_one (x : Int) (v : Value) (n : Nat) : findI x [(.int .i64 x, v, n)] = some (0, v) := by unfold findI; rw [if_pos rfl]
theorem keys_one (x : Int) (v : Value) (h1 : -9223372036854775808 ≤ x) (h2 : x ≤ 9223372036854775807) : keyInts [(.int .i64 x, v, 0)] 1 = some [x] := by
  have hw : wfI x = true := by unfold wfI; rw [decide_eq_true h1, decide_eq_true h2]; rfl
  have hi : intOf1 (.int .i64 x) = some x := by unfold intOf1; simp only [hw]
  unfold keyInts
  have : intsOf (mapA (fun e => e.1) [((.int .i64 x : Value), v, 0)]) = some [x] := by
    show intsOf [.int .i64 x] = _
    rw [intsOf_cons, hi]; rfl
  rw [this]
  rfl
theorem sort_one (x : Int) : sortI [x] = [x] := rfl

theorem Row.keepF {h h' : T AObj} {c : Nat} {v : Value} {n k : Nat} {xs : List Value} (x : Row h v n k xs) (hf : Fresh h c) (hk : ∀ b, b < c → h'.get b = h.get b) : Row h' v n k xs := by
  rcases x with x | ⟨b, o, sp, cap, cs, rfl, hc, hs⟩
  · exact .inl x
  · refine .inr ⟨b, o, sp, cap, cs, rfl, ?_, hs⟩
    have := hk b (hc.lt hf)
    unfold Cel Has at hc ⊢
    rw [this]; exact hc

def EO (id : Int) (c b8 : Nat) (v7 : Value) (oa : Option Addr) (n : Nat) (z : Int) (j11 j12 j13 j58 j64 : Value) : L :=
  .cons 0 (.int .i64 id) (.cons 1 (.slice (some ⟨c + 2, 0, none⟩) 3 3) (.cons 4 (.bool false) (.cons 5 (.bool true) (.cons 6 (.pointer (some ⟨c + 1, 0, none⟩)) (.cons 7 v7 (.cons 8 (.pointer (some ⟨b8, 0, none⟩)) (.cons 11 j11 (.cons 12 j12 (.cons 13 j13 (.cons 16 (.bool false) (.cons 31 (.bool false) (.cons 47 (.bool false) (.cons 55 (.slice oa n n) (.cons 56 (.int .i64 (n : Int)) (.cons 57 (.int .i64 z) (.cons 58 j58 (.cons 64 j64 .nil)))))))))))))))))

theorem storeOwn_run (i0 : Int) {a : Option Addr} {n k : Nat} {zs : List Int} (hn : zs.length = n) {h : T AObj} {c : Nat} (hf : Fresh h c) (hg : Glob h) (hx : Row h (.slice a n k) n 1 (zs.map (Value.int .i32))) :
    ∃ v s', FnTo (Cs smQ) eg 12 [.int .i64 i0, .slice a n k] ⟨h, c, [], []⟩ v s' ∧ v = .bool true := by
  have H := stdQ
  have t1 := tmod_lt i0 1000 (by omega)
  have t2 := tmod_lt (i0.tmod 1000 + 1000) 1000 (by omega)
  have t5 : 0 ≤ (i0.tmod 1000 + 1000).tmod 1000 := Int.tmod_nonneg _ (by omega)
  refine Fn.go (H 12 rfl) ex12 fn12 km12 rfl rfl ?_
  intro e he
  (simp only [envOf_eq, keepFrom_cons, keepFrom_nil, flushE_mk, flL_cons, flL_nil, st_cons, st_nil, Nat.testBit, Nat.reduceShiftRight, Nat.reduceAnd, Nat.reduceBNe, Nat.reduceEqDiff, Nat.reduceAdd, ↓reduceIte, reduceCtorEq, Bool.false_eq_true] at he; subst he)
  (repeat (first | (with_reducible refine Then.go ?_) | (with_reducible refine Wx.seq ?_) | (with_reducible refine Wx.reg ?_) | ((with_reducible refine Wseq.nil ?_); intro e he; (simp only [envOf_eq, keepFrom_cons, keepFrom_nil, flushE_mk, flL_cons, flL_nil, st_cons, st_nil, Nat.testBit, Nat.reduceShiftRight, Nat.reduceAnd, Nat.reduceBNe, Nat.reduceEqDiff, Nat.reduceAdd, ↓reduceIte, reduceCtorEq, Bool.false_eq_true] at he; subst he)) | ((with_reducible apply Wseq.as); (focus rfl); (intro v hv; (simp only [ev_tmp, ev_const, ev_global, ev_func, look_if, lk_nil, Nat.reduceEqDiff, eq_self, ↓reduceIte, reduceCtorEq, partsOf_arr, List.map_cons, List.map_nil] at hv); subst hv))))
  refine Wseq.call rfl rfl (begunQ (by ((repeat ((with_reducible apply Fresh.put); (focus omega))); (first | (with_reducible assumption) | (exact Fresh.up (by with_reducible assumption) (by omega))))) hg) ?_
  rintro v h1 c1 rl1 wl1 ⟨rfl, hs⟩
  cases hs
  (repeat (first | (with_reducible refine Then.go ?_) | (with_reducible refine Wx.seq ?_) | (with_reducible refine Wx.skip ?_) | (with_reducible refine Wx.reg ?_) | (refine Wx.condF rfl (by (first | rfl | (simp only [decide_eq_false_iff_not, Bool.not_eq_false', decide_eq_true_eq, Option.isNone_none, Option.isNone_some, Option.isSome_none, Option.isSome_some, beq_self_eq_true, Bool.not_true, Bool.not_false]; first | done | omega))) ?_) | ((with_reducible refine Wseq.nil ?_); intro e he; (simp only [envOf_eq, keepFrom_cons, keepFrom_nil, flushE_mk, flL_cons, flL_nil, st_cons, st_nil, Nat.testBit, Nat.reduceShiftRight, Nat.reduceAnd, Nat.reduceBNe, Nat.reduceEqDiff, Nat.reduceAdd, ↓reduceIte, reduceCtorEq, Bool.false_eq_true] at he; subst he)) | ((with_reducible apply Wseq.mv); (focus rfl); (intro v hv; (simp only [ev_tmp, ev_const, ev_global, ev_func, look_if, lk_nil, Nat.reduceEqDiff, eq_self, ↓reduceIte, reduceCtorEq, partsOf_arr, List.map_cons, List.map_nil] at hv); subst hv)) | ((with_reducible apply Wseq.as); (focus rfl); (intro v hv; (simp only [ev_tmp, ev_const, ev_global, ev_func, look_if, lk_nil, Nat.reduceEqDiff, eq_self, ↓reduceIte, reduceCtorEq, partsOf_arr, List.map_cons, List.map_nil] at hv); subst hv)) | ((with_reducible apply Wseq.stg (op := Op.unOp UnOp.not _ _)); (focus rfl); (focus (exact to_notT rfl))) | ((with_reducible apply Wseq.stg (op := Op.binOp BinOp.add _ _ _ _)); (focus rfl); (focus (exact to_add rfl rfl (by omega) (by omega)))) | ((with_reducible apply Wseq.stg (op := Op.binOp BinOp.rem _ _ _ _)); (focus rfl); (focus (exact to_rem rfl rfl (by decide))))))
  generalize hid : 1 + (i0.tmod 1000 + 1000).tmod 1000 = id
  have hid1 : 1 ≤ id ∧ id ≤ 1000 := by omega
  clear hid t1 t2 t5
  refine Wseq.call rfl rfl (snew_spec H (by ((repeat ((with_reducible apply Fresh.put); (focus omega))); (first | (with_reducible assumption) | (exact Fresh.up (by with_reducible assumption) (by omega)))))) ?_
  rintro v h1 c1 r1 w1 ⟨rfl, q1, e1, x1⟩
  dsimp only at e1 q1
  subst e1
  have f1 : Fresh h1 (c + 2) := x1.fresh
  (repeat (first | (with_reducible refine Then.go ?_) | (with_reducible refine Wx.seq ?_) | (with_reducible refine Wx.reg ?_) | ((with_reducible refine Wseq.nil ?_); intro e he; (simp only [envOf_eq, keepFrom_cons, keepFrom_nil, flushE_mk, flL_cons, flL_nil, st_cons, st_nil, Nat.testBit, Nat.reduceShiftRight, Nat.reduceAnd, Nat.reduceBNe, Nat.reduceEqDiff, Nat.reduceAdd, ↓reduceIte, reduceCtorEq, Bool.false_eq_true] at he; subst he)) | ((with_reducible apply Wseq.mv); (focus rfl); (intro v hv; (simp only [ev_tmp, ev_const, ev_global, ev_func, look_if, lk_nil, Nat.reduceEqDiff, eq_self, ↓reduceIte, reduceCtorEq, partsOf_arr, List.map_cons, List.map_nil] at hv); subst hv)) | ((with_reducible apply Wseq.as); (focus rfl); (intro v hv; (simp only [ev_tmp, ev_const, ev_global, ev_func, look_if, lk_nil, Nat.reduceEqDiff, eq_self, ↓reduceIte, reduceCtorEq, partsOf_arr, List.map_cons, List.map_nil] at hv); subst hv))))
  have hx1 : Row h1 (.slice a n k) n 1 (zs.map (Value.int .i32)) := Row.keepF hx hf fun b hb => x1.get hb (fun q => q)
  refine Wseq.call rfl rfl (vec_spec H (by ((repeat ((with_reducible apply Fresh.put); (focus omega))); (first | (with_reducible assumption) | (exact Fresh.up (by with_reducible assumption) (by omega))))) hn hx1 3 (by omega) (fun _ => True) (fun _ _ => trivial)) ?_
  rintro v h2 c2 r2 w2 ⟨⟨rfl, hV⟩, x2⟩
  have y2 := x2.c
  dsimp only at hV y2
  have f2 : Fresh h2 c2 := x2.fresh
  obtain ⟨z0, z1, z2, hz3⟩ : ∃ z0 z1 z2, vecZ zs 3 = [z0, z1, z2] := ⟨_, _, _, rfl⟩
  rw [hz3] at hV
  have q2 := q1.keep (h' := h2) f1 fun b hb hc => x2.get hc (fun q => q)
  have lV := hV.lt f2
  (repeat (first | (with_reducible refine Then.go ?_) | (with_reducible refine Wx.seq ?_) | (with_reducible refine Wx.reg ?_) | ((with_reducible refine Wseq.nil ?_); intro e he; (simp only [envOf_eq, keepFrom_cons, keepFrom_nil, flushE_mk, flL_cons, flL_nil, st_cons, st_nil, Nat.testBit, Nat.reduceShiftRight, Nat.reduceAnd, Nat.reduceBNe, Nat.reduceEqDiff, Nat.reduceAdd, ↓reduceIte, reduceCtorEq, Bool.false_eq_true] at he; subst he)) | ((with_reducible apply Wseq.mv); (focus rfl); (intro v hv; (simp only [ev_tmp, ev_const, ev_global, ev_func, look_if, lk_nil, Nat.reduceEqDiff, eq_self, ↓reduceIte, reduceCtorEq, partsOf_arr, List.map_cons, List.map_nil] at hv); subst hv)) | ((with_reducible apply Wseq.as); (focus rfl); (intro v hv; (simp only [ev_tmp, ev_const, ev_global, ev_func, look_if, lk_nil, Nat.reduceEqDiff, eq_self, ↓reduceIte, reduceCtorEq, partsOf_arr, List.map_cons, List.map_nil] at hv); subst hv))))
  refine Wseq.call rfl rfl (copy_spec H (v := .slice (some ⟨c + 2, 0, none⟩) 3 3) (n := 3) (xs := [Value.int .i32 z0, .int .i32 z1, .int .i32 z2]) (by ((repeat ((with_reducible apply Fresh.put); (focus omega))); (first | (with_reducible assumption) | (exact Fresh.up (by with_reducible assumption) (by omega))))) (.inr ⟨_, _, _, _, _, rfl, hV.cel, rfl⟩) (by unfold big; omega) (by omega) (fun b => b = c + 2) (by rintro b o sp n' cap' ⟨⟩; rfl)) ?_
  rintro v3 h3 c3 r3 w3 ⟨o3, x3⟩
  have y3 := x3.c
  dsimp only at y3
  have f3 : Fresh h3 c3 := x3.fresh
  have q3 := q2.keep (h' := h3) f2 fun b hb hc => x3.get hc (fun q => q)
  have V3 := x3.hs hV lV (fun q => q)
  rcases o3 with ⟨_, e, _⟩ | ⟨b3, sp3, k3, rfl, hk3, hb3, B3⟩
  · cases e
  have l3 := B3.lt f3
  (repeat (first | (with_reducible refine Then.go ?_) | (with_reducible refine Wx.seq ?_) | (with_reducible refine Wx.reg ?_) | ((with_reducible refine Wseq.nil ?_); intro e he; (simp only [envOf_eq, keepFrom_cons, keepFrom_nil, flushE_mk, flL_cons, flL_nil, st_cons, st_nil, Nat.testBit, Nat.reduceShiftRight, Nat.reduceAnd, Nat.reduceBNe, Nat.reduceEqDiff, Nat.reduceAdd, ↓reduceIte, reduceCtorEq, Bool.false_eq_true] at he; subst he)) | ((with_reducible apply Wseq.mv); (focus rfl); (intro v hv; (simp only [ev_tmp, ev_const, ev_global, ev_func, look_if, lk_nil, Nat.reduceEqDiff, eq_self, ↓reduceIte, reduceCtorEq, partsOf_arr, List.map_cons, List.map_nil] at hv); subst hv)) | ((with_reducible apply Wseq.as); (focus rfl); (intro v hv; (simp only [ev_tmp, ev_const, ev_global, ev_func, look_if, lk_nil, Nat.reduceEqDiff, eq_self, ↓reduceIte, reduceCtorEq, partsOf_arr, List.map_cons, List.map_nil] at hv); subst hv))))
  refine Wseq.call rfl rfl (sput_ok H (by ((repeat ((with_reducible apply Fresh.put); (focus omega))); (first | (with_reducible assumption) | (exact Fresh.up (by with_reducible assumption) (by omega))))) q3 id 4 _ hid1.1 hid1.2 (by decide) (xs := [Value.int .i32 z0, .int .i32 z1, .int .i32 z2]) (.inr ⟨_, _, _, _, _, rfl, B3.cel, rfl⟩) rfl (show 3 ≤ big by unfold big; omega) (fun h => by cases h) (fun b => b = b3) (by rintro b o sp ⟨⟩; rfl) (by omega) (show curV id [] = itv 0 (.slice none 0 0) .empty 0 false from rfl) (by decide)) ?_
  rintro v h4 c4 r4 w4 ⟨rfl, ⟨v4, q4, o4⟩, x4⟩
  have y4 := x4.c
  dsimp only at y4 q4 o4
  have f4 : Fresh h4 c4 := x4.fresh
  have V4 := x4.hs V3 (by omega) (by omega)
  have B4 := x4.hs B3 (by omega) (by omega)
  obtain ⟨a4, k4, rfl⟩ := o4.val
  rw [put_one] at q4
  dsimp only at q4
  (repeat (first | (with_reducible refine Then.go ?_) | (with_reducible refine Wx.seq ?_) | (with_reducible refine Wx.skip ?_) | (with_reducible refine Wx.reg ?_) | (refine Wx.condF rfl (by (first | rfl | (simp only [decide_eq_false_iff_not, Bool.not_eq_false', decide_eq_true_eq, Option.isNone_none, Option.isNone_some, Option.isSome_none, Option.isSome_some, beq_self_eq_true, Bool.not_true, Bool.not_false]; first | done | omega))) ?_) | ((with_reducible refine Wseq.nil ?_); intro e he; (simp only [envOf_eq, keepFrom_cons, keepFrom_nil, flushE_mk, flL_cons, flL_nil, st_cons, st_nil, Nat.testBit, Nat.reduceShiftRight, Nat.reduceAnd, Nat.reduceBNe, Nat.reduceEqDiff, Nat.reduceAdd, ↓reduceIte, reduceCtorEq, Bool.false_eq_true] at he; subst he)) | ((with_reducible apply Wseq.mv); (focus rfl); (intro v hv; (simp only [ev_tmp, ev_const, ev_global, ev_func, look_if, lk_nil, Nat.reduceEqDiff, eq_self, ↓reduceIte, reduceCtorEq, partsOf_arr, List.map_cons, List.map_nil] at hv); subst hv)) | ((with_reducible apply Wseq.stg (op := Op.binOp BinOp.neq _ _ _ _)); (focus rfl); (focus (exact to_neN (un_ rfl) rfl rfl)))))
  ((with_reducible apply Wseq.stg); (focus rfl); (focus (exact to_indexAddr (k := 0) el30 rfl rfl rfl (by omega))))
  (repeat (first | ((with_reducible apply Wseq.stg (op := Op.load _ _)); (focus rfl); (focus (exact to_load (pl_ rfl) rfl (by (repeat (first | (with_reducible exact Has.same.cel) | (with_reducible assumption) | ((with_reducible apply Has.cel); (focus (with_reducible assumption))) | ((with_reducible apply Cel.other); (focus omega))))) (by omega) (by rfl))))))
  ((with_reducible apply Wseq.stg); (focus rfl); (focus (exact to_bin (v := .int .i32 (wrapA .i32 (z0 + 1))) rfl rfl rfl)))
  ((with_reducible apply Wseq.stg); (focus rfl); (focus (exact to_indexAddr (k := 0) el30 rfl rfl rfl (by omega))))
  (repeat (first | (with_reducible refine Then.go ?_) | (with_reducible refine Wx.seq ?_) | (with_reducible refine Wx.reg ?_) | ((with_reducible refine Wseq.nil ?_); intro e he; (simp only [envOf_eq, keepFrom_cons, keepFrom_nil, flushE_mk, flL_cons, flL_nil, st_cons, st_nil, Nat.testBit, Nat.reduceShiftRight, Nat.reduceAnd, Nat.reduceBNe, Nat.reduceEqDiff, Nat.reduceAdd, ↓reduceIte, reduceCtorEq, Bool.false_eq_true] at he; subst he)) | ((with_reducible apply Wseq.mv); (focus rfl); (intro v hv; (simp only [ev_tmp, ev_const, ev_global, ev_func, look_if, lk_nil, Nat.reduceEqDiff, eq_self, ↓reduceIte, reduceCtorEq, partsOf_arr, List.map_cons, List.map_nil] at hv); subst hv)) | ((with_reducible apply Wseq.so); (focus rfl); (focus (exact (sz_ rfl))); (focus rfl); (focus (exact (by (repeat (first | (with_reducible exact Has.same) | (with_reducible assumption) | ((with_reducible apply Has.other); (focus omega))))))); (focus omega); (intro v hv; (simp only [ev_tmp, ev_const, ev_global, ev_func, look_if, lk_nil, Nat.reduceEqDiff, eq_self, ↓reduceIte, reduceCtorEq, partsOf_arr, List.map_cons, List.map_nil] at hv); subst hv); refine ⟨_, _, (by (first | exact cellsA_agg _ | rfl)), rfl, rfl, ?_⟩)))
  have inv : ∀ h' : T AObj, Kp h4 h' c4 (fun b => b = b3) → StoreR h' (c + 1) c [(.int .i64 id, itv id (.slice a4 3 k4) ⟨#[112]⟩ 4 false, 0)] 1 (fun b => c ≤ b ∧ b < c + 2 ∨ c3 ≤ b ∧ b < c4) ∧ Has h' (c + 2) (.cells [.int .i32 z0, .int .i32 z1, .int .i32 z2]) ∧ Own h' 0 (.slice a4 3 k4) 3 [.int .i32 z0, .int .i32 z1, .int .i32 z2] ∧ ∀ b, blkOf (.slice a4 3 k4) = some b → (c ≤ b ∧ b < c + 2 ∨ c3 ≤ b ∧ b < c4) ∧ b ≠ c + 1 ∧ b ≠ c := by
    intro h' K
    refine ⟨q4.keep f4 fun b hb hc => K b hc (by omega), (K _ (by omega) (by omega)).trans V4, (o4.keep fun b hb => ?_).low (Nat.zero_le _), fun b hb => ?_⟩
    · obtain ⟨u1, u2⟩ := o4.blk hb
      exact K b (u2.lt f4) (by omega)
    · obtain ⟨u1, u2⟩ := o4.blk hb
      have u3 := u2.lt f4
      exact ⟨.inr ⟨u1, u3⟩, by omega, by omega⟩
  have insto : ∀ h' : T AObj, Kp h4 h' c4 (fun b => b = b3) → ∀ x ∈ [(⟨id, .slice a4 3 k4, [.int .i32 z0, .int .i32 z1, .int .i32 z2], ⟨#[112]⟩, 4, false⟩ : It)], InStore h' (c + 1) c [(.int .i64 id, itv id (.slice a4 3 k4) ⟨#[112]⟩ 4 false, 0)] (fun b => c ≤ b ∧ b < c + 2 ∨ c3 ≤ b ∧ b < c4) x := by
    intro h' K x hx
    obtain rfl := List.mem_singleton.1 hx
    obtain ⟨_, _, k1, k2⟩ := inv h' K
    exact ⟨0, find_one _ _ _, show 3 ≤ big by unfold big; omega, k1, k2⟩
  have K5 : Kp h4 (h4.set b3 (some (.cells [.int .i32 (wrapA .i32 (z0 + 1)), .int .i32 z1, .int .i32 z2]))) c4 (fun b => b = b3) := (by (repeat (first | (with_reducible exact Kp.refl) | (with_reducible assumption) | ((with_reducible apply Kp.set); (focus (first | (left; omega) | (right; first | exact rfl | assumption | (exact Or.inl (by assumption)) | (exact Or.inr (by assumption)) | (simp; done) | omega)))))))
  obtain ⟨q5, V5, o5, s5⟩ := inv _ K5
  refine Wseq.call rfl rfl (sget_some H (by ((repeat ((with_reducible apply Fresh.put); (focus omega))); (first | (with_reducible assumption) | (exact Fresh.up (by with_reducible assumption) (by omega))))) q5 id (it := ⟨id, .slice a4 3 k4, [.int .i32 z0, .int .i32 z1, .int .i32 z2], ⟨#[112]⟩, 4, false⟩) (find_one _ _ _) rfl (show 3 ≤ big by unfold big; omega) o5 (fun b hb => (s5 b hb).1)) ?_
  rintro v h6 c6 r6 w6 ⟨⟨v6, rfl, o6⟩, x6⟩
  have y6 := x6.c
  dsimp only at y6 o6
  have f6 : Fresh h6 c6 := x6.fresh
  have K6 := Kp.ext (W := fun b => b = b3) (h := h4) (c := c4) K5 x6 (by omega) (fun _ _ q => q.elim)
  obtain ⟨q6, V6, _, _⟩ := inv _ K6
  replace o6 : Own h6 c4 v6 3 [.int .i32 z0, .int .i32 z1, .int .i32 z2] := o6
  rcases o6 with ⟨_, e, _⟩ | ⟨b6, sp6, k6, rfl, hk6, hb6, B6⟩
  · cases e
  have l6 := B6.lt f6
  (repeat (first | (with_reducible refine Then.go ?_) | (with_reducible refine Wx.seq ?_) | (with_reducible refine Wx.reg ?_) | ((with_reducible refine Wseq.nil ?_); intro e he; (simp only [envOf_eq, keepFrom_cons, keepFrom_nil, flushE_mk, flL_cons, flL_nil, st_cons, st_nil, Nat.testBit, Nat.reduceShiftRight, Nat.reduceAnd, Nat.reduceBNe, Nat.reduceEqDiff, Nat.reduceAdd, ↓reduceIte, reduceCtorEq, Bool.false_eq_true] at he; subst he)) | ((with_reducible apply Wseq.mv); (focus rfl); (intro v hv; (simp only [ev_tmp, ev_const, ev_global, ev_func, look_if, lk_nil, Nat.reduceEqDiff, eq_self, ↓reduceIte, reduceCtorEq, partsOf_arr, List.map_cons, List.map_nil] at hv); subst hv)) | ((with_reducible apply Wseq.as); (focus rfl); (intro v hv; (simp only [ev_tmp, ev_const, ev_global, ev_func, look_if, lk_nil, Nat.reduceEqDiff, eq_self, ↓reduceIte, reduceCtorEq, partsOf_arr, List.map_cons, List.map_nil] at hv); subst hv)) | ((with_reducible apply Wseq.so); (focus rfl); (focus (exact (sz_ rfl))); (focus rfl); (focus (exact (by (repeat (first | (with_reducible exact Has.same) | (with_reducible assumption) | ((with_reducible apply Has.other); (focus omega))))))); (focus omega); (intro v hv; (simp only [ev_tmp, ev_const, ev_global, ev_func, look_if, lk_nil, Nat.reduceEqDiff, eq_self, ↓reduceIte, reduceCtorEq, partsOf_arr, List.map_cons, List.map_nil] at hv); subst hv); refine ⟨_, _, (by (first | exact cellsA_agg _ | rfl)), rfl, rfl, ?_⟩) | ((with_reducible apply Wseq.stg (op := Op.fieldAddr _ _ _)); (focus rfl); (focus (exact to_fieldAddr (fa_ rfl) rfl))) | ((with_reducible apply Wseq.stg (op := Op.load _ _)); (focus rfl); (focus (exact to_load (pl_ rfl) rfl (by (repeat (first | (with_reducible exact Has.same.cel) | (with_reducible assumption) | ((with_reducible apply Has.cel); (focus (with_reducible assumption))) | ((with_reducible apply Cel.other); (focus omega))))) (by omega) (by rfl)))) | ((with_reducible apply Wseq.stg (op := Op.alloc _)); (focus rfl); (focus (exact to_alloc (ze_ rfl) (by (first | exact cellsA_agg _ | rfl)) (by ((repeat ((with_reducible apply Fresh.put); (focus omega))); (first | (with_reducible assumption) | (exact Fresh.up (by with_reducible assumption) (by omega)))))))) | ((with_reducible apply Wseq.stg (op := Op.extract _ _)); (focus rfl); (focus (exact to_extract rfl rfl)))))
  refine Wseq.call rfl rfl (eq_spec H (by ((repeat ((with_reducible apply Fresh.put); (focus omega))); (first | (with_reducible assumption) | (exact Fresh.up (by with_reducible assumption) (by omega))))) (n := 3) (zs := [z0, z1, z2]) rfl (.inr ⟨b6, 0, sp6, k6, _, rfl, (Has.other (by omega) (Has.other (by omega) B6)).cel, rfl⟩) (.inr ⟨c + 2, 0, none, 3, _, rfl, (Has.other (by omega) (Has.other (by omega) V6)).cel, rfl⟩) (by unfold big; omega) (fun _ => True) (fun _ _ => trivial)) ?_
  rintro v h7 c7 r7 w7 ⟨rfl, x7⟩
  have y7 := x7.c
  dsimp only at y7
  have f7 : Fresh h7 c7 := x7.fresh
  have K7 := Kp.ext (W := fun b => b = b3) (h := h4) (c := c4) (h1 := (h6.set c6 _).set c6 _) (by (repeat (first | (with_reducible exact Kp.refl) | (with_reducible assumption) | ((with_reducible apply Kp.set); (focus (first | (left; omega) | (right; first | exact rfl | assumption | (exact Or.inl (by assumption)) | (exact Or.inr (by assumption)) | (simp; done) | omega))))))) x7 (by omega) (fun _ _ q => q.elim)
  have B7 := x7.hs (Has.other (by omega) (Has.other (by omega) B6)) (by omega) (fun q => q)
  have G7 := x7.hs (b := c6) Has.same (by omega) (fun q => q)
  (repeat (first | (with_reducible refine Then.go ?_) | (with_reducible refine Wx.seq ?_) | (with_reducible refine Wx.skip ?_) | (with_reducible refine Wx.reg ?_) | (refine Wx.condF rfl (by (first | rfl | (simp only [decide_eq_false_iff_not, Bool.not_eq_false', decide_eq_true_eq, Option.isNone_none, Option.isNone_some, Option.isSome_none, Option.isSome_some, beq_self_eq_true, Bool.not_true, Bool.not_false]; first | done | omega))) ?_) | ((with_reducible refine Wseq.nil ?_); intro e he; (simp only [envOf_eq, keepFrom_cons, keepFrom_nil, flushE_mk, flL_cons, flL_nil, st_cons, st_nil, Nat.testBit, Nat.reduceShiftRight, Nat.reduceAnd, Nat.reduceBNe, Nat.reduceEqDiff, Nat.reduceAdd, ↓reduceIte, reduceCtorEq, Bool.false_eq_true] at he; subst he)) | ((with_reducible apply Wseq.stg (op := Op.fieldAddr _ _ _)); (focus rfl); (focus (exact to_fieldAddr (fa_ rfl) rfl))) | ((with_reducible apply Wseq.stg (op := Op.load _ _)); (focus rfl); (focus (exact to_load (pl_ rfl) rfl (by (repeat (first | (with_reducible exact Has.same.cel) | (with_reducible assumption) | ((with_reducible apply Has.cel); (focus (with_reducible assumption))) | ((with_reducible apply Cel.other); (focus omega))))) (by omega) (by rfl)))) | ((with_reducible apply Wseq.stg (op := Op.unOp UnOp.not _ _)); (focus rfl); (focus (exact to_notT rfl)))))
  ((with_reducible apply Wseq.stg); (focus rfl); (focus (exact to_indexAddr (k := 1) el30 rfl rfl rfl (by omega))))
  (repeat (first | ((with_reducible apply Wseq.stg (op := Op.load _ _)); (focus rfl); (focus (exact to_load (pl_ rfl) rfl (by (repeat (first | (with_reducible exact Has.same.cel) | (with_reducible assumption) | ((with_reducible apply Has.cel); (focus (with_reducible assumption))) | ((with_reducible apply Cel.other); (focus omega))))) (by omega) (by rfl))))))
  ((with_reducible apply Wseq.stg); (focus rfl); (focus (exact to_bin (v := .int .i32 (wrapA .i32 (z1 + 1))) rfl rfl rfl)))
  ((with_reducible apply Wseq.stg); (focus rfl); (focus (exact to_indexAddr (k := 1) el30 rfl rfl rfl (by omega))))
  (repeat (first | (with_reducible refine Then.go ?_) | (with_reducible refine Wx.seq ?_) | (with_reducible refine Wx.reg ?_) | ((with_reducible refine Wseq.nil ?_); intro e he; (simp only [envOf_eq, keepFrom_cons, keepFrom_nil, flushE_mk, flL_cons, flL_nil, st_cons, st_nil, Nat.testBit, Nat.reduceShiftRight, Nat.reduceAnd, Nat.reduceBNe, Nat.reduceEqDiff, Nat.reduceAdd, ↓reduceIte, reduceCtorEq, Bool.false_eq_true] at he; subst he)) | ((with_reducible apply Wseq.mv); (focus rfl); (intro v hv; (simp only [ev_tmp, ev_const, ev_global, ev_func, look_if, lk_nil, Nat.reduceEqDiff, eq_self, ↓reduceIte, reduceCtorEq, partsOf_arr, List.map_cons, List.map_nil] at hv); subst hv)) | ((with_reducible apply Wseq.so); (focus rfl); (focus (exact (sz_ rfl))); (focus rfl); (focus (exact (by (repeat (first | (with_reducible exact Has.same) | (with_reducible assumption) | ((with_reducible apply Has.other); (focus omega))))))); (focus omega); (intro v hv; (simp only [ev_tmp, ev_const, ev_global, ev_func, look_if, lk_nil, Nat.reduceEqDiff, eq_self, ↓reduceIte, reduceCtorEq, partsOf_arr, List.map_cons, List.map_nil] at hv); subst hv); refine ⟨_, _, (by (first | exact cellsA_agg _ | rfl)), rfl, rfl, ?_⟩)))
  have K8 : Kp h4 (h7.set b6 (some (.cells [.int .i32 z0, .int .i32 (wrapA .i32 (z1 + 1)), .int .i32 z2]))) c4 (fun b => b = b3) := (by (repeat (first | (with_reducible exact Kp.refl) | (with_reducible assumption) | ((with_reducible apply Kp.set); (focus (first | (left; omega) | (right; first | exact rfl | assumption | (exact Or.inl (by assumption)) | (exact Or.inr (by assumption)) | (simp; done) | omega)))))))
  obtain ⟨q8, V8, _, _⟩ := inv _ K8
  refine Wseq.call rfl rfl (items_spec (by ((repeat ((with_reducible apply Fresh.put); (focus omega))); (first | (with_reducible assumption) | (exact Fresh.up (by with_reducible assumption) (by omega))))) q8 (keys_one id _ (by omega) (by omega)) (its := [⟨id, .slice a4 3 k4, [.int .i32 z0, .int .i32 z1, .int .i32 z2], ⟨#[112]⟩, 4, false⟩]) (sort_one id) (insto _ K8) (by simp)) ?_
  rintro v h9 c9 r9 w9 ⟨⟨l9, R9, st9⟩, x9⟩
  have y9 := x9.c
  dsimp only at y9 R9
  have f9 : Fresh h9 c9 := x9.fresh
  have K9 := Kp.ext (W := fun b => b = b3) (h := h4) (c := c4) K8 x9 (by omega) (fun _ _ q => q.elim)
  have one : ∀ l : List It, l.map It.strip = [(⟨id, .slice a4 3 k4, [.int .i32 z0, .int .i32 z1, .int .i32 z2], ⟨#[112]⟩, 4, false⟩ : It)].map It.strip → ∃ v, l = [⟨id, v, [.int .i32 z0, .int .i32 z1, .int .i32 z2], ⟨#[112]⟩, 4, false⟩] := by
    intro l hl
    match l, hl with
    | [⟨yid, yv, yxs, yp, ys, yg⟩], e =>
      simp only [List.map_cons, List.map_nil, It.strip, List.cons.injEq, Prod.mk.injEq, and_true] at e
      obtain ⟨rfl, rfl, rfl, rfl, rfl⟩ := e
      exact ⟨yv, rfl⟩
  obtain ⟨yv, rfl⟩ := one l9 st9
  obtain ⟨oa9, rfl⟩ := R9.val
  rcases R9.row with ⟨_, e⟩ | ⟨b9, o9, cs9, e9, B9, s9⟩
  · cases e
  obtain ⟨rfl, _⟩ : oa9 = some ⟨b9, o9, some 5⟩ ∧ True := by
    simp only [Value.slice.injEq] at e9
    exact ⟨e9.1, trivial⟩
  have sub9 := sub_item s9 (i := 0) rfl
  have b9c := R9.blk b9 rfl
  have b9l := B9.lt f9
  have o10 : Own h9 c7 yv 3 [.int .i32 z0, .int .i32 z1, .int .i32 z2] := R9.vec _ (List.mem_singleton.2 rfl)
  have sep10 := R9.sep _ (List.mem_singleton.2 rfl)
  rcases o10 with ⟨_, e, _⟩ | ⟨b10, sp10, k10, rfl, hk10, hb10, B10⟩
  · cases e
  have l10 := B10.lt f9
  have ne10 : b10 ≠ b9 := fun e => sep10 b10 rfl (by rw [e]; rfl)
  (repeat (first | (with_reducible refine Then.go ?_) | (with_reducible refine Wx.block ?_) | ((with_reducible refine Wseq.nil ?_); intro e he; (simp only [envOf_eq, keepFrom_cons, keepFrom_nil, flushE_mk, flL_cons, flL_nil, st_cons, st_nil, Nat.testBit, Nat.reduceShiftRight, Nat.reduceAnd, Nat.reduceBNe, Nat.reduceEqDiff, Nat.reduceAdd, ↓reduceIte, reduceCtorEq, Bool.false_eq_true] at he; subst he)) | ((with_reducible apply Wseq.mv); (focus rfl); (intro v hv; (simp only [ev_tmp, ev_const, ev_global, ev_func, look_if, lk_nil, Nat.reduceEqDiff, eq_self, ↓reduceIte, reduceCtorEq, partsOf_arr, List.map_cons, List.map_nil] at hv); subst hv)) | ((with_reducible apply Wseq.stg (op := Op.call ⟨Callee.builtin Builtin.len, _, _⟩)); (focus rfl); (focus (exact to_lenS (sl_ rfl) rfl)))))
  refine Wx.loopE (fun k1 e s => ∃ (i : Nat) (z : Int) (h' : T AObj) (c' : Nat) (rl' wl' : List Nat) (j11 j12 j13 j58 j64 : Value), e = EO id c c6 (.slice (some ⟨b3, 0, sp3⟩) 3 k3) (some ⟨b9, o9, some 5⟩) 1 z j11 j12 j13 j58 j64 ∧ z = i ∧ s = ⟨h', c', rl', wl'⟩ ∧ Fresh h' c' ∧ c9 ≤ c' ∧ Kp h4 h' c4 (fun b => b = b3) ∧ (i = 0 → Has h' b9 (.cells cs9) ∧ Has h' b10 (.cells [.int .i32 z0, .int .i32 z1, .int .i32 z2])) ∧ i ≤ 1 ∧ k1 = 1 - i) 1 (EO id c c6 (.slice (some ⟨b3, 0, sp3⟩) 3 k3) (some ⟨b9, o9, some 5⟩) 1 0 top top top top top) (by (repeat (first | (with_reducible exact Resp.fn) | (with_reducible apply Resp.then) | (with_reducible apply Resp.out) | (with_reducible apply Resp.round)))) ?_ ?_ ?_
  · unfold EO
    (refine EqK.of ?_ ?_ <;> (repeat (first | (exact all_nil) | ((apply all_cons); (focus rfl)))))
  · exact ⟨0, 0, _, _, _, _, _, _, _, _, _, rfl, rfl, rfl, f9, by omega, K9, fun _ => ⟨B9, B10⟩, by omega, rfl⟩
  · rintro k1 e s ⟨i, z, h11, c11, rl11, wl11, j11, j12, j13, j58, j64, rfl, hz, rfl, f11, y11, K11, hc11, hi1, rfl⟩
    unfold EO
    by_cases hi : i = 0
    · subst hi
      obtain ⟨B9', B10'⟩ := hc11 rfl
      (repeat (first | (with_reducible refine Then.go ?_) | (with_reducible refine Wx.seq ?_) | (with_reducible refine Wx.skip ?_) | (with_reducible refine Wx.block ?_) | (with_reducible refine Wx.reg ?_) | (refine Wx.condT rfl (by (first | rfl | (simp only [decide_eq_true_eq, Bool.not_eq_true', decide_eq_false_iff_not, Option.isNone_none, Option.isNone_some, Option.isSome_none, Option.isSome_some, beq_self_eq_true, Bool.not_true, Bool.not_false]; first | done | omega) | (simp; omega) | (solve | simp [*]) | fail)) ?_) | ((with_reducible refine Wseq.nil ?_); intro e he; (simp only [envOf_eq, keepFrom_cons, keepFrom_nil, flushE_mk, flL_cons, flL_nil, st_cons, st_nil, Nat.testBit, Nat.reduceShiftRight, Nat.reduceAnd, Nat.reduceBNe, Nat.reduceEqDiff, Nat.reduceAdd, ↓reduceIte, reduceCtorEq, Bool.false_eq_true] at he; subst he)) | ((with_reducible apply Wseq.stg (op := Op.binOp BinOp.lss _ _ _ _)); (focus rfl); (focus (exact to_lssT rfl rfl (by omega))))))
      ((with_reducible apply Wseq.stg); (focus rfl); (focus (exact to_indexAddr (k := 0) el83 rfl rfl hz (by omega))))
      ((with_reducible apply Wseq.stg); (focus rfl); (focus (exact to_loadS ag66 rfl B9'.cel (by omega) sub9)))
      (repeat (first | (with_reducible refine Then.go ?_) | (with_reducible refine Wx.seq ?_) | (with_reducible refine Wx.reg ?_) | (refine Wx.condT rfl (by (first | rfl | (simp only [decide_eq_true_eq, Bool.not_eq_true', decide_eq_false_iff_not, Option.isNone_none, Option.isNone_some, Option.isSome_none, Option.isSome_some, beq_self_eq_true, Bool.not_true, Bool.not_false]; first | done | omega) | (simp; omega) | (solve | simp [*]) | fail)) ?_) | ((with_reducible refine Wseq.nil ?_); intro e he; (simp only [envOf_eq, keepFrom_cons, keepFrom_nil, flushE_mk, flL_cons, flL_nil, st_cons, st_nil, Nat.testBit, Nat.reduceShiftRight, Nat.reduceAnd, Nat.reduceBNe, Nat.reduceEqDiff, Nat.reduceAdd, ↓reduceIte, reduceCtorEq, Bool.false_eq_true] at he; subst he)) | ((with_reducible apply Wseq.so); (focus rfl); (focus (exact (sz_ rfl))); (focus rfl); (focus (exact (by (repeat (first | (with_reducible exact Has.same) | (with_reducible assumption) | ((with_reducible apply Has.other); (focus omega))))))); (focus omega); (intro v hv; (simp only [ev_tmp, ev_const, ev_global, ev_func, look_if, lk_nil, Nat.reduceEqDiff, eq_self, ↓reduceIte, reduceCtorEq, partsOf_arr, List.map_cons, List.map_nil] at hv); subst hv); refine ⟨_, _, (by (first | exact cellsA_agg _ | rfl)), rfl, rfl, ?_⟩) | ((with_reducible apply Wseq.stg (op := Op.fieldAddr _ _ _)); (focus rfl); (focus (exact to_fieldAddr (fa_ rfl) rfl))) | ((with_reducible apply Wseq.stg (op := Op.load _ _)); (focus rfl); (focus (exact to_load (pl_ rfl) rfl (by (repeat (first | (with_reducible exact Has.same.cel) | (with_reducible assumption) | ((with_reducible apply Has.cel); (focus (with_reducible assumption))) | ((with_reducible apply Cel.other); (focus omega))))) (by omega) (by rfl)))) | ((with_reducible apply Wseq.stg (op := Op.alloc _)); (focus rfl); (focus (exact to_alloc (ze_ rfl) (by (first | exact cellsA_agg _ | rfl)) (by ((repeat ((with_reducible apply Fresh.put); (focus omega))); (first | (with_reducible assumption) | (exact Fresh.up (by with_reducible assumption) (by omega)))))))) | ((with_reducible apply Wseq.stg (op := Op.call ⟨Callee.builtin Builtin.len, _, _⟩)); (focus rfl); (focus (exact to_lenS (sl_ rfl) rfl))) | ((with_reducible apply Wseq.stg (op := Op.binOp BinOp.eql _ _ _ _)); (focus rfl); (focus (exact to_eqIT rfl rfl (by omega))))))
      ((with_reducible apply Wseq.stg); (focus rfl); (focus (exact to_indexAddr (k := 2) el30 rfl rfl rfl (by omega))))
      (repeat (first | ((with_reducible apply Wseq.stg (op := Op.load _ _)); (focus rfl); (focus (exact to_load (pl_ rfl) rfl (by (repeat (first | (with_reducible exact Has.same.cel) | (with_reducible assumption) | ((with_reducible apply Has.cel); (focus (with_reducible assumption))) | ((with_reducible apply Cel.other); (focus omega))))) (by omega) (by rfl))))))
      ((with_reducible apply Wseq.stg); (focus rfl); (focus (exact to_bin (v := .int .i32 (wrapA .i32 (z2 + 1))) rfl rfl rfl)))
      ((with_reducible apply Wseq.stg); (focus rfl); (focus (exact to_indexAddr (k := 2) el30 rfl rfl rfl (by omega))))
      (repeat (first | (with_reducible refine Then.go ?_) | (with_reducible refine Out.go ?_) | (with_reducible refine Wx.reg ?_) | ((with_reducible refine Wseq.nil ?_); intro e he; (simp only [envOf_eq, keepFrom_cons, keepFrom_nil, flushE_mk, flL_cons, flL_nil, st_cons, st_nil, Nat.testBit, Nat.reduceShiftRight, Nat.reduceAnd, Nat.reduceBNe, Nat.reduceEqDiff, Nat.reduceAdd, ↓reduceIte, reduceCtorEq, Bool.false_eq_true] at he; subst he)) | ((with_reducible apply Wseq.mv); (focus rfl); (intro v hv; (simp only [ev_tmp, ev_const, ev_global, ev_func, look_if, lk_nil, Nat.reduceEqDiff, eq_self, ↓reduceIte, reduceCtorEq, partsOf_arr, List.map_cons, List.map_nil] at hv); subst hv)) | ((with_reducible apply Wseq.so); (focus rfl); (focus (exact (sz_ rfl))); (focus rfl); (focus (exact (by (repeat (first | (with_reducible exact Has.same) | (with_reducible assumption) | ((with_reducible apply Has.other); (focus omega))))))); (focus omega); (intro v hv; (simp only [ev_tmp, ev_const, ev_global, ev_func, look_if, lk_nil, Nat.reduceEqDiff, eq_self, ↓reduceIte, reduceCtorEq, partsOf_arr, List.map_cons, List.map_nil] at hv); subst hv); refine ⟨_, _, (by (first | exact cellsA_agg _ | rfl)), rfl, rfl, ?_⟩) | ((with_reducible apply Wseq.stg (op := Op.binOp BinOp.add _ _ _ _)); (focus rfl); (focus (exact to_add rfl rfl (by omega) (by omega))))))
      refine RoundE.go 0 (EO id c c6 (.slice (some ⟨b3, 0, sp3⟩) 3 k3) (some ⟨b9, o9, some 5⟩) 1 (z + 1) _ _ _ _ _) (by omega) (by (refine EqK.of ?_ ?_ <;> (repeat (first | (exact all_nil) | ((apply all_cons); (focus rfl)))))) ⟨1, z + 1, _, _, _, _, _, _, _, _, _, rfl, by omega, rfl, (by ((repeat ((with_reducible apply Fresh.put); (focus omega))); (first | (with_reducible assumption) | (exact Fresh.up (by with_reducible assumption) (by omega))))), by omega, (by (repeat (first | (with_reducible exact Kp.refl) | (with_reducible assumption) | ((with_reducible apply Kp.set); (focus (first | (left; omega) | (right; first | exact rfl | assumption | (exact Or.inl (by assumption)) | (exact Or.inr (by assumption)) | (simp; done) | omega))))))), (by omega), by omega, rfl⟩
    · obtain rfl : i = 1 := by omega
      (repeat (first | (with_reducible refine Then.go ?_) | (with_reducible refine Then.ex ?_) | (with_reducible refine Out.hit ?_) | (with_reducible refine Wx.seq ?_) | (with_reducible refine Wx.exit ?_) | (with_reducible refine Wx.reg ?_) | (with_reducible refine RoundE.ex ?_) | (refine Wx.condF rfl (by (first | rfl | (simp only [decide_eq_false_iff_not, Bool.not_eq_false', decide_eq_true_eq, Option.isNone_none, Option.isNone_some, Option.isSome_none, Option.isSome_some, beq_self_eq_true, Bool.not_true, Bool.not_false]; first | done | omega))) ?_) | ((with_reducible refine Wseq.nil ?_); intro e he; (simp only [envOf_eq, keepFrom_cons, keepFrom_nil, flushE_mk, flL_cons, flL_nil, st_cons, st_nil, Nat.testBit, Nat.reduceShiftRight, Nat.reduceAnd, Nat.reduceBNe, Nat.reduceEqDiff, Nat.reduceAdd, ↓reduceIte, reduceCtorEq, Bool.false_eq_true] at he; subst he)) | ((with_reducible apply Wseq.mv); (focus rfl); (intro v hv; (simp only [ev_tmp, ev_const, ev_global, ev_func, look_if, lk_nil, Nat.reduceEqDiff, eq_self, ↓reduceIte, reduceCtorEq, partsOf_arr, List.map_cons, List.map_nil] at hv); subst hv)) | ((with_reducible apply Wseq.stg (op := Op.binOp BinOp.lss _ _ _ _)); (focus rfl); (focus (exact to_lssF rfl rfl (by omega))))))
      obtain ⟨q11, V11, _, _⟩ := inv _ K11
      refine Wseq.call rfl rfl (next_spec (by ((repeat ((with_reducible apply Fresh.put); (focus omega))); (first | (with_reducible assumption) | (exact Fresh.up (by with_reducible assumption) (by omega))))) q11 (keys_one id _ (by omega) (by omega)) (its := [⟨id, .slice a4 3 k4, [.int .i32 z0, .int .i32 z1, .int .i32 z2], ⟨#[112]⟩, 4, false⟩]) (sort_one id) (insto _ K11) (by simp) 0) ?_
      rintro v h12 c12 r12 w12 ⟨⟨vv, l12, R12, st12, hr⟩, x12⟩
      have y12 := x12.c
      dsimp only at y12 R12
      have f12 : Fresh h12 c12 := x12.fresh
      obtain ⟨wv, rfl⟩ := one l12 st12
      have hfind : List.find? (nextP 0) [(⟨id, wv, [.int .i32 z0, .int .i32 z1, .int .i32 z2], ⟨#[112]⟩, 4, false⟩ : It)] = some ⟨id, wv, [.int .i32 z0, .int .i32 z1, .int .i32 z2], ⟨#[112]⟩, 4, false⟩ := by
        rw [List.find?_cons]
        unfold nextP
        dsimp only
        rw [decide_eq_true (by omega : (0 : Int) < id)]
        rfl
      rw [hfind] at hr
      dsimp only at hr
      subst hr
      have V12 := x12.hs V11 (by omega) (fun q => q)
      have o12 : Own h12 c11 wv 3 [.int .i32 z0, .int .i32 z1, .int .i32 z2] := R12.vec _ (List.mem_singleton.2 rfl)
      rcases o12 with ⟨_, e, _⟩ | ⟨b12, sp12, k12, rfl, hk12, hb12, B12⟩
      · cases e
      have l12 := B12.lt f12
      (repeat (first | (with_reducible refine Then.go ?_) | (with_reducible refine Wx.seq ?_) | (with_reducible refine Wx.reg ?_) | ((with_reducible refine Wseq.nil ?_); intro e he; (simp only [envOf_eq, keepFrom_cons, keepFrom_nil, flushE_mk, flL_cons, flL_nil, st_cons, st_nil, Nat.testBit, Nat.reduceShiftRight, Nat.reduceAnd, Nat.reduceBNe, Nat.reduceEqDiff, Nat.reduceAdd, ↓reduceIte, reduceCtorEq, Bool.false_eq_true] at he; subst he)) | ((with_reducible apply Wseq.mv); (focus rfl); (intro v hv; (simp only [ev_tmp, ev_const, ev_global, ev_func, look_if, lk_nil, Nat.reduceEqDiff, eq_self, ↓reduceIte, reduceCtorEq, partsOf_arr, List.map_cons, List.map_nil] at hv); subst hv)) | ((with_reducible apply Wseq.as); (focus rfl); (intro v hv; (simp only [ev_tmp, ev_const, ev_global, ev_func, look_if, lk_nil, Nat.reduceEqDiff, eq_self, ↓reduceIte, reduceCtorEq, partsOf_arr, List.map_cons, List.map_nil] at hv); subst hv)) | ((with_reducible apply Wseq.pkT); (focus rfl); (focus rfl); (intro v hv; (simp only [ev_tmp, ev_const, ev_global, ev_func, look_if, lk_nil, Nat.reduceEqDiff, eq_self, ↓reduceIte, reduceCtorEq, partsOf_arr, List.map_cons, List.map_nil] at hv); subst hv)) | ((with_reducible apply Wseq.so); (focus rfl); (focus (exact (sz_ rfl))); (focus rfl); (focus (exact (by (repeat (first | (with_reducible exact Has.same) | (with_reducible assumption) | ((with_reducible apply Has.other); (focus omega))))))); (focus omega); (intro v hv; (simp only [ev_tmp, ev_const, ev_global, ev_func, look_if, lk_nil, Nat.reduceEqDiff, eq_self, ↓reduceIte, reduceCtorEq, partsOf_arr, List.map_cons, List.map_nil] at hv); subst hv); refine ⟨_, _, (by (first | exact cellsA_agg _ | rfl)), rfl, rfl, ?_⟩) | ((with_reducible apply Wseq.stg (op := Op.fieldAddr _ _ _)); (focus rfl); (focus (exact to_fieldAddr (fa_ rfl) rfl))) | ((with_reducible apply Wseq.stg (op := Op.load _ _)); (focus rfl); (focus (exact to_load (pl_ rfl) rfl (by (repeat (first | (with_reducible exact Has.same.cel) | (with_reducible assumption) | ((with_reducible apply Has.cel); (focus (with_reducible assumption))) | ((with_reducible apply Cel.other); (focus omega))))) (by omega) (by rfl)))) | ((with_reducible apply Wseq.stg (op := Op.alloc _)); (focus rfl); (focus (exact to_alloc (ze_ rfl) (by (first | exact cellsA_agg _ | rfl)) (by ((repeat ((with_reducible apply Fresh.put); (focus omega))); (first | (with_reducible assumption) | (exact Fresh.up (by with_reducible assumption) (by omega)))))))) | ((with_reducible apply Wseq.stg (op := Op.extract _ _)); (focus rfl); (focus (exact to_extract rfl rfl))) | ((with_reducible apply Wseq.stg (op := Op.binOp BinOp.eql _ _ _ _)); (focus rfl); (focus (exact to_eqI rfl rfl)))))
      refine Wseq.call rfl rfl (eq_spec H (by ((repeat ((with_reducible apply Fresh.put); (focus omega))); (first | (with_reducible assumption) | (exact Fresh.up (by with_reducible assumption) (by omega))))) (n := 3) (zs := [z0, z1, z2]) rfl (.inr ⟨b12, 0, sp12, k12, _, rfl, (Has.other (by omega) (Has.other (by omega) B12)).cel, rfl⟩) (.inr ⟨c + 2, 0, none, 3, _, rfl, (Has.other (by omega) (Has.other (by omega) V12)).cel, rfl⟩) (by unfold big; omega) (fun _ => True) (fun _ _ => trivial)) ?_
      rintro v h13 c13 r13 w13 ⟨rfl, x13⟩
      (repeat (first | (with_reducible refine Then.go ?_) | (with_reducible refine Wx.ret ?_) | ((with_reducible refine Wseq.nil ?_); intro e he; (simp only [envOf_eq, keepFrom_cons, keepFrom_nil, flushE_mk, flL_cons, flL_nil, st_cons, st_nil, Nat.testBit, Nat.reduceShiftRight, Nat.reduceAnd, Nat.reduceBNe, Nat.reduceEqDiff, Nat.reduceAdd, ↓reduceIte, reduceCtorEq, Bool.false_eq_true] at he; subst he)) | ((with_reducible apply Wseq.as); (focus rfl); (intro v hv; (simp only [ev_tmp, ev_const, ev_global, ev_func, look_if, lk_nil, Nat.reduceEqDiff, eq_self, ↓reduceIte, reduceCtorEq, partsOf_arr, List.map_cons, List.map_nil] at hv); subst hv)) | ((with_reducible apply Wseq.pkT); (focus rfl); (focus rfl); (intro v hv; (simp only [ev_tmp, ev_const, ev_global, ev_func, look_if, lk_nil, Nat.reduceEqDiff, eq_self, ↓reduceIte, reduceCtorEq, partsOf_arr, List.map_cons, List.map_nil] at hv); subst hv))))
      exact ⟨.inr rfl, Wres.one rfl rfl⟩
end Go.Ab.Seat
