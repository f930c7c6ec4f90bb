/- Stores: all items, in order (the abstract machine). -/
import Derived.Test.YthkmcfiijooddaaGreatDoorBST2
set_option linter.unusedVariables false
set_option linter.unusedSimpArgs false
namespace Go.Ab.Seat
open Go.Extern Go.Proofs
set_option linter.unusedSimpArgs false
set_option linter.unusedVariables false
set_option maxRecDepth 4000
set_option pp.deepTerms false
set_option pp.deepTerms.threshold 6
variable {sm : Nat → Option (List Value → M Value)}

/-- A map's keys, in order. -/
theorem sorted_none {h : T AObj} {c b m n : Nat} {rl wl : List Nat} {es : List (Value × Value × Nat)} (hf : Fresh h c) (hb : Has h b (.cells [.map (some m)])) (hm : Has h m (.map es n)) (hk : keyInts es n = some []) :
    ∃ v s', FnTo (Cs smQ) eg 63 [.func (.func 102) #[] ⟨[.pointer (some ⟨b, 0, none⟩)]⟩] ⟨h, c, rl, wl⟩ v s' ∧ (v = .slice none 0 0 ∧ s' = ⟨h, c, m :: b :: rl, wl⟩) := by
  refine ⟨_, _, ⟨0, ?_⟩, rfl, rfl⟩
  have hs : (Cs smQ).sm 63 = some (sumSorted kindOf) := rfl
  unfold callF
  rw [hs]
  show sumSorted kindOf _ _ = _
  unfold sumSorted
  have e1 : iterOf kindOf [.func (.func 102) #[] ⟨[.pointer (some ⟨b, 0, none⟩)]⟩] = some (102, true, b, 0) := rfl
  rw [e1, bind_run (lift_run (a := (102, true, b, 0)) rfl)]
  dsimp only
  rw [bind_run (getCells_run hb.cel (hb.lt hf))]
  have e2 : nth [Value.map (some m)] 0 = some (.map (some m)) := rfl
  rw [e2, bind_run (lift_run (a := Value.map (some m)) rfl)]
  unfold seqInts
  dsimp only
  rw [bind_run (show ((M.lift (mapAt (Value.map (some m)))).bind mapInts) _ = some ([], ⟨h, c, m :: b :: rl, wl⟩) from by
    have e3 : mapAt (Value.map (some m)) = some (some m) := rfl
    rw [e3, bind_run (lift_run (a := some m) rfl)]
    unfold mapInts
    dsimp only
    rw [bind_run (getMap_run hm (hm.lt hf))]
    exact lift_run hk)]
  rfl

theorem mapA_eq {α β : Type} (f : α → β) (l : List α) : mapA f l = l.map f := by
  induction l with
  | nil => rfl
  | cons x xs ih => show f x :: mapA f xs = _; rw [ih]; rfl

theorem sorted_some {h : T AObj} {c b m n : Nat} {rl wl : List Nat} {es : List (Value × Value × Nat)} {x : Int} {xs : List Int} (hf : Fresh h c) (hb : Has h b (.cells [.map (some m)])) (hm : Has h m (.map es n)) (hk : keyInts es n = some (x :: xs)) (hl : (x :: xs).length ≤ 1000000) :
    ∃ v s', FnTo (Cs smQ) eg 63 [.func (.func 102) #[] ⟨[.pointer (some ⟨b, 0, none⟩)]⟩] ⟨h, c, rl, wl⟩ v s' ∧ (v = .slice (some ⟨c, 0, some 1⟩) (x :: xs).length (x :: xs).length ∧ s' = ⟨h.set c (some (.cells ((sortI (x :: xs)).map fun n => Value.int .i64 n))), c + 1, m :: b :: rl, wl⟩) := by
  refine ⟨_, _, ⟨0, ?_⟩, rfl, rfl⟩
  have hs : (Cs smQ).sm 63 = some (sumSorted kindOf) := rfl
  unfold callF
  rw [hs]
  show sumSorted kindOf _ _ = _
  unfold sumSorted
  have e1 : iterOf kindOf [.func (.func 102) #[] ⟨[.pointer (some ⟨b, 0, none⟩)]⟩] = some (102, true, b, 0) := rfl
  rw [e1, bind_run (lift_run (a := (102, true, b, 0)) rfl)]
  dsimp only
  rw [bind_run (getCells_run hb.cel (hb.lt hf))]
  have e2 : nth [Value.map (some m)] 0 = some (.map (some m)) := rfl
  rw [e2, bind_run (lift_run (a := Value.map (some m)) rfl)]
  unfold seqInts
  dsimp only
  rw [bind_run (show ((M.lift (mapAt (Value.map (some m)))).bind mapInts) _ = some (x :: xs, ⟨h, c, m :: b :: rl, wl⟩) from by
    have e3 : mapAt (Value.map (some m)) = some (some m) := rfl
    rw [e3, bind_run (lift_run (a := some m) rfl)]
    unfold mapInts
    dsimp only
    rw [bind_run (getMap_run hm (hm.lt hf))]
    exact lift_run hk)]
  unfold giveInts
  dsimp only
  rw [show Nat.ble (len (x :: xs)) 1000000 = true from by rw [len_eq]; rw [Nat.ble_eq]; exact hl]
  dsimp only
  rw [bind_run (newCells_run hf), mapA_eq, len_eq]
  rfl

theorem keys_spec (H : Std sm) {h : T AObj} {c m : Nat} {rl wl : List Nat} (hf : Fresh h c) :
    ∃ v s', FnTo (Cs sm) eg 64 [.map (some m)] ⟨h, c, rl, wl⟩ v s' ∧ (v = .func (.func 102) #[] ⟨[.pointer (some ⟨c, 0, none⟩)]⟩ ∧ s' = ⟨h.set c (some (.cells [.map (some m)])), c + 1, rl, wl⟩) := by
  refine Fn.go (H 64 rfl) ex64 fn64 km64 rfl rfl ?_
  intro e he
  (simp only [envOf_eq, keepFrom_cons, keepFrom_nil, flushE_mk, flL_cons, flL_nil, st_cons, st_nil, Nat.testBit, Nat.reduceShiftRight, Nat.reduceAnd, Nat.reduceBNe, Nat.reduceEqDiff, Nat.reduceAdd, ↓reduceIte, reduceCtorEq, Bool.false_eq_true] at he; subst he)
  (repeat (first | (with_reducible refine Then.go ?_) | (with_reducible refine Wx.seq ?_) | (with_reducible refine Wx.ret ?_) | (with_reducible refine Wx.reg ?_) | ((with_reducible refine Wseq.nil ?_); intro e he; (simp only [envOf_eq, keepFrom_cons, keepFrom_nil, flushE_mk, flL_cons, flL_nil, st_cons, st_nil, Nat.testBit, Nat.reduceShiftRight, Nat.reduceAnd, Nat.reduceBNe, Nat.reduceEqDiff, Nat.reduceAdd, ↓reduceIte, reduceCtorEq, Bool.false_eq_true] at he; subst he)) | ((with_reducible apply Wseq.as); (focus rfl); (intro v hv; (simp only [ev_tmp, ev_const, ev_global, ev_func, look_if, lk_nil, Nat.reduceEqDiff, eq_self, ↓reduceIte, reduceCtorEq, partsOf_arr, List.map_cons, List.map_nil] at hv); subst hv)) | ((with_reducible apply Wseq.bx); (focus rfl); (focus (exact (by ((repeat ((with_reducible apply Fresh.put); (focus omega))); (first | (with_reducible assumption) | (exact Fresh.up (by with_reducible assumption) (by omega))))))); (intro v hv; (simp only [ev_tmp, ev_const, ev_global, ev_func, look_if, lk_nil, Nat.reduceEqDiff, eq_self, ↓reduceIte, reduceCtorEq, partsOf_arr, List.map_cons, List.map_nil] at hv); subst hv); refine ⟨_, (by (first | exact cellsA_agg _ | rfl)), ?_⟩) | ((with_reducible apply Wseq.stg (op := Op.makeFunc _ _ _)); (focus rfl); (focus (exact to_makeFunc rfl rfl)))))
  exact ⟨.inr rfl, Wres.one rfl ⟨rfl, rfl⟩⟩
end Go.Ab.Seat
