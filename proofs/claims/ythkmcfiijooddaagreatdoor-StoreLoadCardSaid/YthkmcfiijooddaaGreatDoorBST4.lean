import Derived.Test.YthkmcfiijooddaaGreatDoorBST2
set_option linter.unusedVariables false
set_option linter.unusedSimpArgs false
section
/- Stores: all items, in order (the abstract machine). -/
namespace Go.Ab.Seat
open Go.Extern Go.Proofs
set_option linter.unusedSimpArgs false
set_option linter.unusedVariables false
set_option maxRecDepth 4000
set_option pp.deepTerms false
set_option pp.deepTerms.threshold 6
variable {sm : Nat → Option (List Value → M Value)}

/-- A map's keys, in order. -/
theorem sorted_none {h : T AObj} {c b m n : Nat} {rl wl : List Nat} {es : List (Value × Value × Nat)} (hf : Fresh h c) (hb : Has h b (.cells [.map (some m)])) (hm : Has h m (.map es n)) (hk : keyInts es n = some []) :
    ∃ v s', FnTo (Cs smQ) eg 63 [.func (.func 102) #[] ⟨[.pointer (some ⟨b, 0, none⟩)]⟩] ⟨h, c, rl, wl⟩ v s' ∧ (v = .slice none 0 0 ∧ s' = ⟨h, c, m :: b :: rl, wl⟩) := by
  refine ⟨_, _, ⟨0, ?_⟩, rfl, rfl⟩
  have hs : (Cs smQ).sm 63 = some (sumSorted kindOf) := rfl
  unfold callF
  rw [hs]
  show sumSorted kindOf _ _ = _
  unfold sumSorted
  have e1 : iterOf kindOf [.func (.func 102) #[] ⟨[.pointer (some ⟨b, 0, none⟩)]⟩] = some (102, true, b, 0) := rfl
  rw [e1, bind_run (lift_run (a := (102, true, b, 0)) rfl)]
  dsimp only
  rw [bind_run (getCells_run hb.cel (hb.lt hf))]
  have e2 : nth [Value.map (some m)] 0 = some (.map (some m)) := rfl
  rw [e2, bind_run (lift_run (a := Value.map (some m)) rfl)]
  unfold seqInts
  dsimp only
  rw [bind_run (show ((M.lift (mapAt (Value.map (some m)))).bind mapInts) _ = some ([], ⟨h, c, m :: b :: rl, wl⟩) from by
    have e3 : mapAt (Value.map (some m)) = some (some m) := rfl
    rw [e3, bind_run (lift_run (a := some m) rfl)]
    unfold mapInts
    dsimp only
    rw [bind_run (getMap_run hm (hm.lt hf))]
    exact lift_run hk)]
  rfl

theorem mapA_eq {α β : Type} (f : α → β) (l : List α) : mapA f l = l.map f := by
  induction l with
  | nil => rfl
  | cons x xs ih => show f x :: mapA f xs = _; rw [ih]; rfl

theorem sorted_some {h : T AObj} {c b m n : Nat} {rl wl : List Nat} {es : List (Value × Value × Nat)} {x : Int} {xs : List Int} (hf : Fresh h c) (hb : Has h b (.cells [.map (some m)])) (hm : Has h m (.map es n)) (hk : keyInts es n = some (x :: xs)) (hl : (x :: xs).length ≤ 1000000) :
    ∃ v s', FnTo (Cs smQ) eg 63 [.func (.func 102) #[] ⟨[.pointer (some ⟨b, 0, none⟩)]⟩] ⟨h, c, rl, wl⟩ v s' ∧ (v = .slice (some ⟨c, 0, some 1⟩) (x :: xs).length (x :: xs).length ∧ s' = ⟨h.set c (some (.cells ((sortI (x :: xs)).map fun n => Value.int .i64 n))), c + 1, m :: b :: rl, wl⟩) := by
  refine ⟨_, _, ⟨0, ?_⟩, rfl, rfl⟩
  have hs : (Cs smQ).sm 63 = some (sumSorted kindOf) := rfl
  unfold callF
  rw [hs]
  show sumSorted kindOf _ _ = _
  unfold sumSorted
  have e1 : iterOf kindOf [.func (.func 102) #[] ⟨[.pointer (some ⟨b, 0, none⟩)]⟩] = some (102, true, b, 0) := rfl
  rw [e1, bind_run (lift_run (a := (102, true, b, 0)) rfl)]
  dsimp only
  rw [bind_run (getCells_run hb.cel (hb.lt hf))]
  have e2 : nth [Value.map (some m)] 0 = some (.map (some m)) := rfl
  rw [e2, bind_run (lift_run (a := Value.map (some m)) rfl)]
  unfold seqInts
  dsimp only
  rw [bind_run (show ((M.lift (mapAt (Value.map (some m)))).bind mapInts) _ = some (x :: xs, ⟨h, c, m :: b :: rl, wl⟩) from by
    have e3 : mapAt (Value.map (some m)) = some (some m) := rfl
    rw [e3, bind_run (lift_run (a := some m) rfl)]
    unfold mapInts
    dsimp only
    rw [bind_run (getMap_run hm (hm.lt hf))]
    exact lift_run hk)]
  unfold giveInts
  dsimp only
  rw [show Nat.ble (len (x :: xs)) 1000000 = true from by rw [len_eq]; rw [Nat.ble_eq]; exact hl]
  dsimp only
  rw [bind_run (newCells_run hf), mapA_eq, len_eq]
  rfl

theorem keys_spec (H : Std sm) {h : T AObj} {c m : Nat} {rl wl : List Nat} (hf : Fresh h c) :
    ∃ v s', FnTo (Cs sm) eg 64 [.map (some m)] ⟨h, c, rl, wl⟩ v s' ∧ (v = .func (.func 102) #[] ⟨[.pointer (some ⟨c, 0, none⟩)]⟩ ∧ s' = ⟨h.set c (some (.cells [.map (some m)])), c + 1, rl, wl⟩) := by
  refine Fn.go (H 64 rfl) ex64 fn64 km64 rfl rfl ?_
  intro e he
  (simp only [ke, Nat.testBit, Nat.reduceShiftRight, Nat.reduceAnd, Nat.reduceBNe, Nat.reduceEqDiff, Nat.reduceAdd, ↓reduceIte, reduceCtorEq, Bool.false_eq_true] at he; subst he)
  (repeat (first | (with_reducible refine Then.go ?_) | (with_reducible refine Wx.seq ?_) | (with_reducible refine Wx.ret ?_) | (with_reducible refine Wx.reg ?_) | ((with_reducible refine Wseq.nil ?_); intro e he; (simp only [ke, Nat.testBit, Nat.reduceShiftRight, Nat.reduceAnd, Nat.reduceBNe, Nat.reduceEqDiff, Nat.reduceAdd, ↓reduceIte, reduceCtorEq, Bool.false_eq_true] at he; subst he)) | ((with_reducible apply Wseq.as); rfl; (intro v hv; (simp only [kv, Nat.reduceEqDiff, eq_self, ↓reduceIte, reduceCtorEq, List.map_cons, List.map_nil] at hv); subst hv)) | ((with_reducible apply Wseq.bx); rfl; exact (by ((repeat ((with_reducible apply Fresh.put); omega)); ((with_reducible assumption)))); (intro v hv; (simp only [kv, Nat.reduceEqDiff, eq_self, ↓reduceIte, reduceCtorEq, List.map_cons, List.map_nil] at hv); subst hv); refine ⟨_, (by ((exact cellsA_agg _))), ?_⟩) | ((with_reducible apply Wseq.stg (op := Op.makeFunc _ _ _)); rfl; exact to_makeFunc rfl rfl)))
  exact ⟨.inr rfl, Wres.one rfl ⟨rfl, rfl⟩⟩
end Go.Ab.Seat
end
section
/- Stores: all items, in order: the loop (the abstract machine). -/
namespace Go.Ab.Seat
open Go.Extern Go.Proofs
set_option linter.unusedSimpArgs false
set_option linter.unusedVariables false
set_option maxRecDepth 4000
set_option pp.deepTerms false
set_option pp.deepTerms.threshold 6
variable {sm : Nat → Option (List Value → M Value)}

def It.cells (x : It) : List Value := [.int .i64 x.id, x.vec, .string x.pay, .int .i64 x.seq, .bool x.gone]
def flatI (l : List It) : List Value := l.flatMap It.cells
theorem flatI_len (l : List It) : (flatI l).length = l.length * 5 := by
  induction l with
  | nil => rfl
  | cons c l ih => simp only [flatI, List.flatMap_cons, List.length_append, List.length_cons] at ih ⊢; rw [ih]; simp [It.cells]; omega
def It.strip (x : It) : Int × List Value × ByteArray × Int × Bool := (x.id, x.xs, x.pay, x.seq, x.gone)

def IRow (h : T AObj) (v : Value) (l : List It) : Prop :=
  (v = .slice none 0 0 ∧ l = []) ∨ ∃ b o cs, v = .slice (some ⟨b, o, some 5⟩) l.length l.length ∧ Has h b (.cells cs) ∧ subN o (l.length * 5) cs = some (flatI l)

/-- Items of the call's own. -/
structure ItemsR (h : T AObj) (c0 : Nat) (v : Value) (l : List It) : Prop where
  row : IRow h v l
  blk : ∀ b, blkOf v = some b → c0 ≤ b
  vec : ∀ x ∈ l, Own h c0 x.vec x.xs.length x.xs
  sep : ∀ x ∈ l, ∀ b, blkOf x.vec = some b → blkOf v ≠ some b

theorem ItemsR.val {h : T AObj} {c0 : Nat} {v : Value} {l : List It} (x : ItemsR h c0 v l) : ∃ a, v = .slice a l.length l.length := by
  rcases x.row with ⟨rfl, rfl⟩ | ⟨b, o, cs, rfl, _⟩
  · exact ⟨_, rfl⟩
  · exact ⟨_, rfl⟩

theorem ItemsR.keep {h h' : T AObj} {c c0 : Nat} {v : Value} {l : List It} (x : ItemsR h c0 v l) (hf : Fresh h c) (k : ∀ b, c0 ≤ b → b < c → h'.get b = h.get b) : ItemsR h' c0 v l := by
  refine ⟨?_, x.blk, fun y hy => (x.vec y hy).keep fun b hb => k b ((x.vec y hy).blk hb).1 (((x.vec y hy).blk hb).2.lt hf), x.sep⟩
  rcases x.row with r | ⟨b, o, cs, rfl, h1, h2⟩
  · exact .inl r
  · exact .inr ⟨b, o, cs, rfl, (k b (x.blk b rfl) (h1.lt hf)).trans h1, h2⟩

def EI (p : Nat) (v : Value) (oa : Option Addr) (k : Nat) (z : Int) (j5 j16 : Value) : L :=
  .cons 0 (.pointer (some ⟨p, 0, none⟩)) (.cons 2 (.slice none 0 0) (.cons 3 v (.cons 5 j5 (.cons 7 (.bool false) (.cons 13 (.slice oa k k) (.cons 14 (.int .i64 (k : Int)) (.cons 15 (.int .i64 z) (.cons 16 j16 .nil))))))))

/-- What an item is in a store. -/
def InStore (h : T AObj) (p m : Nat) (es : List (Value × Value × Nat)) (U : Nat → Prop) (x : It) : Prop :=
  ∃ i, findI x.id es = some (i, x.val) ∧ x.xs.length ≤ bigV ∧ Own h 0 x.vec x.xs.length x.xs ∧ ∀ b, blkOf x.vec = some b → U b ∧ b ≠ p ∧ b ≠ m

/-- The ids' row, and the rest that the loop keeps. -/
def IdRow (h : T AObj) (c : Nat) (oa : Option Addr) (its : List It) (v : Value) : Prop :=
  ∀ j x, its[j]? = some x → ∃ ci cs, oa = some ⟨ci, 0, some 1⟩ ∧ c ≤ ci ∧ Has h ci (.cells cs) ∧ nth cs (0 + j * 1) = some (.int .i64 x.id) ∧ blkOf v ≠ some ci

theorem items_spec {h : T AObj} {c : Nat} {rl wl : List Nat} (hf : Fresh h c) {p m n : Nat} {es : List (Value × Value × Nat)} {U : Nat → Prop} (q : StoreR h p m es n U) {ids : List Int} {its : List It} (hk : keyInts es n = some ids) (hs : sortI ids = its.map It.id) (hits : ∀ x ∈ its, InStore h p m es U x) (hl : its.length ≤ 1000000) :
    ∃ r s', FnTo (Cs smQ) eg 23 [.pointer (some ⟨p, 0, none⟩)] ⟨h, c, rl, wl⟩ r s' ∧ (∃ l, ItemsR s'.h c r l ∧ l.map It.strip = its.map It.strip) ∧ Ext ⟨h, c, rl, wl⟩ s' U (fun _ => False) := by
  have H := stdQ
  have hp1 := q.ptr
  have hm1 := q.map
  have hU := q.pU
  have hU' := q.mU
  have hpc := hp1.lt hf
  have hmc := hm1.lt hf
  have hlen : ids.length = its.length := by rw [← (sortI_perm ids).length_eq, hs, List.length_map]
  refine Fn.go (H 23 rfl) ex23 fn23 km23 rfl rfl ?_
  intro e he
  (simp only [ke, Nat.testBit, Nat.reduceShiftRight, Nat.reduceAnd, Nat.reduceBNe, Nat.reduceEqDiff, Nat.reduceAdd, ↓reduceIte, reduceCtorEq, Bool.false_eq_true] at he; subst he)
  (repeat (first | (with_reducible refine Then.go ?_) | (with_reducible refine Wx.seq ?_) | (with_reducible refine Wx.skip ?_) | (with_reducible refine Wx.reg ?_) | (refine Wx.condF rfl (by rfl) ?_) | ((with_reducible refine Wseq.nil ?_); intro e he; (simp only [ke, Nat.testBit, Nat.reduceShiftRight, Nat.reduceAnd, Nat.reduceBNe, Nat.reduceEqDiff, Nat.reduceAdd, ↓reduceIte, reduceCtorEq, Bool.false_eq_true] at he; subst he)) | ((with_reducible apply Wseq.mv); rfl; (intro v hv; (simp only [kv, Nat.reduceEqDiff, eq_self, ↓reduceIte, reduceCtorEq, List.map_cons, List.map_nil] at hv); subst hv)) | ((with_reducible apply Wseq.as); rfl; (intro v hv; (simp only [kv, Nat.reduceEqDiff, eq_self, ↓reduceIte, reduceCtorEq, List.map_cons, List.map_nil] at hv); subst hv)) | ((with_reducible apply Wseq.stg (op := Op.fieldAddr _ _ _)); rfl; exact to_fieldAddr (fa_ rfl) rfl) | ((with_reducible apply Wseq.stg (op := Op.load _ _)); rfl; exact to_load (pl_ rfl) rfl (by (repeat ((apply Has.cel; assumption)))) (by omega) (by rfl)) | ((with_reducible apply Wseq.stg (op := Op.nilCheck _)); rfl; exact to_nilCheck rfl) | ((with_reducible apply Wseq.stg (op := Op.binOp BinOp.eql _ _ _ _)); rfl; exact to_eqP (un_ rfl) rfl rfl)))
  refine Wseq.call rfl rfl (keys_spec H (by ((repeat (apply Fresh.put; omega)); ((assumption))))) ?_
  rintro v1 h1 c1 r1 w1 ⟨rfl, e1⟩
  cases e1
  cases ids with
  | nil =>
    obtain rfl : its = [] := by cases its with | nil => rfl | cons _ _ => simp at hlen
    refine Wseq.call rfl rfl (sorted_none (by ((repeat (apply Fresh.put; omega)); ((exact Fresh.up (by assumption) (by omega))))) (by (repeat ((exact Has.same)))) (by (repeat (first | (assumption) | (apply Has.other; omega)))) hk) ?_
    rintro v1 h1 c1 r1 w1 ⟨rfl, e1⟩
    cases e1
    (repeat (first | (with_reducible refine Then.go ?_) | (with_reducible refine Wx.block ?_) | ((with_reducible refine Wseq.nil ?_); intro e he; (simp only [ke, Nat.testBit, Nat.reduceShiftRight, Nat.reduceAnd, Nat.reduceBNe, Nat.reduceEqDiff, Nat.reduceAdd, ↓reduceIte, reduceCtorEq, Bool.false_eq_true] at he; subst he)) | ((with_reducible apply Wseq.mv); rfl; (intro v hv; (simp only [kv, Nat.reduceEqDiff, eq_self, ↓reduceIte, reduceCtorEq, List.map_cons, List.map_nil] at hv); subst hv)) | ((with_reducible apply Wseq.stg (op := Op.call ⟨Callee.builtin Builtin.len, _, _⟩)); rfl; exact to_lenS (sl_ rfl) rfl)))
    refine Wx.loop1 ?_
    (repeat (first | (with_reducible refine Then.go ?_) | (with_reducible refine Then.ex ?_) | (with_reducible refine Out.hit ?_) | (with_reducible refine Wx.seq ?_) | (with_reducible refine Wx.exit ?_) | (with_reducible refine Wx.ret ?_) | (with_reducible refine Wx.reg ?_) | (refine Wx.condF rfl (by rfl) ?_) | ((with_reducible refine Wseq.nil ?_); intro e he; (simp only [ke, Nat.testBit, Nat.reduceShiftRight, Nat.reduceAnd, Nat.reduceBNe, Nat.reduceEqDiff, Nat.reduceAdd, ↓reduceIte, reduceCtorEq, Bool.false_eq_true] at he; subst he)) | ((with_reducible apply Wseq.mv); rfl; (intro v hv; (simp only [kv, Nat.reduceEqDiff, eq_self, ↓reduceIte, reduceCtorEq, List.map_cons, List.map_nil] at hv); subst hv)) | ((with_reducible apply Wseq.as); rfl; (intro v hv; (simp only [kv, Nat.reduceEqDiff, eq_self, ↓reduceIte, reduceCtorEq, List.map_cons, List.map_nil] at hv); subst hv)) | ((with_reducible apply Wseq.stg (op := Op.binOp BinOp.lss _ _ _ _)); rfl; exact to_lssF rfl rfl (by omega))))
    refine ⟨.inr rfl, Wres.one rfl ⟨⟨[], ⟨.inl ⟨rfl, rfl⟩, (by rintro b ⟨⟩), (by intro x hx; cases hx), (by intro x hx; cases hx)⟩, rfl⟩, ?_⟩⟩
    (dsimp only; exact Ext.of (by omega) (by ((repeat (apply Fresh.put; omega)); ((exact Fresh.up (by assumption) (by omega))))) (by (repeat (first | (exact Kp.refl) | (apply Kp.set; (focus (left; omega)))))) (by (repeat (first | (exact Lg.nil) | (apply Lg.cons; (focus (first | (left; omega) | (right; (assumption)))))))) (by (repeat ((exact Lg.nil)))))
  | cons x0 xs0 =>
    refine Wseq.call rfl rfl (sorted_some (by ((repeat (apply Fresh.put; omega)); ((exact Fresh.up (by assumption) (by omega))))) (by (repeat ((exact Has.same)))) (by (repeat (first | (assumption) | (apply Has.other; omega)))) hk (by omega)) ?_
    rintro v1 h1 c1 r1 w1 ⟨rfl, e1⟩
    cases e1
    rw [hs, hlen]
    (repeat (first | (with_reducible refine Then.go ?_) | (with_reducible refine Wx.block ?_) | ((with_reducible refine Wseq.nil ?_); intro e he; (simp only [ke, Nat.testBit, Nat.reduceShiftRight, Nat.reduceAnd, Nat.reduceBNe, Nat.reduceEqDiff, Nat.reduceAdd, ↓reduceIte, reduceCtorEq, Bool.false_eq_true] at he; subst he)) | ((with_reducible apply Wseq.mv); rfl; (intro v hv; (simp only [kv, Nat.reduceEqDiff, eq_self, ↓reduceIte, reduceCtorEq, List.map_cons, List.map_nil] at hv); subst hv)) | ((with_reducible apply Wseq.stg (op := Op.call ⟨Callee.builtin Builtin.len, _, _⟩)); rfl; exact to_lenS (sl_ rfl) rfl)))
    refine Wx.loopE (fun k1 e s => ∃ (i : Nat) (z : Int) (h' : T AObj) (c' : Nat) (rl' wl' : List Nat) (v : Value) (l : List It) (j5 j16 : Value), e = EI p v (some ⟨c + 1, 0, some 1⟩) its.length z j5 j16 ∧ z = i ∧ s = ⟨h', c', rl', wl'⟩ ∧ Fresh h' c' ∧ c + 2 ≤ c' ∧ Kp h h' c (fun _ => False) ∧ IdRow h' (c + 1) (some ⟨c + 1, 0, some 1⟩) its v ∧ ItemsR h' c v l ∧ l.map It.strip = (its.take i).map It.strip ∧ i ≤ its.length ∧ Lg c U rl' ∧ Lg c (fun _ => False) wl' ∧ k1 = its.length - i) its.length (EI p (.slice none 0 0) (some ⟨c + 1, 0, some 1⟩) its.length 0 top top) (by (repeat (first | (exact Resp.fn) | (apply Resp.then) | (apply Resp.out)))) ?_ ?_ ?_
    · unfold EI
      (refine EqK.of ?_ ?_ <;> (repeat (first | (exact all_nil) | (apply all_cons; rfl))))
    · refine ⟨0, 0, _, _, _, _, _, [], _, _, rfl, rfl, rfl, (by ((repeat (apply Fresh.put; omega)); ((exact Fresh.up (by assumption) (by omega))))), by omega, (by (repeat (first | (exact Kp.refl) | (apply Kp.set; (focus (left; omega)))))), ?_, ⟨.inl ⟨rfl, rfl⟩, (by rintro b ⟨⟩), (by intro x hx; cases hx), (by intro x hx; cases hx)⟩, rfl, by omega, (by (repeat (first | (exact Lg.nil) | (apply Lg.cons; (focus (first | (left; omega) | (right; (assumption)))))))), (by (repeat ((exact Lg.nil)))), rfl⟩
      intro j x hx
      refine ⟨c + 1, _, rfl, by omega, Has.same, ?_, (by rintro ⟨⟩)⟩
      rw [nth_eq, show 0 + j * 1 = j by omega]
      simp [hx]
    · rintro k1 e s ⟨i, z, h2, c2, rl2, wl2, v, l, j5, j16, rfl, hz, rfl, hf2, hc2, hkp, hid, hR, hl2, hiN, hlr, hlw, rfl⟩
      obtain ⟨va, rfl⟩ := hR.val
      have hll : l.length = i := by
        have := congrArg List.length hl2
        simp only [List.length_map, List.length_take] at this
        omega
      unfold EI
      by_cases hi : i < its.length
      · have hx := List.getElem?_eq_getElem hi
        generalize its[i] = x at hx
        obtain ⟨ci, cs0, hoa, hcc, hci, hnx, hne⟩ := hid i x hx
        obtain ⟨fi, hfind, hxl, hown, hsep⟩ := hits x (List.mem_of_getElem? hx)
        cases hoa
        obtain ⟨tid, tvec, txs, tpay, tseq, tg⟩ := x
        dsimp only at hnx hfind hxl hown hsep
        obtain ⟨a0, k0, rfl⟩ := hown.val
        have hcur : curV tid es = itv tid (.slice a0 txs.length k0) tpay tseq tg := by unfold curV; rw [hfind]
        have hz0 : txs.length = 0 → a0 = none → k0 = 0 := by
          intro e1 e2
          rcases hown with ⟨e3, _⟩ | ⟨b, sp, cap, e3, _⟩
          · simp only [Value.slice.injEq] at e3; exact e3.2.2
          · simp only [Value.slice.injEq] at e3; rw [e2] at e3; cases e3.1
        have q2 := q.keep (h' := h2) hf fun b _ hb => hkp b hb (fun q => q)
        have hp2 := q2.ptr
        have hm2 := q2.map
        have hci2 := hci.lt hf2
        have hrow2 := (hown.keep (h' := h2) fun b hb => hkp b ((hown.blk hb).2.lt hf) (fun q => q)).row rfl
        have hbs : ∀ b o sp, a0 = some ⟨b, o, sp⟩ → U b := by
          rintro b o sp rfl
          exact (hsep b rfl).1
        have hl3 : (l.map It.strip) ++ [It.strip ⟨tid, .slice a0 txs.length k0, txs, tpay, tseq, tg⟩] = (its.take (i + 1)).map It.strip := by
          rw [List.take_add_one, hx, List.map_append, ← hl2]; rfl
        rcases hR.row with ⟨hv, rfl⟩ | ⟨b0, o0, cs1, hv, hb0, hs0⟩
        · cases hv
          (repeat (first | (with_reducible refine Then.go ?_) | (with_reducible refine Wx.seq ?_) | (with_reducible refine Wx.skip ?_) | (with_reducible refine Wx.block ?_) | (with_reducible refine Wx.reg ?_) | (refine Wx.condT rfl (by rfl) ?_) | ((with_reducible refine Wseq.nil ?_); intro e he; (simp only [ke, Nat.testBit, Nat.reduceShiftRight, Nat.reduceAnd, Nat.reduceBNe, Nat.reduceEqDiff, Nat.reduceAdd, ↓reduceIte, reduceCtorEq, Bool.false_eq_true] at he; subst he)) | ((with_reducible apply Wseq.stg (op := Op.binOp BinOp.lss _ _ _ _)); rfl; exact to_lssT rfl rfl (by omega))))
          ((with_reducible apply Wseq.stg); rfl; exact to_indexAddr (k := i) el45 rfl rfl hz (by omega))
          ((with_reducible apply Wseq.stg); rfl; exact to_load (pl_ rfl) rfl hci.cel (by omega) hnx)
          (repeat (first | (with_reducible refine Then.go ?_) | (with_reducible refine Wx.reg ?_) | ((with_reducible refine Wseq.nil ?_); intro e he; (simp only [ke, Nat.testBit, Nat.reduceShiftRight, Nat.reduceAnd, Nat.reduceBNe, Nat.reduceEqDiff, Nat.reduceAdd, ↓reduceIte, reduceCtorEq, Bool.false_eq_true] at he; subst he)) | ((with_reducible apply Wseq.mv); rfl; (intro v hv; (simp only [kv, Nat.reduceEqDiff, eq_self, ↓reduceIte, reduceCtorEq, List.map_cons, List.map_nil] at hv); subst hv)) | ((with_reducible apply Wseq.as); rfl; (intro v hv; (simp only [kv, Nat.reduceEqDiff, eq_self, ↓reduceIte, reduceCtorEq, List.map_cons, List.map_nil] at hv); subst hv)) | ((with_reducible apply Wseq.stg (op := Op.fieldAddr _ _ _)); rfl; exact to_fieldAddr (fa_ rfl) rfl) | ((with_reducible apply Wseq.stg (op := Op.load _ _)); rfl; exact to_load (pl_ rfl) rfl (by (repeat ((apply Has.cel; assumption)))) (by omega) (by rfl)) | ((with_reducible apply Wseq.stg (op := Op.nilCheck _)); rfl; exact to_nilCheck rfl)))
          ((with_reducible apply Wseq.stg); rfl; exact to_lookup mi113 ze59 rfl rfl hm2 (by omega) q.keys hcur)
          refine Wseq.call rfl rfl (scopied_spec H (by ((repeat (apply Fresh.put; omega)); ((assumption)))) tid tpay tseq tg (n := txs.length) (xs := txs) hrow2 hxl hz0 U hbs) ?_
          rintro v' h3 c3 r3 w3 ⟨v2, rfl, hown2, hext⟩
          have q3 := hext.c
          dsimp only at q3
          have hf3 : Fresh h3 c3 := hext.fresh
          obtain ⟨a2, k2, rfl⟩ := hown2.val
          have kp := Kp.ext (W := fun _ => False) (h := h) (c := c) (by (repeat ((assumption)))) hext (by omega) (fun _ _ q => q)
          have lr := Lg.extR (R := U) (c := c) (by (repeat (first | (assumption) | (apply Lg.cons; (focus (first | (left; omega) | (right; (assumption)))))))) hext (fun _ _ q => q)
          have lw := Lg.extW (W := fun _ => False) (c := c) (by (repeat ((assumption)))) hext (fun _ _ q => q)
          have gci := hext.hs (b := c + 1) hci (by omega) (fun q => q)
          (repeat (((with_reducible apply Wseq.bs); rfl; exact (ro_ rfl); rfl; exact (by ((repeat (apply Fresh.put; omega)); ((assumption)))); (intro v hv; (simp only [kv, Nat.reduceEqDiff, eq_self, ↓reduceIte, reduceCtorEq, List.map_cons, List.map_nil] at hv); subst hv); refine ⟨_, rfl, ?_⟩)))
          ((with_reducible apply Wseq.stg); rfl; exact to_appNil ro49 sl49 rfl rfl (by (repeat ((exact Has.same.cel)))) (by omega) (by rfl) (by decide) (by ((repeat (apply Fresh.put; omega)); ((exact Fresh.up (by assumption) (by omega))))))
          (repeat (first | (with_reducible refine Then.go ?_) | (with_reducible refine Out.go ?_) | (with_reducible refine Wx.reg ?_) | ((with_reducible refine Wseq.nil ?_); intro e he; (simp only [ke, Nat.testBit, Nat.reduceShiftRight, Nat.reduceAnd, Nat.reduceBNe, Nat.reduceEqDiff, Nat.reduceAdd, ↓reduceIte, reduceCtorEq, Bool.false_eq_true] at he; subst he)) | ((with_reducible apply Wseq.mv); rfl; (intro v hv; (simp only [kv, Nat.reduceEqDiff, eq_self, ↓reduceIte, reduceCtorEq, List.map_cons, List.map_nil] at hv); subst hv)) | ((with_reducible apply Wseq.as); rfl; (intro v hv; (simp only [kv, Nat.reduceEqDiff, eq_self, ↓reduceIte, reduceCtorEq, List.map_cons, List.map_nil] at hv); subst hv)) | ((with_reducible apply Wseq.stg (op := Op.binOp BinOp.add _ _ _ _)); rfl; exact to_add rfl rfl (by omega) (by omega))))
          refine RoundE.go (its.length - (i + 1)) (EI p (.slice (some ⟨c3 + 1, 0, some 5⟩) 1 1) _ _ (z + 1) _ _) (by omega) (by (refine EqK.of ?_ ?_ <;> (repeat (first | (exact all_nil) | (apply all_cons; rfl))))) ⟨i + 1, z + 1, _, _, _, _, _, [⟨tid, .slice a2 txs.length k2, txs, tpay, tseq, tg⟩], _, _, rfl, by omega, rfl, (by ((repeat (apply Fresh.put; omega)); ((exact Fresh.up (by assumption) (by omega))))), by omega, (by (repeat (first | (assumption) | (apply Kp.set; (focus (left; omega)))))), ?_, ⟨.inr ⟨c3 + 1, 0, _, rfl, (by (repeat ((exact Has.same)))), rfl⟩, ?_, ?_, ?_⟩, ?_, by omega, (by (repeat (first | (assumption) | (apply Lg.cons; (focus (left; omega)))))), (by (repeat ((assumption)))), rfl⟩
          · intro j y hy
            obtain ⟨ci', cs', e1, e2, e3, e4, _⟩ := hid j y hy
            cases e1
            refine ⟨_, _, rfl, e2, Has.other (by omega) (Has.other (by omega) (hext.hs e3 (by omega) (fun q => q))), e4, ?_⟩
            rintro ⟨⟩
            omega
          · rintro b ⟨⟩
            dsimp only
            omega
          · intro y hy
            obtain rfl := List.mem_singleton.1 hy
            exact ((hown2.new hf3).new hf3.new).low (by omega)
          · intro y hy b hb
            obtain rfl := List.mem_singleton.1 hy
            have r3 := (hown2.blk hb).2.lt hf3
            rintro ⟨⟩
            (try dsimp only at r3); omega
          · rw [← hl3]; rfl
        · obtain ⟨rfl, hv2⟩ : va = some ⟨b0, o0, some 5⟩ ∧ True := by
            simp only [Value.slice.injEq] at hv
            exact ⟨hv.1, trivial⟩
          have hb0c := hR.blk b0 rfl
          have hb0l := hb0.lt hf2
          have hbne : c + 1 ≠ b0 := fun e => hne (by rw [e]; rfl)
          (repeat (first | (with_reducible refine Then.go ?_) | (with_reducible refine Wx.seq ?_) | (with_reducible refine Wx.skip ?_) | (with_reducible refine Wx.block ?_) | (with_reducible refine Wx.reg ?_) | (refine Wx.condT rfl (by rfl) ?_) | ((with_reducible refine Wseq.nil ?_); intro e he; (simp only [ke, Nat.testBit, Nat.reduceShiftRight, Nat.reduceAnd, Nat.reduceBNe, Nat.reduceEqDiff, Nat.reduceAdd, ↓reduceIte, reduceCtorEq, Bool.false_eq_true] at he; subst he)) | ((with_reducible apply Wseq.stg (op := Op.binOp BinOp.lss _ _ _ _)); rfl; exact to_lssT rfl rfl (by omega))))
          ((with_reducible apply Wseq.stg); rfl; exact to_indexAddr (k := i) el45 rfl rfl hz (by omega))
          ((with_reducible apply Wseq.stg); rfl; exact to_load (pl_ rfl) rfl hci.cel (by omega) hnx)
          (repeat (first | (with_reducible refine Then.go ?_) | (with_reducible refine Wx.reg ?_) | ((with_reducible refine Wseq.nil ?_); intro e he; (simp only [ke, Nat.testBit, Nat.reduceShiftRight, Nat.reduceAnd, Nat.reduceBNe, Nat.reduceEqDiff, Nat.reduceAdd, ↓reduceIte, reduceCtorEq, Bool.false_eq_true] at he; subst he)) | ((with_reducible apply Wseq.mv); rfl; (intro v hv; (simp only [kv, Nat.reduceEqDiff, eq_self, ↓reduceIte, reduceCtorEq, List.map_cons, List.map_nil] at hv); subst hv)) | ((with_reducible apply Wseq.as); rfl; (intro v hv; (simp only [kv, Nat.reduceEqDiff, eq_self, ↓reduceIte, reduceCtorEq, List.map_cons, List.map_nil] at hv); subst hv)) | ((with_reducible apply Wseq.stg (op := Op.fieldAddr _ _ _)); rfl; exact to_fieldAddr (fa_ rfl) rfl) | ((with_reducible apply Wseq.stg (op := Op.load _ _)); rfl; exact to_load (pl_ rfl) rfl (by (repeat ((apply Has.cel; assumption)))) (by omega) (by rfl)) | ((with_reducible apply Wseq.stg (op := Op.nilCheck _)); rfl; exact to_nilCheck rfl)))
          ((with_reducible apply Wseq.stg); rfl; exact to_lookup mi113 ze59 rfl rfl hm2 (by omega) q.keys hcur)
          refine Wseq.call rfl rfl (scopied_spec H (by ((repeat (apply Fresh.put; omega)); ((assumption)))) tid tpay tseq tg (n := txs.length) (xs := txs) hrow2 hxl hz0 U hbs) ?_
          rintro v' h3 c3 r3 w3 ⟨v2, rfl, hown2, hext⟩
          have q3 := hext.c
          dsimp only at q3
          have hf3 : Fresh h3 c3 := hext.fresh
          obtain ⟨a2, k2, rfl⟩ := hown2.val
          have kp := Kp.ext (W := fun _ => False) (h := h) (c := c) (by (repeat ((assumption)))) hext (by omega) (fun _ _ q => q)
          have lr := Lg.extR (R := U) (c := c) (by (repeat (first | (assumption) | (apply Lg.cons; (focus (first | (left; omega) | (right; (assumption)))))))) hext (fun _ _ q => q)
          have lw := Lg.extW (W := fun _ => False) (c := c) (by (repeat ((assumption)))) hext (fun _ _ q => q)
          have gci := hext.hs (b := c + 1) hci (by omega) (fun q => q)
          have gb0 := hext.hs (b := b0) hb0 (by omega) (fun q => q)
          (repeat (((with_reducible apply Wseq.bs); rfl; exact (ro_ rfl); rfl; exact (by ((repeat (apply Fresh.put; omega)); ((assumption)))); (intro v hv; (simp only [kv, Nat.reduceEqDiff, eq_self, ↓reduceIte, reduceCtorEq, List.map_cons, List.map_nil] at hv); subst hv); refine ⟨_, rfl, ?_⟩)))
          ((with_reducible apply Wseq.stg); rfl; exact to_appG ro49 sl49 rfl rfl (by (repeat ((exact Has.same.cel)))) (by omega) (by rfl) (by omega) (by unfold big; omega) (by (repeat (first | (assumption) | (apply Has.other; omega)))) (by omega) hs0 (all_cons rfl (all_cons rfl (all_cons rfl (all_cons rfl (all_cons rfl all_nil))))) (by ((repeat (apply Fresh.put; omega)); ((exact Fresh.up (by assumption) (by omega))))))
          (repeat (first | (with_reducible refine Then.go ?_) | (with_reducible refine Out.go ?_) | (with_reducible refine Wx.reg ?_) | ((with_reducible refine Wseq.nil ?_); intro e he; (simp only [ke, Nat.testBit, Nat.reduceShiftRight, Nat.reduceAnd, Nat.reduceBNe, Nat.reduceEqDiff, Nat.reduceAdd, ↓reduceIte, reduceCtorEq, Bool.false_eq_true] at he; subst he)) | ((with_reducible apply Wseq.mv); rfl; (intro v hv; (simp only [kv, Nat.reduceEqDiff, eq_self, ↓reduceIte, reduceCtorEq, List.map_cons, List.map_nil] at hv); subst hv)) | ((with_reducible apply Wseq.as); rfl; (intro v hv; (simp only [kv, Nat.reduceEqDiff, eq_self, ↓reduceIte, reduceCtorEq, List.map_cons, List.map_nil] at hv); subst hv)) | ((with_reducible apply Wseq.stg (op := Op.binOp BinOp.add _ _ _ _)); rfl; exact to_add rfl rfl (by omega) (by omega))))
          refine RoundE.go (its.length - (i + 1)) (EI p (.slice (some ⟨c3 + 1, 0, some 5⟩) (l.length + 1) (l.length + 1)) _ _ (z + 1) _ _) (by omega) (by (refine EqK.of ?_ ?_ <;> (repeat (first | (exact all_nil) | (apply all_cons; rfl))))) ⟨i + 1, z + 1, _, _, _, _, _, l ++ [⟨tid, .slice a2 txs.length k2, txs, tpay, tseq, tg⟩], _, _, rfl, by omega, rfl, (by ((repeat (apply Fresh.put; omega)); ((exact Fresh.up (by assumption) (by omega))))), by omega, (by (repeat (first | (assumption) | (apply Kp.set; (focus (left; omega)))))), ?_, ⟨.inr ⟨c3 + 1, 0, _, by simp, (by (repeat ((exact Has.same)))), ?_⟩, ?_, ?_, ?_⟩, ?_, by omega, (by (repeat (first | (assumption) | (apply Lg.cons; (focus (left; omega)))))), (by (repeat (first | (assumption) | (apply Lg.cons; (focus (left; omega)))))), rfl⟩
          · intro j y hy
            obtain ⟨ci', cs', e1, e2, e3, e4, _⟩ := hid j y hy
            cases e1
            refine ⟨_, _, rfl, e2, Has.other (by omega) (Has.other (by omega) (Has.other (by omega) (hext.hs e3 (by omega) (fun q => q)))), e4, ?_⟩
            rintro ⟨⟩
            omega
          · rw [show flatI (l ++ [⟨tid, .slice a2 txs.length k2, txs, tpay, tseq, tg⟩]) = flatI l ++ [.int .i64 tid, .slice a2 txs.length k2, .string tpay, .int .i64 tseq, .bool tg] by simp [flatI, It.cells]]
            exact subN_all _ _ (by simp [flatI_len]; omega)
          · rintro b ⟨⟩
            dsimp only
            omega
          · intro y hy
            rcases List.mem_append.1 hy with hy | hy
            · refine (hR.vec y hy).keep fun b hb => ?_
              have u1 := hR.sep y hy b hb
              have u2 := ((hR.vec y hy).blk hb).2.lt hf2
              have u3 : b ≠ b0 := fun e => u1 (by rw [e]; rfl)
              rw [get_other (by omega), get_other u3, get_other (by omega), hext.get (by omega) (fun q => q)]
            · obtain rfl := List.mem_singleton.1 hy
              refine (hown2.low (c1 := c) (by omega)).keep fun b hb => ?_
              obtain ⟨u1, u2⟩ := hown2.blk hb
              have u3 := u2.lt hf3
              rw [get_other (by omega), get_other (by omega), get_other (by omega)]
          · intro y hy b hb
            rcases List.mem_append.1 hy with hy | hy
            · have u2 := ((hR.vec y hy).blk hb).2.lt hf2
              rintro ⟨⟩
              (try dsimp only at u2); omega
            · obtain rfl := List.mem_singleton.1 hy
              have r3 := (hown2.blk hb).2.lt hf3
              rintro ⟨⟩
              (try dsimp only at r3); omega
          · rw [← hl3, List.map_append]; rfl
      · (repeat (first | (with_reducible refine Then.go ?_) | (with_reducible refine Then.ex ?_) | (with_reducible refine Out.hit ?_) | (with_reducible refine Wx.seq ?_) | (with_reducible refine Wx.exit ?_) | (with_reducible refine Wx.ret ?_) | (with_reducible refine Wx.reg ?_) | (with_reducible refine RoundE.ex ?_) | (refine Wx.condF rfl (by rfl) ?_) | ((with_reducible refine Wseq.nil ?_); intro e he; (simp only [ke, Nat.testBit, Nat.reduceShiftRight, Nat.reduceAnd, Nat.reduceBNe, Nat.reduceEqDiff, Nat.reduceAdd, ↓reduceIte, reduceCtorEq, Bool.false_eq_true] at he; subst he)) | ((with_reducible apply Wseq.mv); rfl; (intro v hv; (simp only [kv, Nat.reduceEqDiff, eq_self, ↓reduceIte, reduceCtorEq, List.map_cons, List.map_nil] at hv); subst hv)) | ((with_reducible apply Wseq.as); rfl; (intro v hv; (simp only [kv, Nat.reduceEqDiff, eq_self, ↓reduceIte, reduceCtorEq, List.map_cons, List.map_nil] at hv); subst hv)) | ((with_reducible apply Wseq.stg (op := Op.binOp BinOp.lss _ _ _ _)); rfl; exact to_lssF rfl rfl (by omega))))
        refine ⟨.inr rfl, Wres.one rfl ⟨⟨l, hR, ?_⟩, ?_⟩⟩
        · rw [hl2, List.take_of_length_le (by omega)]
        · (dsimp only; exact Ext.of (by omega) (by ((repeat (apply Fresh.put; omega)); ((assumption)))) (by (repeat ((assumption)))) (by (repeat ((assumption)))) (by (repeat ((assumption)))))
end Go.Ab.Seat
end
