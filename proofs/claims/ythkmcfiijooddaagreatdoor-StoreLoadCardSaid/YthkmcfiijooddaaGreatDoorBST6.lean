import Derived.Test.YthkmcfiijooddaaGreatDoorBST4
set_option linter.unusedVariables false
set_option linter.unusedSimpArgs false
section
/- Vectors: alike, cut to size; stores: the next one (the abstract machine). -/
namespace Go.Ab.Seat
open Go.Extern Go.Proofs
set_option linter.unusedSimpArgs false
set_option linter.unusedVariables false
set_option maxRecDepth 4000
set_option pp.deepTerms false
set_option pp.deepTerms.threshold 6
variable {sm : Nat → Option (List Value → M Value)}

theorem rowCell {h : T AObj} {oa : Option Addr} {n cap k : Nat} {xs : List Value} (hr : Row h (.slice oa n cap) n k xs) {j : Nat} {x : Value} (hj : j < n * k) (hx : xs[j]? = some x) :
    ∃ b o sp cs, oa = some ⟨b, o, sp⟩ ∧ Cel h b cs ∧ nth cs (o + j) = some x := by
  rcases hr with ⟨rfl, rfl, _⟩ | ⟨b, o, sp, cap', cs, e, hc, hs⟩
  · simp at hx
  · cases e
    refine ⟨b, o, sp, cs, rfl, hc, ?_⟩
    rw [nth_eq, ← (subN_some _ _ _ _ hs).2.2 j hj]
    exact hx

theorem Row.keepR {h h' : T AObj} {v : Value} {n k : Nat} {xs : List Value} (x : Row h v n k xs) (hk : ∀ b, blkOf v = some b → h'.get b = h.get b) : Row h' v n k xs := by
  rcases x with x | ⟨b, o, sp, cap, cs, rfl, hc, hs⟩
  · exact .inl x
  · refine .inr ⟨b, o, sp, cap, cs, rfl, ?_, hs⟩
    have := hk b rfl
    unfold Cel Has at hc ⊢
    rw [this]; exact hc

end Go.Ab.Seat
end
section
/- Stores: the next one; del (the abstract machine). -/
namespace Go.Ab.Seat
open Go.Extern Go.Proofs
set_option linter.unusedSimpArgs false
set_option linter.unusedVariables false
set_option maxRecDepth 4000
set_option pp.deepTerms false
set_option pp.deepTerms.threshold 6
variable {sm : Nat → Option (List Value → M Value)}

theorem flatI_get {l : List It} {i : Nat} {x : It} (hx : l[i]? = some x) : ∃ a b, flatI l = a ++ (x.cells ++ b) ∧ a.length = i * 5 := by
  obtain ⟨hi, rfl⟩ := List.getElem?_eq_some_iff.1 hx
  refine ⟨flatI (l.take i), flatI (l.drop (i + 1)), ?_, ?_⟩
  · have : l = l.take i ++ (l[i] :: l.drop (i + 1)) := by simp
    unfold flatI
    conv => lhs; rw [this]
    rw [List.flatMap_append, List.flatMap_cons]
  · rw [flatI_len, List.length_take]
    congr 1
    omega

theorem sub_item {l : List It} {i o : Nat} {cs : List Value} {x : It} (h : subN o (l.length * 5) cs = some (flatI l)) (hx : l[i]? = some x) : subN (o + i * 5) 5 cs = some x.cells := by
  obtain ⟨a, b, h1, h2⟩ := flatI_get hx
  have hl := congrArg List.length h1
  rw [flatI_len, List.length_append, h2, List.length_append] at hl
  have h5 : x.cells.length = 5 := rfl
  rw [h1, show l.length * 5 = i * 5 + (5 + b.length) by omega] at h
  have h3 := (subN_app h h2).2
  exact (subN_app h3 h5).1

/-- After an id, not gone. -/
def nextP (after : Int) (x : It) : Bool := decide (after < x.id) && !x.gone

theorem find_none {p : It → Bool} {l : List It} (h : ∀ x ∈ l, p x = false) : l.find? p = none := by
  rw [List.find?_eq_none]
  intro x hx
  rw [h x hx]; simp

theorem find_at {p : It → Bool} {l : List It} {i : Nat} {x : It} (hx : l[i]? = some x) (h : ∀ y ∈ l.take i, p y = false) (hp : p x = true) : l.find? p = some x := by
  obtain ⟨hi, rfl⟩ := List.getElem?_eq_some_iff.1 hx
  have : l = l.take i ++ (l[i] :: l.drop (i + 1)) := by simp
  conv => lhs; rw [this]
  rw [List.find?_append, find_none h, List.find?_cons, hp]; rfl

def EN (p c : Nat) (after : Int) (oa : Option Addr) (n : Nat) (z : Int) (j7 j12 j23 : Value) : L :=
  .cons 0 (.pointer (some ⟨p, 0, none⟩)) (.cons 1 (.int .i64 after) (.cons 4 (.pointer (some ⟨c, 0, none⟩)) (.cons 5 (.bool false) (.cons 7 j7 (.cons 9 (.slice oa n n) (.cons 10 (.int .i64 (n : Int)) (.cons 11 (.int .i64 z) (.cons 12 j12 (.cons 23 j23 .nil)))))))))

theorem next_spec {h : T AObj} {c : Nat} {rl wl : List Nat} (hf : Fresh h c) {p m n : Nat} {es : List (Value × Value × Nat)} {U : Nat → Prop} (q : StoreR h p m es n U) {ids : List Int} {its : List It} (hk : keyInts es n = some ids) (hs : sortI ids = its.map It.id) (hits : ∀ x ∈ its, InStore h p m es U x) (hl : its.length ≤ 1000000) (after : Int) :
    ∃ r s', FnTo (Cs smQ) eg 30 [.pointer (some ⟨p, 0, none⟩), .int .i64 after] ⟨h, c, rl, wl⟩ r s' ∧ (∃ v l, ItemsR s'.h c v l ∧ l.map It.strip = its.map It.strip ∧ r = (match l.find? (nextP after) with | some x => .tuple #[x.val, .bool true] | none => .tuple #[it0, .bool false])) ∧ Ext ⟨h, c, rl, wl⟩ s' U (fun _ => False) := by
  have H := stdQ
  have hp1 := q.ptr
  have hm1 := q.map
  have hpc := hp1.lt hf
  have hmc := hm1.lt hf
  refine Fn.go (H 30 rfl) ex30 fn30 km30 rfl rfl ?_
  intro e he
  (simp only [ke, Nat.testBit, Nat.reduceShiftRight, Nat.reduceAnd, Nat.reduceBNe, Nat.reduceEqDiff, Nat.reduceAdd, ↓reduceIte, reduceCtorEq, Bool.false_eq_true] at he; subst he)
  (repeat (first | (with_reducible refine Then.go ?_) | (with_reducible refine Wx.seq ?_) | (with_reducible refine Wx.reg ?_) | ((with_reducible refine Wseq.nil ?_); intro e he; (simp only [ke, Nat.testBit, Nat.reduceShiftRight, Nat.reduceAnd, Nat.reduceBNe, Nat.reduceEqDiff, Nat.reduceAdd, ↓reduceIte, reduceCtorEq, Bool.false_eq_true] at he; subst he)) | ((with_reducible apply Wseq.mv); rfl; (intro v hv; (simp only [kv, Nat.reduceEqDiff, eq_self, ↓reduceIte, reduceCtorEq, List.map_cons, List.map_nil] at hv); subst hv)) | ((with_reducible apply Wseq.as); rfl; (intro v hv; (simp only [kv, Nat.reduceEqDiff, eq_self, ↓reduceIte, reduceCtorEq, List.map_cons, List.map_nil] at hv); subst hv)) | ((with_reducible apply Wseq.stg (op := Op.alloc _)); rfl; exact to_alloc (ze_ rfl) (by ((exact cellsA_agg _))) (by ((repeat (apply Fresh.put; omega)); ((assumption)))))))
  have q0 := q.keep (h' := h.set c (some (.cells [.int .i64 0, .slice none 0 0, .string .empty, .int .i64 0, .bool false]))) hf fun b _ hb => get_other (by omega)
  refine Wseq.call rfl rfl (items_spec (by ((repeat (apply Fresh.put; omega)); ((exact Fresh.up (by assumption) (by omega))))) q0 hk hs (fun x hx => ?_) hl) ?_
  · obtain ⟨i, h1, h2, h3, h4⟩ := hits x hx
    exact ⟨i, h1, h2, h3.new hf, h4⟩
  rintro v h1 c1 r1 w1 ⟨⟨l, hR, hst⟩, hext⟩
  obtain ⟨oa, rfl⟩ := hR.val
  have hll : l.length = its.length := by have := congrArg List.length hst; simpa using this
  have q1 := hext.c
  dsimp only at q1 hR
  have hf1 : Fresh h1 c1 := hext.fresh
  have g1 := hext.hs (b := c) Has.same (by omega) (fun q => q)
  have kp := Kp.ext (W := fun _ => False) (h := h) (c := c) (by (repeat (first | (exact Kp.refl) | (apply Kp.set; (focus (left; omega)))))) hext (by omega) (fun _ _ q => q)
  have lr := Lg.extR (R := U) (c := c) (by (repeat ((exact Lg.nil)))) hext (fun _ _ q => q)
  have lw := Lg.extW (W := fun _ => False) (c := c) (by (repeat ((exact Lg.nil)))) hext (fun _ _ q => q)
  (repeat (first | (with_reducible refine Then.go ?_) | (with_reducible refine Wx.block ?_) | ((with_reducible refine Wseq.nil ?_); intro e he; (simp only [ke, Nat.testBit, Nat.reduceShiftRight, Nat.reduceAnd, Nat.reduceBNe, Nat.reduceEqDiff, Nat.reduceAdd, ↓reduceIte, reduceCtorEq, Bool.false_eq_true] at he; subst he)) | ((with_reducible apply Wseq.mv); rfl; (intro v hv; (simp only [kv, Nat.reduceEqDiff, eq_self, ↓reduceIte, reduceCtorEq, List.map_cons, List.map_nil] at hv); subst hv)) | ((with_reducible apply Wseq.stg (op := Op.call ⟨Callee.builtin Builtin.len, _, _⟩)); rfl; exact to_lenS (sl_ rfl) rfl)))
  refine Wx.loopE (fun k1 e s => ∃ (i : Nat) (z : Int) (h' : T AObj) (c' : Nat) (rl' wl' : List Nat) (j7 j12 j23 : Value), e = EN p c after oa l.length z j7 j12 j23 ∧ z = i ∧ s = ⟨h', c', rl', wl'⟩ ∧ Fresh h' c' ∧ c + 1 ≤ c' ∧ Kp h h' c (fun _ => False) ∧ Has h' c (.cells [.int .i64 0, .slice none 0 0, .string .empty, .int .i64 0, .bool false]) ∧ ItemsR h' (c + 1) (.slice oa l.length l.length) l ∧ (∀ x ∈ l.take i, nextP after x = false) ∧ i ≤ l.length ∧ Lg c U rl' ∧ Lg c (fun _ => False) wl' ∧ k1 = l.length - i) l.length (EN p c after oa l.length 0 top top top) (by (repeat (first | (exact Resp.fn) | (apply Resp.then) | (apply Resp.out)))) ?_ ?_ ?_
  · unfold EN
    (refine EqK.of ?_ ?_ <;> (repeat (first | (exact all_nil) | (apply all_cons; rfl))))
  · exact ⟨0, 0, _, _, _, _, _, _, _, rfl, rfl, rfl, hf1, by omega, kp, g1, hR, (by intro x hx; cases hx), by omega, (by (repeat ((assumption)))), (by (repeat ((assumption)))), rfl⟩
  · rintro k1 e s ⟨i, z, h2, c2, rl2, wl2, j7, j12, j23, rfl, hz, rfl, hf2, hc2, hkp, hB, hR2, hno, hil, hlr, hlw, rfl⟩
    unfold EN
    by_cases hi : i < l.length
    · have hx := List.getElem?_eq_getElem hi
      generalize l[i] = x at hx
      have hxm := List.mem_of_getElem? hx
      have hown := hR2.vec x hxm
      rcases hR2.row with ⟨_, rfl⟩ | ⟨b0, o0, cs1, hv, hb0, hs0⟩
      · cases hx
      obtain ⟨rfl, hv2⟩ : oa = some ⟨b0, o0, some 5⟩ ∧ True := by
        simp only [Value.slice.injEq] at hv
        exact ⟨hv.1, trivial⟩
      have hsub := sub_item hs0 hx
      have hb0c := hR2.blk b0 rfl
      have hb0l := hb0.lt hf2
      have hR3 : ∀ h3 : T AObj, (∀ b, b < c2 → b ≠ c → h3.get b = h2.get b) → ItemsR h3 c (.slice (some ⟨b0, o0, some 5⟩) l.length l.length) l := fun h3 hh => by
        have := hR2.keep (h' := h3) hf2 fun b h1 h2 => hh b h2 (by omega)
        exact ⟨this.row, fun b hb => by have := this.blk b hb; omega, fun y hy => (this.vec y hy).low (by omega), this.sep⟩
      have hp : nextP after x = (decide (after < x.id) && !x.gone) := rfl
      obtain ⟨tid, tvec, txs, tpay, tseq, tg⟩ := x
      dsimp only at hown hp
      obtain ⟨a0, k0, rfl⟩ := hown.val
      have hno' : nextP after ⟨tid, .slice a0 txs.length k0, txs, tpay, tseq, tg⟩ = false → ∀ x ∈ l.take (i + 1), nextP after x = false := fun hp y hy => by
        rw [List.take_add_one, hx] at hy
        rcases List.mem_append.1 hy with hy | hy
        · exact hno y hy
        · obtain rfl := List.mem_singleton.1 hy
          exact hp
      by_cases h1 : after < tid
      · cases tg with
        | true =>
          rw [decide_eq_true h1] at hp
          (repeat (first | (with_reducible refine Then.go ?_) | (with_reducible refine Wx.seq ?_) | (with_reducible refine Wx.skip ?_) | (with_reducible refine Wx.block ?_) | (with_reducible refine Wx.reg ?_) | (refine Wx.condT rfl (by rfl) ?_) | ((with_reducible refine Wseq.nil ?_); intro e he; (simp only [ke, Nat.testBit, Nat.reduceShiftRight, Nat.reduceAnd, Nat.reduceBNe, Nat.reduceEqDiff, Nat.reduceAdd, ↓reduceIte, reduceCtorEq, Bool.false_eq_true] at he; subst he)) | ((with_reducible apply Wseq.stg (op := Op.binOp BinOp.lss _ _ _ _)); rfl; exact to_lssT rfl rfl (by omega))))
          ((with_reducible apply Wseq.stg); rfl; exact to_indexAddr (k := i) el49 rfl rfl hz (by omega))
          ((with_reducible apply Wseq.stg); rfl; exact to_loadS ag59 rfl hb0.cel (by omega) hsub)
          (repeat (first | (with_reducible refine Then.go ?_) | (with_reducible refine Out.go ?_) | (with_reducible refine Wx.seq ?_) | (with_reducible refine Wx.skip ?_) | (with_reducible refine Wx.reg ?_) | (refine Wx.condF rfl (by rfl) ?_) | ((with_reducible refine Wseq.nil ?_); intro e he; (simp only [ke, Nat.testBit, Nat.reduceShiftRight, Nat.reduceAnd, Nat.reduceBNe, Nat.reduceEqDiff, Nat.reduceAdd, ↓reduceIte, reduceCtorEq, Bool.false_eq_true] at he; subst he)) | ((with_reducible apply Wseq.mv); rfl; (intro v hv; (simp only [kv, Nat.reduceEqDiff, eq_self, ↓reduceIte, reduceCtorEq, List.map_cons, List.map_nil] at hv); subst hv)) | ((with_reducible apply Wseq.pkT); rfl; rfl; (intro v hv; (simp only [kv, Nat.reduceEqDiff, eq_self, ↓reduceIte, reduceCtorEq, List.map_cons, List.map_nil] at hv); subst hv)) | ((with_reducible apply Wseq.so); rfl; exact (sz_ rfl); rfl; exact (by (repeat ((exact Has.same)))); omega; (intro v hv; (simp only [kv, Nat.reduceEqDiff, eq_self, ↓reduceIte, reduceCtorEq, List.map_cons, List.map_nil] at hv); subst hv); refine ⟨_, _, (by ((exact cellsA_agg _))), rfl, rfl, ?_⟩) | ((with_reducible apply Wseq.stg (op := Op.fieldAddr _ _ _)); rfl; exact to_fieldAddr (fa_ rfl) rfl) | ((with_reducible apply Wseq.stg (op := Op.load _ _)); rfl; exact to_load (pl_ rfl) rfl (by (repeat ((exact Has.same.cel)))) (by omega) (by rfl)) | ((with_reducible apply Wseq.stg (op := Op.alloc _)); rfl; exact to_alloc (ze_ rfl) (by ((exact cellsA_agg _))) (by ((repeat (apply Fresh.put; omega)); ((assumption))))) | ((with_reducible apply Wseq.stg (op := Op.unOp UnOp.not _ _)); rfl; exact to_notT rfl) | ((with_reducible apply Wseq.stg (op := Op.binOp BinOp.gtr _ _ _ _)); rfl; exact to_gtrT rfl rfl (by omega)) | ((with_reducible apply Wseq.stg (op := Op.binOp BinOp.add _ _ _ _)); rfl; exact to_add rfl rfl (by omega) (by omega))))
          refine RoundE.go (l.length - (i + 1)) (EN p c after _ l.length (z + 1) _ _ _) (by omega) (by (refine EqK.of ?_ ?_ <;> (repeat (first | (exact all_nil) | (apply all_cons; rfl))))) ⟨i + 1, z + 1, _, _, _, _, _, _, _, rfl, by omega, rfl, (by ((repeat (apply Fresh.put; omega)); ((exact Fresh.up (by assumption) (by omega))))), by omega, (by (repeat (first | (assumption) | (apply Kp.set; (focus (left; omega)))))), (by (repeat (first | (assumption) | (apply Has.other; omega)))), ?_, hno' hp, by omega, (by (repeat (first | (assumption) | (apply Lg.cons; (focus (left; omega)))))), (by (repeat (first | (assumption) | (apply Lg.cons; (focus (left; omega)))))), rfl⟩
          exact hR2.keep hf2 fun b h1 h2 => by rw [get_other (by omega), get_other (by omega)]
        | false =>
          rw [decide_eq_true h1] at hp
          (repeat (first | (with_reducible refine Then.go ?_) | (with_reducible refine Wx.seq ?_) | (with_reducible refine Wx.skip ?_) | (with_reducible refine Wx.block ?_) | (with_reducible refine Wx.reg ?_) | (refine Wx.condT rfl (by rfl) ?_) | ((with_reducible refine Wseq.nil ?_); intro e he; (simp only [ke, Nat.testBit, Nat.reduceShiftRight, Nat.reduceAnd, Nat.reduceBNe, Nat.reduceEqDiff, Nat.reduceAdd, ↓reduceIte, reduceCtorEq, Bool.false_eq_true] at he; subst he)) | ((with_reducible apply Wseq.stg (op := Op.binOp BinOp.lss _ _ _ _)); rfl; exact to_lssT rfl rfl (by omega))))
          ((with_reducible apply Wseq.stg); rfl; exact to_indexAddr (k := i) el49 rfl rfl hz (by omega))
          ((with_reducible apply Wseq.stg); rfl; exact to_loadS ag59 rfl hb0.cel (by omega) hsub)
          (repeat (first | (with_reducible refine Then.go ?_) | (with_reducible refine Then.rt ?_) | (with_reducible refine Out.rt ?_) | (with_reducible refine Wx.seq ?_) | (with_reducible refine Wx.ret ?_) | (with_reducible refine Wx.reg ?_) | (with_reducible refine RoundE.rt ?_) | (refine Wx.condT rfl (by rfl) ?_) | ((with_reducible refine Wseq.nil ?_); intro e he; (simp only [ke, Nat.testBit, Nat.reduceShiftRight, Nat.reduceAnd, Nat.reduceBNe, Nat.reduceEqDiff, Nat.reduceAdd, ↓reduceIte, reduceCtorEq, Bool.false_eq_true] at he; subst he)) | ((with_reducible apply Wseq.mv); rfl; (intro v hv; (simp only [kv, Nat.reduceEqDiff, eq_self, ↓reduceIte, reduceCtorEq, List.map_cons, List.map_nil] at hv); subst hv)) | ((with_reducible apply Wseq.as); rfl; (intro v hv; (simp only [kv, Nat.reduceEqDiff, eq_self, ↓reduceIte, reduceCtorEq, List.map_cons, List.map_nil] at hv); subst hv)) | ((with_reducible apply Wseq.pkT); rfl; rfl; (intro v hv; (simp only [kv, Nat.reduceEqDiff, eq_self, ↓reduceIte, reduceCtorEq, List.map_cons, List.map_nil] at hv); subst hv)) | ((with_reducible apply Wseq.so); rfl; exact (sz_ rfl); rfl; exact (by (repeat (first | (exact Has.same) | (assumption) | (apply Has.other; omega)))); omega; (intro v hv; (simp only [kv, Nat.reduceEqDiff, eq_self, ↓reduceIte, reduceCtorEq, List.map_cons, List.map_nil] at hv); subst hv); refine ⟨_, _, (by ((exact cellsA_agg _))), rfl, rfl, ?_⟩) | ((with_reducible apply Wseq.stg (op := Op.fieldAddr _ _ _)); rfl; exact to_fieldAddr (fa_ rfl) rfl) | ((with_reducible apply Wseq.stg (op := Op.load _ _)); rfl; exact to_load (pl_ rfl) rfl (by (repeat ((exact Has.same.cel)))) (by omega) (by rfl)) | ((with_reducible apply Wseq.stg (op := Op.load _ _)); rfl; exact to_loadS (ag_ rfl) rfl (by (repeat ((exact Has.same.cel)))) (by omega) (by rfl)) | ((with_reducible apply Wseq.stg (op := Op.alloc _)); rfl; exact to_alloc (ze_ rfl) (by ((exact cellsA_agg _))) (by ((repeat (apply Fresh.put; omega)); ((assumption))))) | ((with_reducible apply Wseq.stg (op := Op.unOp UnOp.not _ _)); rfl; exact to_notF rfl) | ((with_reducible apply Wseq.stg (op := Op.binOp BinOp.gtr _ _ _ _)); rfl; exact to_gtrT rfl rfl (by omega))))
          refine ⟨.inr rfl, Wres.cellTmp rfl ag59 (by (repeat ((exact Has.same.cel)))) (by omega) (by rfl) rfl ⟨⟨_, l, hR3 _ (fun b h1 h2 => by rw [get_other (by omega), get_other (by omega), get_other (by omega)]), hst, ?_⟩, ?_⟩⟩
          · rw [find_at hx hno hp]; rfl
          · (dsimp only; exact Ext.of (by omega) (by ((repeat (apply Fresh.put; omega)); ((exact Fresh.up (by assumption) (by omega))))) (by (repeat (first | (assumption) | (apply Kp.set; (focus (left; omega)))))) (by (repeat (first | (assumption) | (apply Lg.cons; (focus (left; omega)))))) (by (repeat (first | (assumption) | (apply Lg.cons; (focus (left; omega)))))))
      · rw [decide_eq_false h1] at hp
        (repeat (first | (with_reducible refine Then.go ?_) | (with_reducible refine Wx.seq ?_) | (with_reducible refine Wx.skip ?_) | (with_reducible refine Wx.block ?_) | (with_reducible refine Wx.reg ?_) | (refine Wx.condT rfl (by rfl) ?_) | ((with_reducible refine Wseq.nil ?_); intro e he; (simp only [ke, Nat.testBit, Nat.reduceShiftRight, Nat.reduceAnd, Nat.reduceBNe, Nat.reduceEqDiff, Nat.reduceAdd, ↓reduceIte, reduceCtorEq, Bool.false_eq_true] at he; subst he)) | ((with_reducible apply Wseq.stg (op := Op.binOp BinOp.lss _ _ _ _)); rfl; exact to_lssT rfl rfl (by omega))))
        ((with_reducible apply Wseq.stg); rfl; exact to_indexAddr (k := i) el49 rfl rfl hz (by omega))
        ((with_reducible apply Wseq.stg); rfl; exact to_loadS ag59 rfl hb0.cel (by omega) hsub)
        (repeat (first | (with_reducible refine Then.go ?_) | (with_reducible refine Out.go ?_) | (with_reducible refine Wx.seq ?_) | (with_reducible refine Wx.skip ?_) | (with_reducible refine Wx.reg ?_) | (refine Wx.condF rfl (by rfl) ?_) | ((with_reducible refine Wseq.nil ?_); intro e he; (simp only [ke, Nat.testBit, Nat.reduceShiftRight, Nat.reduceAnd, Nat.reduceBNe, Nat.reduceEqDiff, Nat.reduceAdd, ↓reduceIte, reduceCtorEq, Bool.false_eq_true] at he; subst he)) | ((with_reducible apply Wseq.mv); rfl; (intro v hv; (simp only [kv, Nat.reduceEqDiff, eq_self, ↓reduceIte, reduceCtorEq, List.map_cons, List.map_nil] at hv); subst hv)) | ((with_reducible apply Wseq.pkF); rfl; rfl; (intro v hv; (simp only [kv, Nat.reduceEqDiff, eq_self, ↓reduceIte, reduceCtorEq, List.map_cons, List.map_nil] at hv); subst hv)) | ((with_reducible apply Wseq.so); rfl; exact (sz_ rfl); rfl; exact (by (repeat ((exact Has.same)))); omega; (intro v hv; (simp only [kv, Nat.reduceEqDiff, eq_self, ↓reduceIte, reduceCtorEq, List.map_cons, List.map_nil] at hv); subst hv); refine ⟨_, _, (by ((exact cellsA_agg _))), rfl, rfl, ?_⟩) | ((with_reducible apply Wseq.stg (op := Op.fieldAddr _ _ _)); rfl; exact to_fieldAddr (fa_ rfl) rfl) | ((with_reducible apply Wseq.stg (op := Op.load _ _)); rfl; exact to_load (pl_ rfl) rfl (by (repeat ((exact Has.same.cel)))) (by omega) (by rfl)) | ((with_reducible apply Wseq.stg (op := Op.alloc _)); rfl; exact to_alloc (ze_ rfl) (by ((exact cellsA_agg _))) (by ((repeat (apply Fresh.put; omega)); ((assumption))))) | ((with_reducible apply Wseq.stg (op := Op.binOp BinOp.gtr _ _ _ _)); rfl; exact to_gtrF rfl rfl (by omega)) | ((with_reducible apply Wseq.stg (op := Op.binOp BinOp.add _ _ _ _)); rfl; exact to_add rfl rfl (by omega) (by omega)) | (refine Wseq.no rfl ?_)))
        refine RoundE.go (l.length - (i + 1)) (EN p c after _ l.length (z + 1) _ _ _) (by omega) (by (refine EqK.of ?_ ?_ <;> (repeat (first | (exact all_nil) | (apply all_cons; rfl))))) ⟨i + 1, z + 1, _, _, _, _, _, _, _, rfl, by omega, rfl, (by ((repeat (apply Fresh.put; omega)); ((exact Fresh.up (by assumption) (by omega))))), by omega, (by (repeat (first | (assumption) | (apply Kp.set; (focus (left; omega)))))), (by (repeat (first | (assumption) | (apply Has.other; omega)))), ?_, hno' hp, by omega, (by (repeat (first | (assumption) | (apply Lg.cons; (focus (left; omega)))))), (by (repeat (first | (assumption) | (apply Lg.cons; (focus (left; omega)))))), rfl⟩
        exact hR2.keep hf2 fun b h1 h2 => by rw [get_other (by omega), get_other (by omega)]
    · have hil2 : i = l.length := by omega
      subst hil2
      rw [List.take_length] at hno
      (repeat (first | (with_reducible refine Then.go ?_) | (with_reducible refine Then.ex ?_) | (with_reducible refine Out.hit ?_) | (with_reducible refine Wx.seq ?_) | (with_reducible refine Wx.exit ?_) | (with_reducible refine Wx.ret ?_) | (with_reducible refine Wx.reg ?_) | (with_reducible refine RoundE.ex ?_) | (refine Wx.condF rfl (by rfl) ?_) | ((with_reducible refine Wseq.nil ?_); intro e he; (simp only [ke, Nat.testBit, Nat.reduceShiftRight, Nat.reduceAnd, Nat.reduceBNe, Nat.reduceEqDiff, Nat.reduceAdd, ↓reduceIte, reduceCtorEq, Bool.false_eq_true] at he; subst he)) | ((with_reducible apply Wseq.as); rfl; (intro v hv; (simp only [kv, Nat.reduceEqDiff, eq_self, ↓reduceIte, reduceCtorEq, List.map_cons, List.map_nil] at hv); subst hv)) | ((with_reducible apply Wseq.bd); rfl; exact (bt_ rfl); (intro v hv; (simp only [kv, Nat.reduceEqDiff, eq_self, ↓reduceIte, reduceCtorEq, List.map_cons, List.map_nil] at hv); subst hv); refine ⟨_, rfl, ?_⟩) | ((with_reducible apply Wseq.so); rfl; exact (sz_ rfl); rfl; exact (by (repeat ((assumption)))); omega; (intro v hv; (simp only [kv, Nat.reduceEqDiff, eq_self, ↓reduceIte, reduceCtorEq, List.map_cons, List.map_nil] at hv); subst hv); refine ⟨_, _, (by ((exact cellsA_agg _))), rfl, rfl, ?_⟩) | ((with_reducible apply Wseq.stg (op := Op.binOp BinOp.lss _ _ _ _)); rfl; exact to_lssF rfl rfl (by omega))))
      have hR3 : ItemsR (h2.set c (some (.cells [.int .i64 0, .slice none 0 0, .string .empty, .int .i64 0, .bool false]))) c (.slice oa l.length l.length) l := by
        have := hR2.keep (h' := h2.set c (some (.cells [.int .i64 0, .slice none 0 0, .string .empty, .int .i64 0, .bool false]))) hf2 fun b h1 h2 => get_other (by omega)
        exact ⟨this.row, fun b hb => by have := this.blk b hb; omega, fun y hy => (this.vec y hy).low (by omega), this.sep⟩
      refine ⟨.inr rfl, Wres.cellTmp rfl ag59 (by (repeat ((exact Has.same.cel)))) (by omega) (by rfl) rfl ⟨⟨_, l, hR3, hst, ?_⟩, ?_⟩⟩
      · rw [find_none hno]; rfl
      · (dsimp only; exact Ext.of (by omega) (by ((repeat (apply Fresh.put; omega)); ((assumption)))) (by (repeat (first | (assumption) | (apply Kp.set; (focus (left; omega)))))) (by (repeat (first | (assumption) | (apply Lg.cons; (focus (left; omega)))))) (by (repeat (first | (assumption) | (apply Lg.cons; (focus (left; omega)))))))
end Go.Ab.Seat
end
