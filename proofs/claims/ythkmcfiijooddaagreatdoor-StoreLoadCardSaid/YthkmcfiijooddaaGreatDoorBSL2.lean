import Derived.Test.YthkmcfiijooddaaGreatDoorBSR1
import Derived.Test.YthkmcfiijooddaaGreatDoorBSL1
import Derived.Test.YthkmcfiijooddaaGreatDoorBSR2
set_option linter.unusedVariables false
set_option linter.unusedSimpArgs false
section
/- What is told: an item or nothing. -/
namespace Go.Ab.Seat
open Go.Extern Go.Proofs
set_option linter.unusedVariables false

/-- What is told: an item or nothing. -/
def rcO (o : Option Rc) : Rc := o.getD rc0
def Tell (h : T AObj) (r : Value) (o : Option Rc) : Prop := ∃ i0 a0 n0 k0 p0 s0 g0 b0, r = .tuple #[itv i0 (.slice a0 n0 k0) p0 s0 g0, .bool b0] ∧ b0 = o.isSome ∧ ItemOf h (itv i0 (.slice a0 n0 k0) p0 s0 g0) (rcO o)

theorem tellS {h : T AObj} {c : Nat} {r : Value} {o : Option Rc} (hx : o = none ∧ r = .tuple #[it0, .bool false] ∨ ∃ x v, o = some x ∧ r = .tuple #[v, .bool true] ∧ Told h c x v) (hz : ∀ x, o = some x → ∃ zs : List Int, x.xs = zs.map (Value.int .i32)) : Tell h r o := by
  rcases hx with ⟨rfl, rfl⟩ | ⟨x, v, rfl, rfl, hT⟩
  · exact ⟨_, _, _, _, _, _, _, _, rfl, rfl, itemOf0 h⟩
  · have hI := hT.item (hz x rfl)
    obtain ⟨w, rfl, ho⟩ := hT
    obtain ⟨a, k, rfl⟩ := ho.val
    exact ⟨_, _, _, _, _, _, _, _, rfl, rfl, hI⟩
theorem tellR {h : T AObj} {r : Value} {o : Option Rc} (hx : o = none ∧ r = .tuple #[it0, .bool false] ∨ ∃ x aw kw, o = some x ∧ r = .tuple #[itv x.id (.slice aw x.xs.length kw) x.pay x.seq x.gone, .bool true] ∧ Row h (.slice aw x.xs.length kw) x.xs.length 1 x.xs) (hz : ∀ x, o = some x → ∃ zs : List Int, x.xs = zs.map (Value.int .i32)) : Tell h r o := by
  rcases hx with ⟨rfl, rfl⟩ | ⟨x, aw, kw, rfl, rfl, hT⟩
  · exact ⟨_, _, _, _, _, _, _, _, rfl, rfl, itemOf0 h⟩
  · exact ⟨_, _, _, _, _, _, _, _, rfl, rfl, _, rfl, hT, hz x rfl⟩

end Go.Ab.Seat
end
section
/- StoreLoad answers true (the abstract machine). -/
namespace Go.Ab.Seat
open Go.Extern Go.Proofs
set_option linter.unusedSimpArgs false
set_option linter.unusedVariables false
set_option maxRecDepth 4000
set_option pp.deepTerms false
set_option pp.deepTerms.threshold 6

theorem ItRow.cut {h : T AObj} {c0 n k : Nat} {oa : Option Addr} {rs : List Rc} (x : ItRow h c0 (.slice oa n k) rs) {m : Nat} (hm : m ≤ n) : ItRow h c0 (.slice oa m k) (rs.take m) := by
  obtain ⟨a, k', e, h1⟩ := x.val
  simp only [Value.slice.injEq] at e
  obtain ⟨rfl, rfl, rfl⟩ := e
  refine ⟨⟨oa, k, by rw [List.length_take, Nat.min_eq_left hm], fun i r hr => h1 i r ?_⟩, fun r hr => x.ints r (List.mem_of_mem_take hr)⟩
  rw [List.getElem?_take] at hr
  split at hr
  · exact hr
  · cases hr

set_option maxHeartbeats 4000000 in
theorem storeLoad_run {oa : Option Addr} {n k : Nat} (id : Int) {h : T AObj} {c : Nat} (hf : Fresh h c) (hg : Glob h) {rs : List Rc} (hI : ItRow h c (.slice oa n k) rs) (hn : rs.length = n) (hnk : n ≤ k) (hsp : ∀ a, oa = some a → a.spot = none ∨ a.spot = some 5) (hb : ∀ r ∈ rs, r.xs.length ≤ bigV) (hmx : n ≤ 9223372036854775807) :
    ∃ v s', FnTo (Cs smQ) eg 4 [.slice oa n k, .int .i64 id] ⟨h, c, [], []⟩ v s' ∧ v = .bool true := by
  have H := stdQ
  obtain ⟨m, hm⟩ : ∃ m, m = min n 15 := ⟨_, rfl⟩
  have J0 := hI.cut (m := m) (by omega)
  have hlm : (rs.take m).length = m := by rw [List.length_take]; omega
  have hbm : ∀ r ∈ rs.take m, r.xs.length ≤ bigV := fun r hr => hb r (List.mem_of_mem_take hr)
  generalize rs.take m = qs at J0 hlm hbm
  have G : ∀ h' : T AObj, Kp h h' c (fun _ => False) → Glob h' := fun h' K => ⟨(K 0 (hg.g0.lt hf) (fun q => q)).trans hg.g0, (K 1 (hg.g1.lt hf) (fun q => q)).trans hg.g1⟩
  refine Fn.go (H 4 rfl) ex4 fn4 km4 rfl rfl ?_
  intro e he
  (simp only [ke, Nat.testBit, Nat.reduceShiftRight, Nat.reduceAnd, Nat.reduceBNe, Nat.reduceEqDiff, Nat.reduceAdd, ↓reduceIte, reduceCtorEq, Bool.false_eq_true] at he; subst he)
  (repeat (first | (with_reducible refine Then.go ?_) | (with_reducible refine Wx.seq ?_) | (with_reducible refine Wx.reg ?_) | ((with_reducible refine Wseq.nil ?_); intro e he; (simp only [ke, Nat.testBit, Nat.reduceShiftRight, Nat.reduceAnd, Nat.reduceBNe, Nat.reduceEqDiff, Nat.reduceAdd, ↓reduceIte, reduceCtorEq, Bool.false_eq_true] at he; subst he)) | ((with_reducible apply Wseq.as); rfl; (intro v hv; (simp only [kv, Nat.reduceEqDiff, eq_self, ↓reduceIte, reduceCtorEq, List.map_cons, List.map_nil] at hv); subst hv))))
  refine Wseq.call rfl rfl (begunQ (by ((repeat (apply Fresh.put; omega)); ((assumption)))) hg) ?_
  rintro v h1 c1 rl1 wl1 ⟨rfl, hs⟩
  cases hs
  (repeat (first | (with_reducible refine Then.go ?_) | (with_reducible refine Wx.seq ?_) | (with_reducible refine Wx.skip ?_) | (with_reducible refine Wx.reg ?_) | (refine Wx.condF rfl (by rfl) ?_) | ((with_reducible refine Wseq.nil ?_); intro e he; (simp only [ke, Nat.testBit, Nat.reduceShiftRight, Nat.reduceAnd, Nat.reduceBNe, Nat.reduceEqDiff, Nat.reduceAdd, ↓reduceIte, reduceCtorEq, Bool.false_eq_true] at he; subst he)) | ((with_reducible apply Wseq.mv); rfl; (intro v hv; (simp only [kv, Nat.reduceEqDiff, eq_self, ↓reduceIte, reduceCtorEq, List.map_cons, List.map_nil] at hv); subst hv)) | ((with_reducible apply Wseq.as); rfl; (intro v hv; (simp only [kv, Nat.reduceEqDiff, eq_self, ↓reduceIte, reduceCtorEq, List.map_cons, List.map_nil] at hv); subst hv)) | ((with_reducible apply Wseq.stg (op := Op.call ⟨Callee.builtin Builtin.len, _, _⟩)); rfl; exact to_lenS (sl_ rfl) rfl) | ((with_reducible apply Wseq.stg (op := Op.call ⟨Callee.builtin Builtin.min, _, _⟩)); rfl; exact to_min rfl rfl) | ((with_reducible apply Wseq.stg (op := Op.unOp UnOp.not _ _)); rfl; exact to_notT rfl)))
  ((with_reducible apply Wseq.stg); (focus rfl); (focus (exact to_sliceHi (k := m) el49 rfl rfl (by omega) (by omega) hsp)))
  (repeat (first | (with_reducible refine Then.go ?_) | (with_reducible refine Wx.seq ?_) | (with_reducible refine Wx.reg ?_) | ((with_reducible refine Wseq.nil ?_); intro e he; (simp only [ke, Nat.testBit, Nat.reduceShiftRight, Nat.reduceAnd, Nat.reduceBNe, Nat.reduceEqDiff, Nat.reduceAdd, ↓reduceIte, reduceCtorEq, Bool.false_eq_true] at he; subst he)) | ((with_reducible apply Wseq.mv); rfl; (intro v hv; (simp only [kv, Nat.reduceEqDiff, eq_self, ↓reduceIte, reduceCtorEq, List.map_cons, List.map_nil] at hv); subst hv)) | ((with_reducible apply Wseq.as); rfl; (intro v hv; (simp only [kv, Nat.reduceEqDiff, eq_self, ↓reduceIte, reduceCtorEq, List.map_cons, List.map_nil] at hv); subst hv))))
  refine Wseq.call rfl rfl (load_spec (by ((repeat (apply Fresh.put; omega)); ((assumption)))) J0 (by omega) hbm) ?_
  rintro v1 h1 c1 r1 w1 ⟨hr, x1⟩
  have y1 := x1.c
  dsimp only at y1
  have f1 : Fresh h1 c1 := x1.fresh
  have K1 := Kp.ext (W := fun _ => False) (h := h) (c := c) Kp.refl x1 (by omega) (fun _ _ q => q)
  have J1 := J0.keep hf fun b hb => K1 b hb (fun q => q)
  rcases hr with ⟨hmay, rfl, st1⟩ | ⟨hmay, b1, rfl, hb1, lb1, B1⟩
  rotate_left
  · -- refused
    dsimp only at lb1 B1
    (repeat (first | (with_reducible refine Then.go ?_) | (with_reducible refine Wx.seq ?_) | (with_reducible refine Wx.reg ?_) | ((with_reducible refine Wseq.nil ?_); intro e he; (simp only [ke, Nat.testBit, Nat.reduceShiftRight, Nat.reduceAnd, Nat.reduceBNe, Nat.reduceEqDiff, Nat.reduceAdd, ↓reduceIte, reduceCtorEq, Bool.false_eq_true] at he; subst he)) | ((with_reducible apply Wseq.mv); rfl; (intro v hv; (simp only [kv, Nat.reduceEqDiff, eq_self, ↓reduceIte, reduceCtorEq, List.map_cons, List.map_nil] at hv); subst hv)) | ((with_reducible apply Wseq.as); rfl; (intro v hv; (simp only [kv, Nat.reduceEqDiff, eq_self, ↓reduceIte, reduceCtorEq, List.map_cons, List.map_nil] at hv); subst hv)) | ((with_reducible apply Wseq.stg (op := Op.extract _ _)); rfl; exact to_extract rfl rfl)))
    refine Wseq.call rfl rfl (mayItems_spec H (by ((repeat (apply Fresh.put; omega)); ((assumption)))) J1 (by omega) (fun r hr => by have := hbm r hr; unfold bigV at this; omega)) ?_
    rintro v2 h2 c2 r2 w2 ⟨⟨q0, rfl, hq⟩, x2⟩
    obtain rfl : q0 = false := by
      cases q0 with
      | false => rfl
      | true => exact absurd (hq.1 rfl) hmay
    have y2 := x2.c
    dsimp only at y2
    have f2 : Fresh h2 c2 := x2.fresh
    have K2 := Kp.ext (W := fun _ => False) (h := h) (c := c) K1 x2 (by omega) (fun _ _ q => q)
    have B2 := x2.hs B1 lb1 (fun q => q)
    (repeat (first | (with_reducible refine Then.go ?_) | (with_reducible refine Wx.seq ?_) | (with_reducible refine Wx.reg ?_) | (refine Wx.condT rfl (by rfl) ?_) | ((with_reducible refine Wseq.nil ?_); intro e he; (simp only [ke, Nat.testBit, Nat.reduceShiftRight, Nat.reduceAnd, Nat.reduceBNe, Nat.reduceEqDiff, Nat.reduceAdd, ↓reduceIte, reduceCtorEq, Bool.false_eq_true] at he; subst he)) | ((with_reducible apply Wseq.mv); rfl; (intro v hv; (simp only [kv, Nat.reduceEqDiff, eq_self, ↓reduceIte, reduceCtorEq, List.map_cons, List.map_nil] at hv); subst hv)) | ((with_reducible apply Wseq.stg (op := Op.unOp UnOp.not _ _)); rfl; exact to_notF rfl)))
    refine Wseq.call rfl rfl (where_spec H (by ((repeat (apply Fresh.put; omega)); ((assumption)))) B2) ?_
    rintro v3 h3 c3 r3 w3 ⟨⟨b3, rfl, hb3, C3⟩, x3⟩
    have y3 := x3.c
    dsimp only at y3 C3
    have f3 : Fresh h3 c3 := x3.fresh
    have K3 := Kp.ext (W := fun _ => False) (h := h) (c := c) K2 x3 (by omega) (fun _ _ q => q)
    have B3 := x3.hs B2 (by omega) (fun q => q)
    have l3 := C3.lt f3
    (repeat (first | (with_reducible refine Then.go ?_) | (with_reducible refine Wx.seq ?_) | (with_reducible refine Wx.reg ?_) | ((with_reducible refine Wseq.nil ?_); intro e he; (simp only [ke, Nat.testBit, Nat.reduceShiftRight, Nat.reduceAnd, Nat.reduceBNe, Nat.reduceEqDiff, Nat.reduceAdd, ↓reduceIte, reduceCtorEq, Bool.false_eq_true] at he; subst he)) | ((with_reducible apply Wseq.mv); rfl; (intro v hv; (simp only [kv, Nat.reduceEqDiff, eq_self, ↓reduceIte, reduceCtorEq, List.map_cons, List.map_nil] at hv); subst hv)) | ((with_reducible apply Wseq.as); rfl; (intro v hv; (simp only [kv, Nat.reduceEqDiff, eq_self, ↓reduceIte, reduceCtorEq, List.map_cons, List.map_nil] at hv); subst hv)) | ((with_reducible apply Wseq.stg (op := Op.binOp BinOp.eql _ _ _ _)); rfl; exact to_eqP (un_ rfl) rfl rfl)))
    refine Wseq.call rfl rfl (code_at (by ((repeat (apply Fresh.put; omega)); ((assumption)))) (G h3 K3) B3 (z := 1) (by decide +kernel)) ?_
    rintro v4 h4 c4 r4 w4 ⟨rfl, e4⟩
    cases e4
    (repeat (first | ((with_reducible apply Wseq.mv); rfl; (intro v hv; (simp only [kv, Nat.reduceEqDiff, eq_self, ↓reduceIte, reduceCtorEq, List.map_cons, List.map_nil] at hv); subst hv)) | ((with_reducible apply Wseq.pkT); rfl; rfl; (intro v hv; (simp only [kv, Nat.reduceEqDiff, eq_self, ↓reduceIte, reduceCtorEq, List.map_cons, List.map_nil] at hv); subst hv)) | ((with_reducible apply Wseq.stg (op := Op.call ⟨Callee.builtin Builtin.len, _, _⟩)); rfl; exact to_lenS (sl_ rfl) rfl) | ((with_reducible apply Wseq.stg (op := Op.binOp BinOp.eql _ _ _ _)); rfl; exact to_eqIT rfl rfl (by omega))))
    ((with_reducible apply Wseq.stg); (focus rfl); (focus (exact to_indexAddr (k := 0) el40 rfl rfl rfl (by omega))))
    ((with_reducible apply Wseq.stg); (focus rfl); (focus (exact to_load (pl_ rfl) rfl C3.cel (by omega) (by rfl))))
    (repeat (first | (with_reducible refine Then.go ?_) | (with_reducible refine Then.rt ?_) | (with_reducible refine Wx.ret ?_) | ((with_reducible refine Wseq.nil ?_); intro e he; (simp only [ke, Nat.testBit, Nat.reduceShiftRight, Nat.reduceAnd, Nat.reduceBNe, Nat.reduceEqDiff, Nat.reduceAdd, ↓reduceIte, reduceCtorEq, Bool.false_eq_true] at he; subst he)) | ((with_reducible apply Wseq.as); rfl; (intro v hv; (simp only [kv, Nat.reduceEqDiff, eq_self, ↓reduceIte, reduceCtorEq, List.map_cons, List.map_nil] at hv); subst hv)) | ((with_reducible apply Wseq.pkT); rfl; rfl; (intro v hv; (simp only [kv, Nat.reduceEqDiff, eq_self, ↓reduceIte, reduceCtorEq, List.map_cons, List.map_nil] at hv); subst hv)) | ((with_reducible apply Wseq.stg (op := Op.binOp BinOp.eql _ _ _ _)); rfl; exact to_eqStrT rfl rfl rfl)))
    exact ⟨.inr rfl, Wres.one rfl rfl⟩
  · dsimp only at st1
    obtain ⟨p1, m1⟩ := st1.mlt f1
    (repeat (first | (with_reducible refine Then.go ?_) | (with_reducible refine Wx.seq ?_) | (with_reducible refine Wx.reg ?_) | ((with_reducible refine Wseq.nil ?_); intro e he; (simp only [ke, Nat.testBit, Nat.reduceShiftRight, Nat.reduceAnd, Nat.reduceBNe, Nat.reduceEqDiff, Nat.reduceAdd, ↓reduceIte, reduceCtorEq, Bool.false_eq_true] at he; subst he)) | ((with_reducible apply Wseq.mv); rfl; (intro v hv; (simp only [kv, Nat.reduceEqDiff, eq_self, ↓reduceIte, reduceCtorEq, List.map_cons, List.map_nil] at hv); subst hv)) | ((with_reducible apply Wseq.as); rfl; (intro v hv; (simp only [kv, Nat.reduceEqDiff, eq_self, ↓reduceIte, reduceCtorEq, List.map_cons, List.map_nil] at hv); subst hv)) | ((with_reducible apply Wseq.stg (op := Op.extract _ _)); rfl; exact to_extract rfl rfl)))
    refine Wseq.call rfl rfl (mayItems_spec H (by ((repeat (apply Fresh.put; omega)); ((assumption)))) J1 (by omega) (fun r hr => by have := hbm r hr; unfold bigV at this; omega)) ?_
    rintro v2 h2 c2 r2 w2 ⟨⟨q0, rfl, hq⟩, x2⟩
    obtain rfl : q0 = true := hq.2 hmay
    have y2 := x2.c
    dsimp only at y2
    have f2 : Fresh h2 c2 := x2.fresh
    have K2 := Kp.ext (W := fun _ => False) (h := h) (c := c) K1 x2 (by omega) (fun _ _ q => q)
    have S2 := st1.keep (h' := h2) f1 fun b hb hl => x2.get hl (fun q => q)
    have hzl : ∀ x, liveG id qs = some x → x ∈ qs := fun x hx => by
      unfold liveG at hx
      cases h9 : getM id qs with
      | none => rw [h9] at hx; cases hx
      | some r =>
        rw [h9] at hx
        simp only at hx
        split at hx
        · cases hx
        · cases hx
          exact (getM_mem h9).1
    have hbl : (rcO (liveG id qs)).xs.length ≤ 9223372036854775807 := by
      cases h9 : liveG id qs with
      | none => exact Nat.zero_le _
      | some x =>
        have := hbm x (hzl x h9)
        unfold bigV at this
        show x.xs.length ≤ _
        omega
    (repeat (first | (with_reducible refine Then.go ?_) | (with_reducible refine Wx.seq ?_) | (with_reducible refine Wx.skip ?_) | (with_reducible refine Wx.reg ?_) | (refine Wx.condF rfl (by rfl) ?_) | ((with_reducible refine Wseq.nil ?_); intro e he; (simp only [ke, Nat.testBit, Nat.reduceShiftRight, Nat.reduceAnd, Nat.reduceBNe, Nat.reduceEqDiff, Nat.reduceAdd, ↓reduceIte, reduceCtorEq, Bool.false_eq_true] at he; subst he)) | ((with_reducible apply Wseq.mv); rfl; (intro v hv; (simp only [kv, Nat.reduceEqDiff, eq_self, ↓reduceIte, reduceCtorEq, List.map_cons, List.map_nil] at hv); subst hv)) | ((with_reducible apply Wseq.stg (op := Op.unOp UnOp.not _ _)); rfl; exact to_notT rfl) | ((with_reducible apply Wseq.stg (op := Op.binOp BinOp.neq _ _ _ _)); rfl; exact to_neN (un_ rfl) rfl rfl)))
    refine Wseq.call rfl rfl (mitems_spec (by ((repeat (apply Fresh.put; omega)); ((assumption)))) S2) ?_
    rintro v3 h3 c3 r3 w3 ⟨⟨l3, R3, hl3⟩, x3⟩
    have y3 := x3.c
    dsimp only at y3 R3
    have f3 : Fresh h3 c3 := x3.fresh
    have K3 := Kp.ext (W := fun _ => False) (h := h) (c := c) K2 x3 (by omega) (fun _ _ q => q)
    have S3 := S2.keep (h' := h3) f2 fun b hb hl => x3.get hl (fun q => q)
    have I3 := R3.it f3 (fun r hr => J0.ints r (by rw [← hl3]; exact hr))
    rw [hl3] at I3
    (repeat (((with_reducible apply Wseq.mv); rfl; (intro v hv; (simp only [kv, Nat.reduceEqDiff, eq_self, ↓reduceIte, reduceCtorEq, List.map_cons, List.map_nil] at hv); subst hv))))
    refine Wseq.call rfl rfl (itemsEq_spec H (by ((repeat (apply Fresh.put; omega)); ((assumption)))) I3 (J0.keep hf fun b hb => K3 b hb (fun q => q)) (by omega) (fun r hr => by have := hbm r hr; unfold bigV at this; omega)) ?_
    rintro v4 h4 c4 r4 w4 ⟨⟨q1, rfl, hq1⟩, x4⟩
    obtain rfl : q1 = true := hq1.2 rfl
    have y4 := x4.c
    dsimp only at y4
    have f4 : Fresh h4 c4 := x4.fresh
    have K4 := Kp.ext (W := fun _ => False) (h := h) (c := c) K3 x4 (by omega) (fun _ _ q => q)
    have S4 := S3.keep (h' := h4) f3 fun b hb hl => x4.get hl (fun q => q)
    (repeat (first | (with_reducible refine Then.go ?_) | (with_reducible refine Wx.seq ?_) | (with_reducible refine Wx.skip ?_) | (with_reducible refine Wx.reg ?_) | (refine Wx.condF rfl (by rfl) ?_) | ((with_reducible refine Wseq.nil ?_); intro e he; (simp only [ke, Nat.testBit, Nat.reduceShiftRight, Nat.reduceAnd, Nat.reduceBNe, Nat.reduceEqDiff, Nat.reduceAdd, ↓reduceIte, reduceCtorEq, Bool.false_eq_true] at he; subst he)) | ((with_reducible apply Wseq.mv); rfl; (intro v hv; (simp only [kv, Nat.reduceEqDiff, eq_self, ↓reduceIte, reduceCtorEq, List.map_cons, List.map_nil] at hv); subst hv)) | ((with_reducible apply Wseq.as); rfl; (intro v hv; (simp only [kv, Nat.reduceEqDiff, eq_self, ↓reduceIte, reduceCtorEq, List.map_cons, List.map_nil] at hv); subst hv)) | ((with_reducible apply Wseq.pkF); rfl; rfl; (intro v hv; (simp only [kv, Nat.reduceEqDiff, eq_self, ↓reduceIte, reduceCtorEq, List.map_cons, List.map_nil] at hv); subst hv)) | ((with_reducible apply Wseq.bx); rfl; exact (by ((repeat (apply Fresh.put; omega)); ((assumption)))); (intro v hv; (simp only [kv, Nat.reduceEqDiff, eq_self, ↓reduceIte, reduceCtorEq, List.map_cons, List.map_nil] at hv); subst hv); refine ⟨_, (by ((exact cellsA_agg _))), ?_⟩) | ((with_reducible apply Wseq.bd); rfl; exact (bt_ rfl); (intro v hv; (simp only [kv, Nat.reduceEqDiff, eq_self, ↓reduceIte, reduceCtorEq, List.map_cons, List.map_nil] at hv); subst hv); refine ⟨_, rfl, ?_⟩) | ((with_reducible apply Wseq.stg (op := Op.unOp UnOp.not _ _)); rfl; exact to_notT rfl)))
    have f4' : Fresh (h4.set c4 (some (.cells [.slice oa m k]))) (c4 + 1) := (by ((repeat (apply Fresh.put; omega)); ((exact Fresh.up (by assumption) (by omega)))))
    have S4' := S4.keep (h' := h4.set c4 (some (.cells [.slice oa m k]))) f4 fun b hb hl => get_other (by omega)
    have K4' : Kp h (h4.set c4 (some (.cells [.slice oa m k]))) c (fun _ => False) := (by (repeat (first | (assumption) | (apply Kp.set; (focus (left; omega))))))
    refine Wseq.call rfl rfl (mget_spec H (by ((repeat (apply Fresh.put; omega)); ((exact Fresh.up (by assumption) (by omega))))) S4' id) ?_
    rintro v5 h5 c5 r5 w5 ⟨hr5, x5⟩
    obtain ⟨ia, aa, na, ka, pa, sa, ga, ba, rfl, hba, Ia⟩ := tellS hr5 (fun x hx => J0.ints x (hzl x hx))
    have y5 := x5.c
    dsimp only at y5 Ia
    have f5 : Fresh h5 c5 := x5.fresh
    have K5 := Kp.ext (W := fun _ => False) (h := h) (c := c) K4' x5 (by omega) (fun _ _ q => q)
    have S5 := S4'.keep (h' := h5) f4' fun b hb hl => x5.get hl (fun q => q)
    have P5 := x5.hs (b := c4) Has.same (by omega) (fun q => q)
    (repeat (first | (with_reducible refine Then.go ?_) | (with_reducible refine Wx.seq ?_) | (with_reducible refine Wx.reg ?_) | ((with_reducible refine Wseq.nil ?_); intro e he; (simp only [ke, Nat.testBit, Nat.reduceShiftRight, Nat.reduceAnd, Nat.reduceBNe, Nat.reduceEqDiff, Nat.reduceAdd, ↓reduceIte, reduceCtorEq, Bool.false_eq_true] at he; subst he)) | ((with_reducible apply Wseq.mv); rfl; (intro v hv; (simp only [kv, Nat.reduceEqDiff, eq_self, ↓reduceIte, reduceCtorEq, List.map_cons, List.map_nil] at hv); subst hv)) | ((with_reducible apply Wseq.as); rfl; (intro v hv; (simp only [kv, Nat.reduceEqDiff, eq_self, ↓reduceIte, reduceCtorEq, List.map_cons, List.map_nil] at hv); subst hv)) | ((with_reducible apply Wseq.so); rfl; exact (sz_ rfl); rfl; exact (by (repeat ((exact Has.same)))); omega; (intro v hv; (simp only [kv, Nat.reduceEqDiff, eq_self, ↓reduceIte, reduceCtorEq, List.map_cons, List.map_nil] at hv); subst hv); refine ⟨_, _, (by ((exact cellsA_agg _))), rfl, rfl, ?_⟩) | ((with_reducible apply Wseq.stg (op := Op.alloc _)); rfl; exact to_alloc (ze_ rfl) (by ((exact cellsA_agg _))) (by ((repeat (apply Fresh.put; omega)); ((assumption))))) | ((with_reducible apply Wseq.stg (op := Op.extract _ _)); rfl; exact to_extract rfl rfl)))
    have f5' : Fresh ((h5.set c5 (some (.cells [.int .i64 0, .slice none 0 0, .string .empty, .int .i64 0, .bool false]))).set c5 (some (.cells [.int .i64 ia, .slice aa na ka, .string pa, .int .i64 sa, .bool ga]))) (c5 + 1) := (by ((repeat (apply Fresh.put; omega)); ((exact Fresh.up (by assumption) (by omega)))))
    have K5' : Kp h ((h5.set c5 (some (.cells [.int .i64 0, .slice none 0 0, .string .empty, .int .i64 0, .bool false]))).set c5 (some (.cells [.int .i64 ia, .slice aa na ka, .string pa, .int .i64 sa, .bool ga]))) c (fun _ => False) := (by (repeat (first | (assumption) | (apply Kp.set; (focus (left; omega))))))
    have Z5 : ∀ b, b < c5 → ((h5.set c5 (some (.cells [.int .i64 0, .slice none 0 0, .string .empty, .int .i64 0, .bool false]))).set c5 (some (.cells [.int .i64 ia, .slice aa na ka, .string pa, .int .i64 sa, .bool ga]))).get b = h5.get b := fun b hb => by rw [get_other (by omega), get_other (by omega)]
    refine Wseq.call rfl rfl (rget_spec H (by ((repeat (apply Fresh.put; omega)); ((exact Fresh.up (by assumption) (by omega))))) (Has.other (by omega) (Has.other (by omega) P5)) (J0.keep hf fun b hb => K5' b hb (fun q => q)) (by omega) id) ?_
    rintro v6 h6 c6 r6 w6 ⟨hr6, x6⟩
    obtain ⟨ib, ab, nb, kb, pb, sb, gb, bb, rfl, hbb, Ib⟩ := tellR hr6 (fun x hx => J0.ints x (hzl x hx))
    replace Ib := Ib.keep f5' fun b hb => x6.get hb (fun q => q)
    have y6 := x6.c
    dsimp only at y6
    have f6 : Fresh h6 c6 := x6.fresh
    have K6 := Kp.ext (W := fun _ => False) (h := h) (c := c) K5' x6 (by omega) (fun _ _ q => q)
    have A6 := x6.hs (b := c5) Has.same (by omega) (fun q => q)
    have P6 := x6.hs (b := c4) (Has.other (by omega) (Has.other (by omega) P5)) (by omega) (fun q => q)
    have S6 := (S5.keep f5 fun b hb hl => Z5 b hl).keep (h' := h6) f5' fun b hb hl => x6.get hl (fun q => q)
    have I6a := (Ia.keep f5 fun b hb => Z5 b hb).keep f5' (h' := h6) fun b hb => x6.get hb (fun q => q)
    obtain rfl : ba = bb := hba.trans hbb.symm
    (repeat (first | (with_reducible refine Then.go ?_) | (with_reducible refine Wx.seq ?_) | (with_reducible refine Wx.reg ?_) | ((with_reducible refine Wseq.nil ?_); intro e he; (simp only [ke, Nat.testBit, Nat.reduceShiftRight, Nat.reduceAnd, Nat.reduceBNe, Nat.reduceEqDiff, Nat.reduceAdd, ↓reduceIte, reduceCtorEq, Bool.false_eq_true] at he; subst he)) | ((with_reducible apply Wseq.mv); rfl; (intro v hv; (simp only [kv, Nat.reduceEqDiff, eq_self, ↓reduceIte, reduceCtorEq, List.map_cons, List.map_nil] at hv); subst hv)) | ((with_reducible apply Wseq.as); rfl; (intro v hv; (simp only [kv, Nat.reduceEqDiff, eq_self, ↓reduceIte, reduceCtorEq, List.map_cons, List.map_nil] at hv); subst hv)) | ((with_reducible apply Wseq.so); rfl; exact (sz_ rfl); rfl; exact (by (repeat ((exact Has.same)))); omega; (intro v hv; (simp only [kv, Nat.reduceEqDiff, eq_self, ↓reduceIte, reduceCtorEq, List.map_cons, List.map_nil] at hv); subst hv); refine ⟨_, _, (by ((exact cellsA_agg _))), rfl, rfl, ?_⟩) | ((with_reducible apply Wseq.stg (op := Op.load _ _)); rfl; exact to_loadS (ag_ rfl) rfl (by (repeat (first | (exact Has.same.cel) | (apply Has.cel; assumption) | (apply Cel.other; omega)))) (by omega) (by rfl)) | ((with_reducible apply Wseq.stg (op := Op.alloc _)); rfl; exact to_alloc (ze_ rfl) (by ((exact cellsA_agg _))) (by ((repeat (apply Fresh.put; omega)); ((assumption))))) | ((with_reducible apply Wseq.stg (op := Op.extract _ _)); rfl; exact to_extract rfl rfl) | ((with_reducible apply Wseq.stg (op := Op.binOp BinOp.eql _ _ _ _)); rfl; exact to_eqBT (un_ rfl) rfl rfl rfl)))
    have f6' : Fresh ((h6.set c6 (some (.cells [.int .i64 0, .slice none 0 0, .string .empty, .int .i64 0, .bool false]))).set c6 (some (.cells [.int .i64 ib, .slice ab nb kb, .string pb, .int .i64 sb, .bool gb]))) (c6 + 1) := (by ((repeat (apply Fresh.put; omega)); ((exact Fresh.up (by assumption) (by omega)))))
    have Z6 : ∀ b, b < c6 → ((h6.set c6 (some (.cells [.int .i64 0, .slice none 0 0, .string .empty, .int .i64 0, .bool false]))).set c6 (some (.cells [.int .i64 ib, .slice ab nb kb, .string pb, .int .i64 sb, .bool gb]))).get b = h6.get b := fun b hb => by rw [get_other (by omega), get_other (by omega)]
    have K6' : Kp h ((h6.set c6 (some (.cells [.int .i64 0, .slice none 0 0, .string .empty, .int .i64 0, .bool false]))).set c6 (some (.cells [.int .i64 ib, .slice ab nb kb, .string pb, .int .i64 sb, .bool gb]))) c (fun _ => False) := (by (repeat (first | (assumption) | (apply Kp.set; (focus (left; omega))))))
    refine Wseq.call rfl rfl (eqItem_spec H (by ((repeat (apply Fresh.put; omega)); ((exact Fresh.up (by assumption) (by omega))))) (r := rcO (liveG id qs)) (r' := rcO (liveG id qs)) (I6a.keep f6 Z6) (Ib.keep f6 Z6) hbl) ?_
    rintro v7 h7 c7 r7 w7 ⟨⟨q7, rfl, hq7⟩, x7⟩
    obtain rfl : q7 = true := hq7.2 rfl
    have y7 := x7.c
    dsimp only at y7
    have f7 : Fresh h7 c7 := x7.fresh
    have S7 := (S6.keep f6 fun b hb hl => Z6 b hl).keep (h' := h7) f6' fun b hb hl => x7.get hl (fun q => q)
    have P7 := x7.hs (b := c4) (Has.other (by omega) (Has.other (by omega) P6)) (by omega) (fun q => q)
    have K7 := Kp.ext (W := fun _ => False) (h := h) (c := c) K6' x7 (by omega) (fun _ _ q => q)
    (repeat (first | ((with_reducible apply Wseq.mv); rfl; (intro v hv; (simp only [kv, Nat.reduceEqDiff, eq_self, ↓reduceIte, reduceCtorEq, List.map_cons, List.map_nil] at hv); subst hv)) | ((with_reducible apply Wseq.pkT); rfl; rfl; (intro v hv; (simp only [kv, Nat.reduceEqDiff, eq_self, ↓reduceIte, reduceCtorEq, List.map_cons, List.map_nil] at hv); subst hv))))
    refine Wseq.call rfl rfl (mlen_spec (by ((repeat (apply Fresh.put; omega)); ((assumption)))) S7) ?_
    rintro v8 h8 c8 r8 w8 ⟨rfl, x8⟩
    have y8 := x8.c
    dsimp only at y8
    have f8 : Fresh h8 c8 := x8.fresh
    have P8 := x8.hs P7 (by omega) (fun q => q)
    have K8 := Kp.ext (W := fun _ => False) (h := h) (c := c) K7 x8 (by omega) (fun _ _ q => q)
    (repeat (((with_reducible apply Wseq.mv); rfl; (intro v hv; (simp only [kv, Nat.reduceEqDiff, eq_self, ↓reduceIte, reduceCtorEq, List.map_cons, List.map_nil] at hv); subst hv))))
    refine Wseq.call rfl rfl (rlen_spec H (by ((repeat (apply Fresh.put; omega)); ((assumption)))) P8 (J0.keep hf fun b hb => K8 b hb (fun q => q)) (by omega)) ?_
    rintro v9 h9 c9 r9 w9 ⟨rfl, x9⟩
    (repeat (first | (with_reducible refine Then.go ?_) | (with_reducible refine Wx.ret ?_) | ((with_reducible refine Wseq.nil ?_); intro e he; (simp only [ke, Nat.testBit, Nat.reduceShiftRight, Nat.reduceAnd, Nat.reduceBNe, Nat.reduceEqDiff, Nat.reduceAdd, ↓reduceIte, reduceCtorEq, Bool.false_eq_true] at he; subst he)) | ((with_reducible apply Wseq.as); rfl; (intro v hv; (simp only [kv, Nat.reduceEqDiff, eq_self, ↓reduceIte, reduceCtorEq, List.map_cons, List.map_nil] at hv); subst hv)) | ((with_reducible apply Wseq.pkT); rfl; rfl; (intro v hv; (simp only [kv, Nat.reduceEqDiff, eq_self, ↓reduceIte, reduceCtorEq, List.map_cons, List.map_nil] at hv); subst hv)) | ((with_reducible apply Wseq.stg (op := Op.binOp BinOp.eql _ _ _ _)); rfl; exact to_eqIT rfl rfl (by omega))))
    exact ⟨.inr rfl, Wres.one rfl rfl⟩
end Go.Ab.Seat
end
