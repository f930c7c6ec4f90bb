/- The reference's store is written: an item is laid (the abstract machine). -/
import Derived.Test.YthkmcfiijooddaaGreatDoorBSR1
set_option linter.unusedVariables false
set_option linter.unusedSimpArgs false
namespace Go.Ab.Seat
open Go.Extern Go.Proofs
set_option linter.unusedSimpArgs false
set_option linter.unusedVariables false
set_option maxRecDepth 4000
set_option pp.deepTerms false
set_option pp.deepTerms.threshold 6
variable {sm : Nat → Option (List Value → M Value)}

def LRow5 (h : T AObj) (v : Value) (l : List It) : Prop := (v = .slice none 0 0 ∧ l = []) ∨ ∃ b, v = .slice (some ⟨b, 0, some 5⟩) l.length l.length ∧ l ≠ [] ∧ Has h b (.cells (flatI l))

/-- The reference's store of the call's own. -/
structure RefM (h : T AObj) (p : Nat) (M : List Rc) (U : Nat → Prop) : Prop where
  ex : ∃ lv l, Has h p (.cells [lv]) ∧ LRow5 h lv l ∧ (∀ b, blkOf lv = some b → U b ∧ b ≠ p) ∧ (∀ x ∈ l, Own h 0 x.vec x.xs.length x.xs ∧ ∀ b, blkOf x.vec = some b → U b ∧ b ≠ p ∧ blkOf lv ≠ some b) ∧ l.map It.rc = M
  pU : U p
  rises : Rises M
  ok : ∀ r ∈ M, 1 ≤ r.id ∧ r.id ≤ 1000 ∧ ∃ zs : List Int, r.xs = zs.map (Value.int .i32)

theorem LRow5.val {h : T AObj} {v : Value} {l : List It} (x : LRow5 h v l) : ∃ a, v = .slice a l.length l.length := by
  rcases x with ⟨rfl, rfl⟩ | ⟨b, rfl, _, _⟩
  · exact ⟨_, rfl⟩
  · exact ⟨_, rfl⟩

theorem RefM.len {h : T AObj} {p : Nat} {M : List Rc} {U : Nat → Prop} (q : RefM h p M U) : M.length ≤ 1000 := by
  have := rises_len (n := 1000) (lo := 1) q.rises.ids (fun x hx => by
    obtain ⟨r, hr, rfl⟩ := List.mem_map.1 hx
    exact ⟨(q.ok r hr).1, (q.ok r hr).2.1⟩) (by omega)
  rw [List.length_map] at this
  omega

theorem RefM.keep {h h' : T AObj} {c p : Nat} {M : List Rc} {U : Nat → Prop} (q : RefM h p M U) (hf : Fresh h c) (k : ∀ b, U b → b < c → h'.get b = h.get b) : RefM h' p M U := by
  obtain ⟨⟨lv, l, h1, h2, h3, h4, h5⟩, h6, h7, h8⟩ := q
  refine ⟨⟨lv, l, (k p h6 (h1.lt hf)).trans h1, ?_, h3, fun x hx => ⟨(h4 x hx).1.keep fun b hb => k b ((h4 x hx).2 b hb).1 (((h4 x hx).1.blk hb).2.lt hf), (h4 x hx).2⟩, h5⟩, h6, h7, h8⟩
  rcases h2 with h2 | ⟨b, rfl, hne, h2⟩
  · exact .inl h2
  · exact .inr ⟨b, rfl, hne, (k b (h3 b rfl).1 (h2.lt hf)).trans h2⟩
theorem RefM.wide {h : T AObj} {p : Nat} {M : List Rc} {U U' : Nat → Prop} (q : RefM h p M U) (k : ∀ b, U b → U' b) : RefM h p M U' := by
  obtain ⟨⟨lv, l, h1, h2, h3, h4, h5⟩, h6, h7, h8⟩ := q
  exact ⟨⟨lv, l, h1, h2, fun b hb => ⟨k b (h3 b hb).1, (h3 b hb).2⟩, fun x hx => ⟨(h4 x hx).1, fun b hb => ⟨k b ((h4 x hx).2 b hb).1, ((h4 x hx).2 b hb).2⟩⟩, h5⟩, k _ h6, h7, h8⟩

/-- As it is read. -/
theorem RefM.view {h : T AObj} {c p : Nat} {M : List Rc} {U : Nat → Prop} (q : RefM h p M U) (hf : Fresh h c) : ∃ v, Has h p (.cells [v]) ∧ ItRow h c v M := by
  obtain ⟨⟨lv, l, h1, h2, h3, h4, rfl⟩, h6, h7, h8⟩ := q
  refine ⟨lv, h1, ?_, fun r hr => (h8 r hr).2.2⟩
  rcases h2 with ⟨rfl, rfl⟩ | ⟨b, rfl, _, h2⟩
  · exact ⟨none, 0, rfl, fun i r hr => by cases hr⟩
  · refine ⟨_, _, by rw [List.length_map], fun i r hr => ?_⟩
    rw [List.getElem?_map, Option.map_eq_some_iff] at hr
    obtain ⟨y, hy, rfl⟩ := hr
    have hy' := sub_item (o := 0) (subN_all (flatI l) _ (flatI_len l).symm) hy
    have ho := (h4 y (List.mem_of_getElem? hy)).1
    obtain ⟨aw, kw, hw⟩ := ho.val
    unfold It.cells at hy'
    rw [hw] at hy' ho
    refine ⟨b, 0, _, flatI l, aw, kw, rfl, h2.cel, hy', ho.row rfl, ?_, ?_⟩
    · rintro rfl
      rcases ho with ⟨e, _⟩ | ⟨b, sp, cap, e, _⟩
      · simp only [Value.slice.injEq] at e; exact e.2.2
      · simp only [Value.slice.injEq] at e; cases e.1
    · rintro x rfl
      exact (ho.blk (b := x.block) rfl).2.lt hf

theorem RefM.new {h : T AObj} {p : Nat} (hp : Has h p (.cells [.slice none 0 0])) : RefM h p [] (fun b => b = p) := ⟨⟨_, [], hp, .inl ⟨rfl, rfl⟩, (fun b hb => by cases hb), (fun x hx => by cases hx), rfl⟩, rfl, Rises.nil, fun r hr => by cases hr⟩

/-- A put into a rising list: in place, or between. -/
theorem putM_set {r x : Rc} : ∀ {M : List Rc} {k : Nat}, Rises M → M[k]? = some x → x.id = r.id → putM r M = M.set k r
  | [], _, _, h, _ => by cases h
  | y :: M, 0, h, hk, hi => by
    cases hk
    rw [putM, if_neg (by omega), if_pos hi.symm]
    rfl
  | y :: M, k + 1, h, hk, hi => by
    obtain ⟨h1, h2⟩ := List.pairwise_cons.1 h
    have hk' : M[k]? = some x := by simpa using hk
    have := h1 x (List.mem_of_getElem? hk')
    rw [putM, if_neg (by omega), if_neg (by omega), putM_set h2 hk' hi]
    rfl
theorem putM_ins {r : Rc} : ∀ {M : List Rc} {k : Nat}, (∀ x ∈ M.take k, x.id < r.id) → (∀ x, M[k]? = some x → r.id < x.id) → k ≤ M.length → putM r M = M.take k ++ r :: M.drop k
  | [], 0, _, _, _ => rfl
  | [], k + 1, _, _, h => by cases h
  | y :: M, 0, _, h2, _ => by
    rw [putM, if_pos (h2 y rfl)]
    rfl
  | y :: M, k + 1, h1, h2, h3 => by
    have := h1 y (List.mem_cons_self ..)
    rw [putM, if_neg (by omega), if_neg (by omega), putM_ins (k := k) (fun x hx => h1 x (List.mem_cons_of_mem _ hx)) (fun x hx => h2 x (by simpa using hx)) (by simpa using h3)]
    rfl

theorem flatI_app (a b : List It) : flatI (a ++ b) = flatI a ++ flatI b := by unfold flatI; rw [List.flatMap_append]
theorem flatI_atom {l : List It} (h : ∀ x ∈ l, ∃ a n k, x.vec = .slice a n k) : ∀ v ∈ flatI l, atom v = true := by
  intro v hv
  unfold flatI at hv
  obtain ⟨x, hx, hv⟩ := List.mem_flatMap.1 hv
  obtain ⟨a, n, k, e⟩ := h x hx
  unfold It.cells at hv
  rw [e] at hv
  simp only [List.mem_cons, List.not_mem_nil, or_false] at hv
  rcases hv with rfl | rfl | rfl | rfl | rfl <;> rfl
theorem flatI_set {l : List It} {k : Nat} {x y : It} (hy : l[k]? = some y) : (flatI l).take (0 + k * 5) ++ x.cells ++ (flatI l).drop (0 + k * 5 + x.cells.length) = flatI (l.set k x) := by
  obtain ⟨hk, rfl⟩ := List.getElem?_eq_some_iff.1 hy
  have h1 : l = l.take k ++ (l[k] :: l.drop (k + 1)) := by simp
  have h2 : l.set k x = l.take k ++ (x :: l.drop (k + 1)) := List.set_eq_take_append_cons_drop.trans (if_pos hk)
  have hlen : (flatI (l.take k)).length = k * 5 := by rw [flatI_len, List.length_take]; omega
  have e1 : flatI l = flatI (l.take k) ++ (l[k].cells ++ flatI (l.drop (k + 1))) := by
    conv => lhs; rw [h1]
    rw [flatI_app]; rfl
  have e2 : flatI (l.set k x) = flatI (l.take k) ++ (x.cells ++ flatI (l.drop (k + 1))) := by
    rw [h2, flatI_app]; rfl
  rw [e1, e2, Nat.zero_add, show x.cells.length = 5 from rfl, ← hlen, List.take_left, List.append_assoc]
  congr 2
  rw [List.drop_append, List.drop_eq_nil_of_le (by omega), List.nil_append, show (flatI (l.take k)).length + 5 - (flatI (l.take k)).length = 5 by omega]
  rfl

def ELy (p c : Nat) (ag : Value) (z : Int) (j11 j38 : Value) : L :=
  .cons 0 (.pointer (some ⟨p, 0, none⟩)) (.cons 1 ag (.cons 3 (.pointer (some ⟨c, 0, none⟩)) (.cons 4 (.int .i64 (-1)) (.cons 5 (.int .i64 z) (.cons 11 j11 (.cons 38 j38 .nil))))))

set_option maxHeartbeats 4000000 in
theorem lay_spec (H : Std sm) {h : T AObj} {c : Nat} {rl wl : List Nat} (hf : Fresh h c) {p : Nat} {M : List Rc} {U U0 : Nat → Prop} (q : RefM h p M U0) (hU : ∀ b, U0 b → U b) {it : It} (hid : 1 ≤ it.id ∧ it.id ≤ 1000) (hints : ∃ zs : List Int, it.xs = zs.map (Value.int .i32)) (hown : Own h 0 it.vec it.xs.length it.xs) (hsep : ∀ b, blkOf it.vec = some b → U b ∧ ¬U0 b) :
    ∃ r s', FnTo (Cs sm) eg 68 [.pointer (some ⟨p, 0, none⟩), it.val] ⟨h, c, rl, wl⟩ r s' ∧ (r = .tuple #[] ∧ RefM s'.h p (putM it.rc M) (fun b => U b ∨ c ≤ b ∧ b < s'.c)) ∧ Ext ⟨h, c, rl, wl⟩ s' (fun _ => True) U0 := by
  have hml := q.len
  obtain ⟨v0, hp0, hI0⟩ := q.view hf
  obtain ⟨⟨lv, l, h1, h2, h3, h4, h5⟩, h6, h7, h8⟩ := _root_.id q
  have hpc := h1.lt hf
  have hll : l.length = M.length := by rw [← h5, List.length_map]
  obtain ⟨aw, kw, hvec⟩ := hown.val
  have hcells : it.cells = [.int .i64 it.id, .slice aw it.xs.length kw, .string it.pay, .int .i64 it.seq, .bool it.gone] := by unfold It.cells; rw [hvec]
  have hval : it.val = itv it.id (.slice aw it.xs.length kw) it.pay it.seq it.gone := by unfold It.val; rw [hvec]
  have hvs : ∀ x ∈ l, ∃ a n k, x.vec = .slice a n k := fun x hx => by obtain ⟨a, k, e⟩ := (h4 x hx).1.val; exact ⟨_, _, _, e⟩
  rw [hval]
  refine Fn.go (H 68 rfl) ex68 fn68 km68 rfl rfl ?_
  intro e he
  (simp only [ke, Nat.testBit, Nat.reduceShiftRight, Nat.reduceAnd, Nat.reduceBNe, Nat.reduceEqDiff, Nat.reduceAdd, ↓reduceIte, reduceCtorEq, Bool.false_eq_true] at he; subst he)
  (repeat (first | (with_reducible refine Then.go ?_) | (with_reducible refine Wx.seq ?_) | (with_reducible refine Wx.reg ?_) | ((with_reducible refine Wseq.nil ?_); intro e he; (simp only [ke, Nat.testBit, Nat.reduceShiftRight, Nat.reduceAnd, Nat.reduceBNe, Nat.reduceEqDiff, Nat.reduceAdd, ↓reduceIte, reduceCtorEq, Bool.false_eq_true] at he; subst he)) | ((with_reducible apply Wseq.mv); rfl; (intro v hv; (simp only [kv, Nat.reduceEqDiff, eq_self, ↓reduceIte, reduceCtorEq, List.map_cons, List.map_nil] at hv); subst hv)) | ((with_reducible apply Wseq.bx); rfl; exact (by ((repeat (apply Fresh.put; omega)); ((assumption)))); (intro v hv; (simp only [kv, Nat.reduceEqDiff, eq_self, ↓reduceIte, reduceCtorEq, List.map_cons, List.map_nil] at hv); subst hv); refine ⟨_, (by ((exact cellsA_agg _))), ?_⟩) | ((with_reducible apply Wseq.stg (op := Op.fieldAddr _ _ _)); rfl; exact to_fieldAddr (fa_ rfl) rfl) | ((with_reducible apply Wseq.stg (op := Op.load _ _)); rfl; exact to_load (pl_ rfl) rfl (by (repeat ((exact Has.same.cel)))) (by omega) (by rfl))))
  refine Wseq.call rfl rfl (place_spec H (by ((repeat (apply Fresh.put; omega)); ((exact Fresh.up (by assumption) (by omega))))) (v := v0) (rs := M) (c0 := c) (Has.other (by omega) hp0) (hI0.keep hf fun b hb => get_other (by omega)) (by omega) it.id) ?_
  rintro v1 h1' c1 r1 w1 ⟨hr, x1⟩
  have y1 := x1.c
  dsimp only at y1
  have f1 : Fresh h1' c1 := x1.fresh
  have B1 := x1.hs (b := c) Has.same (by omega) (fun q => q)
  have kp := Kp.ext (W := fun _ => False) (h := h) (c := c) (h1 := h.set c _) (by (repeat (first | (exact Kp.refl) | (apply Kp.set; (focus (left; omega)))))) x1 (by omega) (fun _ _ q => q)
  have kpU : Kp h h1' c U0 := fun b hb _ => kp b hb (fun q => q)
  have p1 : Has h1' p (.cells [lv]) := (kp p hpc (fun q => q)).trans h1
  have lr := Lg.extR (R := fun _ => True) (c := c) (by (repeat (first | (exact Lg.nil) | (apply Lg.cons; (focus (left; omega)))))) x1 (fun _ _ q => trivial)
  have lw := Lg.extW (W := U0) (c := c) (by (repeat ((exact Lg.nil)))) x1 (fun _ _ q => q.elim)
  rcases hr with ⟨hg, rfl⟩ | ⟨k, x, rfl, hk, hg⟩
  rotate_left
  · rcases h2 with ⟨rfl, rfl⟩ | ⟨bl, rfl, hlne, hbl⟩
    · rw [← h5] at hk; cases hk
    have hbU := h3 bl rfl
    have lbl := hbl.lt hf
    have b1 : Has h1' bl (.cells (flatI l)) := (kp bl lbl (fun q => q)).trans hbl
    have hkl : k < l.length := by rw [hll]; exact (List.getElem?_eq_some_iff.1 hk).1
    have hset : setMany [.int .i64 it.id, .slice aw it.xs.length kw, .string it.pay, .int .i64 it.seq, .bool it.gone] (flatI l) (0 + k * 5) = some (flatI (l.set k it)) := by
      rw [← hcells, setMany_eq _ _ _ (by rw [flatI_len, show it.cells.length = 5 from rfl]; omega) (fun v hv => by rw [hcells] at hv; simp only [List.mem_cons, List.not_mem_nil, or_false] at hv; rcases hv with rfl | rfl | rfl | rfl | rfl <;> rfl)]
      rw [flatI_set (List.getElem?_eq_getElem hkl)]
    (repeat (first | (with_reducible refine Then.go ?_) | (with_reducible refine Wx.seq ?_) | (with_reducible refine Wx.reg ?_) | (refine Wx.dreg rfl ?_) | (refine Wx.condT rfl (by rfl) ?_) | ((with_reducible refine Wseq.nil ?_); intro e he; (simp only [ke, Nat.testBit, Nat.reduceShiftRight, Nat.reduceAnd, Nat.reduceBNe, Nat.reduceEqDiff, Nat.reduceAdd, ↓reduceIte, reduceCtorEq, Bool.false_eq_true] at he; subst he)) | ((with_reducible apply Wseq.mv); rfl; (intro v hv; (simp only [kv, Nat.reduceEqDiff, eq_self, ↓reduceIte, reduceCtorEq, List.map_cons, List.map_nil] at hv); subst hv)) | ((with_reducible apply Wseq.as); rfl; (intro v hv; (simp only [kv, Nat.reduceEqDiff, eq_self, ↓reduceIte, reduceCtorEq, List.map_cons, List.map_nil] at hv); subst hv)) | ((with_reducible apply Wseq.stg (op := Op.binOp BinOp.geq _ _ _ _)); rfl; exact to_geqT rfl rfl (by omega)) | ((with_reducible apply Wtr.mv); rfl; (intro v hv; (simp only [kv, Nat.reduceEqDiff, eq_self, ↓reduceIte, reduceCtorEq, List.map_cons, List.map_nil] at hv); subst hv)) | ((with_reducible apply Wtr.stq (op := Op.fieldAddr _ _ _)); rfl; exact to_fieldAddr (fa_ rfl) rfl) | ((with_reducible apply Wtr.stx (op := Op.load _ _)); rfl; exact to_load (pl_ rfl) rfl (by (repeat ((apply Has.cel; assumption)))) (by omega) (by rfl); repeat ((exact all_nil))) | ((with_reducible apply Wtr.stx (op := Op.load _ _)); rfl; exact to_loadS (ag_ rfl) rfl (by (repeat ((apply Has.cel; assumption)))) (by omega) (by rfl); (focus (repeat (first | (exact all_nil) | (apply all_cons; (focus ((right; exact ApartP.rr)))))))) | ((with_reducible apply Wtr.stq (op := Op.nilCheck _)); rfl; exact to_nilCheck rfl)))
    ((with_reducible apply Wtr.stq); (focus rfl); (focus (exact to_indexAddr (k := k) el49 rfl rfl rfl (by omega))))
    ((with_reducible apply Wtr.so); rfl; exact (sz_ rfl); rfl; exact b1; omega; (focus (repeat (first | (exact all_nil) | (apply all_cons; (focus ((left; dsimp only; decide +kernel))))))); (intro v hv; (simp only [kv, Nat.reduceEqDiff, eq_self, ↓reduceIte, reduceCtorEq, List.map_cons, List.map_nil] at hv); subst hv); refine ⟨_, _, (by ((exact cellsA_agg _))), rfl, hset, ?_⟩)
    (repeat (first | (with_reducible refine Then.go ?_) | (with_reducible refine Then.rt ?_) | (with_reducible refine Wx.ret ?_) | ((with_reducible refine Wtr.nil ?_); intro e he; (simp only [ke, Nat.testBit, Nat.reduceShiftRight, Nat.reduceAnd, Nat.reduceBNe, Nat.reduceEqDiff, Nat.reduceAdd, ↓reduceIte, reduceCtorEq, Bool.false_eq_true] at he; subst he))))
    have hUb := hbU.1
    refine ⟨.inr rfl, Wres.nil ⟨⟨rfl, ?_⟩, ?_⟩⟩
    · refine ⟨⟨_, l.set k it, Has.other (fun e => hbU.2 e.symm) p1, .inr ⟨bl, by rw [List.length_set], (fun e => hlne (by have := congrArg List.length e; rw [List.length_set] at this; exact List.length_eq_zero_iff.1 this)), Has.same⟩, fun b hb => ⟨.inl (hU _ (h3 b hb).1), (h3 b hb).2⟩, fun x' hx' => ?_, ?_⟩, .inl (hU _ h6), h7.put _, fun r hr => ?_⟩
      · rcases List.mem_or_eq_of_mem_set hx' with hx' | rfl
        · obtain ⟨o1, o2⟩ := h4 x' hx'
          refine ⟨o1.keep fun b hb => ?_, fun b hb => ⟨.inl (hU _ (o2 b hb).1), (o2 b hb).2⟩⟩
          have hne : b ≠ bl := fun e => (o2 b hb).2.2 (by rw [e]; rfl)
          exact (get_other hne).trans (kp b ((o1.blk hb).2.lt hf) (fun q => q))
        · refine ⟨hown.keep fun b hb => ?_, fun b hb => ⟨.inl (hsep b hb).1, fun e => (hsep b hb).2 (by rw [e]; exact h6), fun e => (hsep b hb).2 (by simp only [blkOf, Option.some.injEq] at e; rw [← e]; exact hUb)⟩⟩
          have hne : b ≠ bl := fun e => (hsep b hb).2 (by rw [e]; exact hUb)
          exact (get_other hne).trans (kp b ((hown.blk hb).2.lt hf) (fun q => q))
      · rw [List.map_set, h5]
        exact (putM_set h7 hk (getM_mem hg).2).symm
      · rcases mem_putM hr with rfl | hr
        · exact ⟨hid.1, hid.2, hints⟩
        · exact h8 r hr
    · (dsimp only; exact Ext.of (by omega) (by ((repeat (apply Fresh.put; omega)); ((assumption)))) (by (repeat (first | (assumption) | (apply Kp.set; (focus ((right; (assumption)))))))) (by (repeat (first | (exact Lg.nil) | (assumption) | (apply Lg.cons; (focus (first | (left; omega) | (right; (simp; done))))) | (apply Lg.app)))) (by (repeat (first | (exact Lg.nil) | (assumption) | (apply Lg.cons; (focus ((right; (assumption))))) | (apply Lg.app)))))
  obtain ⟨la, rfl⟩ := h2.val
  have hnid := getM_none.1 hg
  (repeat (first | (with_reducible refine Then.go ?_) | (with_reducible refine Wx.seq ?_) | (with_reducible refine Wx.skip ?_) | (with_reducible refine Wx.block ?_) | (with_reducible refine Wx.reg ?_) | (refine Wx.condF rfl (by rfl) ?_) | ((with_reducible refine Wseq.nil ?_); intro e he; (simp only [ke, Nat.testBit, Nat.reduceShiftRight, Nat.reduceAnd, Nat.reduceBNe, Nat.reduceEqDiff, Nat.reduceAdd, ↓reduceIte, reduceCtorEq, Bool.false_eq_true] at he; subst he)) | ((with_reducible apply Wseq.mv); rfl; (intro v hv; (simp only [kv, Nat.reduceEqDiff, eq_self, ↓reduceIte, reduceCtorEq, List.map_cons, List.map_nil] at hv); subst hv)) | ((with_reducible apply Wseq.as); rfl; (intro v hv; (simp only [kv, Nat.reduceEqDiff, eq_self, ↓reduceIte, reduceCtorEq, List.map_cons, List.map_nil] at hv); subst hv)) | ((with_reducible apply Wseq.stg (op := Op.binOp BinOp.geq _ _ _ _)); rfl; exact to_geqF rfl rfl (by omega))))
  refine Wx.cutO (fun e s => ∃ (k : Nat) (z : Int) (rl' : List Nat) (j38 : Value), e = ELy p c (itv it.id (.slice aw it.xs.length kw) it.pay it.seq it.gone) z (.bool false) j38 ∧ z = k ∧ s = ⟨h1', c1, rl', w1⟩ ∧ Lg c (fun _ => True) rl' ∧ k ≤ l.length ∧ (∀ x ∈ M.take k, x.id < it.id) ∧ ∀ x, M[k]? = some x → it.id < x.id) (by (repeat ((exact Resp.fn)))) ?_ ?_
  · refine Wx.loopE (fun k1 e s => ∃ (i : Nat) (z : Int) (rl' : List Nat) (j38 : Value), e = ELy p c (itv it.id (.slice aw it.xs.length kw) it.pay it.seq it.gone) z (.bool false) j38 ∧ z = i ∧ s = ⟨h1', c1, rl', w1⟩ ∧ Lg c (fun _ => True) rl' ∧ i ≤ l.length ∧ (∀ x ∈ M.take i, x.id < it.id) ∧ k1 = l.length - i) l.length (ELy p c (itv it.id (.slice aw it.xs.length kw) it.pay it.seq it.gone) 0 (.bool false) top) (by (repeat (first | (exact Resp.fn) | (apply Resp.out) | (apply Resp.cut)))) ?_ ?_ ?_
    · unfold ELy
      (refine EqK.of ?_ ?_ <;> (repeat (first | (exact all_nil) | (apply all_cons; rfl))))
    · exact ⟨0, 0, _, _, rfl, rfl, rfl, (by (repeat ((assumption)))), by omega, (fun x hx => by cases hx), rfl⟩
    · rintro k1 e s ⟨i, z, rl', j38, rfl, hz, rfl, hlr, hin, hlt, rfl⟩
      unfold ELy
      by_cases hi : i < l.length
      rotate_left
      · (repeat (first | (with_reducible refine Then.go ?_) | (with_reducible refine Then.ex ?_) | (with_reducible refine Out.hit ?_) | (with_reducible refine Wx.seq ?_) | (with_reducible refine Wx.exit ?_) | (refine Wx.dreg rfl ?_) | (with_reducible refine RoundE.ex ?_) | (refine Wx.condF rfl (by rfl) ?_) | ((with_reducible refine Wtr.nil ?_); intro e he; (simp only [ke, Nat.testBit, Nat.reduceShiftRight, Nat.reduceAnd, Nat.reduceBNe, Nat.reduceEqDiff, Nat.reduceAdd, ↓reduceIte, reduceCtorEq, Bool.false_eq_true] at he; subst he)) | ((with_reducible apply Wtr.mv); rfl; (intro v hv; (simp only [kv, Nat.reduceEqDiff, eq_self, ↓reduceIte, reduceCtorEq, List.map_cons, List.map_nil] at hv); subst hv)) | ((with_reducible apply Wtr.pkF); rfl; rfl; (intro v hv; (simp only [kv, Nat.reduceEqDiff, eq_self, ↓reduceIte, reduceCtorEq, List.map_cons, List.map_nil] at hv); subst hv)) | ((with_reducible apply Wtr.stq (op := Op.fieldAddr _ _ _)); rfl; exact to_fieldAddr (fa_ rfl) rfl) | ((with_reducible apply Wtr.stx (op := Op.load _ _)); rfl; exact to_load (pl_ rfl) rfl (by (repeat ((apply Has.cel; assumption)))) (by omega) (by rfl); repeat ((exact all_nil))) | ((with_reducible apply Wtr.stq (op := Op.nilCheck _)); rfl; exact to_nilCheck rfl) | ((with_reducible apply Wtr.stq (op := Op.call ⟨Callee.builtin Builtin.len, _, _⟩)); rfl; exact to_lenS (sl_ rfl) rfl) | ((with_reducible apply Wtr.stq (op := Op.binOp BinOp.lss _ _ _ _)); rfl; exact to_lssF rfl rfl (by omega)) | (refine Wtr.no rfl ?_)))
        exact CutQ.go (ELy p c (itv it.id (.slice aw it.xs.length kw) it.pay it.seq it.gone) z (.bool false) _) (by unfold ELy; (refine EqK.of ?_ ?_ <;> (repeat (first | (exact all_nil) | (apply all_cons; rfl))))) ⟨i, z, _, _, rfl, hz, rfl, (by (repeat (first | (exact Lg.nil) | (assumption) | (apply Lg.cons; (focus ((right; (simp; done))))) | (apply Lg.app)))), hin, hlt, fun x hx => by rw [List.getElem?_eq_none (by omega)] at hx; cases hx⟩
      rcases h2 with ⟨_, rfl⟩ | ⟨bl, e, _, hbl⟩
      · cases hi
      obtain rfl : la = some ⟨bl, 0, some 5⟩ := by simp only [Value.slice.injEq] at e; exact e.1
      have lbl := hbl.lt hf
      have b1 : Has h1' bl (.cells (flatI l)) := (kp bl lbl (fun q => q)).trans hbl
      have hxi : l[i]? = some l[i] := List.getElem?_eq_getElem hi
      have hMi : M[i]? = some l[i].rc := by rw [← h5, List.getElem?_map, hxi]; rfl
      have hsub := sub_item (o := 0) (subN_all (flatI l) _ (flatI_len l).symm) hxi
      generalize l[i] = y at *
      obtain ⟨g0, g3, g4⟩ := sub_nth hsub
      by_cases hc : y.id < it.id
      · (repeat (first | (with_reducible refine Wx.seq ?_) | (refine Wx.dreg rfl ?_) | ((with_reducible apply Wtr.mv); rfl; (intro v hv; (simp only [kv, Nat.reduceEqDiff, eq_self, ↓reduceIte, reduceCtorEq, List.map_cons, List.map_nil] at hv); subst hv)) | ((with_reducible apply Wtr.stq (op := Op.fieldAddr _ _ _)); rfl; exact to_fieldAddr (fa_ rfl) rfl) | ((with_reducible apply Wtr.stx (op := Op.load _ _)); rfl; exact to_load (pl_ rfl) rfl (by (repeat ((apply Has.cel; assumption)))) (by omega) (by rfl); (focus (repeat (first | (exact all_nil) | (apply all_cons; (focus ((right; exact ApartP.rr)))))))) | ((with_reducible apply Wtr.stq (op := Op.nilCheck _)); rfl; exact to_nilCheck rfl) | ((with_reducible apply Wtr.stq (op := Op.call ⟨Callee.builtin Builtin.len, _, _⟩)); rfl; exact to_lenS (sl_ rfl) rfl) | ((with_reducible apply Wtr.stq (op := Op.binOp BinOp.lss _ _ _ _)); rfl; exact to_lssT rfl rfl (by omega))))
        ((with_reducible apply Wtr.stq); (focus rfl); (focus (exact to_indexAddr (k := i) el49 rfl rfl hz (by omega))))
        (repeat (((with_reducible apply Wtr.stq (op := Op.fieldAddr _ _ _)); rfl; exact to_fieldAddr (fa_ rfl) rfl)))
        ((with_reducible apply Wtr.stx); (focus rfl); (focus (exact to_load (pl_ rfl) rfl b1.cel (by omega) g0)); (focus (repeat (first | (exact all_nil) | (apply all_cons; (focus ((right; exact ApartP.rr))))))))
        (repeat (first | (with_reducible refine Then.go ?_) | (with_reducible refine Out.go ?_) | (with_reducible refine Wx.skip ?_) | (with_reducible refine Wx.block ?_) | (with_reducible refine Wx.reg ?_) | (refine Wx.condT rfl (by rfl) ?_) | ((with_reducible refine Wseq.nil ?_); intro e he; (simp only [ke, Nat.testBit, Nat.reduceShiftRight, Nat.reduceAnd, Nat.reduceBNe, Nat.reduceEqDiff, Nat.reduceAdd, ↓reduceIte, reduceCtorEq, Bool.false_eq_true] at he; subst he)) | ((with_reducible apply Wseq.mv); rfl; (intro v hv; (simp only [kv, Nat.reduceEqDiff, eq_self, ↓reduceIte, reduceCtorEq, List.map_cons, List.map_nil] at hv); subst hv)) | ((with_reducible apply Wseq.as); rfl; (intro v hv; (simp only [kv, Nat.reduceEqDiff, eq_self, ↓reduceIte, reduceCtorEq, List.map_cons, List.map_nil] at hv); subst hv)) | ((with_reducible apply Wseq.stg (op := Op.binOp BinOp.add _ _ _ _)); rfl; exact to_add rfl rfl (by omega) (by omega)) | ((with_reducible refine Wtr.nil ?_); intro e he; (simp only [ke, Nat.testBit, Nat.reduceShiftRight, Nat.reduceAnd, Nat.reduceBNe, Nat.reduceEqDiff, Nat.reduceAdd, ↓reduceIte, reduceCtorEq, Bool.false_eq_true] at he; subst he)) | ((with_reducible apply Wtr.pkT); rfl; rfl; (intro v hv; (simp only [kv, Nat.reduceEqDiff, eq_self, ↓reduceIte, reduceCtorEq, List.map_cons, List.map_nil] at hv); subst hv)) | ((with_reducible apply Wtr.stq (op := Op.fieldAddr _ _ _)); rfl; exact to_fieldAddr (fa_ rfl) rfl) | ((with_reducible apply Wtr.stx (op := Op.load _ _)); rfl; exact to_load (pl_ rfl) rfl (by (repeat ((apply Has.cel; assumption)))) (by omega) (by rfl); (focus (repeat (first | (exact all_nil) | (apply all_cons; (focus ((right; exact ApartP.rr)))))))) | ((with_reducible apply Wtr.stq (op := Op.binOp BinOp.lss _ _ _ _)); rfl; exact to_lssT rfl rfl (by omega))))
        refine RoundE.go (l.length - (i + 1)) (ELy p c _ (z + 1) _ _) (by omega) (by unfold ELy; (refine EqK.of ?_ ?_ <;> (repeat (first | (exact all_nil) | (apply all_cons; rfl))))) ⟨i + 1, z + 1, _, _, rfl, by omega, rfl, (by (repeat (first | (exact Lg.nil) | (assumption) | (apply Lg.cons; (focus (first | (left; omega) | (right; (simp; done))))) | (apply Lg.app)))), by omega, fun x hx => ?_, rfl⟩
        rw [take_snoc hMi] at hx
        rcases List.mem_append.1 hx with hx | hx
        · exact hlt x hx
        · obtain rfl := List.mem_singleton.1 hx
          exact hc
      · (repeat (first | (with_reducible refine Wx.seq ?_) | (refine Wx.dreg rfl ?_) | ((with_reducible apply Wtr.mv); rfl; (intro v hv; (simp only [kv, Nat.reduceEqDiff, eq_self, ↓reduceIte, reduceCtorEq, List.map_cons, List.map_nil] at hv); subst hv)) | ((with_reducible apply Wtr.stq (op := Op.fieldAddr _ _ _)); rfl; exact to_fieldAddr (fa_ rfl) rfl) | ((with_reducible apply Wtr.stx (op := Op.load _ _)); rfl; exact to_load (pl_ rfl) rfl (by (repeat ((apply Has.cel; assumption)))) (by omega) (by rfl); (focus (repeat (first | (exact all_nil) | (apply all_cons; (focus ((right; exact ApartP.rr)))))))) | ((with_reducible apply Wtr.stq (op := Op.nilCheck _)); rfl; exact to_nilCheck rfl) | ((with_reducible apply Wtr.stq (op := Op.call ⟨Callee.builtin Builtin.len, _, _⟩)); rfl; exact to_lenS (sl_ rfl) rfl) | ((with_reducible apply Wtr.stq (op := Op.binOp BinOp.lss _ _ _ _)); rfl; exact to_lssT rfl rfl (by omega))))
        ((with_reducible apply Wtr.stq); (focus rfl); (focus (exact to_indexAddr (k := i) el49 rfl rfl hz (by omega))))
        (repeat (((with_reducible apply Wtr.stq (op := Op.fieldAddr _ _ _)); rfl; exact to_fieldAddr (fa_ rfl) rfl)))
        ((with_reducible apply Wtr.stx); (focus rfl); (focus (exact to_load (pl_ rfl) rfl b1.cel (by omega) g0)); (focus (repeat (first | (exact all_nil) | (apply all_cons; (focus ((right; exact ApartP.rr))))))))
        (repeat (first | (with_reducible refine Then.go ?_) | (with_reducible refine Then.ex ?_) | (with_reducible refine Out.hit ?_) | (with_reducible refine Wx.exit ?_) | (with_reducible refine RoundE.ex ?_) | (refine Wx.condF rfl (by rfl) ?_) | ((with_reducible refine Wtr.nil ?_); intro e he; (simp only [ke, Nat.testBit, Nat.reduceShiftRight, Nat.reduceAnd, Nat.reduceBNe, Nat.reduceEqDiff, Nat.reduceAdd, ↓reduceIte, reduceCtorEq, Bool.false_eq_true] at he; subst he)) | ((with_reducible apply Wtr.pkT); rfl; rfl; (intro v hv; (simp only [kv, Nat.reduceEqDiff, eq_self, ↓reduceIte, reduceCtorEq, List.map_cons, List.map_nil] at hv); subst hv)) | ((with_reducible apply Wtr.stq (op := Op.fieldAddr _ _ _)); rfl; exact to_fieldAddr (fa_ rfl) rfl) | ((with_reducible apply Wtr.stx (op := Op.load _ _)); rfl; exact to_load (pl_ rfl) rfl (by (repeat ((apply Has.cel; assumption)))) (by omega) (by rfl); (focus (repeat (first | (exact all_nil) | (apply all_cons; (focus ((right; exact ApartP.rr)))))))) | ((with_reducible apply Wtr.stq (op := Op.binOp BinOp.lss _ _ _ _)); rfl; exact to_lssF rfl rfl (by omega))))
        refine CutQ.go (ELy p c (itv it.id (.slice aw it.xs.length kw) it.pay it.seq it.gone) z (.bool false) _) (by unfold ELy; (refine EqK.of ?_ ?_ <;> (repeat (first | (exact all_nil) | (apply all_cons; rfl))))) ⟨i, z, _, _, rfl, hz, rfl, (by (repeat (first | (exact Lg.nil) | (assumption) | (apply Lg.cons; (focus (first | (left; omega) | (right; (simp; done))))) | (apply Lg.app)))), hin, hlt, fun x hx => ?_⟩
        rw [hMi] at hx
        cases hx
        have := hnid y.rc (List.mem_of_getElem? hMi)
        have e1 : y.rc.id = y.id := rfl
        omega
  · rintro kk ss ⟨k, z, rl', j38, rfl, hz, rfl, hlr, hkl, hlt, hgt⟩
    have hput : putM it.rc M = (l.take k ++ it :: l.drop k).map It.rc := by
      rw [putM_ins (k := k) hlt hgt (by omega), List.map_append, List.map_cons, List.map_take, List.map_drop, h5]
    have done_ : ∀ (h9 : T AObj) (c9 b9 : Nat), c1 ≤ b9 → b9 < c9 → Kp h1' h9 c1 (fun b => b = p) → Has h9 b9 (.cells (flatI (l.take k ++ it :: l.drop k))) → Has h9 p (.cells [.slice (some ⟨b9, 0, some 5⟩) (l.length + 1) (l.length + 1)]) → RefM h9 p (putM it.rc M) (fun b => U b ∨ c ≤ b ∧ b < c9) := by
      intro h9 c9 b9 hb1 hb2 K hB hP
      refine ⟨⟨_, l.take k ++ it :: l.drop k, hP, .inr ⟨b9, ?_, by simp, hB⟩, fun b hb => ?_, fun x hx => ?_, hput.symm⟩, .inl (hU _ h6), h7.put _, fun r hr => ?_⟩
      · have : (l.take k ++ it :: l.drop k).length = l.length + 1 := by rw [List.length_append, List.length_cons, List.length_take, List.length_drop]; omega
        rw [this]
      · simp only [blkOf, Option.some.injEq] at hb
        exact ⟨.inr ⟨by omega, by omega⟩, by omega⟩
      · have hx' : x = it ∨ x ∈ l := by
          rcases List.mem_append.1 hx with hx | hx
          · exact .inr (List.mem_of_mem_take hx)
          · rcases List.mem_cons.1 hx with hx | hx
            · exact .inl hx
            · exact .inr (List.mem_of_mem_drop hx)
        rcases hx' with rfl | hx'
        · refine ⟨hown.keep fun b hb => ?_, fun b hb => ?_⟩
          · have hbc := (hown.blk hb).2.lt hf
            exact (K b (by omega) fun e => (hsep b hb).2 (by rw [e]; exact h6)).trans (kp b hbc (fun q => q))
          · have hbc := (hown.blk hb).2.lt hf
            exact ⟨.inl (hsep b hb).1, fun e => (hsep b hb).2 (by rw [e]; exact h6), fun e => by simp only [blkOf, Option.some.injEq] at e; omega⟩
        · obtain ⟨o1, o2⟩ := h4 x hx'
          refine ⟨o1.keep fun b hb => ?_, fun b hb => ?_⟩
          · have hbc := (o1.blk hb).2.lt hf
            exact (K b (by omega) (o2 b hb).2.1).trans (kp b hbc (fun q => q))
          · have hbc := (o1.blk hb).2.lt hf
            exact ⟨.inl (hU _ (o2 b hb).1), (o2 b hb).2.1, fun e => by simp only [blkOf, Option.some.injEq] at e; omega⟩
      · rcases mem_putM hr with rfl | hr
        · exact ⟨hid.1, hid.2, hints⟩
        · exact h8 r hr
    unfold ELy
    rcases h2 with ⟨e, rfl⟩ | ⟨bl, e, hlne, hbl⟩
    · obtain rfl : la = none := by simp only [Value.slice.injEq] at e; exact e.1
      obtain rfl : k = 0 := by simpa using hkl
      (repeat (first | (refine Wx.dreg rfl ?_) | ((with_reducible apply Wtr.mv); rfl; (intro v hv; (simp only [kv, Nat.reduceEqDiff, eq_self, ↓reduceIte, reduceCtorEq, List.map_cons, List.map_nil] at hv); subst hv)) | ((with_reducible apply Wtr.stq (op := Op.fieldAddr _ _ _)); rfl; exact to_fieldAddr (fa_ rfl) rfl) | ((with_reducible apply Wtr.stx (op := Op.load _ _)); rfl; exact to_load (pl_ rfl) rfl (by (repeat ((apply Has.cel; assumption)))) (by omega) (by rfl); repeat ((exact all_nil))) | ((with_reducible apply Wtr.stq (op := Op.nilCheck _)); rfl; exact to_nilCheck rfl)))
      ((with_reducible apply Wtr.stq); (focus rfl); (focus (exact to_sliceHi (k := 0) el49 rfl rfl hz (by omega) (fun a ha => by cases ha))))
      ((with_reducible apply Wtr.stq); (focus rfl); (focus (exact to_appZero ro49 sl49 rfl rfl (by omega))))
      (repeat (first | ((with_reducible apply Wtr.bs); rfl; exact (ro_ rfl); rfl; exact (by ((repeat (apply Fresh.put; omega)); ((assumption)))); (focus (repeat (first | (exact all_nil) | (apply all_cons; (focus ((right; exact ApartP.rr))))))); (intro v hv; (simp only [kv, Nat.reduceEqDiff, eq_self, ↓reduceIte, reduceCtorEq, List.map_cons, List.map_nil] at hv); subst hv); refine ⟨_, rfl, ?_⟩) | ((with_reducible apply Wtr.stx (op := Op.load _ _)); rfl; exact to_loadS (ag_ rfl) rfl (by (repeat ((apply Has.cel; assumption)))) (by omega) (by rfl); (focus (repeat (first | (exact all_nil) | (apply all_cons; (focus ((right; exact ApartP.rr))))))))))
      ((with_reducible apply Wtr.stx); (focus rfl); (focus (exact to_appNil ro49 sl49 rfl rfl (by (repeat ((exact Has.same.cel)))) (by omega) (by rfl) (by decide) (by ((repeat (apply Fresh.put; omega)); ((exact Fresh.up (by assumption) (by omega))))))); (focus (repeat (first | (exact all_nil) | (apply all_cons; (focus (first | (right; exact ApartP.rr) | (left; dsimp only; decide +kernel))))))))
      (repeat (first | ((with_reducible apply Wtr.mv); rfl; (intro v hv; (simp only [kv, Nat.reduceEqDiff, eq_self, ↓reduceIte, reduceCtorEq, List.map_cons, List.map_nil] at hv); subst hv)) | ((with_reducible apply Wtr.stq (op := Op.fieldAddr _ _ _)); rfl; exact to_fieldAddr (fa_ rfl) rfl) | ((with_reducible apply Wtr.stx (op := Op.load _ _)); rfl; exact to_load (pl_ rfl) rfl (by (repeat (first | (apply Has.cel; assumption) | (apply Cel.other; omega)))) (by omega) (by rfl); (focus (repeat (first | (exact all_nil) | (apply all_cons; (focus (first | (right; exact ApartP.rr) | (right; refine ⟨?_, ?_, ?_, ?_, ?_⟩ <;> (first | (exact all_nil) | (intro b hb; (try simp only [List.mem_cons, List.not_mem_nil, or_false] at hb ⊢); omega)))))))))) | ((with_reducible apply Wtr.stq (op := Op.nilCheck _)); rfl; exact to_nilCheck rfl)))
      ((with_reducible apply Wtr.stq); (focus rfl); (focus (exact to_sliceLoNil el49 rfl rfl hz)))
      ((with_reducible apply Wtr.stq); (focus rfl); (focus (exact to_appZero ro49 sl49 rfl rfl (by omega))))
      (repeat (first | ((with_reducible refine Wtr.nil ?_); intro e he; (simp only [ke, Nat.testBit, Nat.reduceShiftRight, Nat.reduceAnd, Nat.reduceBNe, Nat.reduceEqDiff, Nat.reduceAdd, ↓reduceIte, reduceCtorEq, Bool.false_eq_true] at he; subst he)) | ((with_reducible apply Wtr.so); rfl; exact (sz_ rfl); rfl; exact (by (repeat (first | (assumption) | (apply Has.other; omega)))); omega; (focus (repeat (first | (exact all_nil) | (apply all_cons; (focus ((left; dsimp only; decide +kernel))))))); (intro v hv; (simp only [kv, Nat.reduceEqDiff, eq_self, ↓reduceIte, reduceCtorEq, List.map_cons, List.map_nil] at hv); subst hv); refine ⟨_, _, (by ((exact cellsA_agg _))), rfl, rfl, ?_⟩) | ((with_reducible apply Wtr.stq (op := Op.fieldAddr _ _ _)); rfl; exact to_fieldAddr (fa_ rfl) rfl) | ((with_reducible apply Wtr.stq (op := Op.nilCheck _)); rfl; exact to_nilCheck rfl)))
      refine ⟨.inl rfl, Wres.nil ⟨⟨rfl, ?_⟩, ?_⟩⟩
      · exact done_ _ _ (c1 + 1) (by omega) (by dsimp only; omega) (by (repeat (first | (exact Kp.refl) | (apply Kp.set; (focus (first | (left; omega) | (right; (exact rfl)))))))) (Has.other (by omega) (by rw [List.take_nil, List.drop_nil, List.nil_append]; unfold flatI; simp only [List.flatMap_cons, List.flatMap_nil, List.append_nil, hcells]; exact Has.same)) Has.same
      · (dsimp only; exact Ext.of (by omega) (by ((repeat (apply Fresh.put; omega)); ((exact Fresh.up (by assumption) (by omega))))) (by (repeat (first | (assumption) | (apply Kp.set; (focus (first | (left; omega) | (right; (assumption)))))))) (by (repeat (first | (exact Lg.nil) | (assumption) | (apply Lg.cons; (focus (first | (left; omega) | (right; (simp; done))))) | (apply Lg.app)))) (by (repeat (first | (exact Lg.nil) | (assumption) | (apply Lg.cons; (focus ((right; (assumption))))) | (apply Lg.app)))))
    · obtain rfl : la = some ⟨bl, 0, some 5⟩ := by simp only [Value.slice.injEq] at e; exact e.1
      have lbl := hbl.lt hf
      have b1 : Has h1' bl (.cells (flatI l)) := (kp bl lbl (fun q => q)).trans hbl
      have hsub0 : subN 0 (k * 5) (flatI l) = some (flatI (l.take k)) := by
        have h9 := subN_all (flatI l) (l.length * 5) (flatI_len l).symm
        conv at h9 => rhs; rw [show flatI l = flatI (l.take k) ++ flatI (l.drop k) by rw [← flatI_app, List.take_append_drop]]
        rw [show l.length * 5 = k * 5 + (l.length - k) * 5 by omega] at h9
        exact (subN_app h9 (by rw [flatI_len, List.length_take]; omega)).1
      have hsub1 : subN (0 + k * 5) ((l.length - k) * 5) (flatI l) = some (flatI (l.drop k)) := by
        have h9 := subN_all (flatI l) (l.length * 5) (flatI_len l).symm
        conv at h9 => rhs; rw [show flatI l = flatI (l.take k) ++ flatI (l.drop k) by rw [← flatI_app, List.take_append_drop]]
        rw [show l.length * 5 = k * 5 + (l.length - k) * 5 by omega] at h9
        exact (subN_app h9 (by rw [flatI_len, List.length_take]; omega)).2
      have hat1 : ∀ v ∈ flatI (l.drop k), atom v = true := flatI_atom fun x hx => hvs x (List.mem_of_mem_drop hx)
      have hfl : flatI (l.take k ++ it :: l.drop k) = flatI (l.take k) ++ ([.int .i64 it.id, .slice aw it.xs.length kw, .string it.pay, .int .i64 it.seq, .bool it.gone] ++ flatI (l.drop k)) := by
        rw [flatI_app, ← hcells]; rfl
      have hl0 : (flatI (l.take k)).length = k * 5 := by rw [flatI_len, List.length_take]; omega
      have hat5 : ∀ v ∈ ([.int .i64 it.id, .slice aw it.xs.length kw, .string it.pay, .int .i64 it.seq, .bool it.gone] : List Value), atom v = true := all_cons rfl (all_cons rfl (all_cons rfl (all_cons rfl (all_cons rfl all_nil))))
      rcases k with _ | k
      · -- ahead of all
        obtain ⟨m, hm⟩ : ∃ m, l.length = m + 1 := ⟨l.length - 1, by
          cases l with
          | nil => exact absurd rfl hlne
          | cons y ys => rfl⟩
        rw [hm] at hsub1
        simp only [Nat.sub_zero] at hsub1
        (repeat (first | (refine Wx.dreg rfl ?_) | ((with_reducible apply Wtr.mv); rfl; (intro v hv; (simp only [kv, Nat.reduceEqDiff, eq_self, ↓reduceIte, reduceCtorEq, List.map_cons, List.map_nil] at hv); subst hv)) | ((with_reducible apply Wtr.stq (op := Op.fieldAddr _ _ _)); rfl; exact to_fieldAddr (fa_ rfl) rfl) | ((with_reducible apply Wtr.stx (op := Op.load _ _)); rfl; exact to_load (pl_ rfl) rfl (by (repeat ((apply Has.cel; assumption)))) (by omega) (by rfl); repeat ((exact all_nil))) | ((with_reducible apply Wtr.stq (op := Op.nilCheck _)); rfl; exact to_nilCheck rfl)))
        ((with_reducible apply Wtr.stq); (focus rfl); (focus (exact to_sliceHi (k := 0) el49 rfl rfl hz (by omega) (fun a ha => by cases ha; exact .inr rfl))))
        ((with_reducible apply Wtr.stq); (focus rfl); (focus (exact to_appZero ro49 sl49 rfl rfl (by omega))))
        (repeat (first | ((with_reducible apply Wtr.bs); rfl; exact (ro_ rfl); rfl; exact (by ((repeat (apply Fresh.put; omega)); ((assumption)))); (focus (repeat (first | (exact all_nil) | (apply all_cons; (focus ((right; exact ApartP.rr))))))); (intro v hv; (simp only [kv, Nat.reduceEqDiff, eq_self, ↓reduceIte, reduceCtorEq, List.map_cons, List.map_nil] at hv); subst hv); refine ⟨_, rfl, ?_⟩) | ((with_reducible apply Wtr.stx (op := Op.load _ _)); rfl; exact to_loadS (ag_ rfl) rfl (by (repeat ((apply Has.cel; assumption)))) (by omega) (by rfl); (focus (repeat (first | (exact all_nil) | (apply all_cons; (focus ((right; exact ApartP.rr))))))))))
        ((with_reducible apply Wtr.stx); (focus rfl); (focus (exact to_appNil ro49 sl49 rfl rfl (by (repeat ((exact Has.same.cel)))) (by omega) (by rfl) (by decide) (by ((repeat (apply Fresh.put; omega)); ((exact Fresh.up (by assumption) (by omega))))))); (focus (repeat (first | (exact all_nil) | (apply all_cons; (focus (first | (right; exact ApartP.rr) | (left; dsimp only; decide +kernel))))))))
        (repeat (first | ((with_reducible apply Wtr.mv); rfl; (intro v hv; (simp only [kv, Nat.reduceEqDiff, eq_self, ↓reduceIte, reduceCtorEq, List.map_cons, List.map_nil] at hv); subst hv)) | ((with_reducible apply Wtr.stq (op := Op.fieldAddr _ _ _)); rfl; exact to_fieldAddr (fa_ rfl) rfl) | ((with_reducible apply Wtr.stx (op := Op.load _ _)); rfl; exact to_load (pl_ rfl) rfl (by (repeat (first | (apply Has.cel; assumption) | (apply Cel.other; omega)))) (by omega) (by rfl); (focus (repeat (first | (exact all_nil) | (apply all_cons; (focus (first | (right; exact ApartP.rr) | (right; refine ⟨?_, ?_, ?_, ?_, ?_⟩ <;> (first | (exact all_nil) | (intro b hb; (try simp only [List.mem_cons, List.not_mem_nil, or_false] at hb ⊢); omega)))))))))) | ((with_reducible apply Wtr.stq (op := Op.nilCheck _)); rfl; exact to_nilCheck rfl)))
        ((with_reducible apply Wtr.stq); (focus rfl); (focus (exact to_sliceOwn (k := 0) el49 rfl rfl hz (by omega) (by omega))))
        rw [Nat.sub_zero, hm]
        ((with_reducible apply Wtr.stx); (focus rfl); (focus (exact to_appG ro49 sl49 rfl rfl (Cel.other (by omega) (Cel.other (by omega) b1.cel)) (by omega) hsub1 (by omega) (by unfold big; omega) (by (repeat ((exact Has.same)))) (by omega) (by rfl) hat1 (by ((repeat (apply Fresh.put; omega)); ((exact Fresh.up (by assumption) (by omega))))))); (focus (repeat (first | (exact all_nil) | (apply all_cons; (focus ((left; dsimp only; decide +kernel))))))))
        (repeat (first | ((with_reducible refine Wtr.nil ?_); intro e he; (simp only [ke, Nat.testBit, Nat.reduceShiftRight, Nat.reduceAnd, Nat.reduceBNe, Nat.reduceEqDiff, Nat.reduceAdd, ↓reduceIte, reduceCtorEq, Bool.false_eq_true] at he; subst he)) | ((with_reducible apply Wtr.so); rfl; exact (sz_ rfl); rfl; exact (by (repeat (first | (assumption) | (apply Has.other; omega)))); omega; (focus (repeat (first | (exact all_nil) | (apply all_cons; (focus ((left; dsimp only; decide +kernel))))))); (intro v hv; (simp only [kv, Nat.reduceEqDiff, eq_self, ↓reduceIte, reduceCtorEq, List.map_cons, List.map_nil] at hv); subst hv); refine ⟨_, _, (by ((exact cellsA_agg _))), rfl, rfl, ?_⟩) | ((with_reducible apply Wtr.stq (op := Op.fieldAddr _ _ _)); rfl; exact to_fieldAddr (fa_ rfl) rfl) | ((with_reducible apply Wtr.stq (op := Op.nilCheck _)); rfl; exact to_nilCheck rfl)))
        refine ⟨.inl rfl, Wres.nil ⟨⟨rfl, ?_⟩, ?_⟩⟩
        · refine done_ _ _ (c1 + 1 + 1) (by omega) (by dsimp only; omega) (by (repeat (first | (exact Kp.refl) | (apply Kp.set; (focus (first | (left; omega) | (right; (exact rfl)))))))) (Has.other (by omega) ?_) ?_
          · rw [hfl]
            exact Has.same
          · rw [hm, show m + 1 + 1 = 1 + (m + 1) by omega]
            exact Has.same
        · (dsimp only; exact Ext.of (by omega) (by ((repeat (apply Fresh.put; omega)); ((exact Fresh.up (by assumption) (by omega))))) (by (repeat (first | (assumption) | (apply Kp.set; (focus (first | (left; omega) | (right; (assumption)))))))) (by (repeat (first | (exact Lg.nil) | (assumption) | (apply Lg.cons; (focus (first | (left; omega) | (right; (simp; done))))) | (apply Lg.app)))) (by (repeat (first | (exact Lg.nil) | (assumption) | (apply Lg.cons; (focus (first | (left; omega) | (right; (assumption))))) | (apply Lg.app)))))
      · obtain ⟨m, hm⟩ : ∃ m, l.length = k + 1 + m := ⟨l.length - (k + 1), by omega⟩
        rcases m with _ | m
        · -- behind all
          (repeat (first | (refine Wx.dreg rfl ?_) | ((with_reducible apply Wtr.mv); rfl; (intro v hv; (simp only [kv, Nat.reduceEqDiff, eq_self, ↓reduceIte, reduceCtorEq, List.map_cons, List.map_nil] at hv); subst hv)) | ((with_reducible apply Wtr.stq (op := Op.fieldAddr _ _ _)); rfl; exact to_fieldAddr (fa_ rfl) rfl) | ((with_reducible apply Wtr.stx (op := Op.load _ _)); rfl; exact to_load (pl_ rfl) rfl (by (repeat ((apply Has.cel; assumption)))) (by omega) (by rfl); repeat ((exact all_nil))) | ((with_reducible apply Wtr.stq (op := Op.nilCheck _)); rfl; exact to_nilCheck rfl)))
          ((with_reducible apply Wtr.stq); (focus rfl); (focus (exact to_sliceHi (k := k + 1) el49 rfl rfl hz (by omega) (fun a ha => by cases ha; exact .inr rfl))))
          ((with_reducible apply Wtr.stx); (focus rfl); (focus (exact to_appNil ro49 sl49 rfl rfl b1.cel (by omega) hsub0 (by unfold big; omega) (by ((repeat (apply Fresh.put; omega)); ((assumption)))))); (focus (repeat (first | (exact all_nil) | (apply all_cons; (focus ((right; exact ApartP.rr))))))))
          (repeat (first | ((with_reducible apply Wtr.bs); rfl; exact (ro_ rfl); rfl; exact (by ((repeat (apply Fresh.put; omega)); ((exact Fresh.up (by assumption) (by omega))))); (focus (repeat (first | (exact all_nil) | (apply all_cons; (focus (first | (right; exact ApartP.rr) | (right; exact ApartP.rn))))))); (intro v hv; (simp only [kv, Nat.reduceEqDiff, eq_self, ↓reduceIte, reduceCtorEq, List.map_cons, List.map_nil] at hv); subst hv); refine ⟨_, rfl, ?_⟩) | ((with_reducible apply Wtr.stx (op := Op.load _ _)); rfl; exact to_loadS (ag_ rfl) rfl (by (repeat (first | (apply Has.cel; assumption) | (apply Cel.other; omega)))) (by omega) (by rfl); (focus (repeat (first | (exact all_nil) | (apply all_cons; (focus (first | (right; exact ApartP.rr) | (right; refine ⟨?_, ?_, ?_, ?_, ?_⟩ <;> (first | (exact all_nil) | (intro b hb; (try simp only [List.mem_cons, List.not_mem_nil, or_false] at hb ⊢); omega))))))))))))
          ((with_reducible apply Wtr.stx); (focus rfl); (focus (exact to_appG ro49 sl49 rfl rfl (by (repeat ((exact Has.same.cel)))) (by omega) (by rfl) (by omega) (by unfold big; omega) (by (repeat (first | (exact Has.same) | (apply Has.other; omega)))) (by omega) (subN_all _ _ hl0.symm) hat5 (by ((repeat (apply Fresh.put; omega)); ((exact Fresh.up (by assumption) (by omega))))))); (focus (repeat (first | (exact all_nil) | (apply all_cons; (focus ((left; dsimp only; decide +kernel))))))))
          (repeat (first | ((with_reducible apply Wtr.mv); rfl; (intro v hv; (simp only [kv, Nat.reduceEqDiff, eq_self, ↓reduceIte, reduceCtorEq, List.map_cons, List.map_nil] at hv); subst hv)) | ((with_reducible apply Wtr.stq (op := Op.fieldAddr _ _ _)); rfl; exact to_fieldAddr (fa_ rfl) rfl) | ((with_reducible apply Wtr.stx (op := Op.load _ _)); rfl; exact to_load (pl_ rfl) rfl (by (repeat (first | (apply Has.cel; assumption) | (apply Cel.other; omega)))) (by omega) (by rfl); (focus (repeat (first | (exact all_nil) | (apply all_cons; (focus (first | (right; exact ApartP.rr) | (right; refine ⟨?_, ?_, ?_, ?_, ?_⟩ <;> (first | (exact all_nil) | (intro b hb; exact List.not_mem_nil) | (intro b hb; (try simp only [List.mem_cons, List.not_mem_nil, or_false] at hb ⊢); omega)))))))))) | ((with_reducible apply Wtr.stq (op := Op.nilCheck _)); rfl; exact to_nilCheck rfl)))
          ((with_reducible apply Wtr.stq); (focus rfl); (focus (exact to_sliceOwn (k := k + 1) el49 rfl rfl hz (by omega) (by omega))))
          rw [show l.length - (k + 1) = 0 by omega]
          ((with_reducible apply Wtr.stq); (focus rfl); (focus (exact to_appZero ro49 sl49 rfl rfl (by omega))))
          (repeat (first | ((with_reducible refine Wtr.nil ?_); intro e he; (simp only [ke, Nat.testBit, Nat.reduceShiftRight, Nat.reduceAnd, Nat.reduceBNe, Nat.reduceEqDiff, Nat.reduceAdd, ↓reduceIte, reduceCtorEq, Bool.false_eq_true] at he; subst he)) | ((with_reducible apply Wtr.so); rfl; exact (sz_ rfl); rfl; exact (by (repeat (first | (assumption) | (apply Has.other; omega)))); omega; (focus (repeat (first | (exact all_nil) | (apply all_cons; (focus ((left; dsimp only; decide +kernel))))))); (intro v hv; (simp only [kv, Nat.reduceEqDiff, eq_self, ↓reduceIte, reduceCtorEq, List.map_cons, List.map_nil] at hv); subst hv); refine ⟨_, _, (by ((exact cellsA_agg _))), rfl, rfl, ?_⟩) | ((with_reducible apply Wtr.stq (op := Op.fieldAddr _ _ _)); rfl; exact to_fieldAddr (fa_ rfl) rfl) | ((with_reducible apply Wtr.stq (op := Op.nilCheck _)); rfl; exact to_nilCheck rfl)))
          refine ⟨.inl rfl, Wres.nil ⟨⟨rfl, ?_⟩, ?_⟩⟩
          · refine done_ _ _ (c1 + 1 + 1) (by omega) (by dsimp only; omega) (by (repeat (first | (exact Kp.refl) | (apply Kp.set; (focus (first | (left; omega) | (right; (exact rfl)))))))) (Has.other (by omega) ?_) ?_
            · rw [hfl, List.drop_of_length_le (by omega)]
              exact Has.same
            · rw [hm]
              exact Has.same
          · (dsimp only; exact Ext.of (by omega) (by ((repeat (apply Fresh.put; omega)); ((exact Fresh.up (by assumption) (by omega))))) (by (repeat (first | (assumption) | (apply Kp.set; (focus (first | (left; omega) | (right; (assumption)))))))) (by (repeat (first | (exact Lg.nil) | (assumption) | (apply Lg.cons; (focus (first | (left; omega) | (right; (simp; done))))) | (apply Lg.app)))) (by (repeat (first | (exact Lg.nil) | (assumption) | (apply Lg.cons; (focus (first | (left; omega) | (right; (assumption))))) | (apply Lg.app)))))
        · rw [show l.length - (k + 1) = m + 1 by omega] at hsub1
          (repeat (first | (refine Wx.dreg rfl ?_) | ((with_reducible apply Wtr.mv); rfl; (intro v hv; (simp only [kv, Nat.reduceEqDiff, eq_self, ↓reduceIte, reduceCtorEq, List.map_cons, List.map_nil] at hv); subst hv)) | ((with_reducible apply Wtr.stq (op := Op.fieldAddr _ _ _)); rfl; exact to_fieldAddr (fa_ rfl) rfl) | ((with_reducible apply Wtr.stx (op := Op.load _ _)); rfl; exact to_load (pl_ rfl) rfl (by (repeat ((apply Has.cel; assumption)))) (by omega) (by rfl); repeat ((exact all_nil))) | ((with_reducible apply Wtr.stq (op := Op.nilCheck _)); rfl; exact to_nilCheck rfl)))
          ((with_reducible apply Wtr.stq); (focus rfl); (focus (exact to_sliceHi (k := k + 1) el49 rfl rfl hz (by omega) (fun a ha => by cases ha; exact .inr rfl))))
          ((with_reducible apply Wtr.stx); (focus rfl); (focus (exact to_appNil ro49 sl49 rfl rfl b1.cel (by omega) hsub0 (by unfold big; omega) (by ((repeat (apply Fresh.put; omega)); ((assumption)))))); (focus (repeat (first | (exact all_nil) | (apply all_cons; (focus ((right; exact ApartP.rr))))))))
          (repeat (first | ((with_reducible apply Wtr.bs); rfl; exact (ro_ rfl); rfl; exact (by ((repeat (apply Fresh.put; omega)); ((exact Fresh.up (by assumption) (by omega))))); (focus (repeat (first | (exact all_nil) | (apply all_cons; (focus (first | (right; exact ApartP.rr) | (right; exact ApartP.rn))))))); (intro v hv; (simp only [kv, Nat.reduceEqDiff, eq_self, ↓reduceIte, reduceCtorEq, List.map_cons, List.map_nil] at hv); subst hv); refine ⟨_, rfl, ?_⟩) | ((with_reducible apply Wtr.stx (op := Op.load _ _)); rfl; exact to_loadS (ag_ rfl) rfl (by (repeat (first | (apply Has.cel; assumption) | (apply Cel.other; omega)))) (by omega) (by rfl); (focus (repeat (first | (exact all_nil) | (apply all_cons; (focus (first | (right; exact ApartP.rr) | (right; refine ⟨?_, ?_, ?_, ?_, ?_⟩ <;> (first | (exact all_nil) | (intro b hb; (try simp only [List.mem_cons, List.not_mem_nil, or_false] at hb ⊢); omega))))))))))))
          ((with_reducible apply Wtr.stx); (focus rfl); (focus (exact to_appG ro49 sl49 rfl rfl (by (repeat ((exact Has.same.cel)))) (by omega) (by rfl) (by omega) (by unfold big; omega) (by (repeat (first | (exact Has.same) | (apply Has.other; omega)))) (by omega) (subN_all _ _ hl0.symm) hat5 (by ((repeat (apply Fresh.put; omega)); ((exact Fresh.up (by assumption) (by omega))))))); (focus (repeat (first | (exact all_nil) | (apply all_cons; (focus ((left; dsimp only; decide +kernel))))))))
          (repeat (first | ((with_reducible apply Wtr.mv); rfl; (intro v hv; (simp only [kv, Nat.reduceEqDiff, eq_self, ↓reduceIte, reduceCtorEq, List.map_cons, List.map_nil] at hv); subst hv)) | ((with_reducible apply Wtr.stq (op := Op.fieldAddr _ _ _)); rfl; exact to_fieldAddr (fa_ rfl) rfl) | ((with_reducible apply Wtr.stx (op := Op.load _ _)); rfl; exact to_load (pl_ rfl) rfl (by (repeat (first | (apply Has.cel; assumption) | (apply Cel.other; omega)))) (by omega) (by rfl); (focus (repeat (first | (exact all_nil) | (apply all_cons; (focus (first | (right; exact ApartP.rr) | (right; refine ⟨?_, ?_, ?_, ?_, ?_⟩ <;> (first | (exact all_nil) | (intro b hb; exact List.not_mem_nil) | (intro b hb; (try simp only [List.mem_cons, List.not_mem_nil, or_false] at hb ⊢); omega)))))))))) | ((with_reducible apply Wtr.stq (op := Op.nilCheck _)); rfl; exact to_nilCheck rfl)))
          ((with_reducible apply Wtr.stq); (focus rfl); (focus (exact to_sliceOwn (k := k + 1) el49 rfl rfl hz (by omega) (by omega))))
          rw [show l.length - (k + 1) = m + 1 by omega]
          ((with_reducible apply Wtr.stx); (focus rfl); (focus (exact to_appG ro49 sl49 rfl rfl (Cel.other (by omega) (Cel.other (by omega) (Cel.other (by omega) (Cel.other (by omega) b1.cel)))) (by omega) hsub1 (by omega) (by unfold big; omega) (by (repeat ((exact Has.same)))) (by omega) (subN_all _ _ (by rw [List.length_append, hl0]; simp; omega)) hat1 (by ((repeat (apply Fresh.put; omega)); ((exact Fresh.up (by assumption) (by omega))))))); (focus (repeat (first | (exact all_nil) | (apply all_cons; (focus ((left; dsimp only; decide +kernel))))))))
          (repeat (first | ((with_reducible refine Wtr.nil ?_); intro e he; (simp only [ke, Nat.testBit, Nat.reduceShiftRight, Nat.reduceAnd, Nat.reduceBNe, Nat.reduceEqDiff, Nat.reduceAdd, ↓reduceIte, reduceCtorEq, Bool.false_eq_true] at he; subst he)) | ((with_reducible apply Wtr.so); rfl; exact (sz_ rfl); rfl; exact (by (repeat (first | (assumption) | (apply Has.other; omega)))); omega; (focus (repeat (first | (exact all_nil) | (apply all_cons; (focus ((left; dsimp only; decide +kernel))))))); (intro v hv; (simp only [kv, Nat.reduceEqDiff, eq_self, ↓reduceIte, reduceCtorEq, List.map_cons, List.map_nil] at hv); subst hv); refine ⟨_, _, (by ((exact cellsA_agg _))), rfl, rfl, ?_⟩) | ((with_reducible apply Wtr.stq (op := Op.fieldAddr _ _ _)); rfl; exact to_fieldAddr (fa_ rfl) rfl) | ((with_reducible apply Wtr.stq (op := Op.nilCheck _)); rfl; exact to_nilCheck rfl)))
          refine ⟨.inl rfl, Wres.nil ⟨⟨rfl, ?_⟩, ?_⟩⟩
          · refine done_ _ _ (c1 + 1 + 1 + 1) (by omega) (by dsimp only; omega) (by (repeat (first | (exact Kp.refl) | (apply Kp.set; (focus (first | (left; omega) | (right; (exact rfl)))))))) (Has.other (by omega) ?_) ?_
            · rw [hfl, ← List.append_assoc]
              exact Has.same
            · rw [show l.length + 1 = k + 1 + (0 + 1) + (m + 1) by omega]
              exact Has.same
          · (dsimp only; exact Ext.of (by omega) (by ((repeat (apply Fresh.put; omega)); ((exact Fresh.up (by assumption) (by omega))))) (by (repeat (first | (assumption) | (apply Kp.set; (focus (first | (left; omega) | (right; (assumption)))))))) (by (repeat (first | (exact Lg.nil) | (assumption) | (apply Lg.cons; (focus (first | (left; omega) | (right; (simp; done))))) | (apply Lg.app)))) (by (repeat (first | (exact Lg.nil) | (assumption) | (apply Lg.cons; (focus (first | (left; omega) | (right; (assumption))))) | (apply Lg.app)))))
end Go.Ab.Seat
