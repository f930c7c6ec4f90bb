/- A store of items; where its errors are (the abstract machine). -/
import Derived.Test.YthkmcfiijooddaaGreatDoorBSL0
import Derived.Test.YthkmcfiijooddaaGreatDoorBSM4
set_option linter.unusedVariables false
set_option linter.unusedSimpArgs false
namespace Go.Ab.Seat
open Go.Extern Go.Proofs
set_option linter.unusedSimpArgs false
set_option linter.unusedVariables false
set_option maxRecDepth 4000
set_option pp.deepTerms false
set_option pp.deepTerms.threshold 6

/-- A record is put in by hand. -/
theorem StM.hand {h h' : T AObj} {c p m n : Nat} {es : List (Value × Value × Nat)} {ids : List Int} {M : List Rc} {U : Nat → Prop} (q : StM h p m M U) (h1 : StoreR h p m es n U) (h2 : Keyed es n ids) (h3 : ∀ x, Fits h p m U (getM x M) (valI x es)) (hf : Fresh h c) {id seq : Int} (h0 : 1 ≤ id) (h9 : id ≤ 1000) (k : ∀ b, U b → b < c → b ≠ m → h'.get b = h.get b)
    (hm : Has h' m (.map (putI .i64 id (itv id (.slice none 0 0) .empty seq true) n es).1 (putI .i64 id (itv id (.slice none 0 0) .empty seq true) n es).2)) : StM h' p m (putM ⟨id, [], .empty, seq, true⟩ M) U := by
  have hpm := h1.ne
  refine ⟨⟨_, _, ⟨(k p h1.pU (h1.ptr.lt hf) hpm).trans h1.ptr, hm, h1.pU, h1.mU, fun e he => ?_⟩, ⟨_, h2.put (by unfold wfI; rw [decide_eq_true (by omega), decide_eq_true (by omega)]; rfl) _⟩, fun x => ?_⟩, q.rises.put _, fun r hr => ?_⟩
  · rcases mem_putI he with he | ⟨e1, e2⟩
    · exact (h1.ents e he).keep hf fun b hb hc _ hm => k b hb hc hm
    · exact ⟨⟨id, .slice none 0 0, [], .empty, seq, true⟩, e1, e2, .inl ⟨rfl, rfl, rfl⟩, fun b hb => by cases hb⟩
  · rw [getM_put, valI_put h2]
    by_cases hxi : id = x
    · rw [if_pos hxi, if_pos hxi.symm]
      exact .inr ⟨_, _, rfl, rfl, ⟨id, .slice none 0 0, [], .empty, seq, true⟩, rfl, rfl, .inl ⟨rfl, rfl, rfl⟩, fun b hb => by cases hb⟩
    · rw [if_neg hxi, if_neg fun e => hxi e.symm]
      exact (h3 x).keep hf (fun b hb => hb) fun b hb hc _ hm => k b hb hc hm
  · rcases mem_putM hr with rfl | hr
    · exact ⟨h0, h9, Nat.zero_le _, [], rfl⟩
    · exact q.rng r hr

def EL (oa : Option Addr) (n k c : Nat) (last z : Int) (j7 j12 j46 j49 : Value) : L :=
  .cons 0 (.slice oa n k) (.cons 2 (.pointer none) (.cons 3 .nilIface (.cons 4 (.pointer (some ⟨c + 1, 0, none⟩)) (.cons 5 (.int .i64 last) (.cons 7 j7 (.cons 9 (.slice oa n k) (.cons 10 (.int .i64 (n : Int)) (.cons 11 (.int .i64 z) (.cons 12 j12 (.cons 46 j46 (.cons 49 j49 .nil)))))))))))

set_option maxHeartbeats 4000000 in
theorem load_spec {h : T AObj} {c : Nat} {rl wl : List Nat} (hf : Fresh h c) {v : Value} {rs : List Rc} (hx : ItRow h c v rs) (hb : rs.length ≤ 1000000) (hb2 : ∀ r ∈ rs, r.xs.length ≤ bigV) :
    ∃ r s', FnTo (Cs smQ) eg 20 [v] ⟨h, c, rl, wl⟩ r s' ∧ ((MayR 0 rs ∧ r = .tuple #[.pointer (some ⟨c + 1, 0, none⟩), .nilIface] ∧ StM s'.h (c + 1) c rs (fun b => c ≤ b ∧ b < s'.c)) ∨ (¬MayR 0 rs ∧ ∃ b, r = .tuple #[.pointer none, .iface 122 (.pointer (some ⟨b, 0, none⟩))] ∧ c ≤ b ∧ b < s'.c ∧ Has s'.h b (.cells [.string storeS, .iface 35 (.int .i64 1)]))) ∧ Ext ⟨h, c, rl, wl⟩ s' (fun _ => True) (fun _ => False) := by
  obtain ⟨oa, k, rfl, hc⟩ := hx.val
  have H := stdQ
  generalize hn : rs.length = n at *
  refine Fn.go (H 20 rfl) ex20 fn20 km20 rfl rfl ?_
  intro e he
  (simp only [ke, Nat.testBit, Nat.reduceShiftRight, Nat.reduceAnd, Nat.reduceBNe, Nat.reduceEqDiff, Nat.reduceAdd, ↓reduceIte, reduceCtorEq, Bool.false_eq_true] at he; subst he)
  (repeat (first | (with_reducible refine Then.go ?_) | (with_reducible refine Wx.seq ?_) | (with_reducible refine Wx.reg ?_) | ((with_reducible refine Wseq.nil ?_); intro e he; (simp only [ke, Nat.testBit, Nat.reduceShiftRight, Nat.reduceAnd, Nat.reduceBNe, Nat.reduceEqDiff, Nat.reduceAdd, ↓reduceIte, reduceCtorEq, Bool.false_eq_true] at he; subst he)) | ((with_reducible apply Wseq.as); rfl; (intro v hv; (simp only [kv, Nat.reduceEqDiff, eq_self, ↓reduceIte, reduceCtorEq, List.map_cons, List.map_nil] at hv); subst hv))))
  refine Wseq.call rfl rfl (snew_spec H (by ((repeat (apply Fresh.put; omega)); ((assumption))))) ?_
  rintro v h1 c1 r1 w1 ⟨rfl, q1, e1, x1⟩
  dsimp only at e1 q1
  subst e1
  have f1 : Fresh h1 (c + 2) := x1.fresh
  have K1 := Kp.ext (W := fun _ => False) (h := h) (c := c) Kp.refl x1 (by omega) (fun _ _ q => q)
  have C1 : SO h c h1 (c + 2) [] := ⟨f1, by omega, K1, q1.empty⟩
  have lr := Lg.extR (R := fun _ => True) (c := c) Lg.nil x1 (fun _ _ q => trivial)
  have lw := Lg.extW (W := fun _ => False) (c := c) Lg.nil x1 (fun _ _ q => q)
  (repeat (first | (with_reducible refine Then.go ?_) | (with_reducible refine Wx.seq ?_) | (with_reducible refine Wx.block ?_) | (with_reducible refine Wx.reg ?_) | ((with_reducible refine Wseq.nil ?_); intro e he; (simp only [ke, Nat.testBit, Nat.reduceShiftRight, Nat.reduceAnd, Nat.reduceBNe, Nat.reduceEqDiff, Nat.reduceAdd, ↓reduceIte, reduceCtorEq, Bool.false_eq_true] at he; subst he)) | ((with_reducible apply Wseq.mv); rfl; (intro v hv; (simp only [kv, Nat.reduceEqDiff, eq_self, ↓reduceIte, reduceCtorEq, List.map_cons, List.map_nil] at hv); subst hv)) | ((with_reducible apply Wseq.as); rfl; (intro v hv; (simp only [kv, Nat.reduceEqDiff, eq_self, ↓reduceIte, reduceCtorEq, List.map_cons, List.map_nil] at hv); subst hv)) | ((with_reducible apply Wseq.stg (op := Op.call ⟨Callee.builtin Builtin.len, _, _⟩)); rfl; exact to_lenS (sl_ rfl) rfl)))
  refine Wx.loopE (fun k1 e s => ∃ (i : Nat) (z last : Int) (h' : T AObj) (c' : Nat) (rl' wl' : List Nat) (j7 j12 j46 j49 : Value), e = EL oa n k c last z j7 j12 j46 j49 ∧ z = i ∧ s = ⟨h', c', rl', wl'⟩ ∧ SO h c h' c' (rs.take i) ∧ Lg c (fun _ => True) rl' ∧ Lg c (fun _ => False) wl' ∧ (∀ r ∈ rs.take i, r.id ≤ last) ∧ 0 ≤ last ∧ (MayR last (rs.drop i) ↔ MayR 0 rs) ∧ i ≤ n ∧ k1 = n - i) n (EL oa n k c 0 0 top top top top) (by (repeat (first | (exact Resp.fn) | (apply Resp.then) | (apply Resp.out)))) ?_ ?_ ?_
  · unfold EL
    (refine EqK.of ?_ ?_ <;> (repeat (first | (exact all_nil) | (apply all_cons; rfl))))
  · exact ⟨0, 0, 0, _, _, _, _, _, _, _, _, rfl, rfl, rfl, C1, (by (repeat ((assumption)))), (by (repeat ((assumption)))), (fun r hr => by cases hr), by omega, Iff.rfl, by omega, rfl⟩
  · rintro k1 e s ⟨i, z, last, h2, c2, rl2, wl2, j7, j12, j46, j49, rfl, hz, rfl, C2, hlr, hlw, hle, h0, hmay, hin, rfl⟩
    have f2 := C2.f
    have y2 := C2.le
    unfold EL
    by_cases hi : i < n
    rotate_left
    · (repeat (first | (with_reducible refine Then.go ?_) | (with_reducible refine Then.ex ?_) | (with_reducible refine Out.hit ?_) | (with_reducible refine Wx.seq ?_) | (with_reducible refine Wx.exit ?_) | (with_reducible refine Wx.ret ?_) | (with_reducible refine Wx.reg ?_) | (with_reducible refine RoundE.ex ?_) | (refine Wx.condF rfl (by rfl) ?_) | ((with_reducible refine Wseq.nil ?_); intro e he; (simp only [ke, Nat.testBit, Nat.reduceShiftRight, Nat.reduceAnd, Nat.reduceBNe, Nat.reduceEqDiff, Nat.reduceAdd, ↓reduceIte, reduceCtorEq, Bool.false_eq_true] at he; subst he)) | ((with_reducible apply Wseq.mv); rfl; (intro v hv; (simp only [kv, Nat.reduceEqDiff, eq_self, ↓reduceIte, reduceCtorEq, List.map_cons, List.map_nil] at hv); subst hv)) | ((with_reducible apply Wseq.as); rfl; (intro v hv; (simp only [kv, Nat.reduceEqDiff, eq_self, ↓reduceIte, reduceCtorEq, List.map_cons, List.map_nil] at hv); subst hv)) | ((with_reducible apply Wseq.stg (op := Op.binOp BinOp.lss _ _ _ _)); rfl; exact to_lssF rfl rfl (by omega))))
      refine ⟨.inr rfl, Wres.two rfl rfl ⟨.inl ⟨?_, rfl, ?_⟩, ?_⟩⟩
      · rw [List.drop_of_length_le (by omega)] at hmay
        exact hmay.1 trivial
      · have := C2.st
        rw [List.take_of_length_le (by omega)] at this
        exact this
      · have kp := C2.kp
        (dsimp only; exact Ext.of (by omega) (by ((repeat (apply Fresh.put; omega)); ((assumption)))) (by (repeat ((assumption)))) (by (repeat ((assumption)))) (by (repeat ((assumption)))))
    have hrs : rs[i]? = some rs[i] := List.getElem?_eq_getElem (by omega)
    have ht1 : rs.take (i + 1) = rs.take i ++ [rs[i]] := by rw [List.take_add_one, hrs]; rfl
    have hd1 : rs.drop i = rs[i] :: rs.drop (i + 1) := List.drop_eq_getElem_cons (by omega)
    have hm : rs[i] ∈ rs := List.getElem_mem _
    generalize rs[i] = r at *
    obtain ⟨b1, o1, sp1, cs1, aw, kw, rfl, hc1, hn1, hr1, hkw, hbw⟩ := hc i r hrs
    have hxl := hb2 r hm
    obtain ⟨zs, hzs⟩ := hx.ints r hm
    obtain ⟨rid, rxs, rpay, rseq, rg⟩ := r
    dsimp only at hn1 hr1 hkw hxl hzs
    subst hzs
    rw [List.length_map] at hn1 hr1 hxl
    have l1 := hc1.lt hf
    have D1 : Cel h2 b1 cs1 := by unfold Cel Has at hc1 ⊢; rw [C2.kp b1 l1 (fun q => q)]; exact hc1
    rw [hd1] at hmay
    by_cases c1 : rid ≤ last
    · (repeat (first | (with_reducible refine Then.go ?_) | (with_reducible refine Wx.seq ?_) | (with_reducible refine Wx.skip ?_) | (with_reducible refine Wx.block ?_) | (with_reducible refine Wx.reg ?_) | (refine Wx.condT rfl (by rfl) ?_) | ((with_reducible refine Wseq.nil ?_); intro e he; (simp only [ke, Nat.testBit, Nat.reduceShiftRight, Nat.reduceAnd, Nat.reduceBNe, Nat.reduceEqDiff, Nat.reduceAdd, ↓reduceIte, reduceCtorEq, Bool.false_eq_true] at he; subst he)) | ((with_reducible apply Wseq.stg (op := Op.binOp BinOp.lss _ _ _ _)); rfl; exact to_lssT rfl rfl (by omega))))
      ((with_reducible apply Wseq.stg); (focus rfl); (focus (exact to_indexAddr (k := i) el49 rfl rfl hz (by omega))))
      ((with_reducible apply Wseq.stg); (focus rfl); (focus (exact to_loadS ag59 rfl D1 (by omega) hn1)))
      (repeat (first | (with_reducible refine Then.go ?_) | (with_reducible refine Wx.seq ?_) | (with_reducible refine Wx.reg ?_) | (refine Wx.condT rfl (by rfl) ?_) | ((with_reducible refine Wseq.nil ?_); intro e he; (simp only [ke, Nat.testBit, Nat.reduceShiftRight, Nat.reduceAnd, Nat.reduceBNe, Nat.reduceEqDiff, Nat.reduceAdd, ↓reduceIte, reduceCtorEq, Bool.false_eq_true] at he; subst he)) | ((with_reducible apply Wseq.mv); rfl; (intro v hv; (simp only [kv, Nat.reduceEqDiff, eq_self, ↓reduceIte, reduceCtorEq, List.map_cons, List.map_nil] at hv); subst hv)) | ((with_reducible apply Wseq.pkT); rfl; rfl; (intro v hv; (simp only [kv, Nat.reduceEqDiff, eq_self, ↓reduceIte, reduceCtorEq, List.map_cons, List.map_nil] at hv); subst hv)) | ((with_reducible apply Wseq.so); rfl; exact (sz_ rfl); rfl; exact (by (repeat ((exact Has.same)))); omega; (intro v hv; (simp only [kv, Nat.reduceEqDiff, eq_self, ↓reduceIte, reduceCtorEq, List.map_cons, List.map_nil] at hv); subst hv); refine ⟨_, _, (by ((exact cellsA_agg _))), rfl, rfl, ?_⟩) | ((with_reducible apply Wseq.stg (op := Op.fieldAddr _ _ _)); rfl; exact to_fieldAddr (fa_ rfl) rfl) | ((with_reducible apply Wseq.stg (op := Op.load _ _)); rfl; exact to_load (pl_ rfl) rfl (by (repeat ((exact Has.same.cel)))) (by omega) (by rfl)) | ((with_reducible apply Wseq.stg (op := Op.alloc _)); rfl; exact to_alloc (ze_ rfl) (by ((exact cellsA_agg _))) (by ((repeat (apply Fresh.put; omega)); ((assumption))))) | ((with_reducible apply Wseq.stg (op := Op.binOp BinOp.leq _ _ _ _)); rfl; exact to_leqT rfl rfl (by omega)) | (refine Wseq.no rfl ?_)))
      refine Wseq.call rfl rfl (sat_specW H (by ((repeat (apply Fresh.put; omega)); ((exact Fresh.up (by assumption) (by omega))))) 1 (by decide)) ?_
      rintro v3 h3 c3 r3 w3 ⟨rfl, e3⟩
      cases e3
      (repeat (first | (with_reducible refine Then.go ?_) | (with_reducible refine Then.rt ?_) | (with_reducible refine Out.rt ?_) | (with_reducible refine Wx.ret ?_) | (with_reducible refine RoundE.rt ?_) | ((with_reducible refine Wseq.nil ?_); intro e he; (simp only [ke, Nat.testBit, Nat.reduceShiftRight, Nat.reduceAnd, Nat.reduceBNe, Nat.reduceEqDiff, Nat.reduceAdd, ↓reduceIte, reduceCtorEq, Bool.false_eq_true] at he; subst he)) | ((with_reducible apply Wseq.as); rfl; (intro v hv; (simp only [kv, Nat.reduceEqDiff, eq_self, ↓reduceIte, reduceCtorEq, List.map_cons, List.map_nil] at hv); subst hv))))
      refine ⟨.inr rfl, Wres.two rfl rfl ⟨.inr ⟨fun h => ?_, _, rfl, by omega, by dsimp only; omega, Has.same⟩, ?_⟩⟩
      · have := (hmay.2 h).1.1
        dsimp only at this
        omega
      · have kp := C2.kp
        (dsimp only; exact Ext.of (by omega) (by ((repeat (apply Fresh.put; omega)); ((exact Fresh.up (by assumption) (by omega))))) (by (repeat (first | (assumption) | (apply Kp.set; (focus (left; omega)))))) (by (repeat (first | (assumption) | (apply Lg.cons; (focus (first | (left; omega) | (right; (simp; done)))))))) (by (repeat (first | (assumption) | (apply Lg.cons; (focus (left; omega)))))))
    have hnone : seqM rid (rs.take i) = 0 := by
      unfold seqM
      rw [getM_none.2 fun r hr => by have := hle r hr; omega]
    have hend : ∀ g, putM ⟨rid, zs.map (Value.int .i32), rpay, rseq, g⟩ (rs.take i) = rs.take i ++ [⟨rid, zs.map (Value.int .i32), rpay, rseq, g⟩] := fun g => putM_end _ fun r hr => by have := hle r hr; dsimp only; omega
    have rowAt : ∀ h' : T AObj, Kp h h' c (fun _ => False) → Row h' (.slice aw zs.length kw) zs.length 1 (zs.map (Value.int .i32)) := fun h' K => Row.keepF hr1 hf fun b hb => K b hb (fun q => q)
    have kp2 := C2.kp
    (repeat (first | (with_reducible refine Then.go ?_) | (with_reducible refine Wx.seq ?_) | (with_reducible refine Wx.skip ?_) | (with_reducible refine Wx.block ?_) | (with_reducible refine Wx.reg ?_) | (refine Wx.condT rfl (by rfl) ?_) | ((with_reducible refine Wseq.nil ?_); intro e he; (simp only [ke, Nat.testBit, Nat.reduceShiftRight, Nat.reduceAnd, Nat.reduceBNe, Nat.reduceEqDiff, Nat.reduceAdd, ↓reduceIte, reduceCtorEq, Bool.false_eq_true] at he; subst he)) | ((with_reducible apply Wseq.stg (op := Op.binOp BinOp.lss _ _ _ _)); rfl; exact to_lssT rfl rfl (by omega))))
    ((with_reducible apply Wseq.stg); (focus rfl); (focus (exact to_indexAddr (k := i) el49 rfl rfl hz (by omega))))
    ((with_reducible apply Wseq.stg); (focus rfl); (focus (exact to_loadS ag59 rfl D1 (by omega) hn1)))
    (repeat (first | (with_reducible refine Then.go ?_) | (with_reducible refine Wx.seq ?_) | (with_reducible refine Wx.reg ?_) | ((with_reducible refine Wseq.nil ?_); intro e he; (simp only [ke, Nat.testBit, Nat.reduceShiftRight, Nat.reduceAnd, Nat.reduceBNe, Nat.reduceEqDiff, Nat.reduceAdd, ↓reduceIte, reduceCtorEq, Bool.false_eq_true] at he; subst he)) | ((with_reducible apply Wseq.mv); rfl; (intro v hv; (simp only [kv, Nat.reduceEqDiff, eq_self, ↓reduceIte, reduceCtorEq, List.map_cons, List.map_nil] at hv); subst hv)) | ((with_reducible apply Wseq.so); rfl; exact (sz_ rfl); rfl; exact (by (repeat ((exact Has.same)))); omega; (intro v hv; (simp only [kv, Nat.reduceEqDiff, eq_self, ↓reduceIte, reduceCtorEq, List.map_cons, List.map_nil] at hv); subst hv); refine ⟨_, _, (by ((exact cellsA_agg _))), rfl, rfl, ?_⟩) | ((with_reducible apply Wseq.stg (op := Op.fieldAddr _ _ _)); rfl; exact to_fieldAddr (fa_ rfl) rfl) | ((with_reducible apply Wseq.stg (op := Op.load _ _)); rfl; exact to_load (pl_ rfl) rfl (by (repeat ((exact Has.same.cel)))) (by omega) (by rfl)) | ((with_reducible apply Wseq.stg (op := Op.alloc _)); rfl; exact to_alloc (ze_ rfl) (by ((exact cellsA_agg _))) (by ((repeat (apply Fresh.put; omega)); ((assumption))))) | ((with_reducible apply Wseq.stg (op := Op.binOp BinOp.leq _ _ _ _)); rfl; exact to_leqF rfl rfl (by omega))))
    refine Wseq.call rfl rfl (mputA_spec H (by ((repeat (apply Fresh.put; omega)); ((exact Fresh.up (by assumption) (by omega))))) (C2.st.keep (h' := (h2.set c2 _).set c2 _) f2 fun b hb hl => by rw [get_other (by omega), get_other (by omega)]) rid rseq rpay (zs := zs) (rowAt _ (by (repeat (first | (assumption) | (apply Kp.set; (focus (left; omega))))))) rfl hxl (fun _ e => hkw e) (fun b => b < c) (fun b o sp e => hbw _ e) (by omega)) ?_
    rintro v3 h3 c3 r3 w3 ⟨⟨hE, q3⟩, x3⟩
    have y3 := x3.c
    dsimp only at y3 q3
    have f3 : Fresh h3 c3 := x3.fresh
    have C3 := C2.turn (h2 := (h2.set c2 _).set c2 _) (by omega) (by (repeat (first | (exact Kp.refl) | (apply Kp.set; (focus (left; omega)))))) x3 q3 (fun b hb => by omega)
    have B3 := x3.hs (b := c2) Has.same (by omega) (by omega)
    have kp3 := C3.kp
    have lr3 := Lg.extR (R := fun _ => True) (c := c) (by (repeat (first | (assumption) | (apply Lg.cons; (focus (first | (left; omega) | (right; (simp; done)))))))) x3 (fun _ _ q => trivial)
    have lw3 := Lg.extW (W := fun _ => False) (c := c) (by (repeat (first | (assumption) | (apply Lg.cons; (focus (left; omega)))))) x3 (fun b hb q => by omega)
    have hpz : putZ rid rseq rpay (rs.take i) = if 1000 < rid then 2 else if 40 < rpay.size then 11 else if rseq ≤ 0 then 1 else 0 := by
      unfold putZ
      rw [hnone]
      by_cases h1 : 1000 < rid
      · rw [if_pos (.inr h1), if_pos h1]
      · rw [if_neg (by omega), if_neg h1]
    by_cases hok : putZ rid rseq rpay (rs.take i) = 0
    rotate_left
    · obtain ⟨_, b4, w4, rfl, hb4, lb4, B4⟩ := hE.err hok
      (repeat (first | (with_reducible refine Then.go ?_) | (with_reducible refine Wx.seq ?_) | (with_reducible refine Wx.reg ?_) | (refine Wx.condT rfl (by rfl) ?_) | ((with_reducible refine Wseq.nil ?_); intro e he; (simp only [ke, Nat.testBit, Nat.reduceShiftRight, Nat.reduceAnd, Nat.reduceBNe, Nat.reduceEqDiff, Nat.reduceAdd, ↓reduceIte, reduceCtorEq, Bool.false_eq_true] at he; subst he)) | ((with_reducible apply Wseq.mv); rfl; (intro v hv; (simp only [kv, Nat.reduceEqDiff, eq_self, ↓reduceIte, reduceCtorEq, List.map_cons, List.map_nil] at hv); subst hv)) | ((with_reducible apply Wseq.pkT); rfl; rfl; (intro v hv; (simp only [kv, Nat.reduceEqDiff, eq_self, ↓reduceIte, reduceCtorEq, List.map_cons, List.map_nil] at hv); subst hv)) | ((with_reducible apply Wseq.pkF); rfl; rfl; (intro v hv; (simp only [kv, Nat.reduceEqDiff, eq_self, ↓reduceIte, reduceCtorEq, List.map_cons, List.map_nil] at hv); subst hv)) | ((with_reducible apply Wseq.stg (op := Op.binOp BinOp.neq _ _ _ _)); rfl; exact to_neF (un_ rfl) rfl rfl) | (refine Wseq.no rfl ?_)))
      refine Wseq.call rfl rfl (sat_specW H (by ((repeat (apply Fresh.put; omega)); ((assumption)))) 1 (by decide)) ?_
      rintro v5 h5 c5 r5 w5 ⟨rfl, e5⟩
      cases e5
      (repeat (first | (with_reducible refine Then.go ?_) | (with_reducible refine Then.rt ?_) | (with_reducible refine Out.rt ?_) | (with_reducible refine Wx.ret ?_) | (with_reducible refine RoundE.rt ?_) | ((with_reducible refine Wseq.nil ?_); intro e he; (simp only [ke, Nat.testBit, Nat.reduceShiftRight, Nat.reduceAnd, Nat.reduceBNe, Nat.reduceEqDiff, Nat.reduceAdd, ↓reduceIte, reduceCtorEq, Bool.false_eq_true] at he; subst he)) | ((with_reducible apply Wseq.as); rfl; (intro v hv; (simp only [kv, Nat.reduceEqDiff, eq_self, ↓reduceIte, reduceCtorEq, List.map_cons, List.map_nil] at hv); subst hv))))
      refine ⟨.inr rfl, Wres.two rfl rfl ⟨.inr ⟨fun h => ?_, _, rfl, by omega, by dsimp only; omega, Has.same⟩, ?_⟩⟩
      · obtain ⟨⟨g1, g2, g3, g4, g5⟩, _⟩ := hmay.2 h
        dsimp only at g1 g2 g3 g4
        rw [hpz, if_neg (by omega), if_neg (by omega), if_neg (by omega)] at hok
        exact hok rfl
      · (dsimp only; exact Ext.of (by omega) (by ((repeat (apply Fresh.put; omega)); ((exact Fresh.up (by assumption) (by omega))))) (by (repeat (first | (assumption) | (apply Kp.set; (focus (left; omega)))))) (by (repeat ((assumption)))) (by (repeat ((assumption)))))
    have hr1000 : rid ≤ 1000 ∧ rpay.size ≤ 40 ∧ 1 ≤ rseq := by
      rw [hpz] at hok
      by_cases g1 : 1000 < rid
      · rw [if_pos g1] at hok; cases hok
      rw [if_neg g1] at hok
      by_cases g2 : 40 < rpay.size
      · rw [if_pos g2] at hok; cases hok
      rw [if_neg g2] at hok
      by_cases g3 : rseq ≤ 0
      · rw [if_pos g3] at hok; cases hok
      omega
    obtain rfl := hE.nil hok
    have hL : putL rid rseq (zs.map (Value.int .i32)) rpay (rs.take i) = rs.take i ++ [⟨rid, zs.map (Value.int .i32), rpay, rseq, false⟩] := by
      unfold putL
      rw [if_pos hok, hend]
    rw [hL] at C3
    have nle : ∀ r ∈ rs.take (i + 1), r.id ≤ rid := by
      intro r hr
      rw [ht1] at hr
      rcases List.mem_append.1 hr with hr | hr
      · have := hle r hr
        omega
      · obtain rfl := List.mem_singleton.1 hr
        exact Int.le_refl _
    cases rg with
    | false =>
      (repeat (first | (with_reducible refine Then.go ?_) | (with_reducible refine Out.go ?_) | (with_reducible refine Wx.seq ?_) | (with_reducible refine Wx.skip ?_) | (with_reducible refine Wx.reg ?_) | (refine Wx.condF rfl (by rfl) ?_) | ((with_reducible refine Wseq.nil ?_); intro e he; (simp only [ke, Nat.testBit, Nat.reduceShiftRight, Nat.reduceAnd, Nat.reduceBNe, Nat.reduceEqDiff, Nat.reduceAdd, ↓reduceIte, reduceCtorEq, Bool.false_eq_true] at he; subst he)) | ((with_reducible apply Wseq.mv); rfl; (intro v hv; (simp only [kv, Nat.reduceEqDiff, eq_self, ↓reduceIte, reduceCtorEq, List.map_cons, List.map_nil] at hv); subst hv)) | ((with_reducible apply Wseq.as); rfl; (intro v hv; (simp only [kv, Nat.reduceEqDiff, eq_self, ↓reduceIte, reduceCtorEq, List.map_cons, List.map_nil] at hv); subst hv)) | ((with_reducible apply Wseq.pkF); rfl; rfl; (intro v hv; (simp only [kv, Nat.reduceEqDiff, eq_self, ↓reduceIte, reduceCtorEq, List.map_cons, List.map_nil] at hv); subst hv)) | ((with_reducible apply Wseq.stg (op := Op.fieldAddr _ _ _)); rfl; exact to_fieldAddr (fa_ rfl) rfl) | ((with_reducible apply Wseq.stg (op := Op.load _ _)); rfl; exact to_load (pl_ rfl) rfl (by (repeat ((apply Has.cel; assumption)))) (by omega) (by rfl)) | ((with_reducible apply Wseq.stg (op := Op.binOp BinOp.add _ _ _ _)); rfl; exact to_add rfl rfl (by omega) (by omega)) | ((with_reducible apply Wseq.stg (op := Op.binOp BinOp.neq _ _ _ _)); rfl; exact to_neN (un_ rfl) rfl rfl) | (refine Wseq.no rfl ?_)))
      refine RoundE.go (n - (i + 1)) (EL _ n k c rid (z + 1) _ _ _ _) (by omega) (by (refine EqK.of ?_ ?_ <;> (repeat (first | (exact all_nil) | (apply all_cons; rfl))))) ⟨i + 1, z + 1, rid, _, _, _, _, _, _, _, _, rfl, by omega, rfl, by rw [ht1]; exact C3, (by (repeat (first | (assumption) | (apply Lg.cons; (focus (left; omega)))))), (by (repeat ((assumption)))), nle, by omega, ?_, by omega, rfl⟩
      rw [← hmay]
      exact ⟨fun g => ⟨⟨by dsimp only; omega, hr1000.1, hr1000.2.1, hr1000.2.2, (fun h => by cases h)⟩, g⟩, fun g => g.2⟩
    | true =>
      by_cases hz0 : 0 < zs.length
      · (repeat (first | (with_reducible refine Then.go ?_) | (with_reducible refine Wx.seq ?_) | (with_reducible refine Wx.reg ?_) | (refine Wx.condT rfl (by rfl) ?_) | ((with_reducible refine Wseq.nil ?_); intro e he; (simp only [ke, Nat.testBit, Nat.reduceShiftRight, Nat.reduceAnd, Nat.reduceBNe, Nat.reduceEqDiff, Nat.reduceAdd, ↓reduceIte, reduceCtorEq, Bool.false_eq_true] at he; subst he)) | ((with_reducible apply Wseq.mv); rfl; (intro v hv; (simp only [kv, Nat.reduceEqDiff, eq_self, ↓reduceIte, reduceCtorEq, List.map_cons, List.map_nil] at hv); subst hv)) | ((with_reducible apply Wseq.pkT); rfl; rfl; (intro v hv; (simp only [kv, Nat.reduceEqDiff, eq_self, ↓reduceIte, reduceCtorEq, List.map_cons, List.map_nil] at hv); subst hv)) | ((with_reducible apply Wseq.pkF); rfl; rfl; (intro v hv; (simp only [kv, Nat.reduceEqDiff, eq_self, ↓reduceIte, reduceCtorEq, List.map_cons, List.map_nil] at hv); subst hv)) | ((with_reducible apply Wseq.stg (op := Op.fieldAddr _ _ _)); rfl; exact to_fieldAddr (fa_ rfl) rfl) | ((with_reducible apply Wseq.stg (op := Op.load _ _)); rfl; exact to_load (pl_ rfl) rfl (by (repeat ((apply Has.cel; assumption)))) (by omega) (by rfl)) | ((with_reducible apply Wseq.stg (op := Op.call ⟨Callee.builtin Builtin.len, _, _⟩)); rfl; exact to_lenS (sl_ rfl) rfl) | ((with_reducible apply Wseq.stg (op := Op.binOp BinOp.gtr _ _ _ _)); rfl; exact to_gtrT rfl rfl (by omega)) | ((with_reducible apply Wseq.stg (op := Op.binOp BinOp.neq _ _ _ _)); rfl; exact to_neN (un_ rfl) rfl rfl) | (refine Wseq.no rfl ?_)))
        refine Wseq.call rfl rfl (sat_specW H (by ((repeat (apply Fresh.put; omega)); ((assumption)))) 1 (by decide)) ?_
        rintro v5 h5 c5 r5 w5 ⟨rfl, e5⟩
        cases e5
        (repeat (first | (with_reducible refine Then.go ?_) | (with_reducible refine Then.rt ?_) | (with_reducible refine Out.rt ?_) | (with_reducible refine Wx.ret ?_) | (with_reducible refine RoundE.rt ?_) | ((with_reducible refine Wseq.nil ?_); intro e he; (simp only [ke, Nat.testBit, Nat.reduceShiftRight, Nat.reduceAnd, Nat.reduceBNe, Nat.reduceEqDiff, Nat.reduceAdd, ↓reduceIte, reduceCtorEq, Bool.false_eq_true] at he; subst he)) | ((with_reducible apply Wseq.as); rfl; (intro v hv; (simp only [kv, Nat.reduceEqDiff, eq_self, ↓reduceIte, reduceCtorEq, List.map_cons, List.map_nil] at hv); subst hv))))
        refine ⟨.inr rfl, Wres.two rfl rfl ⟨.inr ⟨fun h => ?_, _, rfl, by omega, by dsimp only; omega, Has.same⟩, ?_⟩⟩
        · have := ((hmay.2 h).1.2.2.2.2 rfl).1
          dsimp only at this
          obtain rfl := List.map_eq_nil_iff.1 this
          exact absurd hz0 (by decide)
        · (dsimp only; exact Ext.of (by omega) (by ((repeat (apply Fresh.put; omega)); ((exact Fresh.up (by assumption) (by omega))))) (by (repeat (first | (assumption) | (apply Kp.set; (focus (left; omega)))))) (by (repeat (first | (assumption) | (apply Lg.cons; (focus (left; omega)))))) (by (repeat ((assumption)))))
      by_cases hpe : rpay = .empty
      rotate_left
      · (repeat (first | (with_reducible refine Then.go ?_) | (with_reducible refine Wx.seq ?_) | (with_reducible refine Wx.reg ?_) | (refine Wx.condT rfl (by rfl) ?_) | ((with_reducible refine Wseq.nil ?_); intro e he; (simp only [ke, Nat.testBit, Nat.reduceShiftRight, Nat.reduceAnd, Nat.reduceBNe, Nat.reduceEqDiff, Nat.reduceAdd, ↓reduceIte, reduceCtorEq, Bool.false_eq_true] at he; subst he)) | ((with_reducible apply Wseq.mv); rfl; (intro v hv; (simp only [kv, Nat.reduceEqDiff, eq_self, ↓reduceIte, reduceCtorEq, List.map_cons, List.map_nil] at hv); subst hv)) | ((with_reducible apply Wseq.pkT); rfl; rfl; (intro v hv; (simp only [kv, Nat.reduceEqDiff, eq_self, ↓reduceIte, reduceCtorEq, List.map_cons, List.map_nil] at hv); subst hv)) | ((with_reducible apply Wseq.pkF); rfl; rfl; (intro v hv; (simp only [kv, Nat.reduceEqDiff, eq_self, ↓reduceIte, reduceCtorEq, List.map_cons, List.map_nil] at hv); subst hv)) | ((with_reducible apply Wseq.stg (op := Op.fieldAddr _ _ _)); rfl; exact to_fieldAddr (fa_ rfl) rfl) | ((with_reducible apply Wseq.stg (op := Op.load _ _)); rfl; exact to_load (pl_ rfl) rfl (by (repeat ((apply Has.cel; assumption)))) (by omega) (by rfl)) | ((with_reducible apply Wseq.stg (op := Op.call ⟨Callee.builtin Builtin.len, _, _⟩)); rfl; exact to_lenS (sl_ rfl) rfl) | ((with_reducible apply Wseq.stg (op := Op.binOp BinOp.gtr _ _ _ _)); rfl; exact to_gtrF rfl rfl (by omega)) | ((with_reducible apply Wseq.stg (op := Op.binOp BinOp.neq _ _ _ _)); rfl; exact to_neN (un_ rfl) rfl rfl) | ((with_reducible apply Wseq.stg (op := Op.binOp BinOp.neq _ _ _ _)); rfl; exact to_neStrT rfl rfl (by assumption))))
        refine Wseq.call rfl rfl (sat_specW H (by ((repeat (apply Fresh.put; omega)); ((assumption)))) 1 (by decide)) ?_
        rintro v5 h5 c5 r5 w5 ⟨rfl, e5⟩
        cases e5
        (repeat (first | (with_reducible refine Then.go ?_) | (with_reducible refine Then.rt ?_) | (with_reducible refine Out.rt ?_) | (with_reducible refine Wx.ret ?_) | (with_reducible refine RoundE.rt ?_) | ((with_reducible refine Wseq.nil ?_); intro e he; (simp only [ke, Nat.testBit, Nat.reduceShiftRight, Nat.reduceAnd, Nat.reduceBNe, Nat.reduceEqDiff, Nat.reduceAdd, ↓reduceIte, reduceCtorEq, Bool.false_eq_true] at he; subst he)) | ((with_reducible apply Wseq.as); rfl; (intro v hv; (simp only [kv, Nat.reduceEqDiff, eq_self, ↓reduceIte, reduceCtorEq, List.map_cons, List.map_nil] at hv); subst hv))))
        refine ⟨.inr rfl, Wres.two rfl rfl ⟨.inr ⟨fun h => ?_, _, rfl, by omega, by dsimp only; omega, Has.same⟩, ?_⟩⟩
        · exact hpe ((hmay.2 h).1.2.2.2.2 rfl).2
        · (dsimp only; exact Ext.of (by omega) (by ((repeat (apply Fresh.put; omega)); ((exact Fresh.up (by assumption) (by omega))))) (by (repeat (first | (assumption) | (apply Kp.set; (focus (left; omega)))))) (by (repeat (first | (assumption) | (apply Lg.cons; (focus (left; omega)))))) (by (repeat ((assumption)))))
      subst hpe
      obtain rfl : zs = [] := List.length_eq_zero_iff.1 (by omega)
      obtain ⟨⟨es, nb, g1, ⟨ids, g2⟩, g3⟩, g4, g5⟩ := _root_.id C3.st
      have gp := g1.ptr
      have gm := g1.map
      (repeat (first | (with_reducible refine Then.go ?_) | (with_reducible refine Wx.seq ?_) | (with_reducible refine Wx.skip ?_) | (with_reducible refine Wx.reg ?_) | (refine Wx.dreg rfl ?_) | (refine Wx.condT rfl (by rfl) ?_) | (refine Wx.condF rfl (by rfl) ?_) | ((with_reducible refine Wseq.nil ?_); intro e he; (simp only [ke, Nat.testBit, Nat.reduceShiftRight, Nat.reduceAnd, Nat.reduceBNe, Nat.reduceEqDiff, Nat.reduceAdd, ↓reduceIte, reduceCtorEq, Bool.false_eq_true] at he; subst he)) | ((with_reducible apply Wseq.mv); rfl; (intro v hv; (simp only [kv, Nat.reduceEqDiff, eq_self, ↓reduceIte, reduceCtorEq, List.map_cons, List.map_nil] at hv); subst hv)) | ((with_reducible apply Wseq.pkT); rfl; rfl; (intro v hv; (simp only [kv, Nat.reduceEqDiff, eq_self, ↓reduceIte, reduceCtorEq, List.map_cons, List.map_nil] at hv); subst hv)) | ((with_reducible apply Wseq.pkF); rfl; rfl; (intro v hv; (simp only [kv, Nat.reduceEqDiff, eq_self, ↓reduceIte, reduceCtorEq, List.map_cons, List.map_nil] at hv); subst hv)) | ((with_reducible apply Wseq.stg (op := Op.fieldAddr _ _ _)); rfl; exact to_fieldAddr (fa_ rfl) rfl) | ((with_reducible apply Wseq.stg (op := Op.load _ _)); rfl; exact to_load (pl_ rfl) rfl (by (repeat ((apply Has.cel; assumption)))) (by omega) (by rfl)) | ((with_reducible apply Wseq.stg (op := Op.call ⟨Callee.builtin Builtin.len, _, _⟩)); rfl; exact to_lenS (sl_ rfl) rfl) | ((with_reducible apply Wseq.stg (op := Op.binOp BinOp.gtr _ _ _ _)); rfl; exact to_gtrF rfl rfl (by omega)) | ((with_reducible apply Wseq.stg (op := Op.binOp BinOp.neq _ _ _ _)); rfl; exact to_neN (un_ rfl) rfl rfl) | ((with_reducible apply Wseq.stg (op := Op.binOp BinOp.neq _ _ _ _)); rfl; exact to_neStrF rfl rfl rfl) | ((with_reducible apply Wtr.mv); rfl; (intro v hv; (simp only [kv, Nat.reduceEqDiff, eq_self, ↓reduceIte, reduceCtorEq, List.map_cons, List.map_nil] at hv); subst hv)) | ((with_reducible apply Wtr.bd); rfl; exact (bt_ rfl); (intro v hv; (simp only [kv, Nat.reduceEqDiff, eq_self, ↓reduceIte, reduceCtorEq, List.map_cons, List.map_nil] at hv); subst hv); refine ⟨_, rfl, ?_⟩) | ((with_reducible apply Wtr.stq (op := Op.fieldAddr _ _ _)); rfl; exact to_fieldAddr (fa_ rfl) rfl) | ((with_reducible apply Wtr.stx (op := Op.load _ _)); rfl; exact to_load (pl_ rfl) rfl (by (repeat ((apply Has.cel; assumption)))) (by omega) (by rfl); (focus (repeat (first | (exact all_nil) | (apply all_cons; (focus ((right; exact ApartP.rr)))))))) | ((with_reducible apply Wtr.stq (op := Op.nilCheck _)); rfl; exact to_nilCheck rfl)))
      refine Wtr.op (s1 := ⟨h3.set c (some (.map (putI .i64 rid (itv rid (.slice none 0 0) .empty rseq true) nb es).1 (putI .i64 rid (itv rid (.slice none 0 0) .empty rseq true) nb es).2)), c3, [c], [c]⟩) rfl (to_mapUpdate mi113 rfl rfl rfl gm (gm.lt f3) g1.keys) (by (repeat (first | (exact all_nil) | (apply all_cons; (focus ((left; dsimp only; decide +kernel))))))) ?_
      dsimp only [put]
      (repeat (first | (with_reducible refine Then.go ?_) | (with_reducible refine Out.go ?_) | (with_reducible refine Wx.reg ?_) | ((with_reducible refine Wseq.nil ?_); intro e he; (simp only [ke, Nat.testBit, Nat.reduceShiftRight, Nat.reduceAnd, Nat.reduceBNe, Nat.reduceEqDiff, Nat.reduceAdd, ↓reduceIte, reduceCtorEq, Bool.false_eq_true] at he; subst he)) | ((with_reducible apply Wseq.mv); rfl; (intro v hv; (simp only [kv, Nat.reduceEqDiff, eq_self, ↓reduceIte, reduceCtorEq, List.map_cons, List.map_nil] at hv); subst hv)) | ((with_reducible apply Wseq.as); rfl; (intro v hv; (simp only [kv, Nat.reduceEqDiff, eq_self, ↓reduceIte, reduceCtorEq, List.map_cons, List.map_nil] at hv); subst hv)) | ((with_reducible apply Wseq.stg (op := Op.fieldAddr _ _ _)); rfl; exact to_fieldAddr (fa_ rfl) rfl) | ((with_reducible apply Wseq.stg (op := Op.load _ _)); rfl; exact to_load (pl_ rfl) rfl (by (repeat (first | (apply Has.cel; assumption) | (apply Cel.other; omega)))) (by omega) (by rfl)) | ((with_reducible apply Wseq.stg (op := Op.binOp BinOp.add _ _ _ _)); rfl; exact to_add rfl rfl (by omega) (by omega)) | ((with_reducible refine Wtr.nil ?_); intro e he; (simp only [ke, Nat.testBit, Nat.reduceShiftRight, Nat.reduceAnd, Nat.reduceBNe, Nat.reduceEqDiff, Nat.reduceAdd, ↓reduceIte, reduceCtorEq, Bool.false_eq_true] at he; subst he))))
      have st4 := C3.st.hand (h' := h3.set c (some (.map (putI .i64 rid (itv rid (.slice none 0 0) .empty rseq true) nb es).1 (putI .i64 rid (itv rid (.slice none 0 0) .empty rseq true) nb es).2))) g1 g2 g3 f3 (id := rid) (seq := rseq) (by omega) hr1000.1 (fun b hb hl hne => get_other hne) Has.same
      rw [putM_last ⟨rid, [], .empty, rseq, true⟩ ⟨rid, ([] : List Int).map (Value.int .i32), .empty, rseq, false⟩ rfl (fun r hr => by have := hle r hr; dsimp only; omega)] at st4
      have C4 : SO h c (h3.set c (some (.map (putI .i64 rid (itv rid (.slice none 0 0) .empty rseq true) nb es).1 (putI .i64 rid (itv rid (.slice none 0 0) .empty rseq true) nb es).2))) c3 (rs.take (i + 1)) := by
        rw [ht1]
        exact ⟨(by ((repeat (apply Fresh.put; omega)); ((assumption)))), C3.le, fun b hb q => (get_other (by omega)).trans (C3.kp b hb q), st4⟩
      have kp4 := C4.kp
      refine RoundE.go (n - (i + 1)) (EL _ n k c rid (z + 1) _ _ _ _) (by omega) (by (refine EqK.of ?_ ?_ <;> (repeat (first | (exact all_nil) | (apply all_cons; rfl))))) ⟨i + 1, z + 1, rid, _, _, _, _, _, _, _, _, rfl, by omega, rfl, C4, (by (repeat (first | (exact Lg.nil) | (assumption) | (apply Lg.cons; (focus (left; omega))) | (apply Lg.app)))), (by (repeat (first | (exact Lg.nil) | (assumption) | (apply Lg.cons; (focus (left; omega))) | (apply Lg.app)))), nle, by omega, ?_, by omega, rfl⟩
      rw [← hmay]
      exact ⟨fun g => ⟨⟨by dsimp only; omega, hr1000.1, hr1000.2.1, hr1000.2.2, (fun h => ⟨rfl, rfl⟩)⟩, g⟩, fun g => g.2⟩
end Go.Ab.Seat
