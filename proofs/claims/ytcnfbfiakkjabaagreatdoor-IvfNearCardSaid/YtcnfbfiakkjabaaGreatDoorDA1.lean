import Derived.Test.YtcnfbfiakkjabaaGreatDoorDV1
set_option linter.unusedVariables false
set_option linter.unusedSimpArgs false
section
/- Hits, ids held against each other, where they are the same (the abstract machine). -/
namespace Go.Ab.Seat
open Go.Extern Go.Proofs
set_option linter.unusedSimpArgs false
set_option linter.unusedVariables false
set_option maxRecDepth 4000
set_option pp.deepTerms false
set_option pp.deepTerms.threshold 6
variable {sm : Nat → Option (List Value → M Value)}

/-- Two hits held against each other, where they are one. -/
theorem eqH (a b : Int) : eqA (Cs sm) eg 100 41 (hitv a b) (hitv a b) = some true := by
  have h : eqA (Cs sm) eg 100 41 (hitv a b) (hitv a b) = (match decide (a = a) with | true => (match decide (b = b) with | true => some true | false => some false) | false => some false) := by kernel_rfl
  rw [h, decide_eq_true rfl, decide_eq_true rfl]
theorem eg41 : eg 41 = false := by kernel_rfl
theorem to_neH {e : Env} {s : St} {d : Option Nat} {ty t2 : TypeId} {ps : String} {af : Array Edge} {g : Option (Nat × Bool)} {x y : Operand} {a b : Int} (hx : evalA e x = hitv a b) (hy : evalA e y = hitv a b) :
    OpTo (Cs sm) eg e ⟨d, .binOp .neq 41 x y t2, ty, ps, af, g⟩ s (.bool false) s :=
  to_bin hx hy (by
    show (match guardA eg 41 x y (hitv a b) (hitv a b) with | true => (match eqA (Cs sm) eg 100 41 (hitv a b) (hitv a b) with | some r => some (Value.bool (!r)) | none => none) | false => none) = _
    rw [eqH, show guardA eg 41 x y (hitv a b) (hitv a b) = !eg 41 from rfl, eg41]
    rfl)

def EHs (a : Option Addr) (n k : Nat) (b : Option Addr) (k' : Nat) (z : Int) (j5 j14 j24 : Value) : L :=
  .cons 0 (.slice a n k) (.cons 1 (.slice b n k') (.cons 4 (.bool false) (.cons 10 (.bool false) (.cons 12 (.int .i64 (n : Int)) (.cons 13 (.int .i64 z) (.cons 5 j5 (.cons 14 j14 (.cons 24 j24 .nil))))))))

set_option maxHeartbeats 4000000 in
theorem hits_spec (H : Std sm) {h : T AObj} {c : Nat} {rl wl : List Nat} (hf : Fresh h c) {a b : Option Addr} {k k' : Nat} {l : List Ht} (hx : Row h (.slice a l.length k) l.length 2 (flatH l)) (hy : Row h (.slice b l.length k') l.length 2 (flatH l)) (hn : l.length ≤ 1000) :
    ∃ r s', FnTo (Cs sm) eg 14 [.slice a l.length k, .slice b l.length k'] ⟨h, c, rl, wl⟩ r s' ∧ r = .bool true ∧ s'.h = h ∧ s'.c = c ∧ Ext ⟨h, c, rl, wl⟩ s' (fun _ => True) (fun _ => False) := by
  refine Fn.go (H 14 rfl) ex14 fn14 km14 rfl rfl ?_
  intro e he
  (simp (decide := true) only [kz] at he; subst he)
  have lgR : ∀ l : List Nat, Lg c (fun _ => True) l := fun l b hb => .inr trivial
  (repeat (first | (with_reducible refine Then.go ?_) | (with_reducible refine Wx.seq ?_) | (with_reducible refine Wx.skip ?_) | (with_reducible refine Wx.block ?_) | (with_reducible refine Wx.reg ?_) | (refine Wx.condF rfl (by rfl) ?_) | ((with_reducible refine Wseq.nil ?_); intro e he; (simp (decide := true) only [kz] at he; subst he)) | ((with_reducible apply Wseq.mv); rfl; (intro v hv; (simp (decide := true) only [kw] at hv); subst hv)) | ((with_reducible apply Wseq.as); rfl; (intro v hv; (simp (decide := true) only [kw] at hv); subst hv)) | ((with_reducible apply Wseq.stg (op := Op.call ⟨Callee.builtin Builtin.len, _, _⟩)); rfl; exact to_lenS (sl_ rfl) rfl) | ((with_reducible apply Wseq.stg (op := Op.binOp BinOp.neq _ _ _ _)); rfl; exact to_neIF rfl rfl (by omega))))
  refine Wx.loopE (fun k1 e s => ∃ (i : Nat) (z : Int) (j5 j14 j24 : Value) (rl' : List Nat), e = EHs a l.length k b k' z j5 j14 j24 ∧ z = i ∧ s = ⟨h, c, rl', []⟩ ∧ i ≤ l.length ∧ k1 = l.length - i) l.length (EHs a l.length k b k' 0 top top top) (by (repeat (first | (exact Resp.fn) | (apply Resp.then) | (apply Resp.out)))) ?_ ?_ ?_
  · unfold EHs
    (refine EqK.of ?_ ?_ <;> (repeat (first | (exact all_nil) | (apply all_cons; rfl))))
  · exact ⟨0, 0, _, _, _, _, rfl, rfl, rfl, by omega, rfl⟩
  · rintro k1 e s ⟨i, z, j5, j14, j24, rl', rfl, hz, rfl, hid, rfl⟩
    unfold EHs
    by_cases hi : i < l.length
    · obtain ⟨b1, o1, sp1, cs1, rfl, hc1, hs1⟩ := rowB hx (by omega)
      obtain ⟨b2, o2, sp2, cs2, rfl, hc2, hs2⟩ := rowB hy (by omega)
      have l1 := hc1.lt hf
      have l2 := hc2.lt hf
      have hg1 := sub_hit hs1 (List.getElem?_eq_getElem hi)
      have hg2 := sub_hit hs2 (List.getElem?_eq_getElem hi)
      (repeat (first | (with_reducible refine Then.go ?_) | (with_reducible refine Wx.seq ?_) | (with_reducible refine Wx.skip ?_) | (with_reducible refine Wx.block ?_) | (with_reducible refine Wx.reg ?_) | (refine Wx.dreg rfl ?_) | (refine Wx.condT rfl (by rfl) ?_) | ((with_reducible refine Wseq.nil ?_); intro e he; (simp (decide := true) only [kz] at he; subst he)) | ((with_reducible apply Wseq.mv); rfl; (intro v hv; (simp (decide := true) only [kw] at hv); subst hv)) | ((with_reducible apply Wseq.as); rfl; (intro v hv; (simp (decide := true) only [kw] at hv); subst hv)) | ((with_reducible apply Wseq.stg (op := Op.binOp BinOp.lss _ _ _ _)); rfl; exact to_lssT rfl rfl (by omega)) | ((with_reducible apply Wtr.mv); rfl; (intro v hv; (simp (decide := true) only [kw] at hv); subst hv))))
      ((with_reducible apply Wtr.stq); (focus rfl); (focus (exact to_indexAddr (k := i) el32 rfl rfl hz (by omega))))
      ((with_reducible apply Wtr.stx); (focus rfl); (focus (exact to_loadS ag41 rfl hc1 (by omega) hg1)); repeat ((exact all_nil)))
      (repeat (((with_reducible apply Wtr.mv); rfl; (intro v hv; (simp (decide := true) only [kw] at hv); subst hv))))
      ((with_reducible apply Wtr.stq); (focus rfl); (focus (exact to_indexAddr (k := i) el32 rfl rfl hz (by omega))))
      ((with_reducible apply Wtr.stx); (focus rfl); (focus (exact to_loadS ag41 rfl hc2 (by omega) hg2)); (focus (repeat (first | (exact all_nil) | (apply all_cons; (focus ((right; exact ApartP.rr))))))))
      ((with_reducible apply Wtr.stq); (focus rfl); (focus (exact to_neH rfl rfl)))
      (repeat (first | (with_reducible refine Then.go ?_) | (with_reducible refine Out.go ?_) | (with_reducible refine Wx.skip ?_) | (with_reducible refine Wx.reg ?_) | (refine Wx.condF rfl (by rfl) ?_) | ((with_reducible refine Wseq.nil ?_); intro e he; (simp (decide := true) only [kz] at he; subst he)) | ((with_reducible apply Wseq.mv); rfl; (intro v hv; (simp (decide := true) only [kw] at hv); subst hv)) | ((with_reducible apply Wseq.stg (op := Op.binOp BinOp.add _ _ _ _)); rfl; exact to_add rfl rfl (by omega) (by omega)) | ((with_reducible refine Wtr.nil ?_); intro e he; (simp (decide := true) only [kz] at he; subst he))))
      exact RoundE.go (l.length - (i + 1)) (EHs _ l.length k _ k' (z + 1) _ _ _) (by omega) (by (refine EqK.of ?_ ?_ <;> (repeat (first | (exact all_nil) | (apply all_cons; rfl))))) ⟨i + 1, z + 1, _, _, _, _, rfl, by omega, rfl, by omega, rfl⟩
    · (repeat (first | (with_reducible refine Then.go ?_) | (with_reducible refine Then.ex ?_) | (with_reducible refine Out.hit ?_) | (with_reducible refine Wx.seq ?_) | (with_reducible refine Wx.exit ?_) | (with_reducible refine Wx.ret ?_) | (with_reducible refine Wx.reg ?_) | (with_reducible refine RoundE.ex ?_) | (refine Wx.condF rfl (by rfl) ?_) | ((with_reducible refine Wseq.nil ?_); intro e he; (simp (decide := true) only [kz] at he; subst he)) | ((with_reducible apply Wseq.as); rfl; (intro v hv; (simp (decide := true) only [kw] at hv); subst hv)) | ((with_reducible apply Wseq.stg (op := Op.binOp BinOp.lss _ _ _ _)); rfl; exact to_lssF rfl rfl (by omega))))
      refine ⟨.inr rfl, Wres.one rfl ⟨rfl, rfl, rfl, ?_⟩⟩
      exact Ext.of (Nat.le_refl _) hf Kp.refl (lgR _) (by (repeat ((exact Lg.nil))))

set_option maxHeartbeats 4000000 in
theorem ints_spec (H : Std sm) {h : T AObj} {c : Nat} {rl wl : List Nat} (hf : Fresh h c) {a b : Option Addr} {n k k' : Nat} {l : List Int} (hl : l.length = n) (hx : Row h (.slice a n k) n 1 (l.map (Value.int .i64))) (hy : Row h (.slice b n k') n 1 (l.map (Value.int .i64))) (hn : n ≤ 1000) :
    ∃ r s', FnTo (Cs sm) eg 16 [.slice a n k, .slice b n k'] ⟨h, c, rl, wl⟩ r s' ∧ r = .bool true ∧ s'.h = h ∧ s'.c = c ∧ Ext ⟨h, c, rl, wl⟩ s' (fun _ => True) (fun _ => False) := by
  refine Fn.go (H 16 rfl) ex16 fn16 km16 rfl rfl ?_
  intro e he
  (simp (decide := true) only [kz] at he; subst he)
  have lgR : ∀ l : List Nat, Lg c (fun _ => True) l := fun l b hb => .inr trivial
  (repeat (first | (with_reducible refine Then.go ?_) | (with_reducible refine Wx.seq ?_) | (with_reducible refine Wx.skip ?_) | (with_reducible refine Wx.block ?_) | (with_reducible refine Wx.reg ?_) | (refine Wx.condF rfl (by rfl) ?_) | ((with_reducible refine Wseq.nil ?_); intro e he; (simp (decide := true) only [kz] at he; subst he)) | ((with_reducible apply Wseq.mv); rfl; (intro v hv; (simp (decide := true) only [kw] at hv); subst hv)) | ((with_reducible apply Wseq.as); rfl; (intro v hv; (simp (decide := true) only [kw] at hv); subst hv)) | ((with_reducible apply Wseq.stg (op := Op.call ⟨Callee.builtin Builtin.len, _, _⟩)); rfl; exact to_lenS (sl_ rfl) rfl) | ((with_reducible apply Wseq.stg (op := Op.binOp BinOp.neq _ _ _ _)); rfl; exact to_neIF rfl rfl (by omega))))
  refine Wx.loopE (fun k1 e s => ∃ (i : Nat) (z : Int) (j5 j14 j24 : Value) (rl' : List Nat), e = EHs a n k b k' z j5 j14 j24 ∧ z = i ∧ s = ⟨h, c, rl', []⟩ ∧ i ≤ n ∧ k1 = n - i) n (EHs a n k b k' 0 top top top) (by (repeat (first | (exact Resp.fn) | (apply Resp.then) | (apply Resp.out)))) ?_ ?_ ?_
  · unfold EHs
    (refine EqK.of ?_ ?_ <;> (repeat (first | (exact all_nil) | (apply all_cons; rfl))))
  · exact ⟨0, 0, _, _, _, _, rfl, rfl, rfl, by omega, rfl⟩
  · rintro k1 e s ⟨i, z, j5, j14, j24, rl', rfl, hz, rfl, hid, rfl⟩
    unfold EHs
    by_cases hi : i < n
    · have hg : (l.map (Value.int .i64))[i]? = some (.int .i64 l[i]) := by rw [List.getElem?_map, List.getElem?_eq_getElem (by omega)]; rfl
      obtain ⟨b1, o1, sp1, cs1, rfl, hc1, hn1⟩ := rowCell hx (j := i * 1) (by omega) (by rw [Nat.mul_one]; exact hg)
      obtain ⟨b2, o2, sp2, cs2, rfl, hc2, hn2⟩ := rowCell hy (j := i * 1) (by omega) (by rw [Nat.mul_one]; exact hg)
      have l1 := hc1.lt hf
      have l2 := hc2.lt hf
      (repeat (first | (with_reducible refine Then.go ?_) | (with_reducible refine Wx.seq ?_) | (with_reducible refine Wx.skip ?_) | (with_reducible refine Wx.block ?_) | (with_reducible refine Wx.reg ?_) | (refine Wx.dreg rfl ?_) | (refine Wx.condT rfl (by rfl) ?_) | ((with_reducible refine Wseq.nil ?_); intro e he; (simp (decide := true) only [kz] at he; subst he)) | ((with_reducible apply Wseq.mv); rfl; (intro v hv; (simp (decide := true) only [kw] at hv); subst hv)) | ((with_reducible apply Wseq.as); rfl; (intro v hv; (simp (decide := true) only [kw] at hv); subst hv)) | ((with_reducible apply Wseq.stg (op := Op.binOp BinOp.lss _ _ _ _)); rfl; exact to_lssT rfl rfl (by omega)) | ((with_reducible apply Wtr.mv); rfl; (intro v hv; (simp (decide := true) only [kw] at hv); subst hv))))
      ((with_reducible apply Wtr.stq); (focus rfl); (focus (exact to_indexAddr (k := i) el35 rfl rfl hz (by omega))))
      ((with_reducible apply Wtr.stx); (focus rfl); (focus (exact to_load (pl_ rfl) rfl hc1 (by omega) hn1)); repeat ((exact all_nil)))
      (repeat (((with_reducible apply Wtr.mv); rfl; (intro v hv; (simp (decide := true) only [kw] at hv); subst hv))))
      ((with_reducible apply Wtr.stq); (focus rfl); (focus (exact to_indexAddr (k := i) el35 rfl rfl hz (by omega))))
      ((with_reducible apply Wtr.stx); (focus rfl); (focus (exact to_load (pl_ rfl) rfl hc2 (by omega) hn2)); (focus (repeat (first | (exact all_nil) | (apply all_cons; (focus ((right; exact ApartP.rr))))))))
      (repeat (first | (with_reducible refine Then.go ?_) | (with_reducible refine Out.go ?_) | (with_reducible refine Wx.skip ?_) | (with_reducible refine Wx.reg ?_) | (refine Wx.condF rfl (by rfl) ?_) | ((with_reducible refine Wseq.nil ?_); intro e he; (simp (decide := true) only [kz] at he; subst he)) | ((with_reducible apply Wseq.mv); rfl; (intro v hv; (simp (decide := true) only [kw] at hv); subst hv)) | ((with_reducible apply Wseq.stg (op := Op.binOp BinOp.add _ _ _ _)); rfl; exact to_add rfl rfl (by omega) (by omega)) | ((with_reducible refine Wtr.nil ?_); intro e he; (simp (decide := true) only [kz] at he; subst he)) | ((with_reducible apply Wtr.stq (op := Op.binOp BinOp.neq _ _ _ _)); rfl; exact to_neIF rfl rfl (by omega))))
      exact RoundE.go (n - (i + 1)) (EHs _ n k _ k' (z + 1) _ _ _) (by omega) (by (refine EqK.of ?_ ?_ <;> (repeat (first | (exact all_nil) | (apply all_cons; rfl))))) ⟨i + 1, z + 1, _, _, _, _, rfl, by omega, rfl, by omega, rfl⟩
    · (repeat (first | (with_reducible refine Then.go ?_) | (with_reducible refine Then.ex ?_) | (with_reducible refine Out.hit ?_) | (with_reducible refine Wx.seq ?_) | (with_reducible refine Wx.exit ?_) | (with_reducible refine Wx.ret ?_) | (with_reducible refine Wx.reg ?_) | (with_reducible refine RoundE.ex ?_) | (refine Wx.condF rfl (by rfl) ?_) | ((with_reducible refine Wseq.nil ?_); intro e he; (simp (decide := true) only [kz] at he; subst he)) | ((with_reducible apply Wseq.as); rfl; (intro v hv; (simp (decide := true) only [kw] at hv); subst hv)) | ((with_reducible apply Wseq.stg (op := Op.binOp BinOp.lss _ _ _ _)); rfl; exact to_lssF rfl rfl (by omega))))
      refine ⟨.inr rfl, Wres.one rfl ⟨rfl, rfl, rfl, ?_⟩⟩
      exact Ext.of (Nat.le_refl _) hf Kp.refl (lgR _) (by (repeat ((exact Lg.nil))))
end Go.Ab.Seat
end
section
/- FlatOrder: the run answers true (the abstract machine). -/
namespace Go.Ab.Seat
open Go.Extern Go.Proofs
set_option linter.unusedSimpArgs false
set_option linter.unusedVariables false
set_option maxRecDepth 4000
set_option pp.deepTerms false
set_option pp.deepTerms.threshold 6

/-- The lowest bit. -/
def and1 (z : Int) : Int := (((BitVec.ofInt 64 z).toNat % 2 : Nat) : Int)
theorem and1_or (z : Int) : and1 z = 0 ∨ and1 z = 1 := by unfold and1; omega
theorem to_and1 {C : Ctx} {e : Env} {s : St} {d : Option Nat} {ty t t2 : TypeId} {ps : String} {af : Array Edge} {g : Option (Nat × Bool)} {x y : Operand} {z : Int} (hx : evalA e x = .int .i64 z) (hy : evalA e y = .int .i64 1) :
    OpTo C eg e ⟨d, .binOp .and t x y t2, ty, ps, af, g⟩ s (.int .i64 (and1 z)) s :=
  to_bin hx hy (by
    have h : ((BitVec.ofInt 64 z &&& BitVec.ofInt 64 1).toNat : Int) = and1 z := by
      unfold and1
      rw [BitVec.toNat_and, show (BitVec.ofInt 64 1).toNat = 1 by decide, Nat.and_one_is_mod]
    show some (Value.int .i64 (wrapA .i64 ((BitVec.ofInt 64 z &&& BitVec.ofInt 64 1).toNat : Int))) = _
    rw [h, wrapA_i64 (by have := and1_or z; omega) (by have := and1_or z; omega)])

theorem rises_getM : ∀ {a b : List Rc}, Rises a → Rises b → (∀ x, getM x a = getM x b) → a = b
  | [], [], _, _, _ => rfl
  | [], y :: b, _, _, h => by
    have := h y.id
    rw [getM, getM, if_pos rfl] at this
    cases this
  | x :: a, [], _, _, h => by
    have := h x.id
    rw [getM, getM, if_pos rfl] at this
    cases this
  | x :: a, y :: b, ha, hb, h => by
    obtain ⟨a1, a2⟩ := List.pairwise_cons.1 ha
    obtain ⟨b1, b2⟩ := List.pairwise_cons.1 hb
    have hxy : x = y := by
      rcases Int.lt_trichotomy x.id y.id with q | q | q
      · have e := h x.id
        rw [getM, if_pos rfl, getM, if_neg (by omega), getM_none.2 fun r hr => by have := b1 r hr; omega] at e
        cases e
      · have e := h x.id
        rw [getM, if_pos rfl, getM, if_pos q.symm] at e
        exact Option.some.inj e
      · have e := h y.id
        rw [getM, if_neg (by omega), getM, if_pos rfl, getM_none.2 fun r hr => by have := a1 r hr; omega] at e
        cases e
    subst hxy
    congr 1
    refine rises_getM a2 b2 fun z => ?_
    have e := h z
    by_cases hz : x.id = z
    · rw [getM_none.2 fun r hr => by have := a1 r hr; omega, getM_none.2 fun r hr => by have := b1 r hr; omega]
    · rw [getM, if_neg hz, getM, if_neg hz] at e
      exact e

theorem getM_len {M : List Rc} {n : Nat} (hr : Rises M) (h : ∀ x : Int, x < 1 ∨ (n : Int) < x → getM x M = none) : M.length ≤ n := by
  have := rises_len (n := (n : Int)) (lo := 1) hr.ids (fun x hx => by
    obtain ⟨r, h1, rfl⟩ := List.mem_map.1 hx
    have h2 := getM_some hr h1 rfl
    refine Classical.byContradiction fun hq => ?_
    rw [h r.id (by omega)] at h2
    cases h2) (by omega)
  rw [List.length_map] at this
  omega

theorem Bnd_vecZ (zs : List Int) (dim : Nat) : Bnd (vecZ zs dim) := by
  intro i
  unfold vecZ
  rw [List.getD_eq_getElem?_getD, List.getElem?_map]
  cases h : (List.range dim)[i]? with
  | none => simp
  | some j =>
    show -1048576 ≤ clampZ _ ∧ clampZ _ ≤ 1048576
    unfold clampZ
    omega

/-- An index of the call's own beside another one. -/
structure Two (h : T AObj) (c : Nat) (pa ma pb mb : Nat) (mt : Int) (dim : Nat) (A B : List Rc) : Prop where
  ex : ∃ Ua Ub : Nat → Prop, FlatM h pa ma mt dim A Ua ∧ FlatM h pb mb mt dim B Ub ∧ ¬Ua mb ∧ ¬Ub ma ∧ ma < c ∧ mb < c

theorem FlatM.hm {h : T AObj} {p m dim : Nat} {mt : Int} {M : List Rc} {U : Nat → Prop} (q : FlatM h p m mt dim M U) : ∃ es n, Has h m (.map es n) := by
  obtain ⟨es, n, h1, _⟩ := q.ex
  exact ⟨es, n, h1⟩
theorem notMap {h : T AObj} {b : Nat} {cs : List Value} {m n : Nat} {es : List (Value × Value × Nat)} (h1 : Has h b (.cells cs)) (h2 : Has h m (.map es n)) : b ≠ m := by
  rintro rfl
  unfold Has at h1 h2
  rw [h1] at h2
  cases h2

/-- One is put into one of the two. -/
theorem Two.putA {h : T AObj} {c : Nat} {rl wl : List Nat} (hf : Fresh h c) {pa ma pb mb dim : Nat} {mt : Int} {A B : List Rc} (t : Two h c pa ma pb mb mt dim A B) (id : Int) (hid : -9223372036854775808 ≤ id ∧ id ≤ 9223372036854775807) {bi : Nat} {zs : List Int} (hv : Has h bi (.cells (zs.map (Value.int .i32)))) (hz : zs.length = dim) (hb : Bnd zs) (hd : 1 ≤ dim) (hd' : dim ≤ 1000) :
    ∃ r s', FnTo (Cs smQ) eg 12 [.pointer (some ⟨pa, 0, none⟩), .int .i64 id, .slice (some ⟨bi, 0, none⟩) dim dim] ⟨h, c, rl, wl⟩ r s' ∧ Two s'.h s'.c pa ma pb mb mt dim (putM (mbR id zs) A) B ∧ (∃ es n, Has h ma (.map es n)) ∧ Ext ⟨h, c, rl, wl⟩ s' (fun _ => True) (fun b => b = ma) := by
  obtain ⟨Ua, Ub, qa, qb, u1, u2, l1, l2⟩ := t.ex
  obtain ⟨es, n, hma⟩ := qa.hm
  have hrow : Row h (.slice (some ⟨bi, 0, none⟩) dim dim) dim 1 (zs.map (Value.int .i32)) := .inr ⟨bi, 0, none, dim, _, rfl, hv.cel, subN_all _ _ (by rw [List.length_map]; omega)⟩
  obtain ⟨r, s', e1, e2, e3⟩ := fput_spec (rl := rl) (wl := wl) hf qa id hid hrow hz hb hd hd' (fun b => b = bi) (fun b o sp e => by cases e; rfl) (fun e => notMap hv hma e.symm)
  have hc := e3.c
  simp only at hc
  refine ⟨r, s', e1, ⟨_, Ub, e2, qb.keep hf fun b hb hc => e3.h b hc (fun e => u2 (e ▸ hb)), ?_, u2, by omega, by omega⟩, ⟨es, n, hma⟩, e3.mono (fun _ _ _ => trivial) fun _ _ q => q⟩
  rintro (q | q)
  · exact u1 q
  · omega
theorem Two.swap {h : T AObj} {c : Nat} {pa ma pb mb dim : Nat} {mt : Int} {A B : List Rc} (t : Two h c pa ma pb mb mt dim A B) : Two h c pb mb pa ma mt dim B A := by
  obtain ⟨Ua, Ub, qa, qb, u1, u2, l1, l2⟩ := t.ex
  exact ⟨Ub, Ua, qb, qa, u2, u1, l2, l1⟩
theorem Two.keep {h h' : T AObj} {c c' : Nat} {pa ma pb mb dim : Nat} {mt : Int} {A B : List Rc} (t : Two h c pa ma pb mb mt dim A B) (hf : Fresh h c) (hc : c ≤ c') (k : ∀ b, b < c → h'.get b = h.get b) : Two h' c' pa ma pb mb mt dim A B := by
  obtain ⟨Ua, Ub, qa, qb, u1, u2, l1, l2⟩ := t.ex
  exact ⟨Ua, Ub, qa.keep hf fun b _ hb => k b hb, qb.keep hf fun b _ hb => k b hb, u1, u2, by omega, by omega⟩
end Go.Ab.Seat
end
section
/- The best one of some; a score of nought (plain lists). -/
namespace Go.Ab.Seat
open Go.Extern Go.Proofs
set_option linter.unusedVariables false

theorem lessH_iff {a b : Ht} : lessH a b = true ↔ a.sc < b.sc ∨ a.sc = b.sc ∧ a.id < b.id := by
  unfold lessH
  split
  · rw [decide_eq_true_eq]; omega
  · rw [decide_eq_true_eq]; omega
theorem lessH_not {a b : Ht} : lessH a b = false ↔ b.sc < a.sc ∨ a.sc = b.sc ∧ b.id ≤ a.id := by
  rw [← Bool.not_eq_true, lessH_iff]; omega

/-- The best one of some unlike ones. -/
theorem bestOf_one : ∀ (l : List Ht), (l.map Ht.id).Nodup → l ≠ [] → ∃ b ∈ l, bestOf 1 l = [b] ∧ ∀ x ∈ l, lessH x b = false := by
  intro l
  suffices h : ∀ n, n ≤ l.length → (l.map Ht.id).Nodup → 0 < n → ∃ b ∈ l.take n, bestOf 1 (l.take n) = [b] ∧ ∀ x ∈ l.take n, lessH x b = false by
    intro hn hne
    have := h l.length (Nat.le_refl _) hn (List.length_pos_iff.2 hne)
    rw [List.take_length] at this
    exact this
  intro n
  induction n with
  | zero => intro _ _ h; omega
  | succ n ih =>
    intro hn hd _
    have hlt : n < l.length := by omega
    rw [bestOf_take hlt, List.take_succ_eq_append_getElem hlt]
    rcases Nat.eq_zero_or_pos n with rfl | hpos
    · refine ⟨l[0], by simp, rfl, fun x hx => ?_⟩
      have : x = l[0] := by simpa using hx
      rw [this, lessH_not]; omega
    · obtain ⟨b, hb, e, hm⟩ := ih (by omega) hd hpos
      have hne : b.id ≠ l[n].id := by
        obtain ⟨j, hj⟩ := List.mem_iff_getElem?.1 hb
        rw [List.getElem?_take] at hj
        split at hj
        · rename_i hjn
          intro he
          have h1 : (l.map Ht.id)[j]? = some b.id := by rw [List.getElem?_map, hj]; rfl
          have h2 : (l.map Ht.id)[n]? = some b.id := by rw [List.getElem?_map, List.getElem?_eq_getElem hlt, he]; rfl
          obtain ⟨a1, a2⟩ := List.getElem?_eq_some_iff.1 h1
          obtain ⟨b1, b2⟩ := List.getElem?_eq_some_iff.1 h2
          have := (List.getElem_inj hd).1 (a2.trans b2.symm)
          omega
        · cases hj
      rw [e]
      have hany : [b].any (fun y => decide (y.id = l[n].id)) = false := by simp [hne]
      unfold putB
      rw [hany, if_neg (by decide)]
      cases hl : lessH b l[n] with
      | true =>
        have hi : iH l[n] [b] = 1 := by unfold iH; rw [List.takeWhile_cons, hl]; rfl
        rw [hi, if_pos (Nat.le_refl _)]
        refine ⟨b, List.mem_append_left _ hb, rfl, fun x hx => ?_⟩
        rcases List.mem_append.1 hx with hx | hx
        · exact hm x hx
        · rw [List.mem_singleton.1 hx, lessH_not]
          rw [lessH_iff] at hl; omega
      | false =>
        have hi : iH l[n] [b] = 0 := by unfold iH; rw [List.takeWhile_cons, hl]; rfl
        rw [hi, if_neg (by omega)]
        refine ⟨l[n], List.mem_append_right _ (List.mem_singleton.2 rfl), rfl, fun x hx => ?_⟩
        rcases List.mem_append.1 hx with hx | hx
        · have h1 := hm x hx
          rw [lessH_not] at h1 hl ⊢
          omega
        · rw [List.mem_singleton.1 hx, lessH_not]; omega

theorem sq_nonneg (a : Int) : 0 ≤ a * a := by
  rcases Int.le_total 0 a with h | h
  · exact Int.mul_nonneg h h
  · have := Int.mul_nonneg (a := -a) (b := -a) (by omega) (by omega)
    rwa [Int.neg_mul_neg] at this
theorem score_nonneg (zs ys : List Int) : ∀ n, 0 ≤ scoreN 1 zs ys n := by
  intro n
  induction n with
  | zero => exact Int.le_refl _
  | succ n ih =>
    unfold scoreN termZ
    rw [if_pos rfl]
    have := sq_nonneg (zs.getD n 0 - ys.getD n 0)
    omega
theorem score_self (zs : List Int) : scoreZ 1 zs zs = 0 := by
  unfold scoreZ
  suffices h : ∀ n, scoreN 1 zs zs n = 0 from h _
  intro n
  induction n with
  | zero => rfl
  | succ n ih => unfold scoreN termZ; rw [if_pos rfl, ih, Int.sub_self]; rfl
theorem score_zero {zs ys : List Int} (hl : zs.length = ys.length) (h : scoreZ 1 zs ys = 0) : zs = ys := by
  unfold scoreZ at h
  have key : ∀ n, scoreN 1 zs ys n = 0 → ∀ i, i < n → zs.getD i 0 = ys.getD i 0 := by
    intro n
    induction n with
    | zero => intro _ i hi; omega
    | succ n ih =>
      intro hn i hi
      unfold scoreN termZ at hn
      rw [if_pos rfl] at hn
      have h1 := sq_nonneg (zs.getD n 0 - ys.getD n 0)
      have h2 := score_nonneg zs ys n
      rcases Nat.lt_or_ge i n with q | q
      · exact ih (by omega) i q
      · obtain rfl : i = n := by omega
        have h3 : (zs.getD i 0 - ys.getD i 0) * (zs.getD i 0 - ys.getD i 0) = 0 := by omega
        rcases Int.mul_eq_zero.1 h3 with h | h <;> omega
  refine List.ext_getElem hl fun i h1 h2 => ?_
  have := key _ h i h1
  rw [List.getD_eq_getElem?_getD, List.getD_eq_getElem?_getD, List.getElem?_eq_getElem h1, List.getElem?_eq_getElem h2] at this
  exact this

theorem hits_nodup {mt : Int} {qs : List Int} {M : List Rc} (h : Rises M) : ((hitsM mt qs M).map Ht.id).Nodup := by
  have e : (hitsM mt qs M).map Ht.id = M.map Rc.id := by unfold hitsM; rw [List.map_map]; rfl
  rw [e]
  exact h.ids.imp fun h => by omega
end Go.Ab.Seat
end
