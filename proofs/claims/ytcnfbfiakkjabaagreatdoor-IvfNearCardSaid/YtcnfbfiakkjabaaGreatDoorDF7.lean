/- A flat index: one is let go; the ids; a search (the abstract machine). -/
import Derived.Test.YtcnfbfiakkjabaaGreatDoorDF6
set_option linter.unusedVariables false
set_option linter.unusedSimpArgs false
namespace Go.Ab.Seat
open Go.Extern Go.Proofs
set_option linter.unusedSimpArgs false
set_option linter.unusedVariables false
set_option maxRecDepth 4000
set_option pp.deepTerms false
set_option pp.deepTerms.threshold 6

def delM (id : Int) (M : List Rc) : List Rc := M.filter fun r => !decide (r.id = id)
theorem getM_del (id x : Int) : ∀ M : List Rc, getM x (delM id M) = if x = id then none else getM x M
  | [] => by unfold delM getM; simp
  | y :: M => by
    have ih := getM_del id x M
    unfold delM at ih ⊢
    by_cases h : y.id = id
    · rw [List.filter_cons, decide_eq_true h]
      simp only [Bool.not_true, Bool.false_eq_true, if_false]
      rw [ih]
      by_cases hx : x = id
      · rw [if_pos hx, if_pos hx]
      · rw [if_neg hx, if_neg hx, getM, if_neg (by omega)]
    · rw [List.filter_cons, decide_eq_false h]
      simp only [Bool.not_false, if_true]
      rw [getM, ih, getM]
      by_cases hy : y.id = x
      · rw [if_pos hy, if_pos hy, if_neg (by omega)]
      · rw [if_neg hy, if_neg hy]

theorem fdel_spec {h : T AObj} {c : Nat} {rl wl : List Nat} (hf : Fresh h c) {p m dim : Nat} {mt : Int} {M : List Rc} {U : Nat → Prop} (q : FlatM h p m mt dim M U) (id : Int) :
    ∃ r s', FnTo (Cs smQ) eg 22 [.pointer (some ⟨p, 0, none⟩), .int .i64 id] ⟨h, c, rl, wl⟩ r s' ∧ (r = .bool (getM id M).isSome ∧ FlatM s'.h p m mt dim (delM id M) U) ∧ Ext ⟨h, c, rl, wl⟩ s' U (fun b => b = m) := by
  obtain ⟨es, n, hm, ⟨ids, h2⟩, h3⟩ := q.ex
  have hp := q.ptr
  obtain ⟨lp, lm⟩ := q.lt hf
  have hpU := q.pU
  have hmU := q.mU
  have his : (findI id es).isSome = (getM id M).isSome := by
    rcases h3 id with ⟨e1, e2⟩ | ⟨r, v, e1, e2, _⟩
    · rw [e1, valI_none.1 e2]; rfl
    · obtain ⟨i, e3⟩ := valI_some e2
      rw [e1, e3]; rfl
  refine Fn.go (stdQ 22 rfl) ex22 fn22 km22 rfl rfl ?_
  intro e he
  (simp (decide := true) only [kz] at he; subst he)
  (repeat (first | (with_reducible refine Then.go ?_) | (with_reducible refine Wx.seq ?_) | (with_reducible refine Wx.skip ?_) | (with_reducible refine Wx.reg ?_) | (refine Wx.condF rfl (by ((rfl))) ?_) | ((with_reducible refine Wseq.nil ?_); intro e he; (simp (decide := true) only [kz] at he; subst he)) | ((with_reducible apply Wseq.mv); rfl; (intro v hv; (simp (decide := true) only [kw] at hv); subst hv)) | ((with_reducible apply Wseq.as); rfl; (intro v hv; (simp (decide := true) only [kw] at hv); subst hv)) | ((with_reducible apply Wseq.stg (op := Op.fieldAddr _ _ _)); rfl; exact to_fieldAddr (fa_ rfl) rfl) | ((with_reducible apply Wseq.stg (op := Op.load _ _)); rfl; exact to_load (pl_ rfl) rfl (by (repeat (((with_reducible apply Has.cel); with_reducible assumption)))) (by omega) (by rfl)) | ((with_reducible apply Wseq.stg (op := Op.nilCheck _)); rfl; exact to_nilCheck rfl) | ((with_reducible apply Wseq.stg (op := Op.binOp BinOp.eql _ _ _ _)); rfl; exact to_eqP (un_ rfl) rfl rfl)))
  ((with_reducible apply Wseq.stg); (focus rfl); (focus (exact to_lookupOk (mi_ rfl) (ze_ rfl) rfl rfl hm (by omega) h2.ks rfl his)))
  (repeat (first | (with_reducible refine Then.go ?_) | (with_reducible refine Wx.seq ?_) | (with_reducible refine Wx.reg ?_) | ((with_reducible refine Wseq.nil ?_); intro e he; (simp (decide := true) only [kz] at he; subst he)) | ((with_reducible apply Wseq.mv); rfl; (intro v hv; (simp (decide := true) only [kw] at hv); subst hv)) | ((with_reducible apply Wseq.as); rfl; (intro v hv; (simp (decide := true) only [kw] at hv); subst hv)) | ((with_reducible apply Wseq.stg (op := Op.fieldAddr _ _ _)); rfl; exact to_fieldAddr (fa_ rfl) rfl) | ((with_reducible apply Wseq.stg (op := Op.load _ _)); rfl; exact to_load (pl_ rfl) rfl (by (repeat (((with_reducible apply Has.cel); with_reducible assumption)))) (by omega) (by rfl)) | ((with_reducible apply Wseq.stg (op := Op.nilCheck _)); rfl; exact to_nilCheck rfl) | ((with_reducible apply Wseq.stg (op := Op.extract _ _)); rfl; exact to_extract rfl rfl)))
  refine Wseq.st0 (to_delete (mi_ rfl) rfl rfl hm (by omega) h2.ks) ?_
  (repeat (first | (with_reducible refine Then.go ?_) | (with_reducible refine Wx.seq ?_) | (with_reducible refine Wx.ret ?_) | (with_reducible refine Wx.reg ?_) | ((with_reducible refine Wseq.nil ?_); intro e he; (simp (decide := true) only [kz] at he; subst he)) | ((with_reducible apply Wseq.mv); rfl; (intro v hv; (simp (decide := true) only [kw] at hv); subst hv)) | ((with_reducible apply Wseq.as); rfl; (intro v hv; (simp (decide := true) only [kw] at hv); subst hv))))
  refine ⟨.inr rfl, Wres.one rfl ⟨⟨rfl, ?_⟩, ?_⟩⟩
  · obtain ⟨ids', k1, _, _⟩ := h2.del id
    refine ⟨Has.other (fun e => q.ne e) hp, ⟨_, _, Has.same, ⟨_, k1⟩, fun x => ?_⟩, hpU, hmU, q.ne, q.rises.filter _, fun r hr => q.ok r (List.mem_filter.1 hr).1⟩
    rw [getM_del, valI_del h2]
    by_cases hxi : x = id
    · rw [if_pos hxi, if_pos hxi]; exact .inl ⟨rfl, rfl⟩
    · rw [if_neg hxi, if_neg hxi]
      exact (h3 x).keep hf (fun b hb => hb) fun b _ hc _ hm => get_other hm
  · (dsimp only; exact Ext.of (by omega) (by ((repeat ((with_reducible apply Fresh.put); omega)); ((with_reducible assumption)))) (by (repeat (first | (with_reducible exact Kp.refl) | ((with_reducible apply Kp.set); (focus ((right; (exact rfl)))))))) (by (repeat (first | (with_reducible exact Lg.nil) | ((with_reducible apply Lg.cons); (focus ((right; (assumption)))))))) (by (repeat (first | (with_reducible exact Lg.nil) | ((with_reducible apply Lg.cons); (focus ((right; (exact rfl)))))))))

theorem fids_spec {h : T AObj} {c : Nat} {rl wl : List Nat} (hf : Fresh h c) {p m dim : Nat} {mt : Int} {M : List Rc} {U : Nat → Prop} (q : FlatM h p m mt dim M U) (hn : M.length ≤ 1000) :
    ∃ r s', FnTo (Cs smQ) eg 17 [.pointer (some ⟨p, 0, none⟩)] ⟨h, c, rl, wl⟩ r s' ∧ Own s'.h c r M.length ((M.map Rc.id).map (Value.int .i64)) ∧ Ext ⟨h, c, rl, wl⟩ s' U (fun _ => False) := by
  obtain ⟨es, n, hm, ⟨ids, h2⟩, h3⟩ := q.ex
  have hp := q.ptr
  obtain ⟨lp, lm⟩ := q.lt hf
  have hpU := q.pU
  have hmU := q.mU
  have hs := FlatM.ids h2 q.rises h3
  have hlen : ids.length = M.length := by
    have := congrArg List.length hs
    rw [(sortI_perm ids).length_eq, List.length_map] at this
    exact this
  have hk := h2.keyInts
  refine Fn.go (stdQ 17 rfl) ex17 fn17 km17 rfl rfl ?_
  intro e he
  (simp (decide := true) only [kz] at he; subst he)
  (repeat (first | (with_reducible refine Then.go ?_) | (with_reducible refine Wx.seq ?_) | (with_reducible refine Wx.skip ?_) | (with_reducible refine Wx.reg ?_) | (refine Wx.condF rfl (by ((rfl))) ?_) | ((with_reducible refine Wseq.nil ?_); intro e he; (simp (decide := true) only [kz] at he; subst he)) | ((with_reducible apply Wseq.mv); rfl; (intro v hv; (simp (decide := true) only [kw] at hv); subst hv)) | ((with_reducible apply Wseq.as); rfl; (intro v hv; (simp (decide := true) only [kw] at hv); subst hv)) | ((with_reducible apply Wseq.stg (op := Op.fieldAddr _ _ _)); rfl; exact to_fieldAddr (fa_ rfl) rfl) | ((with_reducible apply Wseq.stg (op := Op.load _ _)); rfl; exact to_load (pl_ rfl) rfl (by (repeat (((with_reducible apply Has.cel); with_reducible assumption)))) (by omega) (by rfl)) | ((with_reducible apply Wseq.stg (op := Op.nilCheck _)); rfl; exact to_nilCheck rfl) | ((with_reducible apply Wseq.stg (op := Op.binOp BinOp.eql _ _ _ _)); rfl; exact to_eqP (un_ rfl) rfl rfl)))
  refine Wseq.call rfl rfl (keys_spec stdQ (by ((repeat ((with_reducible apply Fresh.put); omega)); ((with_reducible assumption))))) ?_
  rintro v1 h1 c1 r1 w1 ⟨rfl, e1⟩
  cases e1
  cases ids with
  | nil =>
    obtain rfl : M = [] := by cases M with | nil => rfl | cons _ _ => simp at hlen
    refine Wseq.call rfl rfl (sorted_none (by ((repeat ((with_reducible apply Fresh.put); omega)); ((exact Fresh.up (by with_reducible assumption) (by omega))))) (by (repeat ((with_reducible exact Has.same)))) (by (repeat (first | (with_reducible assumption) | ((with_reducible apply Has.other); omega)))) hk) ?_
    rintro v1 h1 c1 r1 w1 ⟨rfl, e1⟩
    cases e1
    (repeat (first | (with_reducible refine Then.go ?_) | (with_reducible refine Wx.ret ?_) | ((with_reducible refine Wseq.nil ?_); intro e he; (simp (decide := true) only [kz] at he; subst he)) | ((with_reducible apply Wseq.as); rfl; (intro v hv; (simp (decide := true) only [kw] at hv); subst hv))))
    refine ⟨.inr rfl, Wres.one rfl ⟨.inl ⟨rfl, rfl, rfl⟩, ?_⟩⟩
    (dsimp only; exact Ext.of (by omega) (by ((repeat ((with_reducible apply Fresh.put); omega)); ((exact Fresh.up (by with_reducible assumption) (by omega))))) (by (repeat (first | (with_reducible exact Kp.refl) | ((with_reducible apply Kp.set); (focus ((left; omega))))))) (by (repeat (first | (with_reducible exact Lg.nil) | ((with_reducible apply Lg.cons); (focus (first | (left; omega) | (right; (assumption)))))))) (by (repeat ((with_reducible exact Lg.nil)))))
  | cons x0 xs0 =>
    refine Wseq.call rfl rfl (sorted_some (by ((repeat ((with_reducible apply Fresh.put); omega)); ((exact Fresh.up (by with_reducible assumption) (by omega))))) (by (repeat ((with_reducible exact Has.same)))) (by (repeat (first | (with_reducible assumption) | ((with_reducible apply Has.other); omega)))) hk (by omega)) ?_
    rintro v1 h1 c1 r1 w1 ⟨rfl, e1⟩
    cases e1
    rw [hs, hlen]
    (repeat (first | (with_reducible refine Then.go ?_) | (with_reducible refine Wx.ret ?_) | ((with_reducible refine Wseq.nil ?_); intro e he; (simp (decide := true) only [kz] at he; subst he)) | ((with_reducible apply Wseq.as); rfl; (intro v hv; (simp (decide := true) only [kw] at hv); subst hv))))
    refine ⟨.inr rfl, Wres.one rfl ⟨.inr ⟨c + 1, _, _, rfl, Nat.le_refl _, by omega, Has.same⟩, ?_⟩⟩
    (dsimp only; exact Ext.of (by omega) (by ((repeat ((with_reducible apply Fresh.put); omega)); ((exact Fresh.up (by with_reducible assumption) (by omega))))) (by (repeat (first | (with_reducible exact Kp.refl) | ((with_reducible apply Kp.set); (focus ((left; omega))))))) (by (repeat (first | (with_reducible exact Lg.nil) | ((with_reducible apply Lg.cons); (focus (first | (left; omega) | (right; (assumption)))))))) (by (repeat ((with_reducible exact Lg.nil)))))

/-- The numbers in a row. -/
def intsV (xs : List Value) : List Int := xs.map fun v => match v with | .int _ z => z | _ => 0
theorem intsV_ints (zs : List Int) : intsV (zs.map (Value.int .i32)) = zs := by
  unfold intsV
  rw [List.map_map]
  exact List.map_id zs
/-- The members' hits. -/
def hitR (mt : Int) (qs : List Int) (r : Rc) : Ht := ⟨r.id, scoreZ mt qs (intsV r.xs)⟩
def hitsM (mt : Int) (qs : List Int) (M : List Rc) : List Ht := M.map (hitR mt qs)

def HL (h : T AObj) (c0 : Nat) (v : Value) (l : List Ht) : Prop := (v = .slice none 0 0 ∧ l = []) ∨ ∃ b, v = .slice (some ⟨b, 0, some 2⟩) l.length l.length ∧ l ≠ [] ∧ c0 ≤ b ∧ Has h b (.cells (flatH l))
theorem HL.val {h : T AObj} {c : Nat} {v : Value} {l : List Ht} (x : HL h c v l) : ∃ oa, v = .slice oa l.length l.length ∧ Row h v l.length 2 (flatH l) ∧ ∀ b, blkOf v = some b → c ≤ b := by
  rcases x with ⟨rfl, rfl⟩ | ⟨b, rfl, _, h1, h2⟩
  · exact ⟨_, rfl, .inl ⟨rfl, rfl, _, _, rfl⟩, fun b hb => by cases hb⟩
  · exact ⟨_, rfl, .inr ⟨b, 0, _, _, _, rfl, h2.cel, subN_all _ _ (flatH_len l).symm⟩, fun b hb => by cases hb; exact h1⟩

def EFs (p : Nat) (qa : Option Addr) (dim qc : Nat) (k : Int) (lv : Value) (oi : Option Addr) (n ic : Nat) (z : Int) (j9 j14 : Value) : L :=
  .cons 0 (.pointer (some ⟨p, 0, none⟩)) (.cons 1 (.slice qa dim qc) (.cons 2 (.int .i64 k) (.cons 6 (.slice none 0 0) (.cons 7 lv (.cons 11 (.slice oi n ic) (.cons 12 (.int .i64 (n : Int)) (.cons 13 (.int .i64 z) (.cons 9 j9 (.cons 14 j14 .nil)))))))))

set_option maxHeartbeats 4000000 in
theorem fsearch_spec {h : T AObj} {c : Nat} {rl wl : List Nat} (hf : Fresh h c) {p m dim : Nat} {mt : Int} {M : List Rc} {U : Nat → Prop} (q : FlatM h p m mt dim M U) (hmt : mt = 1 ∨ mt = 2) {qa : Option Addr} {qc : Nat} {qs : List Int} (hq : Row h (.slice qa dim qc) dim 1 (qs.map (Value.int .i32))) (hqn : qs.length = dim) (hqb : Bnd qs) (hd : dim ≤ 1000) (k : Int) {kk : Nat} (hk : max k 0 = (kk : Int)) (hkk : kk ≤ 1000) (hn : M.length ≤ 800) (R : Nat → Prop) (hUR : ∀ b, U b → R b) (hqR : ∀ b, blkOf (.slice qa dim qc) = some b → R b) :
    ∃ r s', FnTo (Cs smQ) eg 15 [.pointer (some ⟨p, 0, none⟩), .slice qa dim qc, .int .i64 k] ⟨h, c, rl, wl⟩ r s' ∧ (Best s'.h r (bestOf kk (hitsM mt qs M)).length (flatH (bestOf kk (hitsM mt qs M))) ∧ ∀ b, blkOf r = some b → c ≤ b) ∧ Ext ⟨h, c, rl, wl⟩ s' R (fun _ => False) := by
  have hp := q.ptr
  obtain ⟨lp, lm⟩ := q.lt hf
  have hpU := hUR p q.pU
  have hmU := hUR m q.mU
  refine Fn.go (stdQ 15 rfl) ex15 fn15 km15 rfl rfl ?_
  intro e he
  (simp (decide := true) only [kz] at he; subst he)
  (repeat (first | (with_reducible refine Then.go ?_) | (with_reducible refine Wx.seq ?_) | (with_reducible refine Wx.reg ?_) | ((with_reducible refine Wseq.nil ?_); intro e he; (simp (decide := true) only [kz] at he; subst he)) | ((with_reducible apply Wseq.mv); rfl; (intro v hv; (simp (decide := true) only [kw] at hv); subst hv)) | ((with_reducible apply Wseq.as); rfl; (intro v hv; (simp (decide := true) only [kw] at hv); subst hv))))
  refine Wseq.call rfl rfl (fids_spec (by ((repeat ((with_reducible apply Fresh.put); omega)); ((with_reducible assumption)))) q (by omega)) ?_
  rintro v1 h1 c1 r1 w1 ⟨hids, hext⟩
  have kp := Kp.ext (W := fun _ => False) (h := h) (c := c) (by (repeat ((with_reducible exact Kp.refl)))) hext (by omega) (fun _ _ q => q)
  have lr := Lg.extR (R := R) (c := c) (by (repeat ((with_reducible exact Lg.nil)))) hext (fun b hb u => hUR b u)
  have lw := Lg.extW (W := fun _ => False) (c := c) (by (repeat ((with_reducible exact Lg.nil)))) hext (fun _ _ q => q)
  have fr1 := hext.fresh
  have le1 := hext.c
  simp only at le1 fr1
  obtain ⟨oi, ic, rfl⟩ := hids.val
  have hrow1 := hids.row (by rw [List.length_map, List.length_map])
  have hlen : ∀ i, i ≤ M.length → (hitsM mt qs (M.take i)).length = i := fun i hi => by unfold hitsM; rw [List.length_map, List.length_take]; omega
  (repeat (first | (with_reducible refine Then.go ?_) | (with_reducible refine Wx.block ?_) | ((with_reducible refine Wseq.nil ?_); intro e he; (simp (decide := true) only [kz] at he; subst he)) | ((with_reducible apply Wseq.mv); rfl; (intro v hv; (simp (decide := true) only [kw] at hv); subst hv)) | ((with_reducible apply Wseq.stg (op := Op.call ⟨Callee.builtin Builtin.len, _, _⟩)); rfl; exact to_lenS (sl_ rfl) rfl)))
  refine Wx.cutO (fun e s => ∃ (lv j9 j14 : Value) (h' : T AObj) (c' : Nat) (rl' wl' : List Nat), e = EFs p qa dim qc k lv oi M.length ic M.length j9 j14 ∧ s = ⟨h', c', rl', wl'⟩ ∧ c1 ≤ c' ∧ Fresh h' c' ∧ Kp h h' c (fun _ => False) ∧ HL h' c1 lv (hitsM mt qs M) ∧ Lg c R rl' ∧ Lg c (fun _ => False) wl') (by (repeat ((with_reducible exact Resp.fn)))) ?_ ?_
  · refine Wx.loopE (fun k1 e s => ∃ (i : Nat) (z : Int) (lv j9 j14 : Value) (h' : T AObj) (c' : Nat) (rl' wl' : List Nat), e = EFs p qa dim qc k lv oi M.length ic z j9 j14 ∧ z = i ∧ s = ⟨h', c', rl', wl'⟩ ∧ c1 ≤ c' ∧ Fresh h' c' ∧ Kp h1 h' c1 (fun _ => False) ∧ HL h' c1 lv (hitsM mt qs (M.take i)) ∧ Lg c R rl' ∧ Lg c (fun _ => False) wl' ∧ i ≤ M.length ∧ k1 = M.length - i) M.length (EFs p qa dim qc k (.slice none 0 0) oi M.length ic 0 top top) (by (repeat (first | (with_reducible exact Resp.fn) | (with_reducible apply Resp.out) | (with_reducible apply Resp.cut)))) ?_ ?_ ?_
    · unfold EFs
      (refine EqK.of ?_ ?_ <;> (repeat (first | (exact all_nil) | ((apply all_cons); rfl))))
    · exact ⟨0, 0, _, _, _, _, _, _, _, rfl, rfl, rfl, Nat.le_refl _, fr1, Kp.refl, .inl ⟨rfl, rfl⟩, (by (repeat ((with_reducible assumption)))), (by (repeat ((with_reducible assumption)))), by omega, rfl⟩
    · rintro k1 e s ⟨i, z, lv, j9, j14, h', c', rl', wl', rfl, hz, rfl, hcc, hf', hkp, hHL, hlr, hlw, hid, rfl⟩
      unfold EFs
      by_cases hi : i < M.length
      · have hrow' := Row.keepF hrow1 fr1 (fun b hb => hkp b hb (fun q => q))
        have hgid : ((M.map Rc.id).map (Value.int .i64))[i]? = some (.int .i64 M[i].id) := by
          rw [List.getElem?_map, List.getElem?_map, List.getElem?_eq_getElem hi]; rfl
        obtain ⟨b1, o1, sp1, cs1, rfl, hc1, hn1⟩ := rowCell hrow' (j := i * 1) (by omega) (by rw [Nat.mul_one]; exact hgid)
        have hb1 : c ≤ b1 := by
          rcases hids with ⟨e, _⟩ | ⟨b', sp', cap', e, _, g, _⟩
          · simp only [Value.slice.injEq] at e; cases e.1
          · simp only [Value.slice.injEq, Option.some.injEq, Addr.mk.injEq] at e; rw [e.1.1]; exact g
        have l1 := hc1.lt hf'
        have kph : Kp h h' c (fun _ => False) := fun b hb _ => (hkp b (by omega) (fun q => q)).trans (kp b hb (fun q => q))
        have hq0 := Row.keepF hq hf (fun b hb => kph b hb (fun q => q))
        have q' := q.keep hf (fun b _ hb => kph b hb (fun q => q))
        have hp' := q'.ptr
        obtain ⟨es, n, hm', ⟨ids, h2⟩, h3⟩ := q'.ex
        obtain ⟨lp', lm'⟩ := q'.lt hf'
        obtain ⟨zs, hzs, hzl, hzb⟩ := q.ok M[i] (List.getElem_mem hi)
        obtain ⟨v, hv1, hv2, hv3⟩ : ∃ v, valI M[i].id es = some v ∧ Own h' 0 v dim (zs.map (Value.int .i32)) ∧ ∀ b, blkOf v = some b → U b := by
          rcases h3 M[i].id with ⟨e1, _⟩ | ⟨r, v, e1, e2, e3, e4⟩
          · exact absurd rfl (getM_none.1 e1 M[i] (List.getElem_mem hi))
          · rw [getM_some q.rises (List.getElem_mem hi) rfl] at e1
            cases e1
            rw [hzs, List.length_map, hzl] at e3
            exact ⟨v, e2, e3, fun b hb => (e4 b hb).1⟩
        obtain ⟨va, vk, rfl⟩ := hv2.val
        obtain ⟨vi, hv4⟩ := valI_some hv1
        have hvr := hv2.row (by rw [List.length_map]; exact hzl)
        (repeat (first | (with_reducible refine Then.go ?_) | (with_reducible refine Wx.seq ?_) | (with_reducible refine Wx.skip ?_) | (with_reducible refine Wx.block ?_) | (with_reducible refine Wx.reg ?_) | (refine Wx.condT rfl (by ((rfl))) ?_) | ((with_reducible refine Wseq.nil ?_); intro e he; (simp (decide := true) only [kz] at he; subst he)) | ((with_reducible apply Wseq.stg (op := Op.binOp BinOp.lss _ _ _ _)); rfl; exact to_lssT rfl rfl (by omega))))
        ((with_reducible apply Wseq.stg); (focus rfl); (focus (exact to_indexAddr (k := i) el35 rfl rfl hz (by omega))))
        ((with_reducible apply Wseq.stg); (focus rfl); (focus (exact to_load (pl_ rfl) rfl hc1 (by omega) hn1)))
        (repeat (first | (with_reducible refine Then.go ?_) | (refine Wx.dreg rfl ?_) | ((with_reducible refine Wseq.nil ?_); intro e he; (simp (decide := true) only [kz] at he; subst he)) | ((with_reducible apply Wseq.as); rfl; (intro v hv; (simp (decide := true) only [kw] at hv); subst hv)) | ((with_reducible apply Wtr.mv); rfl; (intro v hv; (simp (decide := true) only [kw] at hv); subst hv)) | ((with_reducible apply Wtr.stq (op := Op.fieldAddr _ _ _)); rfl; exact to_fieldAddr (fa_ rfl) rfl) | ((with_reducible apply Wtr.stx (op := Op.load _ _)); rfl; exact to_load (pl_ rfl) rfl (by (repeat (((with_reducible apply Has.cel); with_reducible assumption)))) (by omega) (by rfl); (focus (repeat (first | (with_reducible exact all_nil) | ((with_reducible apply all_cons); (focus ((right; with_reducible exact ApartP.rr)))))))) | ((with_reducible apply Wtr.stq (op := Op.nilCheck _)); rfl; exact to_nilCheck rfl)))
        ((with_reducible apply Wtr.stx); (focus rfl); (focus (exact to_lookup (mi_ rfl) (ze_ rfl) rfl rfl hm' lm' h2.ks (by rw [hv4]))); (focus (repeat (first | (with_reducible exact all_nil) | ((with_reducible apply all_cons); (focus ((right; with_reducible exact ApartP.rr))))))))
        refine Wtr.call rfl rfl (score_spec stdQ (by ((repeat ((with_reducible apply Fresh.put); omega)); ((with_reducible assumption)))) hmt hqn hzl hq0 hvr hqb hzb hd R (fun b hb => hb.elim (hqR b) (fun u => hUR b (hv3 b u)))) ?_
        rintro v h2' c2 r2 w2 ⟨⟨rfl, e1, e2⟩, hext2⟩
        simp only at e1 e2
        subst e1 e2
        have hqt := hext2.quiet (fun _ _ q => q)
        have lr2 := Lg.extR (R := R) (c := c) (by (repeat ((with_reducible exact Lg.nil)))) hext2 (fun _ _ q => q)
        have lw2 := Lg.extW (W := fun _ => False) (c := c) (by (repeat ((with_reducible exact Lg.nil)))) hext2 (fun _ _ q => q)
        refine ⟨(by (repeat (first | (with_reducible exact all_nil) | ((with_reducible apply all_cons); (focus ((left; dsimp only; decide +kernel))))))), ?_⟩
        have hhit : hitsM mt qs (M.take (i + 1)) = hitsM mt qs (M.take i) ++ [⟨M[i].id, scoreZ mt qs zs⟩] := by
          unfold hitsM
          rw [List.take_succ_eq_append_getElem hi, List.map_append]
          show _ ++ [hitR mt qs M[i]] = _
          unfold hitR
          rw [hzs, intsV_ints]
        have hfl : flatH (hitsM mt qs (M.take (i + 1))) = flatH (hitsM mt qs (M.take i)) ++ [.int .i64 M[i].id, .int .i64 (scoreZ mt qs zs)] := by rw [hhit, flatH_app]; rfl
        have hl0 := hlen i (by omega)
        have hl1 := hlen (i + 1) (by omega)
        have hbg : big = 1048576 := rfl
        rcases hHL with ⟨rfl, hnil⟩ | ⟨bl, rfl, hne, hbl, hbc⟩
        · (repeat (first | ((with_reducible apply Wtr.bd); rfl; exact (bt_ rfl); (intro v hv; (simp (decide := true) only [kw] at hv); subst hv); refine ⟨_, rfl, ?_⟩) | ((with_reducible apply Wtr.bs); rfl; exact (ro_ rfl); rfl; exact (by ((repeat ((with_reducible apply Fresh.put); omega)); ((with_reducible assumption)))); (focus (repeat (first | (with_reducible exact all_nil) | ((with_reducible apply all_cons); (focus (first | (right; with_reducible exact ApartP.rr) | (right; with_reducible exact ApartP.rn))))))); (intro v hv; (simp (decide := true) only [kw] at hv); subst hv); refine ⟨_, rfl, ?_⟩)))
          ((with_reducible apply Wtr.stx); (focus rfl); (focus (exact to_appNil ro32 sl32 rfl rfl (k := 0) Has.same.cel (by omega) (subN_all _ _ rfl) (by omega) (by ((repeat ((with_reducible apply Fresh.put); omega)); ((exact Fresh.up (by with_reducible assumption) (by omega))))))); (focus (repeat (first | (with_reducible exact all_nil) | ((with_reducible apply all_cons); (focus (first | (right; with_reducible exact ApartP.rr) | (left; dsimp only; decide +kernel))))))))
          (repeat (first | (with_reducible refine Then.go ?_) | (with_reducible refine Out.go ?_) | (with_reducible refine Wx.reg ?_) | ((with_reducible refine Wseq.nil ?_); intro e he; (simp (decide := true) only [kz] at he; subst he)) | ((with_reducible apply Wseq.mv); rfl; (intro v hv; (simp (decide := true) only [kw] at hv); subst hv)) | ((with_reducible apply Wseq.stg (op := Op.binOp BinOp.add _ _ _ _)); rfl; exact to_add rfl rfl (by omega) (by omega)) | ((with_reducible refine Wtr.nil ?_); intro e he; (simp (decide := true) only [kz] at he; subst he)) | ((with_reducible apply Wtr.as); rfl; (intro v hv; (simp (decide := true) only [kw] at hv); subst hv))))
          refine RoundE.go (M.length - (i + 1)) (EFs p qa dim qc k _ _ M.length ic (z + 1) _ _) (by omega) (by (refine EqK.of ?_ ?_ <;> (repeat (first | (exact all_nil) | ((apply all_cons); rfl))))) ⟨i + 1, z + 1, _, _, _, _, _, _, _, rfl, by omega, rfl, by omega, (by ((repeat ((with_reducible apply Fresh.put); omega)); ((exact Fresh.up (by with_reducible assumption) (by omega))))), (by (repeat (first | (with_reducible assumption) | ((with_reducible apply Kp.set); (focus ((left; omega))))))), ?_, (by (repeat (first | (with_reducible exact Lg.nil) | (with_reducible assumption) | ((with_reducible apply Lg.cons); (focus (first | (left; omega) | (right; (assumption))))) | (with_reducible apply Lg.app)))), (by (repeat (first | (with_reducible exact Lg.nil) | (with_reducible assumption) | (with_reducible apply Lg.app)))), by omega, rfl⟩
          have hi0 : i = 0 := by rw [hnil] at hl0; simpa using hl0.symm
          refine .inr ⟨c2 + 1, ?_, ?_, by omega, ?_⟩
          · rw [hl1, hi0]
          · intro e; rw [e] at hl1; simp at hl1
          · rw [hfl, hnil]; exact Has.same
        · have l3 := hbc.lt hf'
          (repeat (first | ((with_reducible apply Wtr.bd); rfl; exact (bt_ rfl); (intro v hv; (simp (decide := true) only [kw] at hv); subst hv); refine ⟨_, rfl, ?_⟩) | ((with_reducible apply Wtr.bs); rfl; exact (ro_ rfl); rfl; exact (by ((repeat ((with_reducible apply Fresh.put); omega)); ((with_reducible assumption)))); (focus (repeat (first | (with_reducible exact all_nil) | ((with_reducible apply all_cons); (focus (first | (right; with_reducible exact ApartP.rr) | (right; with_reducible exact ApartP.rn))))))); (intro v hv; (simp (decide := true) only [kw] at hv); subst hv); refine ⟨_, rfl, ?_⟩)))
          ((with_reducible apply Wtr.stx); (focus rfl); (focus (exact to_appOwn ro32 sl32 rfl rfl (k := 0) Has.same.cel (by omega) (subN_all _ _ rfl) (by omega) (by omega) (hbc.other (by omega)) (by omega) (subN_all _ _ (flatH_len _).symm) (all_cons rfl (all_cons rfl all_nil)) (by ((repeat ((with_reducible apply Fresh.put); omega)); ((exact Fresh.up (by with_reducible assumption) (by omega))))))); (focus (repeat (first | (with_reducible exact all_nil) | ((with_reducible apply all_cons); (focus ((left; dsimp only; decide +kernel))))))))
          (repeat (first | (with_reducible refine Then.go ?_) | (with_reducible refine Out.go ?_) | (with_reducible refine Wx.reg ?_) | ((with_reducible refine Wseq.nil ?_); intro e he; (simp (decide := true) only [kz] at he; subst he)) | ((with_reducible apply Wseq.mv); rfl; (intro v hv; (simp (decide := true) only [kw] at hv); subst hv)) | ((with_reducible apply Wseq.stg (op := Op.binOp BinOp.add _ _ _ _)); rfl; exact to_add rfl rfl (by omega) (by omega)) | ((with_reducible refine Wtr.nil ?_); intro e he; (simp (decide := true) only [kz] at he; subst he)) | ((with_reducible apply Wtr.as); rfl; (intro v hv; (simp (decide := true) only [kw] at hv); subst hv))))
          refine RoundE.go (M.length - (i + 1)) (EFs p qa dim qc k _ _ M.length ic (z + 1) _ _) (by omega) (by (refine EqK.of ?_ ?_ <;> (repeat (first | (exact all_nil) | ((apply all_cons); rfl))))) ⟨i + 1, z + 1, _, _, _, _, _, _, _, rfl, by omega, rfl, by omega, (by ((repeat ((with_reducible apply Fresh.put); omega)); ((exact Fresh.up (by with_reducible assumption) (by omega))))), (by (repeat (first | (with_reducible assumption) | ((with_reducible apply Kp.set); (focus ((left; omega))))))), ?_, (by (repeat (first | (with_reducible exact Lg.nil) | (with_reducible assumption) | ((with_reducible apply Lg.cons); (focus (first | (left; omega) | (right; (assumption))))) | (with_reducible apply Lg.app)))), (by (repeat (first | (with_reducible exact Lg.nil) | (with_reducible assumption) | ((with_reducible apply Lg.cons); (focus ((left; omega)))) | (with_reducible apply Lg.app)))), by omega, rfl⟩
          refine .inr ⟨c2 + 1, ?_, ?_, by omega, ?_⟩
          · rw [hl1, hl0]
          · intro e; rw [e] at hl1; simp at hl1
          · rw [hfl]; exact Has.same
      · (repeat (first | (with_reducible refine Then.go ?_) | (with_reducible refine Then.ex ?_) | (with_reducible refine Out.hit ?_) | (with_reducible refine Wx.seq ?_) | (with_reducible refine Wx.exit ?_) | (with_reducible refine Wx.reg ?_) | (with_reducible refine RoundE.ex ?_) | (refine Wx.condF rfl (by ((rfl))) ?_) | ((with_reducible refine Wseq.nil ?_); intro e he; (simp (decide := true) only [kz] at he; subst he)) | ((with_reducible apply Wseq.stg (op := Op.binOp BinOp.lss _ _ _ _)); rfl; exact to_lssF rfl rfl (by omega))))
        obtain rfl : i = M.length := by omega
        subst hz
        rw [List.take_length] at hHL
        exact CutQ.go (EFs p qa dim qc k lv oi M.length ic M.length _ _) (by (refine EqK.of ?_ ?_ <;> (repeat (first | (exact all_nil) | ((apply all_cons); rfl))))) ⟨_, _, _, _, _, _, _, rfl, rfl, hcc, hf', (fun b hb _ => (hkp b (by omega) (fun q => q)).trans (kp b hb (fun q => q))), hHL, (by (repeat ((with_reducible assumption)))), (by (repeat ((with_reducible assumption))))⟩
  · rintro e s ⟨lv, j9, j14, h', c', rl', wl', rfl, rfl, hcc, hf', hkp, hHL, hlr, hlw⟩
    unfold EFs
    obtain ⟨oa, rfl, hrow, hge⟩ := hHL.val
    have hl2 := hlen M.length (Nat.le_refl _)
    rw [List.take_length] at hl2
    (repeat (first | (with_reducible refine Wx.seq ?_) | (with_reducible refine Wx.reg ?_) | ((with_reducible apply Wseq.mv); rfl; (intro v hv; (simp (decide := true) only [kw] at hv); subst hv))))
    refine Wseq.call rfl rfl (of_spec stdQ rfl (by ((repeat ((with_reducible apply Fresh.put); omega)); ((with_reducible assumption)))) hrow hk hkk (by omega) (fun b => c1 ≤ b) hge) ?_
    rintro v h2 c2 r2 w2 ⟨⟨g1, g2⟩, hext2⟩
    have kp2 := Kp.ext (W := fun _ => False) (h := h) (c := c) (by (repeat ((with_reducible assumption)))) hext2 (by omega) (fun _ _ q => q)
    have lr2 := Lg.extR (R := R) (c := c) (by (repeat ((with_reducible assumption)))) hext2 (fun b hb u => by omega)
    have lw2 := Lg.extW (W := fun _ => False) (c := c) (by (repeat ((with_reducible assumption)))) hext2 (fun _ _ q => q)
    have fr2 := hext2.fresh
    have le2 := hext2.c
    simp only at le2 fr2
    (repeat (first | (with_reducible refine Then.go ?_) | (with_reducible refine Wx.ret ?_) | ((with_reducible refine Wseq.nil ?_); intro e he; (simp (decide := true) only [kz] at he; subst he)) | ((with_reducible apply Wseq.as); rfl; (intro v hv; (simp (decide := true) only [kw] at hv); subst hv))))
    refine ⟨.inr rfl, Wres.one rfl ⟨⟨g1, fun b hb => by have := g2 b hb; omega⟩, ?_⟩⟩
    (dsimp only; exact Ext.of (by omega) (by ((repeat ((with_reducible apply Fresh.put); omega)); ((with_reducible assumption)))) (by (repeat ((with_reducible assumption)))) (by (repeat ((with_reducible assumption)))) (by (repeat ((with_reducible assumption)))))
end Go.Ab.Seat
