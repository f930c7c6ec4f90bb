/- Is a number among some? An index of lists: a search (the abstract machine). -/
import Derived.Test.YtcnfbfiakkjabaaGreatDoorDO6
set_option linter.unusedVariables false
set_option linter.unusedSimpArgs false
namespace Go.Ab.Seat
open Go.Extern Go.Proofs
set_option linter.unusedSimpArgs false
set_option linter.unusedVariables false
set_option maxRecDepth 4000
set_option pp.deepTerms false
set_option pp.deepTerms.threshold 6

def EX (oa : Option Addr) (n cap : Nat) (x z : Int) (j5 j9 j16 : Value) : L :=
  .cons 1 (.int .i64 x) (.cons 0 (.slice oa n cap) (.cons 4 (.int .i64 0) (.cons 7 (.int .i64 (n : Int)) (.cons 8 (.int .i64 z) (.cons 5 j5 (.cons 9 j9 (.cons 16 j16 .nil)))))))

set_option maxHeartbeats 4000000 in
theorem indexI_spec {h : T AObj} {c : Nat} {rl wl : List Nat} (hf : Fresh h c) {oa : Option Addr} {cap n : Nat} {l : List Int} (hln : l.length = n) (hl : Row h (.slice oa n cap) n 1 (l.map (Value.int .i64))) (hn : n ≤ 1000) (x : Int) (R : Nat → Prop) (hR : ∀ b, blkOf (.slice oa n cap) = some b → R b) :
    ∃ r s', FnTo (Cs smQ) eg 94 [.slice oa n cap, .int .i64 x] ⟨h, c, rl, wl⟩ r s' ∧ ((∃ z : Int, r = .int .i64 z ∧ (0 ≤ z ↔ x ∈ l)) ∧ s'.h = h ∧ s'.c = c) ∧ Ext ⟨h, c, rl, wl⟩ s' R (fun _ => False) := by
  refine Fn.go (stdQ 94 rfl) ex94 fn94 km94 rfl rfl ?_
  intro e he
  (simp (decide := true) only [kz] at he; subst he)
  (repeat (first | (with_reducible refine Then.go ?_) | (with_reducible refine Wx.seq ?_) | (with_reducible refine Wx.block ?_) | (with_reducible refine Wx.reg ?_) | ((with_reducible refine Wseq.nil ?_); intro e he; (simp (decide := true) only [kz] at he; subst he)) | ((with_reducible apply Wseq.mv); rfl; (intro v hv; (simp (decide := true) only [kw] at hv); subst hv)) | ((with_reducible apply Wseq.as); rfl; (intro v hv; (simp (decide := true) only [kw] at hv); subst hv)) | ((with_reducible apply Wseq.stg (op := Op.call ⟨Callee.builtin Builtin.len, _, _⟩)); rfl; exact to_lenS (sl_ rfl) rfl)))
  refine Wx.loopE (fun k1 e s => ∃ (i : Nat) (z : Int) (j5 j9 j16 : Value) (rl' wl' : List Nat), e = EX oa n cap x z j5 j9 j16 ∧ z = i ∧ s = ⟨h, c, rl', wl'⟩ ∧ x ∉ l.take i ∧ Lg c R rl' ∧ Lg c (fun _ => False) wl' ∧ i ≤ n ∧ k1 = n - i) n (EX oa n cap x 0 top top top) (by (repeat (first | (exact Resp.fn) | (apply Resp.then) | (apply Resp.out)))) ?_ ?_ ?_
  · unfold EX
    (refine EqK.of ?_ ?_ <;> (repeat (first | (exact all_nil) | (apply all_cons; rfl))))
  · exact ⟨0, 0, _, _, _, _, _, rfl, rfl, rfl, List.not_mem_nil, (by (repeat ((exact Lg.nil)))), (by (repeat ((exact Lg.nil)))), by omega, rfl⟩
  · rintro k1 e s ⟨i, z, j5, j9, j16, rl', wl', rfl, hz, rfl, hnm, hlr, hlw, hid, rfl⟩
    unfold EX
    by_cases hi : i < n
    · have hil : i < l.length := by omega
      have hgi : (l.map (Value.int .i64))[i]? = some (.int .i64 l[i]) := by rw [List.getElem?_map, List.getElem?_eq_getElem hil]; rfl
      obtain ⟨b1, o1, sp1, cs1, rfl, hc1, hn1⟩ := rowCell hl (j := i * 1) (by omega) (by rw [Nat.mul_one]; exact hgi)
      have l1 := hc1.lt hf
      have rb := hR b1 rfl
      by_cases hx : x = l[i]
      · (repeat (first | (with_reducible refine Then.go ?_) | (with_reducible refine Wx.seq ?_) | (with_reducible refine Wx.skip ?_) | (with_reducible refine Wx.block ?_) | (with_reducible refine Wx.reg ?_) | (refine Wx.condT rfl (by rfl) ?_) | ((with_reducible refine Wseq.nil ?_); intro e he; (simp (decide := true) only [kz] at he; subst he)) | ((with_reducible apply Wseq.mv); rfl; (intro v hv; (simp (decide := true) only [kw] at hv); subst hv)) | ((with_reducible apply Wseq.as); rfl; (intro v hv; (simp (decide := true) only [kw] at hv); subst hv)) | ((with_reducible apply Wseq.stg (op := Op.binOp BinOp.lss _ _ _ _)); rfl; exact to_lssT rfl rfl (by omega))))
        ((with_reducible apply Wseq.stg); (focus rfl); (focus (exact to_indexAddr (k := i) el35 rfl rfl hz (by omega))))
        ((with_reducible apply Wseq.stg); (focus rfl); (focus (exact to_load (pl_ rfl) rfl hc1 (by omega) hn1)))
        (repeat (first | (with_reducible refine Then.go ?_) | (with_reducible refine Then.rt ?_) | (with_reducible refine Out.rt ?_) | (with_reducible refine Wx.seq ?_) | (with_reducible refine Wx.ret ?_) | (with_reducible refine Wx.reg ?_) | (with_reducible refine RoundE.rt ?_) | (refine Wx.condT rfl (by rfl) ?_) | ((with_reducible refine Wseq.nil ?_); intro e he; (simp (decide := true) only [kz] at he; subst he)) | ((with_reducible apply Wseq.mv); rfl; (intro v hv; (simp (decide := true) only [kw] at hv); subst hv)) | ((with_reducible apply Wseq.as); rfl; (intro v hv; (simp (decide := true) only [kw] at hv); subst hv)) | ((with_reducible apply Wseq.stg (op := Op.binOp BinOp.eql _ _ _ _)); rfl; exact to_eqIT rfl rfl (by omega))))
        refine ⟨.inr rfl, Wres.one rfl ⟨⟨⟨z, rfl, ?_⟩, rfl, rfl⟩, ?_⟩⟩
        · exact ⟨fun _ => hx ▸ List.getElem_mem hil, fun _ => by omega⟩
        · (dsimp only; exact Ext.of (by omega) (by ((repeat (apply Fresh.put; omega)); ((assumption)))) (by (repeat ((exact Kp.refl)))) (by (repeat (first | (assumption) | (apply Lg.cons; (focus ((right; (assumption)))))))) (by (repeat ((assumption)))))
      · (repeat (first | (with_reducible refine Then.go ?_) | (with_reducible refine Wx.seq ?_) | (with_reducible refine Wx.skip ?_) | (with_reducible refine Wx.block ?_) | (with_reducible refine Wx.reg ?_) | (refine Wx.condT rfl (by rfl) ?_) | ((with_reducible refine Wseq.nil ?_); intro e he; (simp (decide := true) only [kz] at he; subst he)) | ((with_reducible apply Wseq.mv); rfl; (intro v hv; (simp (decide := true) only [kw] at hv); subst hv)) | ((with_reducible apply Wseq.as); rfl; (intro v hv; (simp (decide := true) only [kw] at hv); subst hv)) | ((with_reducible apply Wseq.stg (op := Op.binOp BinOp.lss _ _ _ _)); rfl; exact to_lssT rfl rfl (by omega))))
        ((with_reducible apply Wseq.stg); (focus rfl); (focus (exact to_indexAddr (k := i) el35 rfl rfl hz (by omega))))
        ((with_reducible apply Wseq.stg); (focus rfl); (focus (exact to_load (pl_ rfl) rfl hc1 (by omega) hn1)))
        (repeat (first | (with_reducible refine Then.go ?_) | (with_reducible refine Out.go ?_) | (with_reducible refine Wx.skip ?_) | (with_reducible refine Wx.reg ?_) | (refine Wx.condF rfl (by rfl) ?_) | ((with_reducible refine Wseq.nil ?_); intro e he; (simp (decide := true) only [kz] at he; subst he)) | ((with_reducible apply Wseq.mv); rfl; (intro v hv; (simp (decide := true) only [kw] at hv); subst hv)) | ((with_reducible apply Wseq.stg (op := Op.binOp BinOp.add _ _ _ _)); rfl; exact to_add rfl rfl (by omega) (by omega)) | ((with_reducible apply Wseq.stg (op := Op.binOp BinOp.eql _ _ _ _)); rfl; exact to_eqIF rfl rfl (by omega))))
        refine RoundE.go (n - (i + 1)) (EX _ n cap x (z + 1) _ _ _) (by omega) (by (refine EqK.of ?_ ?_ <;> (repeat (first | (exact all_nil) | (apply all_cons; rfl))))) ⟨i + 1, z + 1, _, _, _, _, _, rfl, by omega, rfl, ?_, (by (repeat (first | (assumption) | (apply Lg.cons; (focus ((right; (assumption)))))))), (by (repeat ((assumption)))), by omega, rfl⟩
        rw [List.take_succ_eq_append_getElem hil]
        intro hm
        rcases List.mem_append.1 hm with hm | hm
        · exact hnm hm
        · exact hx (List.mem_singleton.1 hm)
    · (repeat (first | (with_reducible refine Then.go ?_) | (with_reducible refine Then.ex ?_) | (with_reducible refine Out.hit ?_) | (with_reducible refine Wx.seq ?_) | (with_reducible refine Wx.exit ?_) | (with_reducible refine Wx.ret ?_) | (with_reducible refine Wx.reg ?_) | (with_reducible refine RoundE.ex ?_) | (refine Wx.condF rfl (by rfl) ?_) | ((with_reducible refine Wseq.nil ?_); intro e he; (simp (decide := true) only [kz] at he; subst he)) | ((with_reducible apply Wseq.as); rfl; (intro v hv; (simp (decide := true) only [kw] at hv); subst hv)) | ((with_reducible apply Wseq.stg (op := Op.binOp BinOp.lss _ _ _ _)); rfl; exact to_lssF rfl rfl (by omega))))
      refine ⟨.inr rfl, Wres.one rfl ⟨⟨⟨-1, rfl, ?_⟩, rfl, rfl⟩, ?_⟩⟩
      · rw [List.take_of_length_le (by omega)] at hnm
        exact ⟨fun h => by omega, fun h => absurd h hnm⟩
      · (dsimp only; exact Ext.of (by omega) (by ((repeat (apply Fresh.put; omega)); ((assumption)))) (by (repeat ((exact Kp.refl)))) (by (repeat ((assumption)))) (by (repeat ((assumption)))))

theorem containsI_spec {h : T AObj} {c : Nat} {rl wl : List Nat} (hf : Fresh h c) {oa : Option Addr} {cap n : Nat} {l : List Int} (hln : l.length = n) (hl : Row h (.slice oa n cap) n 1 (l.map (Value.int .i64))) (hn : n ≤ 1000) (x : Int) (R : Nat → Prop) (hR : ∀ b, blkOf (.slice oa n cap) = some b → R b) :
    ∃ r s', FnTo (Cs smQ) eg 53 [.slice oa n cap, .int .i64 x] ⟨h, c, rl, wl⟩ r s' ∧ (r = .bool (decide (x ∈ l)) ∧ s'.h = h ∧ s'.c = c) ∧ Ext ⟨h, c, rl, wl⟩ s' R (fun _ => False) := by
  refine Fn.go (stdQ 53 rfl) ex53 fn53 km53 rfl rfl ?_
  intro e he
  (simp (decide := true) only [kz] at he; subst he)
  (repeat (first | (with_reducible refine Then.go ?_) | (with_reducible refine Wx.seq ?_) | (with_reducible refine Wx.reg ?_) | ((with_reducible refine Wseq.nil ?_); intro e he; (simp (decide := true) only [kz] at he; subst he)) | ((with_reducible apply Wseq.mv); rfl; (intro v hv; (simp (decide := true) only [kw] at hv); subst hv)) | ((with_reducible apply Wseq.as); rfl; (intro v hv; (simp (decide := true) only [kw] at hv); subst hv))))
  refine Wseq.call rfl rfl (indexI_spec (by ((repeat (apply Fresh.put; omega)); ((assumption)))) hln hl hn x R hR) ?_
  rintro v1 h1 c1 r1 w1 ⟨⟨⟨z, rfl, hz⟩, e1, e2⟩, hext⟩
  simp only at e1 e2
  subst e1 e2
  have lr := Lg.extR (R := R) (c := c1) (by (repeat ((exact Lg.nil)))) hext (fun _ _ q => q)
  have lw := Lg.extW (W := fun _ => False) (c := c1) (by (repeat ((exact Lg.nil)))) hext (fun _ _ q => q)
  by_cases h0 : 0 ≤ z
  · (repeat (first | (with_reducible refine Then.go ?_) | (with_reducible refine Wx.ret ?_) | ((with_reducible refine Wseq.nil ?_); intro e he; (simp (decide := true) only [kz] at he; subst he)) | ((with_reducible apply Wseq.as); rfl; (intro v hv; (simp (decide := true) only [kw] at hv); subst hv)) | ((with_reducible apply Wseq.stg (op := Op.binOp BinOp.geq _ _ _ _)); rfl; exact to_geqT rfl rfl (by omega))))
    refine ⟨.inr rfl, Wres.one rfl ⟨⟨?_, rfl, rfl⟩, ?_⟩⟩
    · rw [decide_eq_true (hz.1 h0)]; rfl
    · (dsimp only; exact Ext.of (by omega) (by ((repeat (apply Fresh.put; omega)); ((assumption)))) (by (repeat ((exact Kp.refl)))) (by (repeat ((assumption)))) (by (repeat ((assumption)))))
  · (repeat (first | (with_reducible refine Then.go ?_) | (with_reducible refine Wx.ret ?_) | ((with_reducible refine Wseq.nil ?_); intro e he; (simp (decide := true) only [kz] at he; subst he)) | ((with_reducible apply Wseq.as); rfl; (intro v hv; (simp (decide := true) only [kw] at hv); subst hv)) | ((with_reducible apply Wseq.stg (op := Op.binOp BinOp.geq _ _ _ _)); rfl; exact to_geqF rfl rfl (by omega))))
    refine ⟨.inr rfl, Wres.one rfl ⟨⟨?_, rfl, rfl⟩, ?_⟩⟩
    · rw [decide_eq_false (fun q => h0 (hz.2 q))]; rfl
    · (dsimp only; exact Ext.of (by omega) (by ((repeat (apply Fresh.put; omega)); ((assumption)))) (by (repeat ((exact Kp.refl)))) (by (repeat ((assumption)))) (by (repeat ((assumption)))))

/-- Numbers that grow: one more. -/
theorem Wseq.appI {all os : List Oper} {loc kept : L} {h : T AObj} {c : Nat} {rl wl : List Nat} {Q : Env → St → Prop} {d : Nat} {ty : TypeId} {ps : String} {af : Array Edge} {g : Option (Nat × Bool)} {a x : Operand} {v : Value} {c0 ob cap : Nat} {sp : Option Nat} {y : Int} {l : List Int}
    (hw : wantedA all (.mk loc kept) ⟨some d, .call ⟨.builtin .append, #[a, x], #[35, 35]⟩, ty, ps, af, g⟩ = some true) (ha : evalA (.mk loc kept) a = v) (hx : evalA (.mk loc kept) x = .slice (some ⟨ob, 0, sp⟩) 1 cap) (hHI : HI h c0 v l) (hb : Has h ob (.cells [.int .i64 y])) (hob : c0 ≤ ob) (hn : l.length ≤ 10000) (hf : Fresh h c) (hc0 : c0 ≤ c)
    (k : ∀ h2 rl2 wl2, Fresh h2 (c + 1) → Kp h h2 c (fun b => blkOf v = some b) → Has h2 c (.cells ((l ++ [y]).map (Value.int .i64))) → (∀ b ∈ rl2, b ∈ rl ∨ c0 ≤ b) → (∀ b ∈ wl2, b ∈ wl ∨ c0 ≤ b) → Wseq (Cs smQ) eg all os (.mk (.cons d (.slice (some ⟨c, 0, some 1⟩) (l.length + 1) (l.length + 1)) loc) kept) ⟨h2, c + 1, rl2, wl2⟩ Q) :
    Wseq (Cs smQ) eg all (⟨some d, .call ⟨.builtin .append, #[a, x], #[35, 35]⟩, ty, ps, af, g⟩ :: os) (.mk loc kept) ⟨h, c, rl, wl⟩ Q := by
  have lo := hb.lt hf
  have hbg : big = 1048576 := rfl
  rcases hHI with ⟨rfl, rfl⟩ | ⟨bl, rfl, hne, hbl, hbc⟩
  · refine Wseq.stg hw (to_appNil (k := 0) ro35 sl35 ha hx hb.cel lo (subN_all _ _ rfl) (by omega) hf) (k _ _ _ (by ((repeat (apply Fresh.put; omega)); ((exact Fresh.up (by assumption) (by omega))))) (by (repeat (first | (exact Kp.refl) | (apply Kp.set; (focus (left; omega)))))) Has.same ?_ (fun b hb => .inl hb))
    intro b hb
    rcases List.mem_cons.1 hb with rfl | hb
    · exact .inr hob
    · exact .inl hb
  · have l3 := hbc.lt hf
    refine Wseq.stg hw (to_appOwn (k := 0) ro35 sl35 ha hx hb.cel lo (subN_all _ _ rfl) (by omega) (by omega) hbc l3 (subN_all _ _ (by simp)) (all_cons rfl all_nil) hf) (k _ _ _ (by ((repeat (apply Fresh.put; omega)); ((exact Fresh.up (by assumption) (by omega))))) (by (repeat (first | (exact Kp.refl) | (apply Kp.set; (focus (first | (left; omega) | (right; (exact rfl)))))))) ?_ ?_ ?_)
    · rw [List.map_append]; exact Has.same
    · intro b hb
      rcases List.mem_cons.1 hb with rfl | hb
      · exact .inr hbl
      · rcases List.mem_cons.1 hb with rfl | hb
        · exact .inr hob
        · exact .inl hb
    · intro b hb
      rcases List.mem_cons.1 hb with rfl | hb
      · exact .inr hbl
      · exact .inl hb

/-- The lists that a search looks at. -/
def nearN (n : Nat) : Nat := if n = 0 then 1 else min n 2
def nearL (mid : List (List Int)) (qs : List Int) : List Int := (ordZ mid qs ++ [0]).take (nearN mid.length)
def hitsI (mt : Int) (qs : List Int) (mid : List (List Int)) (M : List Rc) : List Ht := hitsM mt qs (M.filter fun r => decide (r.seq ∈ nearL mid qs))

theorem nearN_le (n : Nat) : nearN n ≤ n + 1 ∧ nearN n ≤ 2 := by unfold nearN; split <;> omega
theorem nearL_len (mid : List (List Int)) (qs : List Int) : (nearL mid qs).length = nearN mid.length := by
  have := nearN_le mid.length
  unfold nearL
  rw [List.length_take, List.length_append, ordZ_len]
  show min _ (mid.length + 1) = _
  omega

def EN (p : Nat) (qa : Option Addr) (dim qc : Nat) (k : Int) (b nn n : Nat) (j27 : Value) : L :=
  .cons 2 (.int .i64 k) (.cons 1 (.slice qa dim qc) (.cons 0 (.pointer (some ⟨p, 0, none⟩)) (.cons 6 (.slice none 0 0) (.cons 13 (.bool false) (.cons 7 (.slice (some ⟨b, 0, some 1⟩) nn (n + 1)) (.cons 27 j27 .nil))))))

def EIs (p : Nat) (qa : Option Addr) (dim qc : Nat) (k : Int) (b nn n : Nat) (j27 lv : Value) (oi : Option Addr) (mn ic : Nat) (z : Int) (j10 j11 j40 j52 : Value) : L :=
  .cons 2 (.int .i64 k) (.cons 1 (.slice qa dim qc) (.cons 0 (.pointer (some ⟨p, 0, none⟩)) (.cons 6 (.slice none 0 0) (.cons 13 (.bool false) (.cons 7 (.slice (some ⟨b, 0, some 1⟩) nn (n + 1)) (.cons 27 j27 (.cons 8 lv (.cons 37 (.slice oi mn ic) (.cons 38 (.int .i64 (mn : Int)) (.cons 39 (.int .i64 z) (.cons 10 j10 (.cons 11 j11 (.cons 40 j40 (.cons 52 j52 .nil))))))))))))))

set_option maxHeartbeats 8000000 in
theorem isearch_spec {h : T AObj} {c : Nat} {rl wl : List Nat} (hf : Fresh h c) {p m dim : Nat} {mv : Value} {mt : Int} {mid : List (List Int)} {M : List Rc} {U : Nat → Prop} (q : IvfM h p m mv mt dim mid M U) (hmn : mid.length ≤ 12) (hmt : mt = 1 ∨ mt = 2) {qa : Option Addr} {qc : Nat} {qs : List Int} (hq : Row h (.slice qa dim qc) dim 1 (qs.map (Value.int .i32))) (hqn : qs.length = dim) (hqb : Bnd qs) (hd : dim ≤ 1000) (k : Int) {kk : Nat} (hk : max k 0 = (kk : Int)) (hkk : kk ≤ 1000) (hn : M.length ≤ 800) (R : Nat → Prop) (hUR : ∀ b, U b → R b) (hqR : ∀ b, blkOf (.slice qa dim qc) = some b → R b) :
    ∃ r s', FnTo (Cs smQ) eg 20 [.pointer (some ⟨p, 0, none⟩), .slice qa dim qc, .int .i64 k] ⟨h, c, rl, wl⟩ r s' ∧ (Best s'.h r (bestOf kk (hitsI mt qs mid M)).length (flatH (bestOf kk (hitsI mt qs mid M))) ∧ ∀ b, blkOf r = some b → c ≤ b) ∧ Ext ⟨h, c, rl, wl⟩ s' R (fun _ => False) := by
  have hp := q.ptr
  obtain ⟨lp, lm⟩ := q.lt hf
  have hpU := hUR p q.pU
  have hmU := hUR m q.mU
  obtain ⟨oa1, cap1, rfl⟩ := q.mids.val
  refine Fn.go (stdQ 20 rfl) ex20 fn20 km20 rfl rfl ?_
  intro e he
  (simp (decide := true) only [kz] at he; subst he)
  (repeat (first | (with_reducible refine Then.go ?_) | (with_reducible refine Wx.seq ?_) | (with_reducible refine Wx.skip ?_) | (with_reducible refine Wx.reg ?_) | (refine Wx.condF rfl (by rfl) ?_) | ((with_reducible refine Wseq.nil ?_); intro e he; (simp (decide := true) only [kz] at he; subst he)) | ((with_reducible apply Wseq.mv); rfl; (intro v hv; (simp (decide := true) only [kw] at hv); subst hv)) | ((with_reducible apply Wseq.as); rfl; (intro v hv; (simp (decide := true) only [kw] at hv); subst hv)) | ((with_reducible apply Wseq.stg (op := Op.fieldAddr _ _ _)); rfl; exact to_fieldAddr (fa_ rfl) rfl) | ((with_reducible apply Wseq.stg (op := Op.load _ _)); rfl; exact to_load (pl_ rfl) rfl (by (repeat ((apply Has.cel; assumption)))) (by omega) (by rfl)) | ((with_reducible apply Wseq.stg (op := Op.nilCheck _)); rfl; exact to_nilCheck rfl) | ((with_reducible apply Wseq.stg (op := Op.binOp BinOp.eql _ _ _ _)); rfl; exact to_eqP (un_ rfl) rfl rfl)))
  refine Wseq.call rfl rfl (order_spec (by ((repeat (apply Fresh.put; omega)); ((assumption)))) q.mids hmn hd hq hqn hqb R (fun b u => hUR b u.1) hqR) ?_
  rintro v1 h1 c1 r1 w1 ⟨hHI, hext⟩
  have kp := Kp.ext (W := fun _ => False) (h := h) (c := c) (by (repeat ((exact Kp.refl)))) hext (by omega) (fun _ _ q => q)
  have lr := Lg.extR (R := R) (c := c) (by (repeat (first | (exact Lg.nil) | (apply Lg.cons; (focus ((right; (assumption)))))))) hext (fun b hb u => u)
  have lw := Lg.extW (W := fun _ => False) (c := c) (by (repeat ((exact Lg.nil)))) hext (fun _ _ q => q)
  have fr1 := hext.fresh
  have le1 := hext.c
  simp only at le1 fr1 hHI
  have hol := ordZ_len mid qs
  (repeat (((with_reducible apply Wseq.bs); rfl; exact (ro_ rfl); rfl; exact (by ((repeat (apply Fresh.put; omega)); ((assumption)))); (intro v hv; (simp (decide := true) only [kw] at hv); subst hv); refine ⟨_, rfl, ?_⟩)))
  refine Wseq.appI (v := v1) rfl rfl rfl (l := ordZ mid qs) (c0 := c) (y := 0) (hHI.imp (fun q => q) (fun ⟨b, e1, e2, e3, e4⟩ => ⟨b, e1, e2, e3, e4.other (by have := e4.lt fr1; omega)⟩)) Has.same (by omega) (by omega) (by ((repeat (apply Fresh.put; omega)); ((exact Fresh.up (by assumption) (by omega))))) (by omega) ?_
  intro h2 rl2 wl2 fr2 kp2 hN hrl2 hwl2
  have kp2' : Kp h h2 c (fun _ => False) := fun b hb _ => by
    rw [kp2 b (by omega) (fun q => ?_), get_other (by omega)]
    · exact kp b hb (fun q => q)
    · rcases hHI with ⟨e, _⟩ | ⟨b', e, _, e3, _⟩
      · rw [e] at q; cases q
      · rw [e] at q
        have q' : b' = b := by simpa [blkOf] using q
        omega
  have lr2 : Lg c R rl2 := fun b hb => (hrl2 b hb).elim (fun u => lr b u) (fun u => .inl u)
  have lw2 : Lg c (fun _ => False) wl2 := fun b hb => (hwl2 b hb).elim (fun u => lw b u) (fun u => .inl u)
  have hp2 : Has h2 p (.cells [.int .i64 mt, .slice oa1 mid.length cap1, .map (some m)]) := (kp2' p lp (fun q => q)).trans hp
  rw [hol]
  (repeat (first | (with_reducible refine Then.go ?_) | (with_reducible refine Wx.seq ?_) | (with_reducible refine Wx.reg ?_) | ((with_reducible refine Wseq.nil ?_); intro e he; (simp (decide := true) only [kz] at he; subst he)) | ((with_reducible apply Wseq.mv); rfl; (intro v hv; (simp (decide := true) only [kw] at hv); subst hv)) | ((with_reducible apply Wseq.as); rfl; (intro v hv; (simp (decide := true) only [kw] at hv); subst hv)) | ((with_reducible apply Wseq.stg (op := Op.fieldAddr _ _ _)); rfl; exact to_fieldAddr (fa_ rfl) rfl) | ((with_reducible apply Wseq.stg (op := Op.load _ _)); rfl; exact to_load (pl_ rfl) rfl (by (repeat ((apply Has.cel; assumption)))) (by omega) (by rfl)) | ((with_reducible apply Wseq.stg (op := Op.nilCheck _)); rfl; exact to_nilCheck rfl) | ((with_reducible apply Wseq.stg (op := Op.call ⟨Callee.builtin Builtin.len, _, _⟩)); rfl; exact to_lenS (sl_ rfl) rfl) | ((with_reducible apply Wseq.stg (op := Op.binOp BinOp.gtr _ _ _ _)); rfl; exact to_gtr rfl rfl)))
  have hnn := nearN_le mid.length
  have hlen : ∀ l : List Rc, (hitsI mt qs mid l).length ≤ l.length := fun l => by unfold hitsI hitsM; rw [List.length_map]; exact List.length_filter_le _ _
  refine Wx.cut (fun e s => ∃ (j27 : Value) (rl' : List Nat), e = EN p qa dim qc k (c1 + 1) (nearN mid.length) mid.length j27 ∧ s = ⟨h2, c1 + 2, rl', wl2⟩ ∧ Lg c R rl') (by (repeat ((exact Resp.fn)))) ?_ ?_
  · by_cases h0 : mid.length = 0
    · have e1 : nearN mid.length = mid.length + 1 := by unfold nearN; rw [if_pos h0]; omega
      (repeat (first | (with_reducible refine Wx.skip ?_) | (refine Wx.condF rfl (by (first | rfl | (simp only [decide_eq_false_iff_not, Bool.not_eq_false', decide_eq_true_eq, Option.isNone_none, Option.isNone_some, Option.isSome_none, Option.isSome_some, beq_self_eq_true, Bool.not_true, Bool.not_false]; (omega)))) ?_)))
      exact CutQ.go (EN p qa dim qc k (c1 + 1) (nearN mid.length) mid.length _) (by unfold EN; rw [e1]; (refine EqK.of ?_ ?_ <;> (repeat (first | (exact all_nil) | (apply all_cons; rfl))))) ⟨_, _, rfl, rfl, (by (repeat (first | (assumption) | (apply Lg.cons; (focus ((right; (assumption))))))))⟩
    · have e1 : nearN mid.length = min mid.length 2 := by unfold nearN; rw [if_neg h0]
      (repeat (first | (with_reducible refine Wx.reg ?_) | (refine Wx.condT rfl (by (first | rfl | (simp only [decide_eq_true_eq, Bool.not_eq_true', decide_eq_false_iff_not, Option.isNone_none, Option.isNone_some, Option.isSome_none, Option.isSome_some, beq_self_eq_true, Bool.not_true, Bool.not_false]; (omega)))) ?_) | ((with_reducible apply Wseq.mv); rfl; (intro v hv; (simp (decide := true) only [kw] at hv); subst hv)) | ((with_reducible apply Wseq.stg (op := Op.fieldAddr _ _ _)); rfl; exact to_fieldAddr (fa_ rfl) rfl) | ((with_reducible apply Wseq.stg (op := Op.load _ _)); rfl; exact to_load (pl_ rfl) rfl (by (repeat ((apply Has.cel; assumption)))) (by omega) (by rfl)) | ((with_reducible apply Wseq.stg (op := Op.nilCheck _)); rfl; exact to_nilCheck rfl) | ((with_reducible apply Wseq.stg (op := Op.call ⟨Callee.builtin Builtin.len, _, _⟩)); rfl; exact to_lenS (sl_ rfl) rfl) | ((with_reducible apply Wseq.stg (op := Op.call ⟨Callee.builtin Builtin.min, _, _⟩)); rfl; exact to_min rfl rfl)))
      ((with_reducible apply Wseq.stg); (focus rfl); (focus (exact to_sliceHi (k := nearN mid.length) el35 rfl rfl (by rw [e1]; omega) (by omega) (fun a ha => by cases ha; exact .inr rfl))))
      (repeat (first | ((with_reducible refine Wseq.nil ?_); intro e he; (simp (decide := true) only [kz] at he; subst he)) | ((with_reducible apply Wseq.as); rfl; (intro v hv; (simp (decide := true) only [kw] at hv); subst hv))))
      exact CutQ.go (EN p qa dim qc k (c1 + 1) (nearN mid.length) mid.length _) (by unfold EN; (refine EqK.of ?_ ?_ <;> (repeat (first | (exact all_nil) | (apply all_cons; rfl))))) ⟨_, _, rfl, rfl, (by (repeat (first | (assumption) | (apply Lg.cons; (focus ((right; (assumption))))))))⟩
  · rintro e s ⟨j27, rl3, rfl, rfl, lr3⟩
    unfold EN
    have q2 := q.keep hf (fun b _ hb => kp2' b hb (fun q => q))
    have hnr : Row h2 (.slice (some ⟨c1 + 1, 0, some 1⟩) (nearN mid.length) (mid.length + 1)) (nearN mid.length) 1 ((nearL mid qs).map (Value.int .i64)) := by
      refine .inr ⟨c1 + 1, 0, some 1, _, _, rfl, hN.cel, ?_⟩
      rw [subN_eq _ _ _ (by rw [List.length_map, List.length_append, ordZ_len]; show _ ≤ mid.length + 1; omega), List.drop_zero, Nat.mul_one]
      unfold nearL
      rw [List.map_take]
    (repeat (first | (with_reducible refine Then.go ?_) | (with_reducible refine Wx.seq ?_) | (with_reducible refine Wx.reg ?_) | ((with_reducible refine Wseq.nil ?_); intro e he; (simp (decide := true) only [kz] at he; subst he)) | ((with_reducible apply Wseq.mv); rfl; (intro v hv; (simp (decide := true) only [kw] at hv); subst hv)) | ((with_reducible apply Wseq.as); rfl; (intro v hv; (simp (decide := true) only [kw] at hv); subst hv))))
    refine Wseq.call rfl rfl (iids_spec (by ((repeat (apply Fresh.put; omega)); ((assumption)))) q2 (by omega)) ?_
    rintro v3 h3 c3 r3 w3 ⟨hids, hext3⟩
    have kp3 := Kp.ext (W := fun _ => False) (h := h) (c := c) kp2' hext3 (by omega) (fun _ _ q => q)
    have lr4 := Lg.extR (R := R) (c := c) lr3 hext3 (fun b hb u => hUR b u)
    have lw4 := Lg.extW (W := fun _ => False) (c := c) lw2 hext3 (fun _ _ q => q)
    have fr3 := hext3.fresh
    have le3 := hext3.c
    simp only at le3 fr3
    obtain ⟨oi, ic, rfl⟩ := hids.val
    have hrow1 := hids.row (by rw [List.length_map, List.length_map])
    have hnr3 := Row.keepF hnr fr2 (fun b hb => hext3.get hb (fun q => q))
    have hst : ∀ i (hi : i < M.length), hitsI mt qs mid (M.take (i + 1)) = hitsI mt qs mid (M.take i) ++ (if M[i].seq ∈ nearL mid qs then [hitR mt qs M[i]] else []) := fun i hi => by
      unfold hitsI hitsM
      rw [List.take_succ_eq_append_getElem hi, List.filter_append, List.map_append]
      by_cases hm : M[i].seq ∈ nearL mid qs
      · rw [if_pos hm, List.filter_cons_of_pos (by simpa using hm)]; rfl
      · rw [if_neg hm, List.filter_cons_of_neg (by simpa using hm)]; rfl
    have hbg : big = 1048576 := rfl
    (repeat (first | (with_reducible refine Then.go ?_) | (with_reducible refine Wx.block ?_) | ((with_reducible refine Wseq.nil ?_); intro e he; (simp (decide := true) only [kz] at he; subst he)) | ((with_reducible apply Wseq.mv); rfl; (intro v hv; (simp (decide := true) only [kw] at hv); subst hv)) | ((with_reducible apply Wseq.stg (op := Op.call ⟨Callee.builtin Builtin.len, _, _⟩)); rfl; exact to_lenS (sl_ rfl) rfl)))
    refine Wx.cutO (fun e s => ∃ (lv j10 j11 j40 j52 : Value) (h' : T AObj) (c' : Nat) (rl' wl' : List Nat), e = EIs p qa dim qc k (c1 + 1) (nearN mid.length) mid.length j27 lv oi M.length ic M.length j10 j11 j40 j52 ∧ s = ⟨h', c', rl', wl'⟩ ∧ c3 ≤ c' ∧ Fresh h' c' ∧ Kp h h' c (fun _ => False) ∧ HL h' c3 lv (hitsI mt qs mid M) ∧ Lg c R rl' ∧ Lg c (fun _ => False) wl') (by (repeat ((exact Resp.fn)))) ?_ ?_
    · refine Wx.loopE (fun k1 e s => ∃ (i : Nat) (z : Int) (lv j10 j11 j40 j52 : Value) (h' : T AObj) (c' : Nat) (rl' wl' : List Nat), e = EIs p qa dim qc k (c1 + 1) (nearN mid.length) mid.length j27 lv oi M.length ic z j10 j11 j40 j52 ∧ z = i ∧ s = ⟨h', c', rl', wl'⟩ ∧ c3 ≤ c' ∧ Fresh h' c' ∧ Kp h3 h' c3 (fun _ => False) ∧ HL h' c3 lv (hitsI mt qs mid (M.take i)) ∧ Lg c R rl' ∧ Lg c (fun _ => False) wl' ∧ i ≤ M.length ∧ k1 = M.length - i) M.length (EIs p qa dim qc k (c1 + 1) (nearN mid.length) mid.length j27 (.slice none 0 0) oi M.length ic 0 top top top top) (by (repeat (first | (exact Resp.fn) | (apply Resp.out) | (apply Resp.cut)))) ?_ ?_ ?_
      · unfold EIs
        (refine EqK.of ?_ ?_ <;> (repeat (first | (exact all_nil) | (apply all_cons; rfl))))
      · exact ⟨0, 0, _, _, _, _, _, _, _, _, _, rfl, rfl, rfl, Nat.le_refl _, fr3, Kp.refl, .inl ⟨rfl, rfl⟩, (by (repeat ((assumption)))), (by (repeat ((assumption)))), by omega, rfl⟩
      · rintro k1 e s ⟨i, z, lv, j10, j11, j40, j52, h', c', rl', wl', rfl, hz, rfl, hcc, hf', hkp, hHL, hlr, hlw, hid, rfl⟩
        unfold EIs
        by_cases hi : i < M.length
        · have hrow' := Row.keepF hrow1 fr3 (fun b hb => hkp b hb (fun q => q))
          have hnr' := Row.keepF hnr3 fr3 (fun b hb => hkp b hb (fun q => q))
          have hgid : ((M.map Rc.id).map (Value.int .i64))[i]? = some (.int .i64 M[i].id) := by
            rw [List.getElem?_map, List.getElem?_map, List.getElem?_eq_getElem hi]; rfl
          obtain ⟨b1, o1, sp1, cs1, rfl, hc1, hn1⟩ := rowCell hrow' (j := i * 1) (by omega) (by rw [Nat.mul_one]; exact hgid)
          have hb1 : c ≤ b1 := by
            rcases hids with ⟨e, _⟩ | ⟨b', sp', cap', e, _, g, _⟩
            · simp only [Value.slice.injEq] at e; cases e.1
            · simp only [Value.slice.injEq, Option.some.injEq, Addr.mk.injEq] at e; rw [e.1.1]; omega
          have l1 := hc1.lt hf'
          have kph : Kp h h' c (fun _ => False) := fun b hb _ => (hkp b (by omega) (fun q => q)).trans (kp3 b hb (fun q => q))
          have hq0 := Row.keepF hq hf (fun b hb => kph b hb (fun q => q))
          have q' := q.keep hf (fun b _ hb => kph b hb (fun q => q))
          have hp' := q'.ptr
          obtain ⟨es, n, hm', ⟨ids, h2k⟩, h3k⟩ := q'.ex
          obtain ⟨lp', lm'⟩ := q'.lt hf'
          obtain ⟨zs, hzs, hzl, hzb⟩ := q.ok M[i] (List.getElem_mem hi)
          obtain ⟨v, hv1, hv2, hv3⟩ : ∃ v, valI M[i].id es = some (.agg ⟨[v, .int .i64 M[i].seq]⟩) ∧ Own h' 0 v dim (zs.map (Value.int .i32)) ∧ ∀ b, blkOf v = some b → U b := by
            rcases h3k M[i].id with ⟨e1, _⟩ | ⟨r, v, e1, e2, w, rfl, e3, e4⟩
            · exact absurd rfl (getM_none.1 e1 M[i] (List.getElem_mem hi))
            · rw [getM_some q.rises (List.getElem_mem hi) rfl] at e1
              cases e1
              have e5 : M[i].xs = zs.map (Value.int .i32) := by rw [hzs]
              rw [e5, List.length_map, hzl] at e3
              exact ⟨w, e2, e3, fun b hb => (e4 b hb).1⟩
          obtain ⟨va, vk, rfl⟩ := hv2.val
          obtain ⟨vi, hv4⟩ := valI_some hv1
          have hvr := hv2.row (by rw [List.length_map]; exact hzl)
          have hsi := hst i hi
          have hhr : hitR mt qs M[i] = ⟨M[i].id, scoreZ mt qs zs⟩ := by
            have e5 : M[i].xs = zs.map (Value.int .i32) := by rw [hzs]
            unfold hitR
            rw [e5, intsV_ints]
          have hl2 := hlen (M.take i)
          have hl3 : (M.take i).length = i := by rw [List.length_take]; omega
          (repeat (first | (with_reducible refine Then.go ?_) | (with_reducible refine Wx.seq ?_) | (with_reducible refine Wx.skip ?_) | (with_reducible refine Wx.block ?_) | (with_reducible refine Wx.reg ?_) | (refine Wx.condT rfl (by rfl) ?_) | ((with_reducible refine Wseq.nil ?_); intro e he; (simp (decide := true) only [kz] at he; subst he)) | ((with_reducible apply Wseq.stg (op := Op.binOp BinOp.lss _ _ _ _)); rfl; exact to_lssT rfl rfl (by omega))))
          ((with_reducible apply Wseq.stg); (focus rfl); (focus (exact to_indexAddr (k := i) el35 rfl rfl hz (by omega))))
          ((with_reducible apply Wseq.stg); (focus rfl); (focus (exact to_load (pl_ rfl) rfl hc1 (by omega) hn1)))
          (repeat (first | (with_reducible refine Then.go ?_) | (with_reducible refine Wx.seq ?_) | (with_reducible refine Wx.reg ?_) | ((with_reducible refine Wseq.nil ?_); intro e he; (simp (decide := true) only [kz] at he; subst he)) | ((with_reducible apply Wseq.mv); rfl; (intro v hv; (simp (decide := true) only [kw] at hv); subst hv)) | ((with_reducible apply Wseq.as); rfl; (intro v hv; (simp (decide := true) only [kw] at hv); subst hv)) | ((with_reducible apply Wseq.stg (op := Op.fieldAddr _ _ _)); rfl; exact to_fieldAddr (fa_ rfl) rfl) | ((with_reducible apply Wseq.stg (op := Op.load _ _)); rfl; exact to_load (pl_ rfl) rfl (by (repeat ((apply Has.cel; assumption)))) (by omega) (by rfl)) | ((with_reducible apply Wseq.stg (op := Op.nilCheck _)); rfl; exact to_nilCheck rfl)))
          ((with_reducible apply Wseq.stg); (focus rfl); (focus (exact to_lookup (mi_ rfl) (ze_ rfl) rfl rfl hm' lm' h2k.ks (by rw [hv4]))))
          (repeat (first | (with_reducible refine Then.go ?_) | (with_reducible refine Wx.seq ?_) | (with_reducible refine Wx.reg ?_) | ((with_reducible refine Wseq.nil ?_); intro e he; (simp (decide := true) only [kz] at he; subst he)) | ((with_reducible apply Wseq.mv); rfl; (intro v hv; (simp (decide := true) only [kw] at hv); subst hv)) | ((with_reducible apply Wseq.so); rfl; exact (sz_ rfl); rfl; exact (by (repeat ((exact Has.same)))); omega; (intro v hv; (simp (decide := true) only [kw] at hv); subst hv); refine ⟨_, _, (by ((exact cellsA_agg _))), rfl, rfl, ?_⟩) | ((with_reducible apply Wseq.stg (op := Op.fieldAddr _ _ _)); rfl; exact to_fieldAddr (fa_ rfl) rfl) | ((with_reducible apply Wseq.stg (op := Op.load _ _)); rfl; exact to_load (pl_ rfl) rfl (by (repeat ((exact Has.same.cel)))) (by omega) (by rfl)) | ((with_reducible apply Wseq.stg (op := Op.alloc _)); rfl; exact to_alloc (ze_ rfl) (by ((exact cellsA_agg _))) (by ((repeat (apply Fresh.put; omega)); ((assumption)))))))
          have kA : ∀ b, b < c' → ((h'.set c' (some (.cells [.slice none 0 0, .int .i64 0]))).set c' (some (.cells [.slice va dim vk, .int .i64 M[i].seq]))).get b = h'.get b := fun b hb => by rw [get_other (by omega), get_other (by omega)]
          refine Wseq.call rfl rfl (containsI_spec (by ((repeat (apply Fresh.put; omega)); ((exact Fresh.up (by assumption) (by omega))))) (nearL_len mid qs) (Row.keepF hnr' hf' kA) (by omega) M[i].seq (fun b => b = c1 + 1) (fun b hb => by cases hb; rfl)) ?_
          rintro v5 h5 c5 r5 w5 ⟨⟨rfl, e1, e2⟩, hext5⟩
          simp only at e1 e2
          subst e1 e2
          have lr5 := Lg.extR (R := R) (c := c) (by (repeat (first | (assumption) | (apply Lg.cons; (focus (first | (left; omega) | (right; (assumption)))))))) hext5 (fun b hb u => by omega)
          have lw5 := Lg.extW (W := fun _ => False) (c := c) (by (repeat (first | (assumption) | (apply Lg.cons; (focus (left; omega)))))) hext5 (fun _ _ q => q)
          by_cases hin : M[i].seq ∈ nearL mid qs
          · rw [decide_eq_true hin]
            rw [if_pos hin, hhr] at hsi
            (repeat (first | (with_reducible refine Then.go ?_) | (refine Wx.dreg rfl ?_) | (refine Wx.condT rfl (by rfl) ?_) | ((with_reducible refine Wseq.nil ?_); intro e he; (simp (decide := true) only [kz] at he; subst he)) | ((with_reducible apply Wtr.mv); rfl; (intro v hv; (simp (decide := true) only [kw] at hv); subst hv)) | ((with_reducible apply Wtr.stq (op := Op.fieldAddr _ _ _)); rfl; exact to_fieldAddr (fa_ rfl) rfl) | ((with_reducible apply Wtr.stx (op := Op.load _ _)); rfl; exact to_load (pl_ rfl) rfl (by (repeat (first | (exact Has.same.cel) | (apply Has.cel; assumption) | (apply Cel.other; omega)))) (by omega) (by rfl); (focus (repeat (first | (exact all_nil) | (apply all_cons; (focus ((right; exact ApartP.rr)))))))) | ((with_reducible apply Wtr.stq (op := Op.nilCheck _)); rfl; exact to_nilCheck rfl)))
            refine Wtr.call rfl rfl (score_spec stdQ (by ((repeat (apply Fresh.put; omega)); ((exact Fresh.up (by assumption) (by omega))))) hmt hqn hzl (Row.keepF hq0 hf' kA) (Row.keepF hvr hf' kA) hqb hzb hd R (fun b hb => hb.elim (hqR b) (fun u => hUR b (hv3 b u)))) ?_
            rintro v h6 c6 r6 w6 ⟨⟨rfl, e1, e2⟩, hext6⟩
            simp only at e1 e2
            subst e1 e2
            have hqt := hext6.quiet (fun _ _ q => q)
            have lr6 := Lg.extR (R := R) (c := c) (by (repeat ((exact Lg.nil)))) hext6 (fun _ _ q => q)
            have lw6 := Lg.extW (W := fun _ => False) (c := c) (by (repeat ((exact Lg.nil)))) hext6 (fun _ _ q => q)
            refine ⟨(by (repeat (first | (exact all_nil) | (apply all_cons; (focus ((left; dsimp only; decide +kernel))))))), ?_⟩
            have hfl : flatH (hitsI mt qs mid (M.take (i + 1))) = flatH (hitsI mt qs mid (M.take i)) ++ [.int .i64 M[i].id, .int .i64 (scoreZ mt qs zs)] := by rw [hsi, flatH_app]; rfl
            have hl4 : (hitsI mt qs mid (M.take (i + 1))).length = (hitsI mt qs mid (M.take i)).length + 1 := by rw [hsi, List.length_append]; rfl
            rcases hHL with ⟨rfl, hnil⟩ | ⟨bl, rfl, hne, hbl, hbc⟩
            · (repeat (first | ((with_reducible apply Wtr.bd); rfl; exact (bt_ rfl); (intro v hv; (simp (decide := true) only [kw] at hv); subst hv); refine ⟨_, rfl, ?_⟩) | ((with_reducible apply Wtr.bs); rfl; exact (ro_ rfl); rfl; exact (by ((repeat (apply Fresh.put; omega)); ((exact Fresh.up (by assumption) (by omega))))); (focus (repeat (first | (exact all_nil) | (apply all_cons; (focus (first | (right; exact ApartP.rr) | (right; exact ApartP.rn))))))); (intro v hv; (simp (decide := true) only [kw] at hv); subst hv); refine ⟨_, rfl, ?_⟩)))
              ((with_reducible apply Wtr.stx); (focus rfl); (focus (exact to_appNil ro32 sl32 rfl rfl (k := 0) Has.same.cel (by omega) (subN_all _ _ rfl) (by omega) (by ((repeat (apply Fresh.put; omega)); ((exact Fresh.up (by assumption) (by omega))))))); (focus (repeat (first | (exact all_nil) | (apply all_cons; (focus (first | (right; exact ApartP.rr) | (left; dsimp only; decide +kernel))))))))
              (repeat (first | (with_reducible refine Then.go ?_) | (with_reducible refine Out.go ?_) | (with_reducible refine Wx.reg ?_) | ((with_reducible refine Wseq.nil ?_); intro e he; (simp (decide := true) only [kz] at he; subst he)) | ((with_reducible apply Wseq.mv); rfl; (intro v hv; (simp (decide := true) only [kw] at hv); subst hv)) | ((with_reducible apply Wseq.stg (op := Op.binOp BinOp.add _ _ _ _)); rfl; exact to_add rfl rfl (by omega) (by omega)) | ((with_reducible refine Wtr.nil ?_); intro e he; (simp (decide := true) only [kz] at he; subst he)) | ((with_reducible apply Wtr.as); rfl; (intro v hv; (simp (decide := true) only [kw] at hv); subst hv))))
              refine RoundE.go (M.length - (i + 1)) (EIs p qa dim qc k (c1 + 1) (nearN mid.length) mid.length j27 _ _ M.length ic (z + 1) _ _ _ _) (by omega) (by (refine EqK.of ?_ ?_ <;> (repeat (first | (exact all_nil) | (apply all_cons; rfl))))) ⟨i + 1, z + 1, _, _, _, _, _, _, _, _, _, rfl, by omega, rfl, by omega, (by ((repeat (apply Fresh.put; omega)); ((exact Fresh.up (by assumption) (by omega))))), (by (repeat (first | (assumption) | (apply Kp.set; (focus (left; omega)))))), ?_, (by (repeat (first | (exact Lg.nil) | (assumption) | (apply Lg.cons; (focus (first | (left; omega) | (right; (assumption))))) | (apply Lg.app)))), (by (repeat (first | (exact Lg.nil) | (assumption) | (apply Lg.app)))), by omega, rfl⟩
              refine .inr ⟨c' + 2, ?_, ?_, by omega, ?_⟩
              · rw [hl4, hnil]; rfl
              · intro e; rw [e] at hl4; cases hl4
              · rw [hfl, hnil]; exact Has.same
            · have l3 := hbc.lt hf'
              (repeat (first | ((with_reducible apply Wtr.bd); rfl; exact (bt_ rfl); (intro v hv; (simp (decide := true) only [kw] at hv); subst hv); refine ⟨_, rfl, ?_⟩) | ((with_reducible apply Wtr.bs); rfl; exact (ro_ rfl); rfl; exact (by ((repeat (apply Fresh.put; omega)); ((exact Fresh.up (by assumption) (by omega))))); (focus (repeat (first | (exact all_nil) | (apply all_cons; (focus (first | (right; exact ApartP.rr) | (right; exact ApartP.rn))))))); (intro v hv; (simp (decide := true) only [kw] at hv); subst hv); refine ⟨_, rfl, ?_⟩)))
              ((with_reducible apply Wtr.stx); (focus rfl); (focus (exact to_appOwn ro32 sl32 rfl rfl (k := 0) Has.same.cel (by omega) (subN_all _ _ rfl) (by omega) (by omega) (by (repeat (first | (assumption) | (apply Has.other; omega)))) (by omega) (subN_all _ _ (flatH_len _).symm) (all_cons rfl (all_cons rfl all_nil)) (by ((repeat (apply Fresh.put; omega)); ((exact Fresh.up (by assumption) (by omega))))))); (focus (repeat (first | (exact all_nil) | (apply all_cons; (focus ((left; dsimp only; decide +kernel))))))))
              (repeat (first | (with_reducible refine Then.go ?_) | (with_reducible refine Out.go ?_) | (with_reducible refine Wx.reg ?_) | ((with_reducible refine Wseq.nil ?_); intro e he; (simp (decide := true) only [kz] at he; subst he)) | ((with_reducible apply Wseq.mv); rfl; (intro v hv; (simp (decide := true) only [kw] at hv); subst hv)) | ((with_reducible apply Wseq.stg (op := Op.binOp BinOp.add _ _ _ _)); rfl; exact to_add rfl rfl (by omega) (by omega)) | ((with_reducible refine Wtr.nil ?_); intro e he; (simp (decide := true) only [kz] at he; subst he)) | ((with_reducible apply Wtr.as); rfl; (intro v hv; (simp (decide := true) only [kw] at hv); subst hv))))
              refine RoundE.go (M.length - (i + 1)) (EIs p qa dim qc k (c1 + 1) (nearN mid.length) mid.length j27 _ _ M.length ic (z + 1) _ _ _ _) (by omega) (by (refine EqK.of ?_ ?_ <;> (repeat (first | (exact all_nil) | (apply all_cons; rfl))))) ⟨i + 1, z + 1, _, _, _, _, _, _, _, _, _, rfl, by omega, rfl, by omega, (by ((repeat (apply Fresh.put; omega)); ((exact Fresh.up (by assumption) (by omega))))), (by (repeat (first | (assumption) | (apply Kp.set; (focus (left; omega)))))), ?_, (by (repeat (first | (exact Lg.nil) | (assumption) | (apply Lg.cons; (focus (first | (left; omega) | (right; (assumption))))) | (apply Lg.app)))), (by (repeat (first | (exact Lg.nil) | (assumption) | (apply Lg.cons; (focus (left; omega))) | (apply Lg.app)))), by omega, rfl⟩
              refine .inr ⟨c' + 2, ?_, ?_, by omega, ?_⟩
              · rw [hl4]
              · intro e; rw [e] at hl4; cases hl4
              · rw [hfl]; exact Has.same
          · rw [decide_eq_false hin]
            rw [if_neg hin, List.append_nil] at hsi
            (repeat (first | (with_reducible refine Then.go ?_) | (with_reducible refine Out.go ?_) | (with_reducible refine Wx.skip ?_) | (with_reducible refine Wx.reg ?_) | (refine Wx.condF rfl (by rfl) ?_) | ((with_reducible refine Wseq.nil ?_); intro e he; (simp (decide := true) only [kz] at he; subst he)) | ((with_reducible apply Wseq.mv); rfl; (intro v hv; (simp (decide := true) only [kw] at hv); subst hv)) | ((with_reducible apply Wseq.stg (op := Op.binOp BinOp.add _ _ _ _)); rfl; exact to_add rfl rfl (by omega) (by omega))))
            refine RoundE.go (M.length - (i + 1)) (EIs p qa dim qc k (c1 + 1) (nearN mid.length) mid.length j27 lv _ M.length ic (z + 1) _ _ _ _) (by omega) (by (refine EqK.of ?_ ?_ <;> (repeat (first | (exact all_nil) | (apply all_cons; rfl))))) ⟨i + 1, z + 1, _, _, _, _, _, _, _, _, _, rfl, by omega, rfl, by omega, (by ((repeat (apply Fresh.put; omega)); ((exact Fresh.up (by assumption) (by omega))))), (by (repeat (first | (assumption) | (apply Kp.set; (focus (left; omega)))))), ?_, (by (repeat ((assumption)))), (by (repeat ((assumption)))), by omega, rfl⟩
            rw [hsi]
            rcases hHL with hHL | ⟨bl, e1, e2, e3, e4⟩
            · exact .inl hHL
            · exact .inr ⟨bl, e1, e2, e3, (e4.other (by have := e4.lt hf'; omega)).other (by have := e4.lt hf'; omega)⟩
        · (repeat (first | (with_reducible refine Then.go ?_) | (with_reducible refine Then.ex ?_) | (with_reducible refine Out.hit ?_) | (with_reducible refine Wx.seq ?_) | (with_reducible refine Wx.exit ?_) | (with_reducible refine Wx.reg ?_) | (with_reducible refine RoundE.ex ?_) | (refine Wx.condF rfl (by rfl) ?_) | ((with_reducible refine Wseq.nil ?_); intro e he; (simp (decide := true) only [kz] at he; subst he)) | ((with_reducible apply Wseq.stg (op := Op.binOp BinOp.lss _ _ _ _)); rfl; exact to_lssF rfl rfl (by omega))))
          obtain rfl : i = M.length := by omega
          subst hz
          rw [List.take_length] at hHL
          exact CutQ.go (EIs p qa dim qc k (c1 + 1) (nearN mid.length) mid.length j27 lv oi M.length ic M.length _ _ _ _) (by (refine EqK.of ?_ ?_ <;> (repeat (first | (exact all_nil) | (apply all_cons; rfl))))) ⟨_, _, _, _, _, _, _, _, _, rfl, rfl, hcc, hf', (fun b hb _ => (hkp b (by omega) (fun q => q)).trans (kp3 b hb (fun q => q))), hHL, (by (repeat ((assumption)))), (by (repeat ((assumption))))⟩
    · rintro e s ⟨lv, j10, j11, j40, j52, h', c', rl', wl', rfl, rfl, hcc, hf', hkp, hHL, hlr, hlw⟩
      unfold EIs
      obtain ⟨oa, rfl, hrow, hge⟩ := hHL.val
      have hl2 := hlen M
      (repeat (first | (with_reducible refine Wx.seq ?_) | (with_reducible refine Wx.reg ?_) | ((with_reducible apply Wseq.mv); rfl; (intro v hv; (simp (decide := true) only [kw] at hv); subst hv))))
      refine Wseq.call rfl rfl (of_spec stdQ rfl (by ((repeat (apply Fresh.put; omega)); ((assumption)))) hrow hk hkk (by omega) (fun b => c3 ≤ b) hge) ?_
      rintro v h2 c2 r2 w2 ⟨⟨g1, g2⟩, hext2⟩
      have kp2 := Kp.ext (W := fun _ => False) (h := h) (c := c) (by (repeat ((assumption)))) hext2 (by omega) (fun _ _ q => q)
      have lr2 := Lg.extR (R := R) (c := c) (by (repeat ((assumption)))) hext2 (fun b hb u => by omega)
      have lw2 := Lg.extW (W := fun _ => False) (c := c) (by (repeat ((assumption)))) hext2 (fun _ _ q => q)
      have fr2 := hext2.fresh
      have le2 := hext2.c
      simp only at le2 fr2
      (repeat (first | (with_reducible refine Then.go ?_) | (with_reducible refine Wx.ret ?_) | ((with_reducible refine Wseq.nil ?_); intro e he; (simp (decide := true) only [kz] at he; subst he)) | ((with_reducible apply Wseq.as); rfl; (intro v hv; (simp (decide := true) only [kw] at hv); subst hv))))
      refine ⟨.inr rfl, Wres.one rfl ⟨⟨g1, fun b hb => by have := g2 b hb; omega⟩, ?_⟩⟩
      (dsimp only; exact Ext.of (by omega) (by ((repeat (apply Fresh.put; omega)); ((assumption)))) (by (repeat ((assumption)))) (by (repeat ((assumption)))) (by (repeat ((assumption)))))
end Go.Ab.Seat
