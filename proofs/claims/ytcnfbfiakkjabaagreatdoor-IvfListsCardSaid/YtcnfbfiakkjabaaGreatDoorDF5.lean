/- The best of some (the abstract machine). -/
import Derived.Test.YtcnfbfiakkjabaaGreatDoorDF4
set_option linter.unusedVariables false
set_option linter.unusedSimpArgs false
namespace Go.Ab.Seat
open Go.Extern Go.Proofs
set_option linter.unusedSimpArgs false
set_option linter.unusedVariables false
set_option maxRecDepth 4000
set_option pp.deepTerms false
set_option pp.deepTerms.threshold 6
variable {sm : Nat → Option (List Value → M Value)}

theorem cloneH_spec (H : Std sm) {h : T AObj} {c : Nat} {rl wl : List Nat} (hf : Fresh h c) {lv : Value} {l : List Ht} (hl : Best h lv l.length (flatH l)) (hn : l.length ≤ 1000) :
    ∃ r s', FnTo (Cs sm) eg 156 [lv] ⟨h, c, rl, wl⟩ r s' ∧ (Best s'.h r l.length (flatH l) ∧ ∀ b, blkOf r = some b → c ≤ b) ∧ Ext ⟨h, c, rl, wl⟩ s' (fun b => blkOf lv = some b) (fun _ => False) := by
  have hbg : big = 1048576 := rfl
  rcases _root_.id hl with ⟨rfl, h1, h2⟩ | ⟨b, cap, cs, rfl, h1, h2, h3, h4⟩
  · refine Fn.go (H 156 rfl) ex156 fn156 km156 rfl rfl ?_
    intro e he
    (simp (decide := true) only [kz] at he; subst he)
    (repeat (first | (with_reducible refine Then.go ?_) | (with_reducible refine Then.rt ?_) | (with_reducible refine Wx.seq ?_) | (with_reducible refine Wx.ret ?_) | (with_reducible refine Wx.reg ?_) | (refine Wx.condT rfl (by rfl) ?_) | ((with_reducible refine Wseq.nil ?_); intro e he; (simp (decide := true) only [kz] at he; subst he)) | ((with_reducible apply Wseq.mv); rfl; (intro v hv; (simp (decide := true) only [kw] at hv); subst hv)) | ((with_reducible apply Wseq.as); rfl; (intro v hv; (simp (decide := true) only [kw] at hv); subst hv)) | ((with_reducible apply Wseq.stg (op := Op.binOp BinOp.eql _ _ _ _)); rfl; exact to_eqS (un_ rfl) rfl rfl)))
    refine ⟨.inr rfl, Wres.one rfl ⟨⟨.inl ⟨rfl, h1, h2⟩, (fun b hb => by cases hb)⟩, ?_⟩⟩
    (dsimp only; exact Ext.of (by omega) (by ((repeat (apply Fresh.put; omega)); ((assumption)))) (by (repeat ((exact Kp.refl)))) (by (repeat ((exact Lg.nil)))) (by (repeat ((exact Lg.nil)))))
  · have lb := h3.lt hf
    have hRb : blkOf (.slice (some ⟨b, 0, some 2⟩) l.length cap) = some b := rfl
    obtain ⟨m, hm⟩ : ∃ m, l.length = m + 1 := ⟨l.length - 1, by omega⟩
    rw [hm] at h1 h2 h4 hn hRb ⊢
    refine Fn.go (H 156 rfl) ex156 fn156 km156 rfl rfl ?_
    intro e he
    (simp (decide := true) only [kz] at he; subst he)
    (repeat (first | (with_reducible refine Then.go ?_) | (with_reducible refine Wx.seq ?_) | (with_reducible refine Wx.skip ?_) | (with_reducible refine Wx.reg ?_) | (refine Wx.condF rfl (by rfl) ?_) | ((with_reducible refine Wseq.nil ?_); intro e he; (simp (decide := true) only [kz] at he; subst he)) | ((with_reducible apply Wseq.mv); rfl; (intro v hv; (simp (decide := true) only [kw] at hv); subst hv)) | ((with_reducible apply Wseq.as); rfl; (intro v hv; (simp (decide := true) only [kw] at hv); subst hv)) | ((with_reducible apply Wseq.bs); rfl; exact (ro_ rfl); rfl; exact (by ((repeat (apply Fresh.put; omega)); ((assumption)))); (intro v hv; (simp (decide := true) only [kw] at hv); subst hv); refine ⟨_, rfl, ?_⟩) | ((with_reducible apply Wseq.stg (op := Op.binOp BinOp.eql _ _ _ _)); rfl; exact to_eqS (un_ rfl) rfl rfl)))
    ((with_reducible apply Wseq.stg); (focus rfl); (focus (exact to_appEx ro32 sl32 rfl rfl (h3.other (by omega)).cel (by omega) h4 (by omega) (by ((repeat (apply Fresh.put; omega)); ((exact Fresh.up (by assumption) (by omega))))))))
    (repeat (first | (with_reducible refine Then.go ?_) | (with_reducible refine Wx.ret ?_) | ((with_reducible refine Wseq.nil ?_); intro e he; (simp (decide := true) only [kz] at he; subst he)) | ((with_reducible apply Wseq.as); rfl; (intro v hv; (simp (decide := true) only [kw] at hv); subst hv))))
    refine ⟨.inr rfl, Wres.one rfl ⟨⟨.inr ⟨c + 1, _, _, rfl, by omega, Nat.le_refl _, Has.same, subN_all _ _ (by rw [flatH_len]; omega)⟩, (fun b hb => by cases hb; exact Nat.le_succ c)⟩, ?_⟩⟩
    (dsimp only; exact Ext.of (by omega) (by ((repeat (apply Fresh.put; omega)); ((exact Fresh.up (by assumption) (by omega))))) (by (repeat (first | (exact Kp.refl) | (apply Kp.set; (focus (left; omega)))))) (by (repeat (first | (exact Lg.nil) | (apply Lg.cons; (focus ((right; (exact rfl)))))))) (by (repeat ((exact Lg.nil)))))

theorem all_spec (H : Std sm) {h : T AObj} {c : Nat} {rl wl : List Nat} (hf : Fresh h c) {p : Nat} {kv lv : Value} {l : List Ht} (hp : Has h p (.cells [lv, kv])) (hl : Best h lv l.length (flatH l)) (hn : l.length ≤ 1000) :
    ∃ r s', FnTo (Cs sm) eg 87 [.pointer (some ⟨p, 0, none⟩)] ⟨h, c, rl, wl⟩ r s' ∧ (Best s'.h r l.length (flatH l) ∧ ∀ b, blkOf r = some b → c ≤ b) ∧ Ext ⟨h, c, rl, wl⟩ s' (fun b => b = p ∨ blkOf lv = some b) (fun _ => False) := by
  have lp := hp.lt hf
  refine Fn.go (H 87 rfl) ex87 fn87 km87 rfl rfl ?_
  intro e he
  (simp (decide := true) only [kz] at he; subst he)
  (repeat (first | (with_reducible refine Then.go ?_) | (with_reducible refine Wx.seq ?_) | (with_reducible refine Wx.skip ?_) | (with_reducible refine Wx.reg ?_) | (refine Wx.condF rfl (by rfl) ?_) | ((with_reducible refine Wseq.nil ?_); intro e he; (simp (decide := true) only [kz] at he; subst he)) | ((with_reducible apply Wseq.mv); rfl; (intro v hv; (simp (decide := true) only [kw] at hv); subst hv)) | ((with_reducible apply Wseq.as); rfl; (intro v hv; (simp (decide := true) only [kw] at hv); subst hv)) | ((with_reducible apply Wseq.stg (op := Op.fieldAddr _ _ _)); rfl; exact to_fieldAddr (fa_ rfl) rfl) | ((with_reducible apply Wseq.stg (op := Op.load _ _)); rfl; exact to_load (pl_ rfl) rfl (by (repeat ((apply Has.cel; assumption)))) (by omega) (by rfl)) | ((with_reducible apply Wseq.stg (op := Op.nilCheck _)); rfl; exact to_nilCheck rfl) | ((with_reducible apply Wseq.stg (op := Op.binOp BinOp.eql _ _ _ _)); rfl; exact to_eqP (un_ rfl) rfl rfl)))
  refine Wseq.call rfl rfl (cloneH_spec H (by ((repeat (apply Fresh.put; omega)); ((assumption)))) hl hn) ?_
  rintro v h1 c1 r1 w1 ⟨⟨g1, g2⟩, hext⟩
  have kp := Kp.ext (W := fun _ => False) (h := h) (c := c) (by (repeat ((exact Kp.refl)))) hext (by omega) (fun _ _ q => q)
  have lr := Lg.extR (R := fun b => b = p ∨ blkOf lv = some b) (c := c) (by (repeat (first | (exact Lg.nil) | (apply Lg.cons; (focus ((right; (simp; done)))))))) hext (fun q hq hb => .inr hb)
  have lw := Lg.extW (W := fun _ => False) (c := c) (by (repeat ((exact Lg.nil)))) hext (fun _ _ q => q)
  have fr1 := hext.fresh
  have le1 := hext.c
  simp only at le1 fr1
  (repeat (first | (with_reducible refine Then.go ?_) | (with_reducible refine Wx.ret ?_) | ((with_reducible refine Wseq.nil ?_); intro e he; (simp (decide := true) only [kz] at he; subst he)) | ((with_reducible apply Wseq.as); rfl; (intro v hv; (simp (decide := true) only [kw] at hv); subst hv))))
  refine ⟨.inr rfl, Wres.one rfl ⟨⟨g1, g2⟩, ?_⟩⟩
  (dsimp only; exact Ext.of (by omega) (by ((repeat (apply Fresh.put; omega)); ((assumption)))) (by (repeat ((assumption)))) (by (repeat ((assumption)))) (by (repeat ((assumption)))))

def bestOf (k : Nat) (l : List Ht) : List Ht := l.foldl (putB k) []
theorem putB_len (k : Nat) (l : List Ht) (x : Ht) : (putB k l x).length ≤ l.length + 1 := by
  unfold putB
  split
  · omega
  · split
    · omega
    · rw [List.length_take, List.length_append, List.length_take, List.length_cons, List.length_drop]; omega
theorem foldB_len (k : Nat) : ∀ (l a : List Ht), (l.foldl (putB k) a).length ≤ a.length + l.length
  | [], a => Nat.le_refl _
  | x :: l, a => by
    have h1 := foldB_len k l (putB k a x)
    have h2 := putB_len k a x
    rw [List.foldl_cons, List.length_cons]
    omega
theorem bestOf_len (k : Nat) (l : List Ht) : (bestOf k l).length ≤ l.length := by
  have := foldB_len k l []
  simp only [List.length_nil] at this
  unfold bestOf; omega
theorem bestOf_take {k : Nat} {l : List Ht} {i : Nat} (hi : i < l.length) : bestOf k (l.take (i + 1)) = putB k (bestOf k (l.take i)) l[i] := by
  unfold bestOf
  rw [List.take_succ_eq_append_getElem hi, List.foldl_append]; rfl

def EOf (k : Int) (oa : Option Addr) (n cap p : Nat) (z : Int) (j7 j13 : Value) : L :=
  .cons 0 (.int .i64 k) (.cons 1 (.slice oa n cap) (.cons 4 (.slice none 0 0) (.cons 5 (.pointer (some ⟨p, 0, none⟩)) (.cons 10 (.slice oa n cap) (.cons 11 (.int .i64 (n : Int)) (.cons 12 (.int .i64 z) (.cons 7 j7 (.cons 13 j13 .nil))))))))

set_option maxHeartbeats 4000000 in
theorem of_spec (H : Std sm) (HI : sm 155 = some gIns) {h : T AObj} {c : Nat} {rl wl : List Nat} (hf : Fresh h c) {k : Int} {kk : Nat} {oa : Option Addr} {cap : Nat} {l : List Ht} (hx : Row h (.slice oa l.length cap) l.length 2 (flatH l)) (hk : max k 0 = (kk : Int)) (hkk : kk ≤ 1000) (hn : l.length ≤ 800) (R : Nat → Prop) (hR : ∀ x, blkOf (.slice oa l.length cap) = some x → R x) :
    ∃ r s', FnTo (Cs sm) eg 48 [.int .i64 k, .slice oa l.length cap] ⟨h, c, rl, wl⟩ r s' ∧ (Best s'.h r (bestOf kk l).length (flatH (bestOf kk l)) ∧ ∀ b, blkOf r = some b → c ≤ b) ∧ Ext ⟨h, c, rl, wl⟩ s' R (fun _ => False) := by
  refine Fn.go (H 48 rfl) ex48 fn48 km48 rfl rfl ?_
  intro e he
  (simp (decide := true) only [kz] at he; subst he)
  (repeat (first | (with_reducible refine Then.go ?_) | (with_reducible refine Wx.seq ?_) | (with_reducible refine Wx.reg ?_) | ((with_reducible refine Wseq.nil ?_); intro e he; (simp (decide := true) only [kz] at he; subst he)) | ((with_reducible apply Wseq.mv); rfl; (intro v hv; (simp (decide := true) only [kw] at hv); subst hv)) | ((with_reducible apply Wseq.as); rfl; (intro v hv; (simp (decide := true) only [kw] at hv); subst hv))))
  refine Wseq.call rfl rfl (bnew_spec H (by ((repeat (apply Fresh.put; omega)); ((assumption)))) k) ?_
  rintro v h1 c1 r1 w1 ⟨⟨rfl, hp1, e1⟩, hext⟩
  simp only at e1
  subst e1
  rw [hk] at hp1
  have kp := Kp.ext (W := fun _ => False) (h := h) (c := c) (by (repeat ((exact Kp.refl)))) hext (by omega) (fun _ _ q => q)
  have lr := Lg.extR (R := R) (c := c) (by (repeat ((exact Lg.nil)))) hext (fun q hq hb => hb.elim)
  have lw := Lg.extW (W := fun _ => False) (c := c) (by (repeat ((exact Lg.nil)))) hext (fun _ _ q => q)
  have fr1 := hext.fresh
  simp only at fr1
  (repeat (first | (with_reducible refine Then.go ?_) | (with_reducible refine Wx.seq ?_) | (with_reducible refine Wx.block ?_) | (with_reducible refine Wx.reg ?_) | ((with_reducible refine Wseq.nil ?_); intro e he; (simp (decide := true) only [kz] at he; subst he)) | ((with_reducible apply Wseq.mv); rfl; (intro v hv; (simp (decide := true) only [kw] at hv); subst hv)) | ((with_reducible apply Wseq.as); rfl; (intro v hv; (simp (decide := true) only [kw] at hv); subst hv)) | ((with_reducible apply Wseq.stg (op := Op.call ⟨Callee.builtin Builtin.len, _, _⟩)); rfl; exact to_lenS (sl_ rfl) rfl)))
  refine Wx.cutO (fun e s => ∃ (j7 j13 lv : Value) (h' : T AObj) (c' : Nat) (rl' wl' : List Nat), e = EOf k oa l.length cap c l.length j7 j13 ∧ s = ⟨h', c', rl', wl'⟩ ∧ c + 1 ≤ c' ∧ Fresh h' c' ∧ Kp h h' c (fun _ => False) ∧ Has h' c (.cells [lv, .int .i64 (kk : Int)]) ∧ Best h' lv (bestOf kk l).length (flatH (bestOf kk l)) ∧ (∀ b, blkOf lv = some b → c < b) ∧ Lg c R rl' ∧ Lg c (fun _ => False) wl') (by (repeat ((exact Resp.fn)))) ?_ ?_
  · refine Wx.loopE (fun k1 e s => ∃ (i : Nat) (z : Int) (j7 j13 lv : Value) (h' : T AObj) (c' : Nat) (rl' wl' : List Nat), e = EOf k oa l.length cap c z j7 j13 ∧ z = i ∧ s = ⟨h', c', rl', wl'⟩ ∧ c + 1 ≤ c' ∧ Fresh h' c' ∧ Kp h h' c (fun _ => False) ∧ Has h' c (.cells [lv, .int .i64 (kk : Int)]) ∧ Best h' lv (bestOf kk (l.take i)).length (flatH (bestOf kk (l.take i))) ∧ (∀ b, blkOf lv = some b → c < b) ∧ Lg c R rl' ∧ Lg c (fun _ => False) wl' ∧ i ≤ l.length ∧ k1 = l.length - i) l.length (EOf k oa l.length cap c 0 top top) (by (repeat (first | (exact Resp.fn) | (apply Resp.out) | (apply Resp.cut)))) ?_ ?_ ?_
    · unfold EOf
      (refine EqK.of ?_ ?_ <;> (repeat (first | (exact all_nil) | (apply all_cons; rfl))))
    · exact ⟨0, 0, _, _, _, _, _, _, _, rfl, rfl, rfl, Nat.le_refl _, fr1, kp, hp1, .inl ⟨rfl, rfl, rfl⟩, (fun b hb => by cases hb), (by (repeat ((assumption)))), (by (repeat ((assumption)))), by omega, rfl⟩
    · rintro k1 e s ⟨i, z, j7, j13, lv, h', c', rl', wl', rfl, hz, rfl, hcc, hf', hkp, hp', hb', hlv, hlr, hlw, hid, rfl⟩
      unfold EOf
      by_cases hi : i < l.length
      · have hx' := Row.keepF hx hf (fun b hb => hkp b hb (fun q => q))
        obtain ⟨b1, o1, sp1, cs1, rfl, hc1, hs1⟩ := rowB hx' (by omega)
        have hR1 := hR b1 rfl
        have l1 := hc1.lt hf'
        have hg := sub_hit hs1 (List.getElem?_eq_getElem hi)
        have hlen := bestOf_len kk (l.take i)
        rw [List.length_take] at hlen
        (repeat (first | (with_reducible refine Then.go ?_) | (with_reducible refine Wx.seq ?_) | (with_reducible refine Wx.skip ?_) | (with_reducible refine Wx.block ?_) | (with_reducible refine Wx.reg ?_) | (refine Wx.condT rfl (by rfl) ?_) | ((with_reducible refine Wseq.nil ?_); intro e he; (simp (decide := true) only [kz] at he; subst he)) | ((with_reducible apply Wseq.stg (op := Op.binOp BinOp.lss _ _ _ _)); rfl; exact to_lssT rfl rfl (by omega))))
        ((with_reducible apply Wseq.stg); (focus rfl); (focus (exact to_indexAddr (k := i) el32 rfl rfl hz (by omega))))
        ((with_reducible apply Wseq.stg); (focus rfl); (focus (exact to_loadS ag41 rfl hc1 (by omega) hg)))
        (repeat (first | (with_reducible refine Then.go ?_) | (with_reducible refine Wx.reg ?_) | ((with_reducible refine Wseq.nil ?_); intro e he; (simp (decide := true) only [kz] at he; subst he)) | ((with_reducible apply Wseq.mv); rfl; (intro v hv; (simp (decide := true) only [kw] at hv); subst hv)) | ((with_reducible apply Wseq.so); rfl; exact (sz_ rfl); rfl; exact (by (repeat ((exact Has.same)))); omega; (intro v hv; (simp (decide := true) only [kw] at hv); subst hv); refine ⟨_, _, (by ((exact cellsA_agg _))), rfl, rfl, ?_⟩) | ((with_reducible apply Wseq.stg (op := Op.load _ _)); rfl; exact to_loadS (ag_ rfl) rfl (by (repeat ((exact Has.same.cel)))) (by omega) (by rfl)) | ((with_reducible apply Wseq.stg (op := Op.alloc _)); rfl; exact to_alloc (ze_ rfl) (by ((exact cellsA_agg _))) (by ((repeat (apply Fresh.put; omega)); ((assumption)))))))
        have hlt : ∀ b, blkOf lv = some b → b < c' := by
          intro b hb
          rcases hb' with ⟨rfl, _⟩ | ⟨b', cap', cs, rfl, _, _, q3, _⟩
          · cases hb
          · cases hb; exact q3.lt hf'
        refine Wseq.call rfl rfl (bput_spec H HI (by ((repeat (apply Fresh.put; omega)); ((exact Fresh.up (by assumption) (by omega))))) (x := l[i]) (by (repeat (first | (assumption) | (apply Has.other; omega)))) (hb'.keep fun b hb => ?_) (fun b hb => by have := hlv b hb; omega) (by omega) hkk) ?_
        · have := hlt b hb
          exact (get_other (by omega)).trans (get_other (by omega))
        rintro v h2 c2 r2 w2 ⟨⟨lv', g1, g2, g3⟩, hext2⟩
        have kp2 := Kp.ext (W := fun _ => False) (h := h) (c := c) (by (repeat (first | (assumption) | (apply Kp.set; (focus (left; omega)))))) hext2 (by omega) (fun b hb q => by rcases q with q | q; (· omega); (· have := hlv b q; omega))
        have lr2 := Lg.extR (R := R) (c := c) (by (repeat (first | (assumption) | (apply Lg.cons; (focus (first | (left; omega) | (right; (assumption)))))))) hext2 (fun b hb q => by rcases q with q | q; (· omega); (· have := hlv b q; omega))
        have lw2 := Lg.extW (W := fun _ => False) (c := c) (by (repeat (first | (assumption) | (apply Lg.cons; (focus (left; omega)))))) hext2 (fun b hb q => by rcases q with q | q; (· omega); (· have := hlv b q; omega))
        have fr2 := hext2.fresh
        have le2 := hext2.c
        simp only at le2 fr2
        (repeat (first | (with_reducible refine Then.go ?_) | (with_reducible refine Out.go ?_) | (with_reducible refine Wx.reg ?_) | ((with_reducible refine Wseq.nil ?_); intro e he; (simp (decide := true) only [kz] at he; subst he)) | ((with_reducible apply Wseq.mv); rfl; (intro v hv; (simp (decide := true) only [kw] at hv); subst hv)) | ((with_reducible apply Wseq.stg (op := Op.binOp BinOp.add _ _ _ _)); rfl; exact to_add rfl rfl (by omega) (by omega))))
        refine RoundE.go (l.length - (i + 1)) (EOf k _ l.length cap c (z + 1) _ _) (by omega) (by (refine EqK.of ?_ ?_ <;> (repeat (first | (exact all_nil) | (apply all_cons; rfl))))) ⟨i + 1, z + 1, _, _, lv', _, _, _, _, rfl, by omega, rfl, by omega, fr2, kp2, g1, ?_, ?_, (by (repeat ((assumption)))), (by (repeat ((assumption)))), by omega, rfl⟩
        · rw [bestOf_take hi]; exact g2
        · intro b hb
          rcases g3 b hb with q | q
          · exact hlv b q
          · omega
      · (repeat (first | (with_reducible refine Then.go ?_) | (with_reducible refine Then.ex ?_) | (with_reducible refine Out.hit ?_) | (with_reducible refine Wx.seq ?_) | (with_reducible refine Wx.exit ?_) | (with_reducible refine Wx.reg ?_) | (with_reducible refine RoundE.ex ?_) | (refine Wx.condF rfl (by rfl) ?_) | ((with_reducible refine Wseq.nil ?_); intro e he; (simp (decide := true) only [kz] at he; subst he)) | ((with_reducible apply Wseq.stg (op := Op.binOp BinOp.lss _ _ _ _)); rfl; exact to_lssF rfl rfl (by omega))))
        obtain rfl : i = l.length := by omega
        subst hz
        rw [List.take_length] at hb'
        exact CutQ.go (EOf k _ l.length cap c l.length _ _) (by (refine EqK.of ?_ ?_ <;> (repeat (first | (exact all_nil) | (apply all_cons; rfl))))) ⟨_, _, _, _, _, _, _, rfl, rfl, hcc, hf', hkp, hp', hb', hlv, (by (repeat ((assumption)))), (by (repeat ((assumption))))⟩
  · rintro e s ⟨j7, j13, lv, h', c', rl', wl', rfl, rfl, hcc, hf', hkp, hp', hb', hlv, hlr, hlw⟩
    unfold EOf
    (repeat (first | (with_reducible refine Wx.seq ?_) | (with_reducible refine Wx.reg ?_) | ((with_reducible apply Wseq.mv); rfl; (intro v hv; (simp (decide := true) only [kw] at hv); subst hv))))
    have := bestOf_len kk l
    refine Wseq.call rfl rfl (all_spec H (by ((repeat (apply Fresh.put; omega)); ((assumption)))) hp' hb' (by omega)) ?_
    rintro v h2 c2 r2 w2 ⟨⟨g1, g2⟩, hext2⟩
    have kp2 := Kp.ext (W := fun _ => False) (h := h) (c := c) (by (repeat ((assumption)))) hext2 (by omega) (fun b hb q => q)
    have lr2 := Lg.extR (R := R) (c := c) (by (repeat ((assumption)))) hext2 (fun b hb q => by rcases q with q | q; (· omega); (· have := hlv b q; omega))
    have lw2 := Lg.extW (W := fun _ => False) (c := c) (by (repeat ((assumption)))) hext2 (fun b hb q => q)
    have fr2 := hext2.fresh
    have le2 := hext2.c
    simp only at le2 fr2
    (repeat (first | (with_reducible refine Then.go ?_) | (with_reducible refine Wx.ret ?_) | ((with_reducible refine Wseq.nil ?_); intro e he; (simp (decide := true) only [kz] at he; subst he)) | ((with_reducible apply Wseq.as); rfl; (intro v hv; (simp (decide := true) only [kw] at hv); subst hv))))
    refine ⟨.inr rfl, Wres.one rfl ⟨⟨g1, fun b hb => by have := g2 b hb; omega⟩, ?_⟩⟩
    (dsimp only; exact Ext.of (by omega) (by ((repeat (apply Fresh.put; omega)); ((assumption)))) (by (repeat ((assumption)))) (by (repeat ((assumption)))) (by (repeat ((assumption)))))
end Go.Ab.Seat
