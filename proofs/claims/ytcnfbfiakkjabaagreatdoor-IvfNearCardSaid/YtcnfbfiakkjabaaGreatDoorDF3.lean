/- Is a hit's id among some? (the abstract machine) -/
import Derived.Test.YtcnfbfiakkjabaaGreatDoorDF2
set_option linter.unusedVariables false
set_option linter.unusedSimpArgs false
namespace Go.Ab.Seat
open Go.Extern Go.Proofs
set_option linter.unusedSimpArgs false
set_option linter.unusedVariables false
set_option maxRecDepth 4000
set_option pp.deepTerms false
set_option pp.deepTerms.threshold 6
variable {sm : Nat → Option (List Value → M Value)}

def flatH (l : List Ht) : List Value := l.flatMap Ht.cells
theorem flatH_len (l : List Ht) : (flatH l).length = l.length * 2 := by
  induction l with
  | nil => rfl
  | cons x l ih => unfold flatH at ih ⊢; rw [List.flatMap_cons, List.length_append, ih]; simp [Ht.cells]; omega
theorem flatH_app (a b : List Ht) : flatH (a ++ b) = flatH a ++ flatH b := by unfold flatH; rw [List.flatMap_append]
theorem flatH_take (l : List Ht) (i : Nat) : (flatH l).take (i * 2) = flatH (l.take i) := by
  induction l generalizing i with
  | nil => cases i <;> rfl
  | cons x l ih =>
    cases i with
    | zero => rfl
    | succ i =>
      show ([Value.int .i64 x.id, .int .i64 x.sc] ++ flatH l).take ((i + 1) * 2) = [Value.int .i64 x.id, .int .i64 x.sc] ++ flatH (l.take i)
      rw [show (i + 1) * 2 = i * 2 + 1 + 1 by omega, ← ih]
      rfl
theorem flatH_drop (l : List Ht) (i : Nat) : (flatH l).drop (i * 2) = flatH (l.drop i) := by
  induction l generalizing i with
  | nil => cases i <;> simp [flatH]
  | cons x l ih =>
    cases i with
    | zero => rfl
    | succ i =>
      show ([Value.int .i64 x.id, .int .i64 x.sc] ++ flatH l).drop ((i + 1) * 2) = flatH (l.drop i)
      rw [show (i + 1) * 2 = i * 2 + 1 + 1 by omega, ← ih]
      rfl
theorem flatH_atom (l : List Ht) : ∀ v ∈ flatH l, atom v = true := by
  intro v hv
  unfold flatH at hv
  obtain ⟨x, _, hx⟩ := List.mem_flatMap.1 hv
  unfold Ht.cells at hx
  simp only [List.mem_cons, List.not_mem_nil, or_false] at hx
  rcases hx with rfl | rfl <;> rfl
theorem sub_hit {l : List Ht} {i o : Nat} {cs : List Value} {x : Ht} (h : subN o (l.length * 2) cs = some (flatH l)) (hx : l[i]? = some x) : subN (o + i * 2) 2 cs = some [.int .i64 x.id, .int .i64 x.sc] := by
  obtain ⟨hi, rfl⟩ := List.getElem?_eq_some_iff.1 hx
  have h1 : flatH l = flatH (l.take i) ++ (([.int .i64 l[i].id, .int .i64 l[i].sc] : List Value) ++ flatH (l.drop (i + 1))) := by
    conv => lhs; rw [show l = l.take i ++ (l[i] :: l.drop (i + 1)) by simp]
    rw [flatH_app]; rfl
  rw [h1] at h
  have h2 : subN o (i * 2 + (2 + (l.length - (i + 1)) * 2)) cs = some (flatH (l.take i) ++ (([.int .i64 l[i].id, .int .i64 l[i].sc] : List Value) ++ flatH (l.drop (i + 1)))) := by rw [← h]; congr 1; omega
  exact (subN_app (subN_app h2 (by rw [flatH_len, List.length_take]; omega)).2 rfl).1

theorem rowB {h : T AObj} {oa : Option Addr} {n cap k : Nat} {xs : List Value} (hr : Row h (.slice oa n cap) n k xs) (hn : 0 < n) : ∃ b o sp cs, oa = some ⟨b, o, sp⟩ ∧ Cel h b cs ∧ subN o (n * k) cs = some xs := by
  rcases hr with ⟨rfl, _⟩ | ⟨b, o, sp, cap', cs, e, hc, hs⟩
  · omega
  · cases e
    exact ⟨b, o, sp, cs, rfl, hc, hs⟩

abbrev cloV (bx : Nat) : Value := .func (.func 154) ⟨[]⟩ ⟨[.pointer (some ⟨bx, 0, none⟩)]⟩
def EIx (oa : Option Addr) (n cap bx : Nat) (z : Int) (j5 j9 j16 : Value) : L :=
  .cons 0 (.slice oa n cap) (.cons 1 (cloV bx) (.cons 4 (.int .i64 0) (.cons 7 (.int .i64 (n : Int)) (.cons 8 (.int .i64 z) (.cons 5 j5 (.cons 9 j9 (.cons 16 j16 .nil)))))))

set_option maxHeartbeats 4000000 in
theorem idxf_spec (H : Std sm) {h : T AObj} {c : Nat} {rl wl : List Nat} (hf : Fresh h c) {oa : Option Addr} {cap bx : Nat} {l : List Ht} {y : Ht} (hx : Row h (.slice oa l.length cap) l.length 2 (flatH l)) (hy : Has h bx (.cells [.int .i64 y.id, .int .i64 y.sc])) (hb : l.length ≤ 100000) (R : Nat → Prop) (hR : ∀ x, blkOf (.slice oa l.length cap) = some x → R x) (hRy : R bx) :
    ∃ r s', FnTo (Cs sm) eg 195 [.slice oa l.length cap, cloV bx] ⟨h, c, rl, wl⟩ r s' ∧ (∃ z, r = .int .i64 z ∧ decide (0 ≤ z) = l.any (fun x => decide (x.id = y.id))) ∧ Ext ⟨h, c, rl, wl⟩ s' R (fun _ => False) := by
  refine Fn.go (H 195 rfl) ex195 fn195 km195 rfl rfl ?_
  intro e he
  (simp (decide := true) only [kz] at he; subst he)
  have ly := hy.lt hf
  (repeat (first | (with_reducible refine Then.go ?_) | (with_reducible refine Wx.seq ?_) | (with_reducible refine Wx.block ?_) | (with_reducible refine Wx.reg ?_) | ((with_reducible refine Wseq.nil ?_); intro e he; (simp (decide := true) only [kz] at he; subst he)) | ((with_reducible apply Wseq.mv); rfl; (intro v hv; (simp (decide := true) only [kw] at hv); subst hv)) | ((with_reducible apply Wseq.as); rfl; (intro v hv; (simp (decide := true) only [kw] at hv); subst hv)) | ((with_reducible apply Wseq.stg (op := Op.call ⟨Callee.builtin Builtin.len, _, _⟩)); rfl; exact to_lenS (sl_ rfl) rfl)))
  refine Wx.cutO (fun e s => ∃ (j5 j9 j16 : Value) (h' : T AObj) (c' : Nat) (rl' wl' : List Nat), e = EIx oa l.length cap bx l.length j5 j9 j16 ∧ s = ⟨h', c', rl', wl'⟩ ∧ c ≤ c' ∧ Fresh h' c' ∧ Kp h h' c (fun _ => False) ∧ Lg c R rl' ∧ Lg c (fun _ => False) wl' ∧ l.any (fun x => decide (x.id = y.id)) = false) (by (repeat ((exact Resp.fn)))) ?_ ?_
  · refine Wx.loopE (fun k1 e s => ∃ (i : Nat) (z : Int) (j5 j9 j16 : Value) (h' : T AObj) (c' : Nat) (rl' wl' : List Nat), e = EIx oa l.length cap bx z j5 j9 j16 ∧ z = i ∧ s = ⟨h', c', rl', wl'⟩ ∧ c ≤ c' ∧ Fresh h' c' ∧ Kp h h' c (fun _ => False) ∧ Lg c R rl' ∧ Lg c (fun _ => False) wl' ∧ (∀ x ∈ l.take i, x.id ≠ y.id) ∧ i ≤ l.length ∧ k1 = l.length - i) l.length (EIx oa l.length cap bx 0 top top top) (by (repeat (first | (exact Resp.fn) | (apply Resp.out) | (apply Resp.cut)))) ?_ ?_ ?_
    · unfold EIx
      (refine EqK.of ?_ ?_ <;> (repeat (first | (exact all_nil) | (apply all_cons; rfl))))
    · exact ⟨0, 0, _, _, _, _, _, _, _, rfl, rfl, rfl, Nat.le_refl _, (by ((repeat (apply Fresh.put; omega)); ((assumption)))), (by (repeat ((exact Kp.refl)))), (by (repeat ((exact Lg.nil)))), (by (repeat ((exact Lg.nil)))), (fun x hx => by simp at hx), by omega, rfl⟩
    · rintro k1 e s ⟨i, z, j5, j9, j16, h', c', rl', wl', rfl, hz, rfl, hcc, hf', hkp, hlr, hlw, hno, hid, rfl⟩
      unfold EIx
      by_cases hi : i < l.length
      · have hx' := Row.keepF hx hf (fun b hb => hkp b hb (fun q => q))
        have hy' : Has h' bx (.cells [.int .i64 y.id, .int .i64 y.sc]) := (hkp bx ly (fun q => q)).trans hy
        obtain ⟨b1, o1, sp1, cs1, rfl, hc1, hs1⟩ := rowB hx' (by omega)
        have hR1 := hR b1 rfl
        have l1 := hc1.lt hf'
        have hg := sub_hit hs1 (List.getElem?_eq_getElem hi)
        (repeat (first | (with_reducible refine Then.go ?_) | (with_reducible refine Wx.seq ?_) | (with_reducible refine Wx.skip ?_) | (with_reducible refine Wx.block ?_) | (with_reducible refine Wx.reg ?_) | (refine Wx.condT rfl (by rfl) ?_) | ((with_reducible refine Wseq.nil ?_); intro e he; (simp (decide := true) only [kz] at he; subst he)) | ((with_reducible apply Wseq.mv); rfl; (intro v hv; (simp (decide := true) only [kw] at hv); subst hv)) | ((with_reducible apply Wseq.as); rfl; (intro v hv; (simp (decide := true) only [kw] at hv); subst hv)) | ((with_reducible apply Wseq.stg (op := Op.binOp BinOp.lss _ _ _ _)); rfl; exact to_lssT rfl rfl (by omega))))
        ((with_reducible apply Wseq.stg); (focus rfl); (focus (exact to_indexAddr (k := i) el32 rfl rfl hz (by omega))))
        ((with_reducible apply Wseq.stg); (focus rfl); (focus (exact to_loadS ag41 rfl hc1 (by omega) hg)))
        refine Wseq.callV rfl rfl rfl (clo_spec H (by ((repeat (apply Fresh.put; omega)); ((assumption)))) l[i] y hy') ?_
        rintro v h1 c1 r1 w1 ⟨rfl, hext⟩
        have kp := Kp.ext (W := fun _ => False) (h := h) (c := c) hkp hext (by omega) (fun _ _ q => q)
        have lr := Lg.extR (R := R) (c := c) (by (repeat (first | (assumption) | (apply Lg.cons; (focus ((right; (assumption)))))))) hext (fun q _ hq => by rw [hq]; exact hRy)
        have lw := Lg.extW (W := fun _ => False) (c := c) (by (repeat ((assumption)))) hext (fun _ _ q => q)
        have fr1 := hext.fresh
        have le1 := hext.c
        simp only at le1 fr1
        by_cases hid2 : l[i].id = y.id
        · rw [decide_eq_true hid2]
          (repeat (first | (with_reducible refine Then.go ?_) | (with_reducible refine Then.rt ?_) | (with_reducible refine Out.rt ?_) | (with_reducible refine Wx.seq ?_) | (with_reducible refine Wx.ret ?_) | (with_reducible refine Wx.reg ?_) | (with_reducible refine RoundE.rt ?_) | (with_reducible refine CutQ.rt ?_) | (refine Wx.condT rfl (by rfl) ?_) | ((with_reducible refine Wseq.nil ?_); intro e he; (simp (decide := true) only [kz] at he; subst he)) | ((with_reducible apply Wseq.mv); rfl; (intro v hv; (simp (decide := true) only [kw] at hv); subst hv)) | ((with_reducible apply Wseq.as); rfl; (intro v hv; (simp (decide := true) only [kw] at hv); subst hv))))
          refine ⟨.inr rfl, Wres.one rfl ⟨⟨_, rfl, ?_⟩, ?_⟩⟩
          · rw [decide_eq_true (show (0 : Int) ≤ z by omega)]
            exact (List.any_eq_true.2 ⟨l[i], List.getElem_mem hi, decide_eq_true hid2⟩).symm
          · (dsimp only; exact Ext.of (by omega) (by ((repeat (apply Fresh.put; omega)); ((assumption)))) (by (repeat ((assumption)))) (by (repeat ((assumption)))) (by (repeat ((assumption)))))
        · rw [decide_eq_false hid2]
          (repeat (first | (with_reducible refine Then.go ?_) | (with_reducible refine Out.go ?_) | (with_reducible refine Wx.skip ?_) | (with_reducible refine Wx.reg ?_) | (refine Wx.condF rfl (by rfl) ?_) | ((with_reducible refine Wseq.nil ?_); intro e he; (simp (decide := true) only [kz] at he; subst he)) | ((with_reducible apply Wseq.mv); rfl; (intro v hv; (simp (decide := true) only [kw] at hv); subst hv)) | ((with_reducible apply Wseq.stg (op := Op.binOp BinOp.add _ _ _ _)); rfl; exact to_add rfl rfl (by omega) (by omega))))
          refine RoundE.go (l.length - (i + 1)) (EIx _ l.length cap bx (z + 1) _ _ _) (by omega) (by (refine EqK.of ?_ ?_ <;> (repeat (first | (exact all_nil) | (apply all_cons; rfl))))) ⟨i + 1, z + 1, _, _, _, _, _, _, _, rfl, by omega, rfl, by omega, fr1, kp, lr, lw, ?_, by omega, rfl⟩
          intro x hx
          rw [List.take_succ_eq_append_getElem hi] at hx
          rcases List.mem_append.1 hx with hx | hx
          · exact hno x hx
          · rw [List.mem_singleton.1 hx]; exact hid2
      · (repeat (first | (with_reducible refine Then.go ?_) | (with_reducible refine Then.ex ?_) | (with_reducible refine Out.hit ?_) | (with_reducible refine Wx.seq ?_) | (with_reducible refine Wx.exit ?_) | (with_reducible refine Wx.reg ?_) | (with_reducible refine RoundE.ex ?_) | (refine Wx.condF rfl (by rfl) ?_) | ((with_reducible refine Wseq.nil ?_); intro e he; (simp (decide := true) only [kz] at he; subst he)) | ((with_reducible apply Wseq.stg (op := Op.binOp BinOp.lss _ _ _ _)); rfl; exact to_lssF rfl rfl (by omega))))
        obtain rfl : i = l.length := by omega
        subst hz
        refine CutQ.go (EIx _ l.length cap bx l.length _ _ _) (by (refine EqK.of ?_ ?_ <;> (repeat (first | (exact all_nil) | (apply all_cons; rfl))))) ⟨_, _, _, _, _, _, _, rfl, rfl, hcc, hf', hkp, (by (repeat ((assumption)))), (by (repeat ((assumption)))), ?_⟩
        rw [List.take_length] at hno
        exact List.any_eq_false.2 fun x hx => by simpa using hno x hx
  · rintro e s ⟨j5, j9, j16, h', c', rl', wl', rfl, rfl, hcc, hf', hkp, hlr, hlw, hno⟩
    unfold EIx
    (repeat (first | (with_reducible refine Then.go ?_) | (with_reducible refine Wx.seq ?_) | (with_reducible refine Wx.ret ?_) | (with_reducible refine Wx.reg ?_) | ((with_reducible refine Wseq.nil ?_); intro e he; (simp (decide := true) only [kz] at he; subst he)) | ((with_reducible apply Wseq.as); rfl; (intro v hv; (simp (decide := true) only [kw] at hv); subst hv))))
    refine ⟨.inr rfl, Wres.one rfl ⟨⟨_, rfl, by rw [hno]; rfl⟩, ?_⟩⟩
    (dsimp only; exact Ext.of (by omega) (by ((repeat (apply Fresh.put; omega)); ((assumption)))) (by (repeat ((assumption)))) (by (repeat ((assumption)))) (by (repeat ((assumption)))))

theorem contains_spec (H : Std sm) {h : T AObj} {c : Nat} {rl wl : List Nat} (hf : Fresh h c) {oa : Option Addr} {cap bx : Nat} {l : List Ht} {y : Ht} (hx : Row h (.slice oa l.length cap) l.length 2 (flatH l)) (hy : Has h bx (.cells [.int .i64 y.id, .int .i64 y.sc])) (hb : l.length ≤ 100000) (R : Nat → Prop) (hR : ∀ x, blkOf (.slice oa l.length cap) = some x → R x) (hRy : R bx) :
    ∃ r s', FnTo (Cs sm) eg 153 [.slice oa l.length cap, cloV bx] ⟨h, c, rl, wl⟩ r s' ∧ (r = .bool (l.any (fun x => decide (x.id = y.id)))) ∧ Ext ⟨h, c, rl, wl⟩ s' R (fun _ => False) := by
  refine Fn.go (H 153 rfl) ex153 fn153 km153 rfl rfl ?_
  intro e he
  (simp (decide := true) only [kz] at he; subst he)
  (repeat (first | (with_reducible refine Then.go ?_) | (with_reducible refine Wx.seq ?_) | (with_reducible refine Wx.reg ?_) | ((with_reducible refine Wseq.nil ?_); intro e he; (simp (decide := true) only [kz] at he; subst he)) | ((with_reducible apply Wseq.mv); rfl; (intro v hv; (simp (decide := true) only [kw] at hv); subst hv)) | ((with_reducible apply Wseq.as); rfl; (intro v hv; (simp (decide := true) only [kw] at hv); subst hv))))
  refine Wseq.call rfl rfl (idxf_spec H (by ((repeat (apply Fresh.put; omega)); ((assumption)))) hx hy hb R hR hRy) ?_
  rintro v h1 c1 r1 w1 ⟨⟨z, rfl, hz⟩, hext⟩
  have kp := Kp.ext (W := fun _ => False) (h := h) (c := c) (by (repeat ((exact Kp.refl)))) hext (by omega) (fun _ _ q => q)
  have lr := Lg.extR (R := R) (c := c) (by (repeat ((exact Lg.nil)))) hext (fun _ _ hq => hq)
  have lw := Lg.extW (W := fun _ => False) (c := c) (by (repeat ((exact Lg.nil)))) hext (fun _ _ q => q)
  have fr1 := hext.fresh
  have le1 := hext.c
  simp only at le1 fr1
  ((with_reducible apply Wseq.stg); (focus rfl); (focus (exact to_geq rfl rfl)))
  (repeat (first | (with_reducible refine Then.go ?_) | (with_reducible refine Wx.ret ?_) | ((with_reducible refine Wseq.nil ?_); intro e he; (simp (decide := true) only [kz] at he; subst he)) | ((with_reducible apply Wseq.as); rfl; (intro v hv; (simp (decide := true) only [kw] at hv); subst hv))))
  refine ⟨.inr rfl, Wres.one rfl ⟨?_, ?_⟩⟩
  · rw [← hz]; rfl
  · (dsimp only; exact Ext.of (by omega) (by ((repeat (apply Fresh.put; omega)); ((assumption)))) (by (repeat ((assumption)))) (by (repeat ((assumption)))) (by (repeat ((assumption)))))
end Go.Ab.Seat
