/- The nearest middle; vectors copied; an index of lists: made (the abstract machine). -/
import Derived.Test.YtcnfbfiakkjabaaGreatDoorDO3
set_option linter.unusedVariables false
set_option linter.unusedSimpArgs false
namespace Go.Ab.Seat
open Go.Extern Go.Proofs
set_option linter.unusedSimpArgs false
set_option linter.unusedVariables false
set_option maxRecDepth 4000
set_option pp.deepTerms false
set_option pp.deepTerms.threshold 6

theorem HI.val {h : T AObj} {c : Nat} {v : Value} {l : List Int} (x : HI h c v l) : ∃ oa, v = .slice oa l.length l.length ∧ Row h v l.length 1 (l.map (Value.int .i64)) ∧ ∀ b, blkOf v = some b → c ≤ b := by
  rcases x with ⟨rfl, rfl⟩ | ⟨b, rfl, _, h1, h2⟩
  · exact ⟨_, rfl, .inl ⟨rfl, rfl, _, _, rfl⟩, fun b hb => by cases hb⟩
  · exact ⟨_, rfl, .inr ⟨b, 0, _, _, _, rfl, h2.cel, subN_all _ _ (by simp)⟩, fun b hb => by cases hb; exact h1⟩

theorem ordZ_len (mid : List (List Int)) (qs : List Int) : (ordZ mid qs).length = mid.length := by
  unfold ordZ
  have h1 := hitO_len qs mid
  have := bestOf_len_eq (k := mid.length) (hitO_nodup qs mid) (m := mid.length) (by omega) (Nat.le_refl _)
  rw [List.take_of_length_le (by omega)] at this
  rw [List.length_map, this]
/-- The place of the nearest middle. -/
def nearZ (mid : List (List Int)) (qs : List Int) : Int := if mid.length = 0 then -1 else (ordZ mid qs).getD 0 0

set_option maxHeartbeats 4000000 in
theorem nearest_spec {h : T AObj} {c : Nat} {rl wl : List Nat} (hf : Fresh h c) {v : Value} {dim : Nat} {mid : List (List Int)} {U : Nat → Prop} (hm : MRow h v dim mid U) (hn : mid.length ≤ 12) (hd : dim ≤ 1000) {qa : Option Addr} {qc : Nat} {qs : List Int} (hq : Row h (.slice qa dim qc) dim 1 (qs.map (Value.int .i32))) (hqn : qs.length = dim) (hqb : Bnd qs) (R : Nat → Prop) (hUR : ∀ b, U b → R b) (hqR : ∀ b, blkOf (.slice qa dim qc) = some b → R b) :
    ∃ r s', FnTo (Cs smQ) eg 26 [v, .slice qa dim qc] ⟨h, c, rl, wl⟩ r s' ∧ r = .int .i64 (nearZ mid qs) ∧ Ext ⟨h, c, rl, wl⟩ s' R (fun _ => False) := by
  obtain ⟨oa, cap, rfl⟩ := hm.val
  refine Fn.go (stdQ 26 rfl) ex26 fn26 km26 rfl rfl ?_
  intro e he
  (simp (decide := true) only [kz] at he; subst he)
  by_cases h0 : mid.length = 0
  · (repeat (first | (with_reducible refine Then.go ?_) | (with_reducible refine Then.rt ?_) | (with_reducible refine Wx.seq ?_) | (with_reducible refine Wx.ret ?_) | (with_reducible refine Wx.reg ?_) | (refine Wx.condT rfl (by rfl) ?_) | ((with_reducible refine Wseq.nil ?_); intro e he; (simp (decide := true) only [kz] at he; subst he)) | ((with_reducible apply Wseq.mv); rfl; (intro v hv; (simp (decide := true) only [kw] at hv); subst hv)) | ((with_reducible apply Wseq.as); rfl; (intro v hv; (simp (decide := true) only [kw] at hv); subst hv)) | ((with_reducible apply Wseq.stg (op := Op.call ⟨Callee.builtin Builtin.len, _, _⟩)); rfl; exact to_lenS (sl_ rfl) rfl) | ((with_reducible apply Wseq.stg (op := Op.binOp BinOp.eql _ _ _ _)); rfl; exact to_eqIT rfl rfl (by omega))))
    refine ⟨.inr rfl, Wres.one rfl ⟨?_, ?_⟩⟩
    · unfold nearZ; rw [if_pos h0]; rfl
    · (dsimp only; exact Ext.of (by omega) (by ((repeat (apply Fresh.put; omega)); ((assumption)))) (by (repeat ((exact Kp.refl)))) (by (repeat ((exact Lg.nil)))) (by (repeat ((exact Lg.nil)))))
  · (repeat (first | (with_reducible refine Then.go ?_) | (with_reducible refine Wx.seq ?_) | (with_reducible refine Wx.skip ?_) | (with_reducible refine Wx.reg ?_) | (refine Wx.condF rfl (by rfl) ?_) | ((with_reducible refine Wseq.nil ?_); intro e he; (simp (decide := true) only [kz] at he; subst he)) | ((with_reducible apply Wseq.mv); rfl; (intro v hv; (simp (decide := true) only [kw] at hv); subst hv)) | ((with_reducible apply Wseq.as); rfl; (intro v hv; (simp (decide := true) only [kw] at hv); subst hv)) | ((with_reducible apply Wseq.stg (op := Op.call ⟨Callee.builtin Builtin.len, _, _⟩)); rfl; exact to_lenS (sl_ rfl) rfl) | ((with_reducible apply Wseq.stg (op := Op.binOp BinOp.eql _ _ _ _)); rfl; exact to_eqIF rfl rfl (by omega))))
    refine Wseq.call rfl rfl (order_spec (by ((repeat (apply Fresh.put; omega)); ((assumption)))) hm hn hd hq hqn hqb R hUR hqR) ?_
    rintro v1 h1 c1 r1 w1 ⟨hHI, hext⟩
    have kp := Kp.ext (W := fun _ => False) (h := h) (c := c) (by (repeat ((exact Kp.refl)))) hext (by omega) (fun _ _ q => q)
    have lr := Lg.extR (R := R) (c := c) (by (repeat ((exact Lg.nil)))) hext (fun _ _ q => q)
    have lw := Lg.extW (W := fun _ => False) (c := c) (by (repeat ((exact Lg.nil)))) hext (fun _ _ q => q)
    have fr1 := hext.fresh
    have le1 := hext.c
    simp only at le1 fr1 hHI
    have hlen := ordZ_len mid qs
    unfold nearZ
    rw [if_neg h0]
    generalize ordZ mid qs = l at hHI hlen
    rcases hHI with ⟨rfl, rfl⟩ | ⟨b, rfl, hne, hb1, hb2⟩
    · simp at hlen; omega
    · have l1 := hb2.lt fr1
      obtain ⟨z0, l', rfl⟩ := List.exists_cons_of_ne_nil hne
      skip
      ((with_reducible apply Wseq.stg); (focus rfl); (focus (exact to_indexAddr (k := 0) el35 rfl rfl rfl (by simp))))
      ((with_reducible apply Wseq.stg); (focus rfl); (focus (exact to_load (pl_ rfl) rfl hb2.cel (by omega) rfl)))
      (repeat (first | (with_reducible refine Then.go ?_) | (with_reducible refine Wx.ret ?_) | ((with_reducible refine Wseq.nil ?_); intro e he; (simp (decide := true) only [kz] at he; subst he)) | ((with_reducible apply Wseq.as); rfl; (intro v hv; (simp (decide := true) only [kw] at hv); subst hv))))
      refine ⟨.inr rfl, Wres.one rfl ⟨rfl, ?_⟩⟩
      (dsimp only; exact Ext.of (by omega) (by ((repeat (apply Fresh.put; omega)); ((assumption)))) (by (repeat ((assumption)))) (by (repeat (first | (assumption) | (apply Lg.cons; (focus (left; omega)))))) (by (repeat ((assumption)))))

theorem GVals.ne {h : T AObj} {dim b : Nat} {mid : List (List Int)} {U : Nat → Prop} {vals : List Value} (x : GVals h dim mid U vals) (hd : 1 ≤ dim) (hb : Has h b (.cells vals)) {a : Option Addr} {k : Nat} {zs : List Int} (hr : Row h (.slice a dim k) dim 1 (zs.map (Value.int .i32))) (hz : zs.length = dim) : blkOf (.slice a dim k) ≠ some b := by
  intro e
  rcases hr with ⟨_, q, _⟩ | ⟨b', o, sp', cap', cs, e1, g6, g7⟩
  · omega
  · rw [e1] at e
    obtain rfl : b' = b := by simpa [blkOf] using e
    have hcs : cs = vals := by
      rcases g6 with q | q | q
      · have := q.symm.trans hb
        simpa using this
      · have := q.symm.trans hb
        simp at this
      · have := q.symm.trans hb
        simp at this
    subst hcs
    have h1 := (subN_some _ _ _ _ g7).2.2 0 (by omega)
    rw [Nat.add_zero, List.getElem?_map, List.getElem?_eq_getElem (by omega : 0 < zs.length)] at h1
    have h2 := (List.getElem?_eq_some_iff.1 h1.symm).1
    rw [x.1] at h2
    obtain ⟨_, _, a', k', h3, _⟩ := x.2 o mid[o] (List.getElem?_eq_getElem h2)
    rw [h3] at h1
    cases h1
theorem GVals.keep2 {h h' : T AObj} {c dim b : Nat} {mid : List (List Int)} {U U' : Nat → Prop} {vals : List Value} (x : GVals h dim mid U vals) (hd : 1 ≤ dim) (hb : Has h b (.cells vals)) (hf : Fresh h c) (hU : ∀ b, U b → U' b) (k : ∀ b', U b' → b' < c → b' ≠ b → h'.get b' = h.get b') : GVals h' dim mid U' vals := by
  refine ⟨x.1, fun i zs hi => ?_⟩
  obtain ⟨g1, g2, a, kk, g3, g4, g5⟩ := x.2 i zs hi
  refine ⟨g1, g2, a, kk, g3, ?_, fun b' hb' => hU b' (g5 b' hb')⟩
  have hne := x.ne hd hb g4 g1
  rcases g4 with g4 | ⟨b', o, sp', cap', cs, e, g6, g7⟩
  · exact .inl g4
  · refine .inr ⟨b', o, sp', cap', cs, e, ?_, g7⟩
    have q := k b' (g5 b' (by rw [e]; rfl)) (g6.lt hf) (fun q => hne (by rw [e, q]; rfl))
    unfold Cel Has at g6 ⊢
    rw [q]; exact g6

def EC (v : Value) (n : Nat) (lv : Value) (z : Int) (j5 j9 : Value) : L :=
  .cons 0 v (.cons 2 (.slice none 0 0) (.cons 3 lv (.cons 6 v (.cons 7 (.int .i64 (n : Int)) (.cons 8 (.int .i64 z) (.cons 5 j5 (.cons 9 j9 .nil)))))))

set_option maxHeartbeats 4000000 in
theorem copies_spec {h : T AObj} {c : Nat} {rl wl : List Nat} (hf : Fresh h c) {v : Value} {dim : Nat} {mid : List (List Int)} {U : Nat → Prop} (hm : MRow h v dim mid U) (hn : mid.length ≤ 1000) (hd : dim ≤ 1000) (hd1 : 1 ≤ dim) (R : Nat → Prop) (hUR : ∀ b, U b → R b) :
    ∃ r s', FnTo (Cs smQ) eg 51 [v] ⟨h, c, rl, wl⟩ r s' ∧ GRow s'.h r dim mid (fun b => c ≤ b ∧ b < s'.c) ∧ Ext ⟨h, c, rl, wl⟩ s' R (fun _ => False) := by
  obtain ⟨oa, cap, rfl⟩ := hm.val
  refine Fn.go (stdQ 51 rfl) ex51 fn51 km51 rfl rfl ?_
  intro e he
  (simp (decide := true) only [kz] at he; subst he)
  (repeat (first | (with_reducible refine Then.go ?_) | (with_reducible refine Wx.seq ?_) | (with_reducible refine Wx.block ?_) | (with_reducible refine Wx.reg ?_) | ((with_reducible refine Wseq.nil ?_); intro e he; (simp (decide := true) only [kz] at he; subst he)) | ((with_reducible apply Wseq.mv); rfl; (intro v hv; (simp (decide := true) only [kw] at hv); subst hv)) | ((with_reducible apply Wseq.as); rfl; (intro v hv; (simp (decide := true) only [kw] at hv); subst hv)) | ((with_reducible apply Wseq.stg (op := Op.call ⟨Callee.builtin Builtin.len, _, _⟩)); rfl; exact to_lenS (sl_ rfl) rfl)))
  refine Wx.loopE (fun k1 e s => ∃ (i : Nat) (z : Int) (lv j5 j9 : Value) (h' : T AObj) (c' : Nat) (rl' wl' : List Nat), e = EC (.slice oa mid.length cap) mid.length lv z j5 j9 ∧ z = i ∧ s = ⟨h', c', rl', wl'⟩ ∧ c ≤ c' ∧ Fresh h' c' ∧ Kp h h' c (fun _ => False) ∧ GRow h' lv dim (mid.take i) (fun b => c ≤ b ∧ b < c') ∧ Lg c R rl' ∧ Lg c (fun _ => False) wl' ∧ i ≤ mid.length ∧ k1 = mid.length - i) mid.length (EC (.slice oa mid.length cap) mid.length (.slice none 0 0) 0 top top) (by (repeat (first | (exact Resp.fn) | (apply Resp.then) | (apply Resp.out)))) ?_ ?_ ?_
  · unfold EC
    (refine EqK.of ?_ ?_ <;> (repeat (first | (exact all_nil) | (apply all_cons; rfl))))
  · exact ⟨0, 0, _, _, _, _, _, _, _, rfl, rfl, rfl, Nat.le_refl _, (by ((repeat (apply Fresh.put; omega)); ((assumption)))), (by (repeat ((exact Kp.refl)))), .inl ⟨rfl, rfl⟩, (by (repeat ((exact Lg.nil)))), (by (repeat ((exact Lg.nil)))), by omega, rfl⟩
  · rintro k1 e s ⟨i, z, lv, j5, j9, h', c', rl', wl', rfl, hz, rfl, hcc, hf', hkp, hV, hlr, hlw, hid, rfl⟩
    unfold EC
    by_cases hi : i < mid.length
    · have hm' := hm.keep hf (fun _ q => q) (fun b _ hb _ => hkp b hb (fun q => q))
      obtain ⟨g1, g2, b, sp, vals, a, k, rfl, g4, g5, g6, g7, g8⟩ := hm'.at (List.getElem?_eq_getElem hi)
      have lb := g5.lt hf'
      have rb := hUR b g4
      (repeat (first | (with_reducible refine Then.go ?_) | (with_reducible refine Wx.seq ?_) | (with_reducible refine Wx.skip ?_) | (with_reducible refine Wx.block ?_) | (with_reducible refine Wx.reg ?_) | (refine Wx.condT rfl (by rfl) ?_) | ((with_reducible refine Wseq.nil ?_); intro e he; (simp (decide := true) only [kz] at he; subst he)) | ((with_reducible apply Wseq.stg (op := Op.binOp BinOp.lss _ _ _ _)); rfl; exact to_lssT rfl rfl (by omega))))
      ((with_reducible apply Wseq.stg); (focus rfl); (focus (exact to_indexAddr (k := i) el22 rfl rfl hz hi)))
      ((with_reducible apply Wseq.stg); (focus rfl); (focus (exact to_load (pl_ rfl) rfl g5.cel (by omega) g6)))
      (repeat (first | (with_reducible refine Then.go ?_) | (with_reducible refine Wx.reg ?_) | ((with_reducible refine Wseq.nil ?_); intro e he; (simp (decide := true) only [kz] at he; subst he)) | ((with_reducible apply Wseq.mv); rfl; (intro v hv; (simp (decide := true) only [kw] at hv); subst hv)) | ((with_reducible apply Wseq.as); rfl; (intro v hv; (simp (decide := true) only [kw] at hv); subst hv))))
      refine Wseq.call rfl rfl (copy_spec stdQ (by ((repeat (apply Fresh.put; omega)); ((assumption)))) g7 (by unfold bigV; omega) (fun e => by omega) R (fun b o sp n' cap e => hUR b (g8 b (by rw [e]; rfl)))) ?_
      rintro w h1 c1 r1 w1 ⟨hown, hext⟩
      have kp := Kp.ext (W := fun _ => False) (h := h) (c := c) hkp hext (by omega) (fun _ _ q => q)
      have lr := Lg.extR (R := R) (c := c) (by (repeat (first | (assumption) | (apply Lg.cons; (focus ((right; (assumption)))))))) hext (fun _ _ q => q)
      have lw := Lg.extW (W := fun _ => False) (c := c) (by (repeat ((assumption)))) hext (fun _ _ q => q)
      have fr1 := hext.fresh
      have le1 := hext.c
      simp only at le1 fr1 hown
      have hV1 := hV.keep (U' := fun b => c ≤ b ∧ b < c1 + 2) hf' (fun _ q => ⟨q.1, by omega⟩) (fun b _ hb _ => hext.get hb (fun q => q))
      obtain ⟨wa, wk, rfl⟩ := hown.val
      have hrow := hown.row (by rw [List.length_map]; exact g1)
      have hwb : ∀ b', blkOf (.slice wa dim wk) = some b' → c ≤ b' ∧ b' < c1 + 2 := fun b' hb' => by have := (hown.blk hb').1; have := (hown.blk hb').2.lt fr1; omega
      have hst : mid.take (i + 1) = mid.take i ++ [mid[i]] := List.take_succ_eq_append_getElem hi
      have hl0 : (mid.take i).length = i := by rw [List.length_take]; omega
      have hbg : big = 1048576 := rfl
      rcases hV1 with ⟨rfl, hnil⟩ | ⟨bl, vals2, rfl, hne, hbl, hbc, hvl⟩
      · (repeat (((with_reducible apply Wseq.bs); rfl; exact (ro_ rfl); rfl; exact (by ((repeat (apply Fresh.put; omega)); ((assumption)))); (intro v hv; (simp (decide := true) only [kw] at hv); subst hv); refine ⟨_, rfl, ?_⟩)))
        ((with_reducible apply Wseq.stg); (focus rfl); (focus (exact to_appNil ro22 sl22 rfl rfl (k := 0) Has.same.cel (by omega) (subN_all _ _ rfl) (by omega) (by ((repeat (apply Fresh.put; omega)); ((exact Fresh.up (by assumption) (by omega))))))))
        (repeat (first | (with_reducible refine Then.go ?_) | (with_reducible refine Out.go ?_) | (with_reducible refine Wx.reg ?_) | ((with_reducible refine Wseq.nil ?_); intro e he; (simp (decide := true) only [kz] at he; subst he)) | ((with_reducible apply Wseq.mv); rfl; (intro v hv; (simp (decide := true) only [kw] at hv); subst hv)) | ((with_reducible apply Wseq.as); rfl; (intro v hv; (simp (decide := true) only [kw] at hv); subst hv)) | ((with_reducible apply Wseq.stg (op := Op.binOp BinOp.add _ _ _ _)); rfl; exact to_add rfl rfl (by omega) (by omega))))
        refine RoundE.go (mid.length - (i + 1)) (EC _ mid.length _ (z + 1) _ _) (by omega) (by (refine EqK.of ?_ ?_ <;> (repeat (first | (exact all_nil) | (apply all_cons; rfl))))) ⟨i + 1, z + 1, _, _, _, _, _, _, _, rfl, by omega, rfl, by omega, (by ((repeat (apply Fresh.put; omega)); ((exact Fresh.up (by assumption) (by omega))))), (by (repeat (first | (assumption) | (apply Kp.set; (focus (left; omega)))))), ?_, (by (repeat (first | (assumption) | (apply Lg.cons; (focus (left; omega)))))), (by (repeat ((assumption)))), by omega, rfl⟩
        have hi0 : i = 0 := by rw [hnil] at hl0; simpa using hl0.symm
        rw [hst, hnil]
        have hr2 : ∀ (h2 : T AObj), (∀ b, b < c1 → h2.get b = h1.get b) → Row h2 (.slice wa dim wk) dim 1 (mid[i].map (Value.int .i32)) := fun h2 k2 => Row.keepF hrow fr1 k2
        exact .inr ⟨c1 + 1, [.slice wa dim wk], rfl, (fun e => by cases e), by omega, Has.same, GVals.push .nil g1 g2 (hr2 _ fun b hb => by rw [get_other (by omega), get_other (by omega)]) hwb⟩
      · have l3 := hbc.lt fr1
        (repeat (((with_reducible apply Wseq.bs); rfl; exact (ro_ rfl); rfl; exact (by ((repeat (apply Fresh.put; omega)); ((assumption)))); (intro v hv; (simp (decide := true) only [kw] at hv); subst hv); refine ⟨_, rfl, ?_⟩)))
        ((with_reducible apply Wseq.stg); (focus rfl); (focus (exact to_appOwn ro22 sl22 rfl rfl (k := 0) Has.same.cel (by omega) (subN_all _ _ rfl) (by omega) (by omega) (by (repeat (first | (assumption) | (apply Has.other; omega)))) (by omega) (subN_all _ _ (by rw [hvl.1]; omega)) (all_cons rfl all_nil) (by ((repeat (apply Fresh.put; omega)); ((exact Fresh.up (by assumption) (by omega))))))))
        (repeat (first | (with_reducible refine Then.go ?_) | (with_reducible refine Out.go ?_) | (with_reducible refine Wx.reg ?_) | ((with_reducible refine Wseq.nil ?_); intro e he; (simp (decide := true) only [kz] at he; subst he)) | ((with_reducible apply Wseq.mv); rfl; (intro v hv; (simp (decide := true) only [kw] at hv); subst hv)) | ((with_reducible apply Wseq.as); rfl; (intro v hv; (simp (decide := true) only [kw] at hv); subst hv)) | ((with_reducible apply Wseq.stg (op := Op.binOp BinOp.add _ _ _ _)); rfl; exact to_add rfl rfl (by omega) (by omega))))
        refine RoundE.go (mid.length - (i + 1)) (EC _ mid.length _ (z + 1) _ _) (by omega) (by (refine EqK.of ?_ ?_ <;> (repeat (first | (exact all_nil) | (apply all_cons; rfl))))) ⟨i + 1, z + 1, _, _, _, _, _, _, _, rfl, by omega, rfl, by omega, (by ((repeat (apply Fresh.put; omega)); ((exact Fresh.up (by assumption) (by omega))))), (by (repeat (first | (assumption) | (apply Kp.set; (focus (left; omega)))))), ?_, (by (repeat (first | (assumption) | (apply Lg.cons; (focus (left; omega)))))), (by (repeat (first | (assumption) | (apply Lg.cons; (focus (left; omega)))))), by omega, rfl⟩
        have hlt : (mid.take i ++ [mid[i]]).length = (mid.take i).length + 1 := by rw [List.length_append]; rfl
        have hne2 : blkOf (.slice wa dim wk) ≠ some bl := hvl.ne hd1 hbc hrow g1
        have hk2 : ∀ (h2 : T AObj), (∀ b, b < c1 → b ≠ bl → h2.get b = h1.get b) → GVals h2 dim (mid.take i ++ [mid[i]]) (fun b => c ≤ b ∧ b < c1 + 2) (vals2 ++ [.slice wa dim wk]) := fun h2 k2 => (hvl.keep2 hd1 hbc fr1 (fun _ q => q) (fun b _ h1 h2 => k2 b h1 h2)).push g1 g2 (by
          rcases hrow with g | ⟨b', o, sp', cap', cs, e, g6, g7⟩
          · exact .inl g
          · refine .inr ⟨b', o, sp', cap', cs, e, ?_, g7⟩
            have q := k2 b' (g6.lt fr1) (fun q => hne2 (by rw [e, q]; rfl))
            unfold Cel Has at g6 ⊢
            rw [q]; exact g6) hwb
        rw [hst]
        refine .inr ⟨c1 + 1, vals2 ++ [.slice wa dim wk], by rw [hlt], (fun e => by have := congrArg List.length e; rw [hlt] at this; cases this), by omega, Has.same, hk2 _ fun b q1 q2 => ?_⟩
        rw [get_other (by omega), get_other (by omega), get_other (by omega)]
    · (repeat (first | (with_reducible refine Then.go ?_) | (with_reducible refine Then.ex ?_) | (with_reducible refine Out.hit ?_) | (with_reducible refine Wx.seq ?_) | (with_reducible refine Wx.exit ?_) | (with_reducible refine Wx.ret ?_) | (with_reducible refine Wx.reg ?_) | (with_reducible refine RoundE.ex ?_) | (refine Wx.condF rfl (by rfl) ?_) | ((with_reducible refine Wseq.nil ?_); intro e he; (simp (decide := true) only [kz] at he; subst he)) | ((with_reducible apply Wseq.mv); rfl; (intro v hv; (simp (decide := true) only [kw] at hv); subst hv)) | ((with_reducible apply Wseq.as); rfl; (intro v hv; (simp (decide := true) only [kw] at hv); subst hv)) | ((with_reducible apply Wseq.stg (op := Op.binOp BinOp.lss _ _ _ _)); rfl; exact to_lssF rfl rfl (by omega))))
      obtain rfl : i = mid.length := by omega
      rw [List.take_length] at hV
      refine ⟨.inr rfl, Wres.one rfl ⟨hV, ?_⟩⟩
      (dsimp only; exact Ext.of (by omega) (by ((repeat (apply Fresh.put; omega)); ((assumption)))) (by (repeat ((assumption)))) (by (repeat ((assumption)))) (by (repeat ((assumption)))))
end Go.Ab.Seat
