/- Vectors that come in, cut to size; hits, ids compared (the abstract machine). -/
import Derived.Test.YtcnfbfiakkjabaaGreatDoorDF7
import Derived.Test.YtcnfbfiakkjabaaGreatDoorDST5v
set_option linter.unusedVariables false
set_option linter.unusedSimpArgs false
namespace Go.Ab.Seat
open Go.Extern Go.Proofs
set_option linter.unusedSimpArgs false
set_option linter.unusedVariables false
set_option maxRecDepth 4000
set_option pp.deepTerms false
set_option pp.deepTerms.threshold 6
variable {sm : Nat → Option (List Value → M Value)}

/-- Vectors as they come in. -/
def VecsIn (h : T AObj) (v : Value) (zss : List (List Int)) : Prop :=
  ∃ oa cap, v = .slice oa zss.length cap ∧ ∀ (i : Nat) (zs : List Int), zss[i]? = some zs → ∃ b o sp cs a k, oa = some ⟨b, o, sp⟩ ∧ Cel h b cs ∧ nth cs (o + i * 1) = some (.slice a zs.length k) ∧ Row h (.slice a zs.length k) zs.length 1 (zs.map (Value.int .i32))

/-- Vectors of the call's own. -/
def VRow (h : T AObj) (c0 : Nat) (v : Value) (dim : Nat) (vss : List (List Int)) : Prop :=
  (v = .slice none 0 0 ∧ vss = []) ∨ ∃ b vals, v = .slice (some ⟨b, 0, some 1⟩) vss.length vss.length ∧ vss ≠ [] ∧ c0 ≤ b ∧ Has h b (.cells vals) ∧ vals.length = vss.length ∧ ∀ (i : Nat) (zs : List Int), vss[i]? = some zs → zs.length = dim ∧ ∃ bi, vals[i]? = some (.slice (some ⟨bi, 0, none⟩) dim dim) ∧ c0 ≤ bi ∧ Has h bi (.cells (zs.map (Value.int .i32)))

theorem VRow.keep {h h' : T AObj} {c c0 : Nat} {v : Value} {dim : Nat} {vss : List (List Int)} (x : VRow h c0 v dim vss) (hf : Fresh h c) (k : ∀ b, b < c → (∃ cs, Has h b (.cells cs)) → c0 ≤ b → h'.get b = h.get b) : VRow h' c0 v dim vss := by
  rcases x with x | ⟨b, vals, h1, h2, h3, h4, h5, h6⟩
  · exact .inl x
  · refine .inr ⟨b, vals, h1, h2, h3, (k b (h4.lt hf) ⟨_, h4⟩ h3).trans h4, h5, fun i zs hi => ?_⟩
    obtain ⟨g1, bi, g2, g3, g4⟩ := h6 i zs hi
    exact ⟨g1, bi, g2, g3, (k bi (g4.lt hf) ⟨_, g4⟩ g3).trans g4⟩
theorem VRow.val {h : T AObj} {c0 : Nat} {v : Value} {dim : Nat} {vss : List (List Int)} (x : VRow h c0 v dim vss) : ∃ oa, v = .slice oa vss.length vss.length := by
  rcases x with ⟨rfl, rfl⟩ | ⟨b, vals, h1, _⟩
  · exact ⟨_, rfl⟩
  · exact ⟨_, h1⟩
theorem VRow.at {h : T AObj} {c0 : Nat} {oa : Option Addr} {n cap dim : Nat} {vss : List (List Int)} (x : VRow h c0 (.slice oa n cap) dim vss) {i : Nat} {zs : List Int} (hi : vss[i]? = some zs) :
    zs.length = dim ∧ ∃ b vals bi, oa = some ⟨b, 0, some 1⟩ ∧ c0 ≤ b ∧ Has h b (.cells vals) ∧ nth vals (0 + i * 1) = some (.slice (some ⟨bi, 0, none⟩) dim dim) ∧ c0 ≤ bi ∧ Has h bi (.cells (zs.map (Value.int .i32))) := by
  rcases x with ⟨_, rfl⟩ | ⟨b, vals, h1, h2, h3, h4, h5, h6⟩
  · cases hi
  · obtain ⟨g1, bi, g2, g3, g4⟩ := h6 i zs hi
    simp only [Value.slice.injEq] at h1
    exact ⟨g1, b, vals, bi, h1.1, h3, h4, by rw [nth_eq, Nat.zero_add, Nat.mul_one]; exact g2, g3, g4⟩

def vecsZ (zss : List (List Int)) (dim n : Nat) : List (List Int) := (zss.take n).map fun zs => vecZ zs dim

def EVs (v : Value) (dim n : Nat) (lv : Value) (z : Int) (j17 : Value) : L :=
  .cons 0 v (.cons 1 (.int .i64 (dim : Int)) (.cons 2 (.int .i64 (n : Int)) (.cons 6 (.slice none 0 0) (.cons 7 lv (.cons 8 (.int .i64 z) (.cons 17 j17 .nil))))))

set_option maxHeartbeats 4000000 in
theorem vecs_spec (H : Std sm) {h : T AObj} {c : Nat} {rl wl : List Nat} (hf : Fresh h c) {v : Value} {zss : List (List Int)} (hv : VecsIn h v zss) (dim n : Nat) (hd : dim ≤ 1000) (hn : n ≤ 1000) (hb : zss.length ≤ 9223372036854775807) :
    ∃ r s', FnTo (Cs sm) eg 10 [v, .int .i64 (dim : Int), .int .i64 (n : Int)] ⟨h, c, rl, wl⟩ r s' ∧ VRow s'.h c r dim (vecsZ zss dim n) ∧ Ext ⟨h, c, rl, wl⟩ s' (fun _ => True) (fun _ => False) := by
  obtain ⟨oa, cap, rfl, hat⟩ := hv
  refine Fn.go (H 10 rfl) ex10 fn10 km10 rfl rfl ?_
  intro e he
  (simp only [ke, Nat.testBit, Nat.reduceShiftRight, Nat.reduceAnd, Nat.reduceBNe, Nat.reduceEqDiff, Nat.reduceAdd, ↓reduceIte, reduceCtorEq, Bool.false_eq_true] at he; subst he)
  (repeat (first | (with_reducible refine Then.go ?_) | (with_reducible refine Wx.seq ?_) | (with_reducible refine Wx.block ?_) | (with_reducible refine Wx.reg ?_) | ((with_reducible refine Wseq.nil ?_); intro e he; (simp only [ke, Nat.testBit, Nat.reduceShiftRight, Nat.reduceAnd, Nat.reduceBNe, Nat.reduceEqDiff, Nat.reduceAdd, ↓reduceIte, reduceCtorEq, Bool.false_eq_true] at he; subst he)) | ((with_reducible apply Wseq.as); rfl; (intro v hv; (simp only [kv, Nat.reduceEqDiff, eq_self, ↓reduceIte, reduceCtorEq, List.map_cons, List.map_nil] at hv); subst hv))))
  refine Wx.loopE (fun k1 e s => ∃ (i : Nat) (z : Int) (lv j17 : Value) (h' : T AObj) (c' : Nat) (rl' wl' : List Nat), e = EVs (.slice oa zss.length cap) dim n lv z j17 ∧ z = i ∧ s = ⟨h', c', rl', wl'⟩ ∧ c ≤ c' ∧ Fresh h' c' ∧ Kp h h' c (fun _ => False) ∧ VRow h' c lv dim (vecsZ zss dim i) ∧ Lg c (fun _ => False) wl' ∧ i ≤ n ∧ i ≤ zss.length ∧ k1 = n - i) n (EVs (.slice oa zss.length cap) dim n (.slice none 0 0) 0 top) (by (repeat (first | (with_reducible exact Resp.fn) | (with_reducible apply Resp.then) | (with_reducible apply Resp.out)))) ?_ ?_ ?_
  · unfold EVs
    (refine EqK.of ?_ ?_ <;> (repeat (first | (exact all_nil) | ((apply all_cons); rfl))))
  · exact ⟨0, 0, _, _, _, _, _, _, rfl, rfl, rfl, Nat.le_refl _, (by ((repeat ((with_reducible apply Fresh.put); omega)); ((with_reducible assumption)))), (by (repeat ((with_reducible exact Kp.refl)))), .inl ⟨rfl, rfl⟩, (by (repeat ((with_reducible exact Lg.nil)))), by omega, by omega, rfl⟩
  · rintro k1 e s ⟨i, z, lv, j17, h', c', rl', wl', rfl, hz, rfl, hcc, hf', hkp, hV, hlw, hin, hil, rfl⟩
    unfold EVs
    have fin : ¬(i < zss.length ∧ i < n) → vecsZ zss dim i = vecsZ zss dim n := fun hi => by
      unfold vecsZ
      congr 1
      rcases Nat.lt_or_ge i zss.length with h | h
      · rw [show i = n by omega]
      · rw [List.take_of_length_le h, List.take_of_length_le (by omega)]
    have lgR : ∀ l : List Nat, Lg c (fun _ => True) l := fun l b hb => .inr trivial
    by_cases hi1 : i < zss.length
    · by_cases hi2 : i < n
      · obtain ⟨b, o, sp, cs, a, k, rfl, hc0, hn0, hr0⟩ := hat i zss[i] (List.getElem?_eq_getElem hi1)
        have lb := hc0.lt hf
        have hc1 : Cel h' b cs := by unfold Cel Has at hc0 ⊢; rw [hkp b lb (fun q => q)]; exact hc0
        have hr1 := Row.keepF hr0 hf (fun b hb => hkp b hb (fun q => q))
        (repeat (first | (with_reducible refine Then.go ?_) | (with_reducible refine Wx.seq ?_) | (with_reducible refine Wx.skip ?_) | (with_reducible refine Wx.block ?_) | (with_reducible refine Wx.reg ?_) | (refine Wx.condT rfl (by ((rfl))) ?_) | ((with_reducible refine Wseq.nil ?_); intro e he; (simp only [ke, Nat.testBit, Nat.reduceShiftRight, Nat.reduceAnd, Nat.reduceBNe, Nat.reduceEqDiff, Nat.reduceAdd, ↓reduceIte, reduceCtorEq, Bool.false_eq_true] at he; subst he)) | ((with_reducible apply Wseq.mv); rfl; (intro v hv; (simp only [kv, Nat.reduceEqDiff, eq_self, ↓reduceIte, reduceCtorEq, List.map_cons, List.map_nil] at hv); subst hv)) | ((with_reducible apply Wseq.pkT); rfl; rfl; (intro v hv; (simp only [kv, Nat.reduceEqDiff, eq_self, ↓reduceIte, reduceCtorEq, List.map_cons, List.map_nil] at hv); subst hv)) | ((with_reducible apply Wseq.stg (op := Op.call ⟨Callee.builtin Builtin.len, _, _⟩)); rfl; exact to_lenS (sl_ rfl) rfl) | ((with_reducible apply Wseq.stg (op := Op.binOp BinOp.lss _ _ _ _)); rfl; exact to_lssT rfl rfl (by omega))))
        ((with_reducible apply Wseq.stg); (focus rfl); (focus (exact to_indexAddr (k := i) el22 rfl rfl hz hi1)))
        ((with_reducible apply Wseq.stg); (focus rfl); (focus (exact to_load (pl_ rfl) rfl hc1 (by omega) hn0)))
        (repeat (((with_reducible apply Wseq.mv); rfl; (intro v hv; (simp only [kv, Nat.reduceEqDiff, eq_self, ↓reduceIte, reduceCtorEq, List.map_cons, List.map_nil] at hv); subst hv))))
        refine Wseq.call rfl rfl (vec_spec H (by ((repeat ((with_reducible apply Fresh.put); omega)); ((with_reducible assumption)))) rfl hr1 dim hd (fun _ => True) (fun _ _ => trivial)) ?_
        rintro w h1 c1 r1 w1 ⟨⟨rfl, hnew⟩, hext⟩
        have kp := Kp.ext (W := fun _ => False) (h := h) (c := c) hkp hext (by omega) (fun _ _ q => q)
        have lw := Lg.extW (W := fun _ => False) (c := c) (by (repeat ((with_reducible assumption)))) hext (fun _ _ q => q)
        have fr1 := hext.fresh
        have le1 := hext.c
        have lnew := hnew.lt fr1
        simp only at le1 fr1 lnew
        have hbv' : ∀ b, blkOf lv = some b → b < c' := by
          intro b hb
          rcases hV with ⟨rfl, _⟩ | ⟨bl, vals, rfl, _, _, q, _⟩
          · cases hb
          · cases hb; exact q.lt hf'
        have hV1 := hV.keep hf' (fun b hb _ _ => hext.get hb (fun q => q))
        have hst : vecsZ zss dim (i + 1) = vecsZ zss dim i ++ [vecZ zss[i] dim] := by
          unfold vecsZ
          rw [List.take_succ_eq_append_getElem hi1, List.map_append]; rfl
        have hlen : (vecsZ zss dim i).length = i := by unfold vecsZ; rw [List.length_map, List.length_take]; omega
        have hbg : big = 1048576 := rfl
        rcases hV1 with ⟨rfl, hnil⟩ | ⟨bl, vals, rfl, hne, hbl, hbc, hvl, hel⟩
        · (repeat (((with_reducible apply Wseq.bs); rfl; exact (ro_ rfl); rfl; exact (by ((repeat ((with_reducible apply Fresh.put); omega)); ((with_reducible assumption)))); (intro v hv; (simp only [kv, Nat.reduceEqDiff, eq_self, ↓reduceIte, reduceCtorEq, List.map_cons, List.map_nil] at hv); subst hv); refine ⟨_, rfl, ?_⟩)))
          ((with_reducible apply Wseq.stg); (focus rfl); (focus (exact to_appNil ro22 sl22 rfl rfl (k := 0) Has.same.cel (by omega) (subN_all _ _ rfl) (by omega) (by ((repeat ((with_reducible apply Fresh.put); omega)); ((exact Fresh.up (by with_reducible assumption) (by omega))))))))
          (repeat (first | (with_reducible refine Then.go ?_) | (with_reducible refine Out.go ?_) | (with_reducible refine Wx.reg ?_) | ((with_reducible refine Wseq.nil ?_); intro e he; (simp only [ke, Nat.testBit, Nat.reduceShiftRight, Nat.reduceAnd, Nat.reduceBNe, Nat.reduceEqDiff, Nat.reduceAdd, ↓reduceIte, reduceCtorEq, Bool.false_eq_true] at he; subst he)) | ((with_reducible apply Wseq.mv); rfl; (intro v hv; (simp only [kv, Nat.reduceEqDiff, eq_self, ↓reduceIte, reduceCtorEq, List.map_cons, List.map_nil] at hv); subst hv)) | ((with_reducible apply Wseq.as); rfl; (intro v hv; (simp only [kv, Nat.reduceEqDiff, eq_self, ↓reduceIte, reduceCtorEq, List.map_cons, List.map_nil] at hv); subst hv)) | ((with_reducible apply Wseq.stg (op := Op.binOp BinOp.add _ _ _ _)); rfl; exact to_add rfl rfl (by omega) (by omega))))
          refine RoundE.go (n - (i + 1)) (EVs _ dim n _ (z + 1) _) (by omega) (by (refine EqK.of ?_ ?_ <;> (repeat (first | (exact all_nil) | ((apply all_cons); rfl))))) ⟨i + 1, z + 1, _, _, _, _, _, _, rfl, by omega, rfl, by omega, (by ((repeat ((with_reducible apply Fresh.put); omega)); ((exact Fresh.up (by with_reducible assumption) (by omega))))), (by (repeat (first | (with_reducible assumption) | ((with_reducible apply Kp.set); (focus ((left; omega))))))), ?_, (by (repeat ((with_reducible assumption)))), by omega, by omega, rfl⟩
          have hi0 : i = 0 := by rw [hnil] at hlen; simpa using hlen.symm
          rw [hst, hnil]
          refine .inr ⟨c1 + 1, [.slice (some ⟨c', 0, none⟩) dim dim], rfl, (fun e => by cases e), by omega, Has.same, rfl, fun j zs hj => ?_⟩
          cases j with
          | succ j => simp at hj
          | zero =>
            simp only [List.nil_append, List.getElem?_cons_zero, Option.some.injEq] at hj
            subst hj
            exact ⟨vecZ_len _ _, c', rfl, hcc, (hnew.other (by omega)).other (by omega)⟩
        · have l3 := hbc.lt fr1
          (repeat (((with_reducible apply Wseq.bs); rfl; exact (ro_ rfl); rfl; exact (by ((repeat ((with_reducible apply Fresh.put); omega)); ((with_reducible assumption)))); (intro v hv; (simp only [kv, Nat.reduceEqDiff, eq_self, ↓reduceIte, reduceCtorEq, List.map_cons, List.map_nil] at hv); subst hv); refine ⟨_, rfl, ?_⟩)))
          ((with_reducible apply Wseq.stg); (focus rfl); (focus (exact to_appOwn ro22 sl22 rfl rfl (k := 0) Has.same.cel (by omega) (subN_all _ _ rfl) (by omega) (by omega) (hbc.other (by omega)) (by omega) (subN_all _ _ (by omega)) (all_cons rfl all_nil) (by ((repeat ((with_reducible apply Fresh.put); omega)); ((exact Fresh.up (by with_reducible assumption) (by omega))))))))
          (repeat (first | (with_reducible refine Then.go ?_) | (with_reducible refine Out.go ?_) | (with_reducible refine Wx.reg ?_) | ((with_reducible refine Wseq.nil ?_); intro e he; (simp only [ke, Nat.testBit, Nat.reduceShiftRight, Nat.reduceAnd, Nat.reduceBNe, Nat.reduceEqDiff, Nat.reduceAdd, ↓reduceIte, reduceCtorEq, Bool.false_eq_true] at he; subst he)) | ((with_reducible apply Wseq.mv); rfl; (intro v hv; (simp only [kv, Nat.reduceEqDiff, eq_self, ↓reduceIte, reduceCtorEq, List.map_cons, List.map_nil] at hv); subst hv)) | ((with_reducible apply Wseq.as); rfl; (intro v hv; (simp only [kv, Nat.reduceEqDiff, eq_self, ↓reduceIte, reduceCtorEq, List.map_cons, List.map_nil] at hv); subst hv)) | ((with_reducible apply Wseq.stg (op := Op.binOp BinOp.add _ _ _ _)); rfl; exact to_add rfl rfl (by omega) (by omega))))
          refine RoundE.go (n - (i + 1)) (EVs _ dim n _ (z + 1) _) (by omega) (by (refine EqK.of ?_ ?_ <;> (repeat (first | (exact all_nil) | ((apply all_cons); rfl))))) ⟨i + 1, z + 1, _, _, _, _, _, _, rfl, by omega, rfl, by omega, (by ((repeat ((with_reducible apply Fresh.put); omega)); ((exact Fresh.up (by with_reducible assumption) (by omega))))), (by (repeat (first | (with_reducible assumption) | ((with_reducible apply Kp.set); (focus ((left; omega))))))), ?_, (by (repeat (first | (with_reducible assumption) | ((with_reducible apply Lg.cons); (focus ((left; omega))))))), by omega, by omega, rfl⟩
          rw [hst]
          refine .inr ⟨c1 + 1, _, ?_, (fun e => by simp at e), by omega, Has.same, ?_, fun j zs hj => ?_⟩
          · rw [List.length_append]; rfl
          · rw [List.length_append, List.length_append, hvl]; rfl
          · rcases Nat.lt_or_ge j (vecsZ zss dim i).length with hj1 | hj1
            · rw [List.getElem?_append_left hj1] at hj
              obtain ⟨g1, bi, g2, g3, g4⟩ := hel j zs hj
              refine ⟨g1, bi, by rw [List.getElem?_append_left (by omega)]; exact g2, g3, ?_⟩
              have := g4.lt fr1
              have nb : bi ≠ bl := by
                rintro rfl
                unfold Has at g4 hbc
                rw [g4] at hbc
                cases hbc
                rw [List.getElem?_map, Option.map_eq_some_iff] at g2
                obtain ⟨y, _, hy⟩ := g2
                cases hy
              exact ((g4.other (by omega)).other nb).other (by omega)
            · rw [List.getElem?_append_right hj1] at hj
              have hj0 : j - (vecsZ zss dim i).length = 0 := by
                rcases Nat.eq_zero_or_pos (j - (vecsZ zss dim i).length) with q | q
                · exact q
                · rw [List.getElem?_eq_none (by simp; omega)] at hj; cases hj
              rw [hj0] at hj
              simp only [List.getElem?_cons_zero, Option.some.injEq] at hj
              subst hj
              refine ⟨vecZ_len _ _, c', by rw [List.getElem?_append_right (by omega), hvl, hj0]; rfl, hcc, ?_⟩
              have nb : c' ≠ bl := by have := hbv' bl rfl; omega
              exact ((hnew.other (by omega)).other nb).other (by omega)
      · (repeat (first | (with_reducible refine Then.go ?_) | (with_reducible refine Then.ex ?_) | (with_reducible refine Out.hit ?_) | (with_reducible refine Wx.seq ?_) | (with_reducible refine Wx.exit ?_) | (with_reducible refine Wx.ret ?_) | (with_reducible refine Wx.reg ?_) | (with_reducible refine RoundE.ex ?_) | (refine Wx.condF rfl (by ((rfl))) ?_) | ((with_reducible refine Wseq.nil ?_); intro e he; (simp only [ke, Nat.testBit, Nat.reduceShiftRight, Nat.reduceAnd, Nat.reduceBNe, Nat.reduceEqDiff, Nat.reduceAdd, ↓reduceIte, reduceCtorEq, Bool.false_eq_true] at he; subst he)) | ((with_reducible apply Wseq.mv); rfl; (intro v hv; (simp only [kv, Nat.reduceEqDiff, eq_self, ↓reduceIte, reduceCtorEq, List.map_cons, List.map_nil] at hv); subst hv)) | ((with_reducible apply Wseq.as); rfl; (intro v hv; (simp only [kv, Nat.reduceEqDiff, eq_self, ↓reduceIte, reduceCtorEq, List.map_cons, List.map_nil] at hv); subst hv)) | ((with_reducible apply Wseq.pkT); rfl; rfl; (intro v hv; (simp only [kv, Nat.reduceEqDiff, eq_self, ↓reduceIte, reduceCtorEq, List.map_cons, List.map_nil] at hv); subst hv)) | ((with_reducible apply Wseq.stg (op := Op.call ⟨Callee.builtin Builtin.len, _, _⟩)); rfl; exact to_lenS (sl_ rfl) rfl) | ((with_reducible apply Wseq.stg (op := Op.binOp BinOp.lss _ _ _ _)); rfl; exact to_lssT rfl rfl (by omega)) | ((with_reducible apply Wseq.stg (op := Op.binOp BinOp.lss _ _ _ _)); rfl; exact to_lssF rfl rfl (by omega))))
        refine ⟨.inr rfl, Wres.one rfl ⟨?_, ?_⟩⟩
        · rw [← fin (by omega)]; exact hV
        · exact Ext.of hcc hf' hkp (lgR _) (by (repeat ((with_reducible assumption))))
    · (repeat (first | (with_reducible refine Then.go ?_) | (with_reducible refine Then.ex ?_) | (with_reducible refine Out.hit ?_) | (with_reducible refine Wx.seq ?_) | (with_reducible refine Wx.exit ?_) | (with_reducible refine Wx.ret ?_) | (with_reducible refine Wx.reg ?_) | (with_reducible refine RoundE.ex ?_) | (refine Wx.condF rfl (by ((rfl))) ?_) | ((with_reducible refine Wseq.nil ?_); intro e he; (simp only [ke, Nat.testBit, Nat.reduceShiftRight, Nat.reduceAnd, Nat.reduceBNe, Nat.reduceEqDiff, Nat.reduceAdd, ↓reduceIte, reduceCtorEq, Bool.false_eq_true] at he; subst he)) | ((with_reducible apply Wseq.mv); rfl; (intro v hv; (simp only [kv, Nat.reduceEqDiff, eq_self, ↓reduceIte, reduceCtorEq, List.map_cons, List.map_nil] at hv); subst hv)) | ((with_reducible apply Wseq.as); rfl; (intro v hv; (simp only [kv, Nat.reduceEqDiff, eq_self, ↓reduceIte, reduceCtorEq, List.map_cons, List.map_nil] at hv); subst hv)) | ((with_reducible apply Wseq.pkF); rfl; rfl; (intro v hv; (simp only [kv, Nat.reduceEqDiff, eq_self, ↓reduceIte, reduceCtorEq, List.map_cons, List.map_nil] at hv); subst hv)) | ((with_reducible apply Wseq.stg (op := Op.call ⟨Callee.builtin Builtin.len, _, _⟩)); rfl; exact to_lenS (sl_ rfl) rfl) | ((with_reducible apply Wseq.stg (op := Op.binOp BinOp.lss _ _ _ _)); rfl; exact to_lssF rfl rfl (by omega)) | (refine Wseq.no rfl ?_)))
      refine ⟨.inr rfl, Wres.one rfl ⟨?_, ?_⟩⟩
      · rw [← fin (by omega)]; exact hV
      · exact Ext.of hcc hf' hkp (lgR _) (by (repeat ((with_reducible assumption))))

end Go.Ab.Seat
