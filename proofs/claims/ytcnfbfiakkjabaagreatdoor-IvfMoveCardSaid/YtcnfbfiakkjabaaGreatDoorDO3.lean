/- The places of middles, the nearest first (the abstract machine). -/
import Derived.Test.YtcnfbfiakkjabaaGreatDoorDV1
set_option linter.unusedVariables false
set_option linter.unusedSimpArgs false
namespace Go.Ab.Seat
open Go.Extern Go.Proofs
set_option linter.unusedSimpArgs false
set_option linter.unusedVariables false
set_option maxRecDepth 4000
set_option pp.deepTerms false
set_option pp.deepTerms.threshold 6

/-- Slices of so many numbers, cut to size; they lie in U. -/
def GVals (h : T AObj) (dim : Nat) (mid : List (List Int)) (U : Nat → Prop) (vals : List Value) : Prop :=
  vals.length = mid.length ∧ ∀ (i : Nat) (zs : List Int), mid[i]? = some zs → zs.length = dim ∧ Bnd zs ∧ ∃ a k, vals[i]? = some (.slice a dim k) ∧ Row h (.slice a dim k) dim 1 (zs.map (Value.int .i32)) ∧ ∀ b', blkOf (.slice a dim k) = some b' → U b'
theorem GVals.nil {h : T AObj} {dim : Nat} {U : Nat → Prop} : GVals h dim [] U [] := ⟨rfl, fun i zs hi => by cases hi⟩
theorem GVals.keep {h h' : T AObj} {c dim : Nat} {mid : List (List Int)} {U U' : Nat → Prop} {vals : List Value} (x : GVals h dim mid U vals) (hf : Fresh h c) (hU : ∀ b, U b → U' b) (k : ∀ b, U b → b < c → (∃ cs, Cel h b cs) → h'.get b = h.get b) : GVals h' dim mid U' vals := by
  refine ⟨x.1, fun i zs hi => ?_⟩
  obtain ⟨g1, g2, a, kk, g3, g4, g5⟩ := x.2 i zs hi
  refine ⟨g1, g2, a, kk, g3, ?_, fun b' hb' => hU b' (g5 b' hb')⟩
  rcases g4 with g4 | ⟨b', o, sp', cap', cs, e, g6, g7⟩
  · exact .inl g4
  · refine .inr ⟨b', o, sp', cap', cs, e, ?_, g7⟩
    have q := k b' (g5 b' (by rw [e]; rfl)) (g6.lt hf) ⟨_, g6⟩
    unfold Cel Has at g6 ⊢
    rw [q]; exact g6
theorem GVals.push {h : T AObj} {dim k : Nat} {mid : List (List Int)} {zs : List Int} {U : Nat → Prop} {vals : List Value} {a : Option Addr} (x : GVals h dim mid U vals) (h1 : zs.length = dim) (h2 : Bnd zs) (h3 : Row h (.slice a dim k) dim 1 (zs.map (Value.int .i32))) (h4 : ∀ b', blkOf (.slice a dim k) = some b' → U b') : GVals h dim (mid ++ [zs]) U (vals ++ [.slice a dim k]) := by
  refine ⟨by rw [List.length_append, List.length_append, x.1]; rfl, fun i ys hi => ?_⟩
  rcases Nat.lt_or_ge i mid.length with q | q
  · rw [List.getElem?_append_left q] at hi
    rw [List.getElem?_append_left (by rw [x.1]; exact q)]
    exact x.2 i ys hi
  · rw [List.getElem?_append_right q] at hi
    rw [List.getElem?_append_right (by rw [x.1]; exact q), x.1]
    cases e : i - mid.length with
    | succ j => rw [e] at hi; simp at hi
    | zero =>
      rw [e] at hi
      simp only [List.getElem?_cons_zero, Option.some.injEq] at hi
      subst hi
      exact ⟨h1, h2, a, k, rfl, h3, h4⟩

/-- Vectors in a row: each of so many numbers, cut to size; they lie in U. -/
def MRow (h : T AObj) (v : Value) (dim : Nat) (mid : List (List Int)) (U : Nat → Prop) : Prop :=
  (v = .slice none 0 0 ∧ mid = []) ∨ ∃ b sp cap vals, v = .slice (some ⟨b, 0, sp⟩) mid.length cap ∧ mid ≠ [] ∧ mid.length ≤ cap ∧ U b ∧ Has h b (.cells vals) ∧ GVals h dim mid U vals
/-- Vectors in a row that has grown. -/
def GRow (h : T AObj) (v : Value) (dim : Nat) (mid : List (List Int)) (U : Nat → Prop) : Prop :=
  (v = .slice none 0 0 ∧ mid = []) ∨ ∃ b vals, v = .slice (some ⟨b, 0, some 1⟩) mid.length mid.length ∧ mid ≠ [] ∧ U b ∧ Has h b (.cells vals) ∧ GVals h dim mid U vals
theorem GRow.mrow {h : T AObj} {v : Value} {dim : Nat} {mid : List (List Int)} {U : Nat → Prop} (x : GRow h v dim mid U) : MRow h v dim mid U := by
  rcases x with x | ⟨b, vals, h1, h2, h3, h4, h5⟩
  · exact .inl x
  · exact .inr ⟨b, some 1, _, vals, h1, h2, Nat.le_refl _, h3, h4, h5⟩
theorem GRow.keep {h h' : T AObj} {c : Nat} {v : Value} {dim : Nat} {mid : List (List Int)} {U U' : Nat → Prop} (x : GRow h v dim mid U) (hf : Fresh h c) (hU : ∀ b, U b → U' b) (k : ∀ b, U b → b < c → (∃ cs, Cel h b cs) → h'.get b = h.get b) : GRow h' v dim mid U' := by
  rcases x with x | ⟨b, vals, h1, h2, h3, h4, h5⟩
  · exact .inl x
  · exact .inr ⟨b, vals, h1, h2, hU b h3, (k b h3 (h4.lt hf) ⟨_, h4.cel⟩).trans h4, h5.keep hf hU k⟩
theorem MRow.val {h : T AObj} {v : Value} {dim : Nat} {mid : List (List Int)} {U : Nat → Prop} (x : MRow h v dim mid U) : ∃ oa cap, v = .slice oa mid.length cap := by
  rcases x with ⟨rfl, rfl⟩ | ⟨b, sp, cap, vals, h1, _⟩
  · exact ⟨_, _, rfl⟩
  · exact ⟨_, _, h1⟩
theorem MRow.at {h : T AObj} {oa : Option Addr} {n cap dim : Nat} {mid : List (List Int)} {U : Nat → Prop} (x : MRow h (.slice oa n cap) dim mid U) {i : Nat} {zs : List Int} (hi : mid[i]? = some zs) :
    zs.length = dim ∧ Bnd zs ∧ ∃ b sp vals a k, oa = some ⟨b, 0, sp⟩ ∧ U b ∧ Has h b (.cells vals) ∧ nth vals (0 + i * 1) = some (.slice a dim k) ∧ Row h (.slice a dim k) dim 1 (zs.map (Value.int .i32)) ∧ ∀ b', blkOf (.slice a dim k) = some b' → U b' := by
  rcases x with ⟨_, rfl⟩ | ⟨b, sp, cap', vals, h1, h2, h3, h4, h5, h6, h7⟩
  · cases hi
  · obtain ⟨g1, g2, a, k, g3, g4, g5⟩ := h7 i zs hi
    simp only [Value.slice.injEq] at h1
    exact ⟨g1, g2, b, sp, vals, a, k, h1.1, h4, h5, by rw [nth_eq, Nat.zero_add, Nat.mul_one]; exact g3, g4, g5⟩
theorem MRow.keep {h h' : T AObj} {c : Nat} {v : Value} {dim : Nat} {mid : List (List Int)} {U U' : Nat → Prop} (x : MRow h v dim mid U) (hf : Fresh h c) (hU : ∀ b, U b → U' b) (k : ∀ b, U b → b < c → (∃ cs, Cel h b cs) → h'.get b = h.get b) : MRow h' v dim mid U' := by
  rcases x with x | ⟨b, sp, cap, vals, h1, h2, h3, h4, h5, h6⟩
  · exact .inl x
  · exact .inr ⟨b, sp, cap, vals, h1, h2, h3, hU b h4, (k b h4 (h5.lt hf) ⟨_, h5.cel⟩).trans h5, h6.keep hf hU k⟩
theorem VRow.mrow {h : T AObj} {c0 : Nat} {v : Value} {dim : Nat} {vss : List (List Int)} (x : VRow h c0 v dim vss) (hb : ∀ zs ∈ vss, Bnd zs) : MRow h v dim vss (fun b => c0 ≤ b) := by
  rcases x with x | ⟨b, vals, h1, h2, h3, h4, h5, h6⟩
  · exact .inl x
  · refine .inr ⟨b, some 1, _, vals, h1, h2, Nat.le_refl _, h3, h4, h5, fun i zs hi => ?_⟩
    obtain ⟨g1, bi, g2, g3, g4⟩ := h6 i zs hi
    refine ⟨g1, hb zs (List.mem_of_getElem? hi), _, _, g2, .inr ⟨bi, 0, none, dim, _, rfl, g4.cel, subN_all _ _ (by rw [List.length_map]; omega)⟩, fun b' hb' => ?_⟩
    cases hb'
    exact g3

/-- The middles' hits, by a vector. -/
def hitO (qs : List Int) (mid : List (List Int)) : List Ht := (List.range mid.length).map fun (i : Nat) => ⟨(i : Int), scoreZ 1 (mid.getD i []) qs⟩
theorem hitO_len (qs : List Int) (mid : List (List Int)) : (hitO qs mid).length = mid.length := by unfold hitO; simp
theorem hitO_at {qs : List Int} {mid : List (List Int)} {i : Nat} {zs : List Int} (hi : mid[i]? = some zs) : (hitO qs mid)[i]? = some ⟨(i : Int), scoreZ 1 zs qs⟩ := by
  obtain ⟨h1, h2⟩ := List.getElem?_eq_some_iff.1 hi
  unfold hitO
  rw [List.getElem?_map, List.getElem?_eq_getElem (by simpa using h1), List.getElem_range]
  show some (⟨(i : Int), scoreZ 1 (mid.getD i []) qs⟩ : Ht) = _
  rw [List.getD_eq_getElem?_getD, hi]; rfl
theorem hitO_nodup (qs : List Int) (mid : List (List Int)) : ((hitO qs mid).map Ht.id).Nodup := by
  unfold hitO
  rw [List.map_map]
  exact (List.pairwise_map.2 ((List.nodup_range (n := mid.length)).imp fun {a b} h => by
    show ((a : Nat) : Int) ≠ ((b : Nat) : Int)
    omega))
/-- The places, the nearest first. -/
def ordZ (mid : List (List Int)) (qs : List Int) : List Int := (bestOf mid.length (hitO qs mid)).map Ht.id

theorem rep_hits (n : Nat) : rep [Value.int .i64 0, .int .i64 0] n = flatH (List.replicate n ⟨0, 0⟩) := by
  induction n with
  | zero => rfl
  | succ n ih => rw [List.replicate_succ]; show _ = [Value.int .i64 0, .int .i64 0] ++ flatH _; rw [← ih]; rfl

/-- Numbers that grow. -/
def HI (h : T AObj) (c0 : Nat) (v : Value) (l : List Int) : Prop := (v = .slice none 0 0 ∧ l = []) ∨ ∃ b, v = .slice (some ⟨b, 0, some 1⟩) l.length l.length ∧ l ≠ [] ∧ c0 ≤ b ∧ Has h b (.cells (l.map (Value.int .i64)))

theorem hit_step {l : List Ht} {i n : Nat} {x : Ht} (hn : l.length = n) (hi : i < n) (hx : l[i]? = some x) : setMany [.int .i64 x.id, .int .i64 x.sc] (flatH (l.take i ++ List.replicate (n - i) ⟨0, 0⟩)) (0 + i * 2) = some (flatH (l.take (i + 1) ++ List.replicate (n - (i + 1)) ⟨0, 0⟩)) := by
  have e1 : List.replicate (n - i) (⟨0, 0⟩ : Ht) = ⟨0, 0⟩ :: List.replicate (n - (i + 1)) ⟨0, 0⟩ := by rw [← List.replicate_succ]; congr 1; omega
  have e2 : (l.take i).length = i := by rw [List.length_take]; omega
  have h1 := setH (A := l.take i) (B := List.replicate (n - (i + 1)) ⟨0, 0⟩) (y := x) (x := ⟨0, 0⟩)
  rw [e2] at h1
  rw [e1, h1]
  obtain ⟨q1, q2⟩ := List.getElem?_eq_some_iff.1 hx
  rw [List.take_succ_eq_append_getElem q1, q2, List.append_assoc]; rfl

def EO (v q : Value) (n c : Nat) (z : Int) (j6 j7 j17 : Value) : L :=
  .cons 1 q (.cons 0 v (.cons 4 (.slice none 0 0) (.cons 5 (.slice (some ⟨c, 0, none⟩) n n) (.cons 14 v (.cons 15 (.int .i64 (n : Int)) (.cons 16 (.int .i64 z) (.cons 6 j6 (.cons 7 j7 (.cons 17 j17 .nil)))))))))
def EO2 (v q : Value) (n c : Nat) (j6 j7 j17 lv : Value) (z : Int) (j10 j35 : Value) : L :=
  .cons 1 q (.cons 0 v (.cons 4 (.slice none 0 0) (.cons 5 (.slice (some ⟨c, 0, none⟩) n n) (.cons 14 v (.cons 15 (.int .i64 (n : Int)) (.cons 16 (.int .i64 (n : Int)) (.cons 6 j6 (.cons 7 j7 (.cons 17 j17 (.cons 8 lv (.cons 32 (.slice (some ⟨c, 0, none⟩) n n) (.cons 33 (.int .i64 (n : Int)) (.cons 34 (.int .i64 z) (.cons 10 j10 (.cons 35 j35 .nil)))))))))))))))

set_option maxHeartbeats 4000000 in
theorem order_spec {h : T AObj} {c : Nat} {rl wl : List Nat} (hf : Fresh h c) {v : Value} {dim : Nat} {mid : List (List Int)} {U : Nat → Prop} (hm : MRow h v dim mid U) (hn : mid.length ≤ 12) (hd : dim ≤ 1000) {qa : Option Addr} {qc : Nat} {qs : List Int} (hq : Row h (.slice qa dim qc) dim 1 (qs.map (Value.int .i32))) (hqn : qs.length = dim) (hqb : Bnd qs) (R : Nat → Prop) (hUR : ∀ b, U b → R b) (hqR : ∀ b, blkOf (.slice qa dim qc) = some b → R b) :
    ∃ r s', FnTo (Cs smQ) eg 52 [v, .slice qa dim qc] ⟨h, c, rl, wl⟩ r s' ∧ HI s'.h c r (ordZ mid qs) ∧ Ext ⟨h, c, rl, wl⟩ s' R (fun _ => False) := by
  obtain ⟨oa, cap, rfl⟩ := hm.val
  have hlen := hitO_len qs mid
  refine Fn.go (stdQ 52 rfl) ex52 fn52 km52 rfl rfl ?_
  intro e he
  (simp (decide := true) only [kz] at he; subst he)
  (repeat (first | (with_reducible refine Then.go ?_) | (with_reducible refine Wx.seq ?_) | (with_reducible refine Wx.reg ?_) | ((with_reducible refine Wseq.nil ?_); intro e he; (simp (decide := true) only [kz] at he; subst he)) | ((with_reducible apply Wseq.mv); rfl; (intro v hv; (simp (decide := true) only [kw] at hv); subst hv)) | ((with_reducible apply Wseq.as); rfl; (intro v hv; (simp (decide := true) only [kw] at hv); subst hv)) | ((with_reducible apply Wseq.stg (op := Op.call ⟨Callee.builtin Builtin.len, _, _⟩)); rfl; exact to_lenS (sl_ rfl) rfl)))
  ((with_reducible apply Wseq.stg); (focus rfl); (focus (exact to_makeSlice (a := mid.length) (b := mid.length) ro32 rfl rfl rfl rfl (by omega) (by unfold big; omega) (by ((repeat (apply Fresh.put; omega)); ((assumption)))))))
  (repeat (first | (with_reducible refine Then.go ?_) | (with_reducible refine Wx.seq ?_) | (with_reducible refine Wx.block ?_) | (with_reducible refine Wx.reg ?_) | ((with_reducible refine Wseq.nil ?_); intro e he; (simp (decide := true) only [kz] at he; subst he)) | ((with_reducible apply Wseq.mv); rfl; (intro v hv; (simp (decide := true) only [kw] at hv); subst hv)) | ((with_reducible apply Wseq.as); rfl; (intro v hv; (simp (decide := true) only [kw] at hv); subst hv)) | ((with_reducible apply Wseq.stg (op := Op.call ⟨Callee.builtin Builtin.len, _, _⟩)); rfl; exact to_lenS (sl_ rfl) rfl)))
  refine Wx.cutO (fun e s => ∃ (j6 j7 j17 : Value) (h' : T AObj) (rl' wl' : List Nat), e = EO (.slice oa mid.length cap) (.slice qa dim qc) mid.length c mid.length j6 j7 j17 ∧ s = ⟨h', c + 1, rl', wl'⟩ ∧ Fresh h' (c + 1) ∧ Kp h h' c (fun _ => False) ∧ Has h' c (.cells (flatH (hitO qs mid))) ∧ Lg c R rl' ∧ Lg c (fun _ => False) wl') (by (repeat ((exact Resp.fn)))) ?_ ?_
  · refine Wx.loopE (fun k1 e s => ∃ (i : Nat) (z : Int) (j6 j7 j17 : Value) (h' : T AObj) (rl' wl' : List Nat), e = EO (.slice oa mid.length cap) (.slice qa dim qc) mid.length c z j6 j7 j17 ∧ z = i ∧ s = ⟨h', c + 1, rl', wl'⟩ ∧ Fresh h' (c + 1) ∧ Kp h h' c (fun _ => False) ∧ Has h' c (.cells (flatH ((hitO qs mid).take i ++ List.replicate (mid.length - i) ⟨0, 0⟩))) ∧ Lg c R rl' ∧ Lg c (fun _ => False) wl' ∧ i ≤ mid.length ∧ k1 = mid.length - i) mid.length (EO (.slice oa mid.length cap) (.slice qa dim qc) mid.length c 0 top top top) (by (repeat (first | (exact Resp.fn) | (apply Resp.out) | (apply Resp.cut)))) ?_ ?_ ?_
    · unfold EO
      (refine EqK.of ?_ ?_ <;> (repeat (first | (exact all_nil) | (apply all_cons; rfl))))
    · refine ⟨0, 0, _, _, _, _, _, _, rfl, rfl, rfl, (by ((repeat (apply Fresh.put; omega)); ((exact Fresh.up (by assumption) (by omega))))), (by (repeat (first | (exact Kp.refl) | (apply Kp.set; (focus (left; omega)))))), ?_, (by (repeat ((exact Lg.nil)))), (by (repeat ((exact Lg.nil)))), by omega, rfl⟩
      rw [rep_hits]; exact Has.same
    · rintro k1 e s ⟨i, z, j6, j7, j17, h', rl', wl', rfl, hz, rfl, hf', hkp, hB, hlr, hlw, hid, rfl⟩
      unfold EO
      by_cases hi : i < mid.length
      · have hm' := hm.keep hf (fun _ q => q) (fun b _ hb _ => hkp b hb (fun q => q))
        obtain ⟨g1, g2, b, sp, vals, a, k, rfl, g4, g5, g6, g7, g8⟩ := hm'.at (List.getElem?_eq_getElem hi)
        have lb : b < c := by
          rcases hm with ⟨_, e⟩ | ⟨b', sp', cap', vals', e1, e2, e3, e4, e5, _⟩
          · rw [e] at hi; cases hi
          · simp only [Value.slice.injEq, Option.some.injEq, Addr.mk.injEq] at e1
            rw [e1.1.1]; exact e5.lt hf
        have rb := hUR b g4
        have hq' := Row.keepF hq hf (fun b hb => hkp b hb (fun q => q))
        have hst := hit_step hlen hi (hitO_at (qs := qs) (List.getElem?_eq_getElem hi))
        (repeat (first | (with_reducible refine Then.go ?_) | (with_reducible refine Wx.seq ?_) | (with_reducible refine Wx.skip ?_) | (with_reducible refine Wx.block ?_) | (with_reducible refine Wx.reg ?_) | (refine Wx.condT rfl (by rfl) ?_) | ((with_reducible refine Wseq.nil ?_); intro e he; (simp (decide := true) only [kz] at he; subst he)) | ((with_reducible apply Wseq.mv); rfl; (intro v hv; (simp (decide := true) only [kw] at hv); subst hv)) | ((with_reducible apply Wseq.stg (op := Op.binOp BinOp.lss _ _ _ _)); rfl; exact to_lssT rfl rfl (by omega))))
        ((with_reducible apply Wseq.stg); (focus rfl); (focus (exact to_indexAddr (k := i) el22 rfl rfl hz hi)))
        ((with_reducible apply Wseq.stg); (focus rfl); (focus (exact to_load (pl_ rfl) rfl g5.cel (by omega) g6)))
        (repeat (first | (with_reducible refine Then.go ?_) | (with_reducible refine Wx.reg ?_) | ((with_reducible refine Wseq.nil ?_); intro e he; (simp (decide := true) only [kz] at he; subst he)) | ((with_reducible apply Wseq.mv); rfl; (intro v hv; (simp (decide := true) only [kw] at hv); subst hv)) | ((with_reducible apply Wseq.as); rfl; (intro v hv; (simp (decide := true) only [kw] at hv); subst hv))))
        refine Wseq.call rfl rfl (score_spec stdQ (by ((repeat (apply Fresh.put; omega)); ((assumption)))) (.inl rfl) g1 hqn g7 hq' g2 hqb hd R (fun b hb => hb.elim (fun u => hUR b (g8 b u)) (hqR b))) ?_
        rintro v h2' c2 r2 w2 ⟨⟨rfl, e1, e2⟩, hext2⟩
        simp only at e1 e2
        subst e1 e2
        have lr2 := Lg.extR (R := R) (c := c) (by (repeat (first | (assumption) | (apply Lg.cons; (focus ((right; (assumption)))))))) hext2 (fun _ _ q => q)
        have lw2 := Lg.extW (W := fun _ => False) (c := c) (by (repeat ((assumption)))) hext2 (fun _ _ q => q)
        (repeat (((with_reducible apply Wseq.bd); rfl; exact (bt_ rfl); (intro v hv; (simp (decide := true) only [kw] at hv); subst hv); refine ⟨_, rfl, ?_⟩)))
        ((with_reducible apply Wseq.stg); (focus rfl); (focus (exact to_indexAddr (k := i) el32 rfl rfl hz hi)))
        rw [← hz] at hst
        ((with_reducible apply Wseq.so); rfl; exact (sz_ rfl); rfl; exact hB; omega; (intro v hv; (simp (decide := true) only [kw] at hv); subst hv); refine ⟨_, _, (by ((exact cellsA_agg _))), rfl, hst, ?_⟩)
        (repeat (first | (with_reducible refine Then.go ?_) | (with_reducible refine Out.go ?_) | (with_reducible refine Wx.reg ?_) | ((with_reducible refine Wseq.nil ?_); intro e he; (simp (decide := true) only [kz] at he; subst he)) | ((with_reducible apply Wseq.mv); rfl; (intro v hv; (simp (decide := true) only [kw] at hv); subst hv)) | ((with_reducible apply Wseq.stg (op := Op.binOp BinOp.add _ _ _ _)); rfl; exact to_add rfl rfl (by omega) (by omega))))
        refine RoundE.go (mid.length - (i + 1)) (EO _ _ mid.length c (z + 1) _ _ _) (by omega) (by (refine EqK.of ?_ ?_ <;> (repeat (first | (exact all_nil) | (apply all_cons; rfl))))) ⟨i + 1, z + 1, _, _, _, _, _, _, rfl, by omega, rfl, (by ((repeat (apply Fresh.put; omega)); ((assumption)))), (by (repeat (first | (assumption) | (apply Kp.set; (focus (left; omega)))))), Has.same, (by (repeat (first | (assumption) | (apply Lg.cons; (focus (left; omega)))))), (by (repeat (first | (assumption) | (apply Lg.cons; (focus (left; omega)))))), by omega, rfl⟩
      · (repeat (first | (with_reducible refine Then.go ?_) | (with_reducible refine Then.ex ?_) | (with_reducible refine Out.hit ?_) | (with_reducible refine Wx.seq ?_) | (with_reducible refine Wx.exit ?_) | (with_reducible refine Wx.reg ?_) | (with_reducible refine RoundE.ex ?_) | (refine Wx.condF rfl (by rfl) ?_) | ((with_reducible refine Wseq.nil ?_); intro e he; (simp (decide := true) only [kz] at he; subst he)) | ((with_reducible apply Wseq.stg (op := Op.binOp BinOp.lss _ _ _ _)); rfl; exact to_lssF rfl rfl (by omega))))
        obtain rfl : i = mid.length := by omega
        subst hz
        refine CutQ.go (EO (.slice oa mid.length cap) (.slice qa dim qc) mid.length c mid.length _ _ _) (by (refine EqK.of ?_ ?_ <;> (repeat (first | (exact all_nil) | (apply all_cons; rfl))))) ⟨_, _, _, _, _, _, rfl, rfl, hf', hkp, ?_, (by (repeat ((assumption)))), (by (repeat ((assumption))))⟩
        rw [List.take_of_length_le (by omega), Nat.sub_self, List.replicate_zero, List.append_nil] at hB
        exact hB
  · rintro e s ⟨j6, j7, j17, h', rl', wl', rfl, rfl, hf', hkp, hB, hlr, hlw⟩
    unfold EO
    (repeat (first | (with_reducible refine Wx.seq ?_) | (with_reducible refine Wx.reg ?_) | ((with_reducible apply Wseq.mv); rfl; (intro v hv; (simp (decide := true) only [kw] at hv); subst hv))))
    refine Wseq.call rfl rfl (sortf_spec (by ((repeat (apply Fresh.put; omega)); ((assumption)))) hB hlen hn (hitO_nodup qs mid)) ?_
    rintro v1 h1 c1 r1 w1 ⟨hB1, hext⟩
    have fr1 := hext.fresh
    have le1 := hext.c
    simp only at le1 fr1 hB1
    have kp1 := Kp.ext (W := fun _ => False) (h := h) (c := c) (by (repeat ((assumption)))) hext (by omega) (fun b hb q => by omega)
    have lr1 := Lg.extR (R := R) (c := c) (by (repeat ((assumption)))) hext (fun b hb q => by omega)
    have lw1 := Lg.extW (W := fun _ => False) (c := c) (by (repeat ((assumption)))) hext (fun b hb q => by omega)
    have hL : (bestOf mid.length (hitO qs mid)).length = mid.length := by
      have := bestOf_len_eq (k := mid.length) (hitO_nodup qs mid) (m := mid.length) (by omega) (Nat.le_refl _)
      rwa [List.take_of_length_le (by omega)] at this
    unfold ordZ
    generalize bestOf mid.length (hitO qs mid) = l at hB1 hL
    have lc1 : c < c1 := by omega
    (repeat (first | (with_reducible refine Then.go ?_) | (with_reducible refine Wx.seq ?_) | (with_reducible refine Wx.block ?_) | (with_reducible refine Wx.reg ?_) | ((with_reducible refine Wseq.nil ?_); intro e he; (simp (decide := true) only [kz] at he; subst he)) | ((with_reducible apply Wseq.mv); rfl; (intro v hv; (simp (decide := true) only [kw] at hv); subst hv)) | ((with_reducible apply Wseq.as); rfl; (intro v hv; (simp (decide := true) only [kw] at hv); subst hv)) | ((with_reducible apply Wseq.stg (op := Op.call ⟨Callee.builtin Builtin.len, _, _⟩)); rfl; exact to_lenS (sl_ rfl) rfl)))
    refine Wx.cutO (fun e s => ∃ (lv j10 j35 : Value) (h' : T AObj) (c' : Nat) (rl' wl' : List Nat), e = EO2 (.slice oa mid.length cap) (.slice qa dim qc) mid.length c j6 j7 j17 lv mid.length j10 j35 ∧ s = ⟨h', c', rl', wl'⟩ ∧ c1 ≤ c' ∧ Fresh h' c' ∧ Kp h1 h' c1 (fun _ => False) ∧ HI h' c1 lv (l.map Ht.id) ∧ Lg c R rl' ∧ Lg c (fun _ => False) wl') (by (repeat ((exact Resp.fn)))) ?_ ?_
    · refine Wx.loopE (fun k1 e s => ∃ (i : Nat) (z : Int) (lv j10 j35 : Value) (h' : T AObj) (c' : Nat) (rl' wl' : List Nat), e = EO2 (.slice oa mid.length cap) (.slice qa dim qc) mid.length c j6 j7 j17 lv z j10 j35 ∧ z = i ∧ s = ⟨h', c', rl', wl'⟩ ∧ c1 ≤ c' ∧ Fresh h' c' ∧ Kp h1 h' c1 (fun _ => False) ∧ HI h' c1 lv ((l.take i).map Ht.id) ∧ Lg c R rl' ∧ Lg c (fun _ => False) wl' ∧ i ≤ mid.length ∧ k1 = mid.length - i) mid.length (EO2 (.slice oa mid.length cap) (.slice qa dim qc) mid.length c j6 j7 j17 (.slice none 0 0) 0 top top) (by (repeat (first | (exact Resp.fn) | (apply Resp.out) | (apply Resp.cut)))) ?_ ?_ ?_
      · unfold EO2
        (refine EqK.of ?_ ?_ <;> (repeat (first | (exact all_nil) | (apply all_cons; rfl))))
      · exact ⟨0, 0, _, _, _, _, _, _, _, rfl, rfl, rfl, Nat.le_refl _, fr1, Kp.refl, .inl ⟨rfl, rfl⟩, (by (repeat ((assumption)))), (by (repeat ((assumption)))), by omega, rfl⟩
      · rintro k1 e s ⟨i, z, lv, j10, j35, h', c', rl', wl', rfl, hz, rfl, hcc, hf', hkp', hHI, hlr', hlw', hid, rfl⟩
        unfold EO2
        by_cases hi : i < mid.length
        · have hB2 : Has h' c (.cells (flatH l)) := (hkp' c (by omega) (fun q => q)).trans hB1
          have hil : i < l.length := by omega
          have hsub := sub_hit (o := 0) (subN_all _ _ (flatH_len l).symm) (List.getElem?_eq_getElem hil)
          have hmap : (l.take (i + 1)).map Ht.id = (l.take i).map Ht.id ++ [l[i].id] := by rw [List.take_succ_eq_append_getElem hil, List.map_append]; rfl
          have hl0 : ((l.take i).map Ht.id).length = i := by rw [List.length_map, List.length_take]; omega
          have hl1 : ((l.take (i + 1)).map Ht.id).length = i + 1 := by rw [List.length_map, List.length_take]; omega
          have hbg : big = 1048576 := rfl
          rcases hHI with ⟨rfl, hnil⟩ | ⟨bl, rfl, hne, hbl, hbc⟩
          · (repeat (first | (with_reducible refine Then.go ?_) | (with_reducible refine Wx.seq ?_) | (with_reducible refine Wx.skip ?_) | (with_reducible refine Wx.block ?_) | (with_reducible refine Wx.reg ?_) | (refine Wx.condT rfl (by rfl) ?_) | ((with_reducible refine Wseq.nil ?_); intro e he; (simp (decide := true) only [kz] at he; subst he)) | ((with_reducible apply Wseq.stg (op := Op.binOp BinOp.lss _ _ _ _)); rfl; exact to_lssT rfl rfl (by omega))))
            ((with_reducible apply Wseq.stg); (focus rfl); (focus (exact to_indexAddr (k := i) el32 rfl rfl hz hi)))
            ((with_reducible apply Wseq.stg); (focus rfl); (focus (exact to_loadS (ag_ rfl) rfl hB2.cel (by omega) hsub)))
            (repeat (first | (with_reducible refine Then.go ?_) | (with_reducible refine Wx.reg ?_) | ((with_reducible refine Wseq.nil ?_); intro e he; (simp (decide := true) only [kz] at he; subst he)) | ((with_reducible apply Wseq.mv); rfl; (intro v hv; (simp (decide := true) only [kw] at hv); subst hv)) | ((with_reducible apply Wseq.bs); rfl; exact (ro_ rfl); rfl; exact (by ((repeat (apply Fresh.put; omega)); ((exact Fresh.up (by assumption) (by omega))))); (intro v hv; (simp (decide := true) only [kw] at hv); subst hv); refine ⟨_, rfl, ?_⟩) | ((with_reducible apply Wseq.so); rfl; exact (sz_ rfl); rfl; exact (by (repeat ((exact Has.same)))); omega; (intro v hv; (simp (decide := true) only [kw] at hv); subst hv); refine ⟨_, _, (by ((exact cellsA_agg _))), rfl, rfl, ?_⟩) | ((with_reducible apply Wseq.stg (op := Op.fieldAddr _ _ _)); rfl; exact to_fieldAddr (fa_ rfl) rfl) | ((with_reducible apply Wseq.stg (op := Op.load _ _)); rfl; exact to_load (pl_ rfl) rfl (by (repeat ((exact Has.same.cel)))) (by omega) (by rfl)) | ((with_reducible apply Wseq.stg (op := Op.alloc _)); rfl; exact to_alloc (ze_ rfl) (by ((exact cellsA_agg _))) (by ((repeat (apply Fresh.put; omega)); ((assumption)))))))
            ((with_reducible apply Wseq.stg); (focus rfl); (focus (exact to_appNil ro35 sl35 rfl rfl (k := 0) Has.same.cel (by omega) (subN_all _ _ rfl) (by omega) (by ((repeat (apply Fresh.put; omega)); ((exact Fresh.up (by assumption) (by omega))))))))
            (repeat (first | (with_reducible refine Then.go ?_) | (with_reducible refine Out.go ?_) | (with_reducible refine Wx.reg ?_) | ((with_reducible refine Wseq.nil ?_); intro e he; (simp (decide := true) only [kz] at he; subst he)) | ((with_reducible apply Wseq.mv); rfl; (intro v hv; (simp (decide := true) only [kw] at hv); subst hv)) | ((with_reducible apply Wseq.as); rfl; (intro v hv; (simp (decide := true) only [kw] at hv); subst hv)) | ((with_reducible apply Wseq.stg (op := Op.binOp BinOp.add _ _ _ _)); rfl; exact to_add rfl rfl (by omega) (by omega))))
            refine RoundE.go (mid.length - (i + 1)) (EO2 _ _ mid.length c j6 j7 j17 _ (z + 1) _ _) (by omega) (by (refine EqK.of ?_ ?_ <;> (repeat (first | (exact all_nil) | (apply all_cons; rfl))))) ⟨i + 1, z + 1, _, _, _, _, _, _, _, rfl, by omega, rfl, by omega, (by ((repeat (apply Fresh.put; omega)); ((exact Fresh.up (by assumption) (by omega))))), (by (repeat (first | (assumption) | (apply Kp.set; (focus (left; omega)))))), ?_, (by (repeat (first | (assumption) | (apply Lg.cons; (focus (left; omega)))))), (by (repeat (first | (assumption) | (apply Lg.cons; (focus (left; omega)))))), by omega, rfl⟩
            have hi0 : i = 0 := by rw [hnil] at hl0; simpa using hl0.symm
            refine .inr ⟨c' + 2, ?_, ?_, by omega, ?_⟩
            · rw [hl1, hi0]
            · intro e; rw [e] at hl1; simp at hl1
            · rw [hmap, hnil]; exact Has.same
          · have l3 := hbc.lt hf'
            (repeat (first | (with_reducible refine Then.go ?_) | (with_reducible refine Wx.seq ?_) | (with_reducible refine Wx.skip ?_) | (with_reducible refine Wx.block ?_) | (with_reducible refine Wx.reg ?_) | (refine Wx.condT rfl (by rfl) ?_) | ((with_reducible refine Wseq.nil ?_); intro e he; (simp (decide := true) only [kz] at he; subst he)) | ((with_reducible apply Wseq.stg (op := Op.binOp BinOp.lss _ _ _ _)); rfl; exact to_lssT rfl rfl (by omega))))
            ((with_reducible apply Wseq.stg); (focus rfl); (focus (exact to_indexAddr (k := i) el32 rfl rfl hz hi)))
            ((with_reducible apply Wseq.stg); (focus rfl); (focus (exact to_loadS (ag_ rfl) rfl hB2.cel (by omega) hsub)))
            (repeat (first | (with_reducible refine Then.go ?_) | (with_reducible refine Wx.reg ?_) | ((with_reducible refine Wseq.nil ?_); intro e he; (simp (decide := true) only [kz] at he; subst he)) | ((with_reducible apply Wseq.mv); rfl; (intro v hv; (simp (decide := true) only [kw] at hv); subst hv)) | ((with_reducible apply Wseq.bs); rfl; exact (ro_ rfl); rfl; exact (by ((repeat (apply Fresh.put; omega)); ((exact Fresh.up (by assumption) (by omega))))); (intro v hv; (simp (decide := true) only [kw] at hv); subst hv); refine ⟨_, rfl, ?_⟩) | ((with_reducible apply Wseq.so); rfl; exact (sz_ rfl); rfl; exact (by (repeat ((exact Has.same)))); omega; (intro v hv; (simp (decide := true) only [kw] at hv); subst hv); refine ⟨_, _, (by ((exact cellsA_agg _))), rfl, rfl, ?_⟩) | ((with_reducible apply Wseq.stg (op := Op.fieldAddr _ _ _)); rfl; exact to_fieldAddr (fa_ rfl) rfl) | ((with_reducible apply Wseq.stg (op := Op.load _ _)); rfl; exact to_load (pl_ rfl) rfl (by (repeat ((exact Has.same.cel)))) (by omega) (by rfl)) | ((with_reducible apply Wseq.stg (op := Op.alloc _)); rfl; exact to_alloc (ze_ rfl) (by ((exact cellsA_agg _))) (by ((repeat (apply Fresh.put; omega)); ((assumption)))))))
            ((with_reducible apply Wseq.stg); (focus rfl); (focus (exact to_appOwn ro35 sl35 rfl rfl (k := 0) Has.same.cel (by omega) (subN_all _ _ rfl) (by omega) (by omega) (by (repeat (first | (assumption) | (apply Has.other; omega)))) (by omega) (subN_all _ _ (by simp)) (all_cons rfl all_nil) (by ((repeat (apply Fresh.put; omega)); ((exact Fresh.up (by assumption) (by omega))))))))
            (repeat (first | (with_reducible refine Then.go ?_) | (with_reducible refine Out.go ?_) | (with_reducible refine Wx.reg ?_) | ((with_reducible refine Wseq.nil ?_); intro e he; (simp (decide := true) only [kz] at he; subst he)) | ((with_reducible apply Wseq.mv); rfl; (intro v hv; (simp (decide := true) only [kw] at hv); subst hv)) | ((with_reducible apply Wseq.as); rfl; (intro v hv; (simp (decide := true) only [kw] at hv); subst hv)) | ((with_reducible apply Wseq.stg (op := Op.binOp BinOp.add _ _ _ _)); rfl; exact to_add rfl rfl (by omega) (by omega))))
            refine RoundE.go (mid.length - (i + 1)) (EO2 _ _ mid.length c j6 j7 j17 _ (z + 1) _ _) (by omega) (by (refine EqK.of ?_ ?_ <;> (repeat (first | (exact all_nil) | (apply all_cons; rfl))))) ⟨i + 1, z + 1, _, _, _, _, _, _, _, rfl, by omega, rfl, by omega, (by ((repeat (apply Fresh.put; omega)); ((exact Fresh.up (by assumption) (by omega))))), (by (repeat (first | (assumption) | (apply Kp.set; (focus (left; omega)))))), ?_, (by (repeat (first | (assumption) | (apply Lg.cons; (focus (left; omega)))))), (by (repeat (first | (assumption) | (apply Lg.cons; (focus (left; omega)))))), by omega, rfl⟩
            refine .inr ⟨c' + 2, ?_, ?_, by omega, ?_⟩
            · rw [hl1, hl0]
            · intro e; rw [e] at hl1; simp at hl1
            · rw [hmap, List.map_append]; exact Has.same
        · (repeat (first | (with_reducible refine Then.go ?_) | (with_reducible refine Then.ex ?_) | (with_reducible refine Out.hit ?_) | (with_reducible refine Wx.seq ?_) | (with_reducible refine Wx.exit ?_) | (with_reducible refine Wx.reg ?_) | (with_reducible refine RoundE.ex ?_) | (refine Wx.condF rfl (by rfl) ?_) | ((with_reducible refine Wseq.nil ?_); intro e he; (simp (decide := true) only [kz] at he; subst he)) | ((with_reducible apply Wseq.stg (op := Op.binOp BinOp.lss _ _ _ _)); rfl; exact to_lssF rfl rfl (by omega))))
          obtain rfl : i = mid.length := by omega
          subst hz
          rw [List.take_of_length_le (by omega)] at hHI
          exact CutQ.go (EO2 (.slice oa mid.length cap) (.slice qa dim qc) mid.length c j6 j7 j17 lv mid.length _ _) (by (refine EqK.of ?_ ?_ <;> (repeat (first | (exact all_nil) | (apply all_cons; rfl))))) ⟨_, _, _, _, _, _, _, rfl, rfl, hcc, hf', hkp', hHI, hlr', hlw'⟩
    · rintro e s ⟨lv, j10, j35, h', c', rl', wl', rfl, rfl, hcc, hf', hkp', hHI, hlr', hlw'⟩
      unfold EO2
      have kp2 : Kp h h' c (fun _ => False) := fun b hb _ => (hkp' b (by omega) (fun q => q)).trans (kp1 b hb (fun q => q))
      (repeat (first | (with_reducible refine Then.go ?_) | (with_reducible refine Wx.seq ?_) | (with_reducible refine Wx.ret ?_) | (with_reducible refine Wx.reg ?_) | ((with_reducible refine Wseq.nil ?_); intro e he; (simp (decide := true) only [kz] at he; subst he)) | ((with_reducible apply Wseq.mv); rfl; (intro v hv; (simp (decide := true) only [kw] at hv); subst hv)) | ((with_reducible apply Wseq.as); rfl; (intro v hv; (simp (decide := true) only [kw] at hv); subst hv))))
      refine ⟨.inr rfl, Wres.one rfl ⟨?_, ?_⟩⟩
      · rcases hHI with hHI | ⟨b, e1, e2, e3, e4⟩
        · exact .inl hHI
        · exact .inr ⟨b, e1, e2, by omega, e4⟩
      · (dsimp only; exact Ext.of (by omega) (by ((repeat (apply Fresh.put; omega)); ((assumption)))) (by (repeat ((assumption)))) (by (repeat ((assumption)))) (by (repeat ((assumption)))))
end Go.Ab.Seat
