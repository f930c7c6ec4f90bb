/- IvfLists: the run answers true (the abstract machine). -/
import Derived.Test.YtcnfbfiakkjabaaGreatDoorDR2
set_option linter.unusedVariables false
set_option linter.unusedSimpArgs false
namespace Go.Ab.Seat
open Go.Extern Go.Proofs
set_option linter.unusedSimpArgs false
set_option linter.unusedVariables false
set_option maxRecDepth 4000
set_option pp.deepTerms false
set_option pp.deepTerms.threshold 6

theorem putM_new_len (r : Rc) : ∀ l : List Rc, getM r.id l = none → (putM r l).length = l.length + 1
  | [], _ => rfl
  | x :: l, h => by
    have h2 : ¬x.id = r.id := by
      intro e
      rw [getM, if_pos e] at h; cases h
    rw [getM, if_neg h2] at h
    unfold putM
    split
    · rfl
    · rw [if_neg (fun e => h2 e.symm), List.length_cons, putM_new_len r l h, List.length_cons]
theorem inL_mem {M : List Rc} {k : Nat} {id : Int} (h : id ∈ inL M k) : ∃ r ∈ M, r.id = id ∧ r.seq = (k : Int) := by
  unfold inL at h
  obtain ⟨r, h1, h2⟩ := List.mem_map.1 h
  obtain ⟨h3, h4⟩ := List.mem_filter.1 h1
  exact ⟨r, h3, h2, by simpa using h4⟩
theorem inL_rises {M : List Rc} (h : Rises M) (k : Nat) : (inL M k).Pairwise (· < ·) := by
  unfold inL
  exact List.pairwise_map.2 (h.filter _)
/-- How many are in the first lists. -/
def cntL (M : List Rc) : Nat → Nat
  | 0 => 0
  | k + 1 => cntL M k + (inL M k).length
theorem cntL_cons (r : Rc) (M : List Rc) : ∀ k : Nat, cntL (r :: M) k = cntL M k + if 0 ≤ r.seq ∧ r.seq < (k : Int) then 1 else 0
  | 0 => by rw [if_neg (by omega)]; rfl
  | k + 1 => by
    have e : (inL (r :: M) k).length = (inL M k).length + if r.seq = (k : Int) then 1 else 0 := by
      unfold inL
      by_cases h : r.seq = (k : Int)
      · rw [if_pos h, List.filter_cons_of_pos (by simpa using h)]; rfl
      · rw [if_neg h, List.filter_cons_of_neg (by simpa using h)]; rfl
    show cntL (r :: M) k + (inL (r :: M) k).length = cntL M k + (inL M k).length + _
    rw [cntL_cons r M k, e]
    by_cases h1 : r.seq = (k : Int)
    · rw [if_pos h1, if_neg (by omega), if_pos (by omega)]; omega
    · rw [if_neg h1]
      by_cases h2 : 0 ≤ r.seq ∧ r.seq < (k : Int)
      · rw [if_pos h2, if_pos (by omega)]; omega
      · rw [if_neg h2, if_neg (by omega)]; omega
theorem cntL_le : ∀ (M : List Rc) (k : Nat), cntL M k ≤ M.length
  | [], k => by
    induction k with
    | zero => exact Nat.le_refl _
    | succ k ih => exact ih
  | r :: M, k => by
    have := cntL_le M k
    rw [cntL_cons, List.length_cons]
    split <;> omega
theorem cntL_all {n : Nat} : ∀ {M : List Rc}, (∀ r ∈ M, 0 ≤ r.seq ∧ r.seq < (n : Int)) → cntL M n = M.length
  | [], _ => by
    suffices h : ∀ k, cntL [] k = 0 from h n
    intro k
    induction k with
    | zero => rfl
    | succ k ih => show cntL [] k + 0 = 0; omega
  | r :: M, h => by
    rw [cntL_cons, cntL_all fun x hx => h x (List.mem_cons_of_mem _ hx), if_pos (h r List.mem_cons_self)]; rfl

def E6a (v0 v1 : Value) (p : Nat) (lv : Value) (n : Nat) (z : Int) (j8 j26 : Value) : L :=
  .cons 0 v0 (.cons 1 v1 (.cons 4 (.bool false) (.cons 5 (.bool true) (.cons 17 (.bool false) (.cons 6 (.pointer (some ⟨p, 0, none⟩)) (.cons 7 lv (.cons 24 (.int .i64 (n : Int)) (.cons 25 (.int .i64 z) (.cons 8 j8 (.cons 26 j26 .nil))))))))))

def E6b (v0 v1 : Value) (p : Nat) (lv : Value) (n : Nat) (j8 j26 ms : Value) (cl Ln : Nat) (j51 : Value) (cnt zk : Int) (j12 j55 j60 j61 j62 j13 j14 j63 j106 : Value) : L :=
  .cons 0 v0 (.cons 1 v1 (.cons 4 (.bool false) (.cons 5 (.bool true) (.cons 17 (.bool false) (.cons 6 (.pointer (some ⟨p, 0, none⟩)) (.cons 7 lv (.cons 24 (.int .i64 (n : Int)) (.cons 25 (.int .i64 (n : Int)) (.cons 8 j8 (.cons 26 j26 (.cons 9 ms (.cons 10 (.slice (some ⟨cl, 0, none⟩) Ln Ln) (.cons 51 j51 (.cons 11 (.int .i64 cnt) (.cons 53 (.int .i64 (Ln : Int)) (.cons 54 (.int .i64 zk) (.cons 12 j12 (.cons 55 j55 (.cons 60 j60 (.cons 61 j61 (.cons 62 j62 (.cons 13 j13 (.cons 14 j14 (.cons 63 j63 (.cons 106 j106 .nil)))))))))))))))))))))))))

set_option maxHeartbeats 16000000 in
theorem ivfLists_run {h : T AObj} {c : Nat} (hf : Fresh h c) (hg : Glob h) {v0 v1 : Value} {zs0 zs1 : List (List Int)} (hv0 : VecsIn h v0 zs0) (hvn0 : zs0.length ≤ 9223372036854775807) (hv1 : VecsIn h v1 zs1) (hvn1 : zs1.length ≤ 9223372036854775807) :
    ∃ r s', FnTo (Cs smQ) eg 6 [v0, v1] ⟨h, c, [], []⟩ r s' ∧ r = .bool true := by
  obtain ⟨oa0, cap0, rfl, _⟩ := _root_.id hv0
  obtain ⟨ob0, capb, rfl, _⟩ := _root_.id hv1
  refine Fn.go (stdQ 6 rfl) ex6 fn6 km6 rfl rfl ?_
  intro e he
  (simp (decide := true) only [kz] at he; subst he)
  (repeat (first | (with_reducible refine Then.go ?_) | (with_reducible refine Wx.seq ?_) | (with_reducible refine Wx.reg ?_) | ((with_reducible refine Wseq.nil ?_); intro e he; (simp (decide := true) only [kz] at he; subst he)) | ((with_reducible apply Wseq.as); rfl; (intro v hv; (simp (decide := true) only [kw] at hv); subst hv))))
  refine Wseq.call rfl rfl (begunQ (by ((repeat (apply Fresh.put; omega)); ((assumption)))) hg) ?_
  rintro x1 h1 c1 r1 w1 ⟨rfl, e1⟩
  cases e1
  (repeat (first | (with_reducible refine Then.go ?_) | (with_reducible refine Wx.seq ?_) | (with_reducible refine Wx.skip ?_) | (with_reducible refine Wx.reg ?_) | (refine Wx.condF rfl (by rfl) ?_) | ((with_reducible refine Wseq.nil ?_); intro e he; (simp (decide := true) only [kz] at he; subst he)) | ((with_reducible apply Wseq.mv); rfl; (intro v hv; (simp (decide := true) only [kw] at hv); subst hv)) | ((with_reducible apply Wseq.as); rfl; (intro v hv; (simp (decide := true) only [kw] at hv); subst hv)) | ((with_reducible apply Wseq.stg (op := Op.unOp UnOp.not _ _)); rfl; exact to_notT rfl)))
  refine Wseq.call rfl rfl (vecs_spec stdQ (n := 20) (dim := 2) (by ((repeat (apply Fresh.put; omega)); ((assumption)))) hv0 (by omega) (by omega) hvn0) ?_
  rintro lv0 h1 c1 r1 w1 ⟨hV0, hext1⟩
  have fr1 := hext1.fresh
  have le1 := hext1.c
  have kp1 : ∀ b, b < c → h1.get b = h.get b := fun b hb => hext1.get hb (fun q => q)
  simp only at le1 fr1
  generalize hvs0 : vecsZ zs0 2 20 = V0 at hV0
  have hV0b : ∀ zs ∈ V0, Bnd zs := fun zs hz => by
    rw [← hvs0] at hz
    unfold vecsZ at hz
    obtain ⟨y, _, rfl⟩ := List.mem_map.1 hz
    exact Bnd_vecZ _ _
  have hV0l : V0.length ≤ 20 := by rw [← hvs0]; unfold vecsZ; rw [List.length_map, List.length_take]; omega
  have hM0 := hV0.mrow hV0b
  skip
  refine Wseq.call rfl rfl (inew_spec (by ((repeat (apply Fresh.put; omega)); ((assumption)))) (.inl rfl) hM0 (by omega) (by omega) (by omega) (fun _ => True) (fun _ _ => trivial)) ?_
  rintro x2 h2 c2 r2 w2 ⟨⟨p, m, mv, rfl, hI2⟩, hext2⟩
  have hmok := midsZ_ok (n := 4) hM0.vok 3
  generalize midsZ 4 V0 3 = mid at hI2 hmok
  have fr2 := hext2.fresh
  have le2 := hext2.c
  have kp2 : ∀ b, b < c1 → h2.get b = h1.get b := fun b hb => hext2.get hb (fun q => q)
  simp only at le2 fr2 hI2
  (repeat (first | (with_reducible refine Then.go ?_) | (with_reducible refine Wx.seq ?_) | (with_reducible refine Wx.reg ?_) | ((with_reducible refine Wseq.nil ?_); intro e he; (simp (decide := true) only [kz] at he; subst he)) | ((with_reducible apply Wseq.mv); rfl; (intro v hv; (simp (decide := true) only [kw] at hv); subst hv)) | ((with_reducible apply Wseq.as); rfl; (intro v hv; (simp (decide := true) only [kw] at hv); subst hv))))
  refine Wseq.call rfl rfl (vecs_spec stdQ (n := 30) (dim := 2) (by ((repeat (apply Fresh.put; omega)); ((assumption)))) ((hv1.keep hf kp1).keep fr1 kp2) (by omega) (by omega) hvn1) ?_
  rintro lv h3 c3 r3 w3 ⟨hV3, hext3⟩
  have fr3 := hext3.fresh
  have le3 := hext3.c
  have kp3 : ∀ b, b < c2 → h3.get b = h2.get b := fun b hb => hext3.get hb (fun q => q)
  simp only at le3 fr3
  generalize hvs : vecsZ zs1 2 30 = V at hV3
  have hVlen : V.length ≤ 30 := by rw [← hvs]; unfold vecsZ; rw [List.length_map, List.length_take]; omega
  have hVb : ∀ zs ∈ V, Bnd zs := fun zs hz => by
    rw [← hvs] at hz
    unfold vecsZ at hz
    obtain ⟨y, _, rfl⟩ := List.mem_map.1 hz
    exact Bnd_vecZ _ _
  obtain ⟨ov, rfl⟩ := hV3.val
  have hI3 := hI2.keep fr2 (fun b _ hb => kp3 b hb)
  have hok4 : mid.length ≤ 4 := hmok.1
  (repeat (first | (with_reducible refine Then.go ?_) | (with_reducible refine Wx.seq ?_) | (with_reducible refine Wx.block ?_) | (with_reducible refine Wx.reg ?_) | ((with_reducible refine Wseq.nil ?_); intro e he; (simp (decide := true) only [kz] at he; subst he)) | ((with_reducible apply Wseq.mv); rfl; (intro v hv; (simp (decide := true) only [kw] at hv); subst hv)) | ((with_reducible apply Wseq.as); rfl; (intro v hv; (simp (decide := true) only [kw] at hv); subst hv)) | ((with_reducible apply Wseq.stg (op := Op.call ⟨Callee.builtin Builtin.len, _, _⟩)); rfl; exact to_lenS (sl_ rfl) rfl)))
  refine Wx.cutO (fun e s => ∃ (j8 j26 : Value) (h' : T AObj) (c' : Nat) (rl' wl' : List Nat) (M : List Rc) (U : Nat → Prop), e = E6a (.slice oa0 zs0.length cap0) (.slice ob0 zs1.length capb) p (.slice ov V.length V.length) V.length V.length j8 j26 ∧ s = ⟨h', c', rl', wl'⟩ ∧ Fresh h' c' ∧ VRow h' c2 (.slice ov V.length V.length) 2 V ∧ IvfM h' p m mv 1 2 mid M U ∧ (∀ x : Int, getM x M = if 1 ≤ x ∧ x ≤ (V.length : Int) then some (mbI x (V.getD (x - 1).toNat []) (listZ mid (V.getD (x - 1).toNat []))) else none) ∧ M.length = V.length) (by (repeat ((exact Resp.fn)))) ?_ ?_
  · refine Wx.loopE (fun k1 e s => ∃ (i : Nat) (z : Int) (j8 j26 : Value) (h' : T AObj) (c' : Nat) (rl' wl' : List Nat) (M : List Rc) (U : Nat → Prop), e = E6a (.slice oa0 zs0.length cap0) (.slice ob0 zs1.length capb) p (.slice ov V.length V.length) V.length z j8 j26 ∧ z = i ∧ s = ⟨h', c', rl', wl'⟩ ∧ Fresh h' c' ∧ VRow h' c2 (.slice ov V.length V.length) 2 V ∧ IvfM h' p m mv 1 2 mid M U ∧ (∀ x : Int, getM x M = if 1 ≤ x ∧ x ≤ (i : Int) then some (mbI x (V.getD (x - 1).toNat []) (listZ mid (V.getD (x - 1).toNat []))) else none) ∧ M.length = i ∧ i ≤ V.length ∧ k1 = V.length - i) V.length (E6a (.slice oa0 zs0.length cap0) (.slice ob0 zs1.length capb) p (.slice ov V.length V.length) V.length 0 top top) (by (repeat (first | (exact Resp.fn) | (apply Resp.out) | (apply Resp.cut)))) ?_ ?_ ?_
    · unfold E6a
      (refine EqK.of ?_ ?_ <;> (repeat (first | (exact all_nil) | (apply all_cons; rfl))))
    · refine ⟨0, 0, _, _, _, _, _, _, [], _, rfl, rfl, rfl, fr3, hV3, hI3, fun x => ?_, rfl, by omega, rfl⟩
      rw [if_neg (by omega)]; rfl
    · rintro k1 e s ⟨i, z, j8, j26, h', c', rl', wl', M, U, rfl, hz, rfl, hf', hV', hM, hMx, hMl, hid, rfl⟩
      unfold E6a
      by_cases hi : i < V.length
      · obtain ⟨g1, bV, vals, bi, rfl, g2, g3, g4, g5, g6⟩ := hV'.at (List.getElem?_eq_getElem hi)
        have lV := g3.lt hf'
        obtain ⟨es, n, hma⟩ := hM.hm
        have hrow : Row h' (.slice (some ⟨bi, 0, none⟩) 2 2) 2 1 (V[i].map (Value.int .i32)) := .inr ⟨bi, 0, none, 2, _, rfl, g6.cel, subN_all _ _ (by rw [List.length_map]; omega)⟩
        (repeat (first | (with_reducible refine Then.go ?_) | (with_reducible refine Wx.seq ?_) | (with_reducible refine Wx.skip ?_) | (with_reducible refine Wx.block ?_) | (with_reducible refine Wx.reg ?_) | (refine Wx.condT rfl (by rfl) ?_) | ((with_reducible refine Wseq.nil ?_); intro e he; (simp (decide := true) only [kz] at he; subst he)) | ((with_reducible apply Wseq.mv); rfl; (intro v hv; (simp (decide := true) only [kw] at hv); subst hv)) | ((with_reducible apply Wseq.as); rfl; (intro v hv; (simp (decide := true) only [kw] at hv); subst hv)) | ((with_reducible apply Wseq.stg (op := Op.binOp BinOp.lss _ _ _ _)); rfl; exact to_lssT rfl rfl (by omega)) | ((with_reducible apply Wseq.stg (op := Op.binOp BinOp.add _ _ _ _)); rfl; exact to_add rfl rfl (by omega) (by omega))))
        ((with_reducible apply Wseq.stg); (focus rfl); (focus (exact to_indexAddr (k := i) el22 rfl rfl hz hi)))
        ((with_reducible apply Wseq.stg); (focus rfl); (focus (exact to_load (pl_ rfl) rfl g3.cel (by omega) g4)))
        refine Wseq.call rfl rfl (iput_spec (by ((repeat (apply Fresh.put; omega)); ((assumption)))) hM (by omega) (z + 1) (by omega) hrow g1 (hVb _ (List.getElem_mem hi)) (by omega) (by omega) (fun b => b = bi) (fun b e => by cases e; rfl) (fun e => notMap g6 hma e.symm)) ?_
        rintro w h4 c4 r4 w4 ⟨hM4, hext4⟩
        have fr4 := hext4.fresh
        simp only at fr4 hM4
        have hV4 : VRow h4 c2 _ 2 V := hV'.keep hf' fun b hb ⟨cs, hcs⟩ _ => hext4.get hb (notMap hcs hma)
        have hlen4 := putM_new_len (mbI (z + 1) V[i] (listZ mid V[i])) M (by show getM (z + 1) M = none; rw [hMx, if_neg (by omega)])
        (repeat (first | (with_reducible refine Then.go ?_) | (with_reducible refine Out.go ?_) | (with_reducible refine Wx.reg ?_) | ((with_reducible refine Wseq.nil ?_); intro e he; (simp (decide := true) only [kz] at he; subst he)) | ((with_reducible apply Wseq.mv); rfl; (intro v hv; (simp (decide := true) only [kw] at hv); subst hv)) | ((with_reducible apply Wseq.stg (op := Op.binOp BinOp.add _ _ _ _)); rfl; exact to_add rfl rfl (by omega) (by omega))))
        refine RoundE.go (V.length - (i + 1)) (E6a _ _ p (.slice _ V.length V.length) V.length (z + 1) _ _) (by omega) (by (refine EqK.of ?_ ?_ <;> (repeat (first | (exact all_nil) | (apply all_cons; rfl))))) ⟨i + 1, z + 1, _, _, _, _, _, _, _, _, rfl, by omega, rfl, fr4, hV4, hM4, fun x => ?_, by omega, by omega, rfl⟩
        rw [getM_put, hMx x]
        by_cases hx : z + 1 = x
        · rw [if_pos hx, if_pos (by omega)]
          subst hx
          rw [show (z + 1 - 1).toNat = i by omega, List.getD_eq_getElem?_getD, List.getElem?_eq_getElem hi]
          rfl
        · rw [if_neg hx]
          by_cases hx2 : 1 ≤ x ∧ x ≤ (i : Int)
          · rw [if_pos hx2, if_pos (by omega)]
          · rw [if_neg hx2, if_neg (by omega)]
      · (repeat (first | (with_reducible refine Then.go ?_) | (with_reducible refine Then.ex ?_) | (with_reducible refine Out.hit ?_) | (with_reducible refine Wx.seq ?_) | (with_reducible refine Wx.exit ?_) | (with_reducible refine Wx.reg ?_) | (with_reducible refine RoundE.ex ?_) | (refine Wx.condF rfl (by rfl) ?_) | ((with_reducible refine Wseq.nil ?_); intro e he; (simp (decide := true) only [kz] at he; subst he)) | ((with_reducible apply Wseq.stg (op := Op.binOp BinOp.lss _ _ _ _)); rfl; exact to_lssF rfl rfl (by omega))))
        obtain rfl : i = V.length := by omega
        subst hz
        exact CutQ.go (E6a (.slice oa0 zs0.length cap0) (.slice ob0 zs1.length capb) p (.slice ov V.length V.length) V.length V.length _ _) (by (refine EqK.of ?_ ?_ <;> (repeat (first | (exact all_nil) | (apply all_cons; rfl))))) ⟨_, _, _, _, _, _, M, U, rfl, rfl, hf', hV', hM, hMx, hMl⟩
  · rintro e s ⟨j8, j26, h4, c4, rl4, wl4, M, U, rfl, rfl, hf4, hV4, hM4, hMx, hMl⟩
    unfold E6a
    (repeat (first | (with_reducible refine Wx.seq ?_) | (with_reducible refine Wx.reg ?_) | ((with_reducible apply Wseq.mv); rfl; (intro v hv; (simp (decide := true) only [kw] at hv); subst hv))))
    refine Wseq.call rfl rfl (imiddles_spec (by ((repeat (apply Fresh.put; omega)); ((assumption)))) hM4 (by omega) (by omega) (by omega)) ?_
    rintro msv h5 c5 r5 w5 ⟨hG5, hext5⟩
    have fr5 := hext5.fresh
    have le5 := hext5.c
    have kp5 : ∀ b, b < c4 → h5.get b = h4.get b := fun b hb => hext5.get hb (fun q => q)
    simp only at le5 fr5 hG5
    have hM5 := hM4.keep hf4 (fun b _ hb => kp5 b hb)
    obtain ⟨oms, cms, rfl⟩ := hG5.mrow.val
    (repeat (((with_reducible apply Wseq.mv); rfl; (intro v hv; (simp (decide := true) only [kw] at hv); subst hv))))
    refine Wseq.call rfl rfl (ilists_spec (by ((repeat (apply Fresh.put; omega)); ((assumption)))) hM5 (by omega) (by omega)) ?_
    rintro x6 h6 c6 r6 w6 ⟨⟨rfl, ws, hB6, hL6⟩, hext6⟩
    have fr6 := hext6.fresh
    have le6 := hext6.c
    have kp6 : ∀ b, b < c5 → h6.get b = h5.get b := fun b hb => hext6.get hb (fun q => q)
    simp only at le6 fr6 hB6 hL6
    have hmx : max 1 (mid.length : Int) = ((max mid.length 1 : Nat) : Int) := by omega
    (repeat (first | (with_reducible refine Then.go ?_) | (with_reducible refine Wx.seq ?_) | (with_reducible refine Wx.skip ?_) | (with_reducible refine Wx.block ?_) | (with_reducible refine Wx.reg ?_) | (refine Wx.condF rfl (by rfl) ?_) | ((with_reducible refine Wseq.nil ?_); intro e he; (simp (decide := true) only [kz] at he; subst he)) | ((with_reducible apply Wseq.mv); rfl; (intro v hv; (simp (decide := true) only [kw] at hv); subst hv)) | ((with_reducible apply Wseq.as); rfl; (intro v hv; (simp (decide := true) only [kw] at hv); subst hv)) | ((with_reducible apply Wseq.pkF); rfl; rfl; (intro v hv; (simp (decide := true) only [kw] at hv); subst hv)) | ((with_reducible apply Wseq.stg (op := Op.call ⟨Callee.builtin Builtin.len, _, _⟩)); rfl; exact to_lenS (sl_ rfl) rfl) | ((with_reducible apply Wseq.stg (op := Op.call ⟨Callee.builtin Builtin.max, _, _⟩)); rfl; exact to_max rfl rfl) | ((with_reducible apply Wseq.stg (op := Op.binOp BinOp.gtr _ _ _ _)); rfl; exact to_gtrF rfl rfl (by omega)) | ((with_reducible apply Wseq.stg (op := Op.binOp BinOp.neq _ _ _ _)); rfl; exact to_neIF rfl rfl (by omega))))
    have hcnt : cntL M (max mid.length 1) = M.length := cntL_all fun r hr => by
      obtain ⟨zs, e1, _, _⟩ := hM4.ok r hr
      have := listZ_rng mid zs
      rw [e1]; exact this
    generalize hLn : max mid.length 1 = Ln at hB6 hL6 hmx hcnt
    have hV6 : VRow h6 c2 (.slice ov V.length V.length) 2 V := hV4.keep hf4 fun b hb _ _ => (kp6 b (by omega)).trans (kp5 b hb)
    have hG6 := hG5.keep (U' := fun b => c4 ≤ b ∧ b < c5) fr5 (fun _ q => q) (fun b _ hb _ => kp6 b hb)
    have hM6 := hM5.keep fr5 (fun b _ hb => kp6 b hb)
    have lB6 := hB6.lt fr6
    refine Wx.loopE (fun k1 e s => ∃ (k : Nat) (zk : Int) (j12 j55 j60 j61 j62 j13 j14 j63 j106 : Value) (h' : T AObj) (c' : Nat) (rl' wl' : List Nat), e = E6b (.slice oa0 zs0.length cap0) (.slice ob0 zs1.length capb) p (.slice ov V.length V.length) V.length j8 j26 (.slice oms mid.length cms) c5 Ln (.bool false) (cntL M k : Nat) zk j12 j55 j60 j61 j62 j13 j14 j63 j106 ∧ zk = k ∧ s = ⟨h', c', rl', wl'⟩ ∧ Fresh h' c' ∧ c6 ≤ c' ∧ (∀ b, b < c6 → h'.get b = h6.get b) ∧ k ≤ Ln ∧ k1 = Ln - k) Ln (E6b (.slice oa0 zs0.length cap0) (.slice ob0 zs1.length capb) p (.slice ov V.length V.length) V.length j8 j26 (.slice oms mid.length cms) c5 Ln (.bool false) 0 0 top top top top top top top top top) (by (repeat (first | (exact Resp.fn) | (apply Resp.then) | (apply Resp.out)))) ?_ ?_ ?_
    · unfold E6b
      (refine EqK.of ?_ ?_ <;> (repeat (first | (exact all_nil) | (apply all_cons; rfl))))
    · exact ⟨0, 0, _, _, _, _, _, _, _, _, _, _, _, _, _, rfl, rfl, rfl, fr6, Nat.le_refl _, fun _ _ => rfl, by omega, rfl⟩
    · rintro k1 e s ⟨k, zk, j12, j55, j60, j61, j62, j13, j14, j63, j106, h', c', rl', wl', rfl, hzk, rfl, hf', hcc', hkp', hkd, rfl⟩
      unfold E6b
      by_cases hk : k < Ln
      · obtain ⟨w, hw1, hw2⟩ := hL6.row k _ (listsM_at hk)
        have hwn : nth ws (0 + k * 1) = some w := by rw [nth_eq, Nat.zero_add, Nat.mul_one]; exact hw1
        obtain ⟨ow, rfl, hwr, hwb⟩ := hw2.val
        have hB' : Has h' c5 (.cells ws) := (hkp' c5 (by omega)).trans hB6
        have hris := inL_rises hM4.rises k
        have hcs : cntL M (k + 1) = cntL M k + (inL M k).length := rfl
        have hin : ∀ id ∈ inL M k, ∃ r ∈ M, r.id = id ∧ r.seq = (k : Int) := fun id => inL_mem
        have hil2 : (inL M k).length ≤ 30 := by
          unfold inL
          rw [List.length_map]
          have := List.length_filter_le (fun r : Rc => decide (r.seq = (k : Int))) M
          omega
        have hM30 : M.length ≤ 30 := by omega
        have hcl := cntL_le M k
        generalize inL M k = l at hwn hw2 hwr hris hcs hin hil2
        (repeat (first | (with_reducible refine Then.go ?_) | (with_reducible refine Wx.seq ?_) | (with_reducible refine Wx.skip ?_) | (with_reducible refine Wx.block ?_) | (with_reducible refine Wx.reg ?_) | (refine Wx.condT rfl (by rfl) ?_) | ((with_reducible refine Wseq.nil ?_); intro e he; (simp (decide := true) only [kz] at he; subst he)) | ((with_reducible apply Wseq.mv); rfl; (intro v hv; (simp (decide := true) only [kw] at hv); subst hv)) | ((with_reducible apply Wseq.as); rfl; (intro v hv; (simp (decide := true) only [kw] at hv); subst hv)) | ((with_reducible apply Wseq.stg (op := Op.binOp BinOp.lss _ _ _ _)); rfl; exact to_lssT rfl rfl (by omega))))
        ((with_reducible apply Wseq.stg); (focus rfl); (focus (exact to_indexAddr (k := k) el47 rfl rfl hzk hk)))
        ((with_reducible apply Wseq.stg); (focus rfl); (focus (exact to_load (pl_ rfl) rfl hB'.cel (by omega) hwn)))
        (repeat (first | (with_reducible refine Then.go ?_) | (with_reducible refine Wx.block ?_) | ((with_reducible refine Wseq.nil ?_); intro e he; (simp (decide := true) only [kz] at he; subst he)) | ((with_reducible apply Wseq.mv); rfl; (intro v hv; (simp (decide := true) only [kw] at hv); subst hv)) | ((with_reducible apply Wseq.stg (op := Op.call ⟨Callee.builtin Builtin.len, _, _⟩)); rfl; exact to_lenS (sl_ rfl) rfl)))
        refine Wx.loopE (fun k1 e s => ∃ (i : Nat) (z : Int) (j13 j14 j63 j106 : Value) (h2 : T AObj) (c2 : Nat) (rl2 wl2 : List Nat), e = E6b (.slice oa0 zs0.length cap0) (.slice ob0 zs1.length capb) p (.slice ov V.length V.length) V.length j8 j26 (.slice oms mid.length cms) c5 Ln (.bool false) (cntL M k + i : Nat) zk (.int .i64 zk) (.bool true) (.slice ow l.length l.length) (.int .i64 (l.length : Int)) (.int .i64 z) j13 j14 j63 j106 ∧ z = i ∧ s = ⟨h2, c2, rl2, wl2⟩ ∧ Fresh h2 c2 ∧ c6 ≤ c2 ∧ (∀ b, b < c6 → h2.get b = h6.get b) ∧ i ≤ l.length ∧ k1 = l.length - i) l.length (E6b (.slice oa0 zs0.length cap0) (.slice ob0 zs1.length capb) p (.slice ov V.length V.length) V.length j8 j26 (.slice oms mid.length cms) c5 Ln (.bool false) (cntL M k : Nat) zk (.int .i64 zk) (.bool true) (.slice ow l.length l.length) (.int .i64 (l.length : Int)) (.int .i64 0) j13 j14 j63 j106) (by (repeat (first | (exact Resp.fn) | (apply Resp.then) | (apply Resp.out) | (apply Resp.round)))) ?_ ?_ ?_
        · unfold E6b
          (refine EqK.of ?_ ?_ <;> (repeat (first | (exact all_nil) | (apply all_cons; rfl))))
        · exact ⟨0, 0, _, _, _, _, _, _, _, _, rfl, rfl, rfl, hf', hcc', hkp', by omega, rfl⟩
        · rintro k1 e s ⟨i, z, j13, j14, j63, j106, h2, c2', rl2, wl2, rfl, hz, rfl, hf2, hcc2, hkp2, hid, rfl⟩
          unfold E6b
          by_cases hi : i < l.length
          · obtain ⟨r, hr1, hr2, hr3⟩ := hin l[i] (List.getElem_mem hi)
            have hrm := getM_some hM4.rises hr1 rfl
            have hrid : 1 ≤ r.id ∧ r.id ≤ (V.length : Int) := by
              rw [hMx r.id] at hrm
              refine Classical.byContradiction fun q => ?_
              rw [if_neg q] at hrm; cases hrm
            rw [hMx, if_pos hrid] at hrm
            obtain ⟨A, hA⟩ : ∃ A : Nat, r.id = (A : Int) + 1 := ⟨(r.id - 1).toNat, by omega⟩
            have hAn : A < V.length := by omega
            have hvA : V.getD (r.id - 1).toNat [] = V[A] := by
              rw [show (r.id - 1).toNat = A by omega, List.getD_eq_getElem?_getD, List.getElem?_eq_getElem hAn]; rfl
            rw [hvA] at hrm
            have hseq : listZ mid V[A] = (k : Int) := by rw [← hr3, ← Option.some.inj hrm]
            have hnk : mid.length ≠ 0 → nearZ mid V[A] = zk := fun h0 => by
              have := nearZ_rng (zs := V[A]) h0
              unfold listZ at hseq
              omega
            have hidA : l[i] = (A : Int) + 1 := by omega
            have hwr2 := Row.keepF hwr fr6 hkp2
            have hB2 : Has h2 c5 (.cells ws) := (hkp2 c5 (by omega)).trans hB6
            have hG2 := hG6.keep (U' := fun b => c4 ≤ b ∧ b < c5) fr6 (fun _ q => q) (fun b _ hb _ => hkp2 b hb)
            have hV2 : VRow h2 c2 (.slice ov V.length V.length) 2 V := hV6.keep fr6 fun b hb _ _ => hkp2 b hb
            obtain ⟨g1, bV, vals, bi, rfl, g2, g3, g4, g5, g6⟩ := hV2.at (List.getElem?_eq_getElem hAn)
            have lV := g3.lt hf2
            have hrow : Row h2 (.slice (some ⟨bi, 0, none⟩) 2 2) 2 1 (V[A].map (Value.int .i32)) := .inr ⟨bi, 0, none, 2, _, rfl, g6.cel, subN_all _ _ (by rw [List.length_map]; omega)⟩
            have hgi : (l.map (Value.int .i64))[i]? = some (.int .i64 ((A : Int) + 1)) := by rw [List.getElem?_map, List.getElem?_eq_getElem hi, hidA]; rfl
            obtain ⟨b1, o1, sp1, cs1, rfl, hc1, hn1⟩ := rowCell hwr2 (j := i * 1) (by omega) (by rw [Nat.mul_one]; exact hgi)
            have l1 := hc1.lt hf2
            have lB2 := hB2.lt hf2
            by_cases hi0 : i = 0
            · by_cases h0 : mid.length = 0
              · (repeat (first | (with_reducible refine Then.go ?_) | (with_reducible refine Wx.seq ?_) | (with_reducible refine Wx.skip ?_) | (with_reducible refine Wx.block ?_) | (with_reducible refine Wx.reg ?_) | (refine Wx.condT rfl (by rfl) ?_) | ((with_reducible refine Wseq.nil ?_); intro e he; (simp (decide := true) only [kz] at he; subst he)) | ((with_reducible apply Wseq.mv); rfl; (intro v hv; (simp (decide := true) only [kw] at hv); subst hv)) | ((with_reducible apply Wseq.stg (op := Op.binOp BinOp.lss _ _ _ _)); rfl; exact to_lssT rfl rfl (by omega))))
                ((with_reducible apply Wseq.stg); (focus rfl); (focus (exact to_indexAddr (k := i) el35 rfl rfl hz hi)))
                ((with_reducible apply Wseq.stg); (focus rfl); (focus (exact to_load (pl_ rfl) rfl hc1 (by omega) hn1)))
                (repeat (first | (with_reducible refine Then.go ?_) | (with_reducible refine Out.go ?_) | (with_reducible refine Wx.seq ?_) | (with_reducible refine Wx.skip ?_) | (with_reducible refine Wx.reg ?_) | (refine Wx.condF rfl (by rfl) ?_) | ((with_reducible refine Wseq.nil ?_); intro e he; (simp (decide := true) only [kz] at he; subst he)) | ((with_reducible apply Wseq.mv); rfl; (intro v hv; (simp (decide := true) only [kw] at hv); subst hv)) | ((with_reducible apply Wseq.as); rfl; (intro v hv; (simp (decide := true) only [kw] at hv); subst hv)) | ((with_reducible apply Wseq.pkF); rfl; rfl; (intro v hv; (simp (decide := true) only [kw] at hv); subst hv)) | ((with_reducible apply Wseq.stg (op := Op.call ⟨Callee.builtin Builtin.len, _, _⟩)); rfl; exact to_lenS (sl_ rfl) rfl) | ((with_reducible apply Wseq.stg (op := Op.binOp BinOp.lss _ _ _ _)); rfl; exact to_lssF rfl rfl (by omega)) | ((with_reducible apply Wseq.stg (op := Op.binOp BinOp.gtr _ _ _ _)); rfl; exact to_gtrF rfl rfl (by omega)) | ((with_reducible apply Wseq.stg (op := Op.binOp BinOp.add _ _ _ _)); rfl; exact to_add rfl rfl (by omega) (by omega)) | (refine Wseq.no rfl ?_)))
                refine RoundE.go (l.length - (i + 1)) (E6b _ _ p _ V.length j8 j26 _ c5 Ln (.bool false) ((cntL M k + i : Nat) + 1) zk (.int .i64 zk) (.bool true) _ (.int .i64 (l.length : Int)) (.int .i64 (z + 1)) _ _ _ _) (by omega) (by (refine EqK.of ?_ ?_ <;> (repeat (first | (exact all_nil) | (apply all_cons; rfl))))) ⟨i + 1, z + 1, _, _, _, _, _, _, _, _, rfl, by omega, rfl, hf2, hcc2, hkp2, by omega, rfl⟩
              · (repeat (first | (with_reducible refine Then.go ?_) | (with_reducible refine Wx.seq ?_) | (with_reducible refine Wx.skip ?_) | (with_reducible refine Wx.block ?_) | (with_reducible refine Wx.reg ?_) | (refine Wx.condT rfl (by rfl) ?_) | ((with_reducible refine Wseq.nil ?_); intro e he; (simp (decide := true) only [kz] at he; subst he)) | ((with_reducible apply Wseq.mv); rfl; (intro v hv; (simp (decide := true) only [kw] at hv); subst hv)) | ((with_reducible apply Wseq.stg (op := Op.binOp BinOp.lss _ _ _ _)); rfl; exact to_lssT rfl rfl (by omega))))
                ((with_reducible apply Wseq.stg); (focus rfl); (focus (exact to_indexAddr (k := i) el35 rfl rfl hz hi)))
                ((with_reducible apply Wseq.stg); (focus rfl); (focus (exact to_load (pl_ rfl) rfl hc1 (by omega) hn1)))
                (repeat (first | (with_reducible refine Then.go ?_) | (with_reducible refine Wx.seq ?_) | (with_reducible refine Wx.reg ?_) | ((with_reducible refine Wseq.nil ?_); intro e he; (simp (decide := true) only [kz] at he; subst he)) | ((with_reducible apply Wseq.mv); rfl; (intro v hv; (simp (decide := true) only [kw] at hv); subst hv)) | ((with_reducible apply Wseq.as); rfl; (intro v hv; (simp (decide := true) only [kw] at hv); subst hv)) | ((with_reducible apply Wseq.pkF); rfl; rfl; (intro v hv; (simp (decide := true) only [kw] at hv); subst hv)) | ((with_reducible apply Wseq.stg (op := Op.call ⟨Callee.builtin Builtin.len, _, _⟩)); rfl; exact to_lenS (sl_ rfl) rfl) | ((with_reducible apply Wseq.stg (op := Op.binOp BinOp.lss _ _ _ _)); rfl; exact to_lssF rfl rfl (by omega)) | ((with_reducible apply Wseq.stg (op := Op.binOp BinOp.gtr _ _ _ _)); rfl; exact to_gtrT rfl rfl (by omega)) | ((with_reducible apply Wseq.stg (op := Op.binOp BinOp.gtr _ _ _ _)); rfl; exact to_gtrF rfl rfl (by omega)) | ((with_reducible apply Wseq.stg (op := Op.binOp BinOp.sub _ _ _ _)); rfl; exact to_sub rfl rfl (by omega) (by omega)) | (refine Wseq.no rfl ?_)))
                ((with_reducible apply Wseq.stg); (focus rfl); (focus (exact to_indexAddr (k := A) el22 rfl rfl (by omega) hAn)))
                ((with_reducible apply Wseq.stg); (focus rfl); (focus (exact to_load (pl_ rfl) rfl g3.cel (by omega) g4)))
                refine Wseq.call rfl rfl (nearest_spec (by ((repeat (apply Fresh.put; omega)); ((assumption)))) hG2.mrow (by omega) (by omega) hrow g1 (hVb _ (List.getElem_mem hAn)) (fun _ => True) (fun _ _ => trivial) (fun _ _ => trivial)) ?_
                rintro xn h3' c3' r3' w3' ⟨rfl, hext3'⟩
                have fr3' := hext3'.fresh
                have le3' := hext3'.c
                simp only at le3' fr3'
                rw [hnk h0]
                (repeat (first | (with_reducible refine Then.go ?_) | (with_reducible refine Out.go ?_) | (with_reducible refine Wx.skip ?_) | (with_reducible refine Wx.reg ?_) | (refine Wx.condF rfl (by rfl) ?_) | ((with_reducible refine Wseq.nil ?_); intro e he; (simp (decide := true) only [kz] at he; subst he)) | ((with_reducible apply Wseq.mv); rfl; (intro v hv; (simp (decide := true) only [kw] at hv); subst hv)) | ((with_reducible apply Wseq.as); rfl; (intro v hv; (simp (decide := true) only [kw] at hv); subst hv)) | ((with_reducible apply Wseq.pkT); rfl; rfl; (intro v hv; (simp (decide := true) only [kw] at hv); subst hv)) | ((with_reducible apply Wseq.pkF); rfl; rfl; (intro v hv; (simp (decide := true) only [kw] at hv); subst hv)) | ((with_reducible apply Wseq.stg (op := Op.binOp BinOp.add _ _ _ _)); rfl; exact to_add rfl rfl (by omega) (by omega)) | ((with_reducible apply Wseq.stg (op := Op.binOp BinOp.neq _ _ _ _)); rfl; exact to_neIF rfl rfl (by omega))))
                refine RoundE.go (l.length - (i + 1)) (E6b _ _ p _ V.length j8 j26 _ c5 Ln (.bool false) ((cntL M k + i : Nat) + 1) zk (.int .i64 zk) (.bool true) _ (.int .i64 (l.length : Int)) (.int .i64 (z + 1)) _ _ _ _) (by omega) (by (refine EqK.of ?_ ?_ <;> (repeat (first | (exact all_nil) | (apply all_cons; rfl))))) ⟨i + 1, z + 1, _, _, _, _, _, _, _, _, rfl, by omega, rfl, fr3', by omega, fun b hb => (hext3'.get (by omega) (fun q => q)).trans (hkp2 b hb), by omega, rfl⟩
            · have hi1 : i - 1 < l.length := by omega
              have hlt : l[i - 1] < l[i] := List.pairwise_iff_getElem.1 hris (i - 1) i hi1 hi (by omega)
              have hgi2 : (l.map (Value.int .i64))[i - 1]? = some (.int .i64 l[i - 1]) := by rw [List.getElem?_map, List.getElem?_eq_getElem hi1]; rfl
              obtain ⟨b2, o2, sp2, cs2, e2, hc2, hn2⟩ := rowCell hwr2 (j := (i - 1) * 1) (by omega) (by rw [Nat.mul_one]; exact hgi2)
              cases e2
              by_cases h0 : mid.length = 0
              · (repeat (first | (with_reducible refine Then.go ?_) | (with_reducible refine Wx.seq ?_) | (with_reducible refine Wx.skip ?_) | (with_reducible refine Wx.block ?_) | (with_reducible refine Wx.reg ?_) | (refine Wx.condT rfl (by rfl) ?_) | ((with_reducible refine Wseq.nil ?_); intro e he; (simp (decide := true) only [kz] at he; subst he)) | ((with_reducible apply Wseq.mv); rfl; (intro v hv; (simp (decide := true) only [kw] at hv); subst hv)) | ((with_reducible apply Wseq.stg (op := Op.binOp BinOp.lss _ _ _ _)); rfl; exact to_lssT rfl rfl (by omega))))
                ((with_reducible apply Wseq.stg); (focus rfl); (focus (exact to_indexAddr (k := i) el35 rfl rfl hz hi)))
                ((with_reducible apply Wseq.stg); (focus rfl); (focus (exact to_load (pl_ rfl) rfl hc1 (by omega) hn1)))
                (repeat (first | (with_reducible refine Then.go ?_) | (with_reducible refine Wx.seq ?_) | (with_reducible refine Wx.reg ?_) | ((with_reducible refine Wseq.nil ?_); intro e he; (simp (decide := true) only [kz] at he; subst he)) | ((with_reducible apply Wseq.mv); rfl; (intro v hv; (simp (decide := true) only [kw] at hv); subst hv)) | ((with_reducible apply Wseq.as); rfl; (intro v hv; (simp (decide := true) only [kw] at hv); subst hv)) | ((with_reducible apply Wseq.stg (op := Op.binOp BinOp.gtr _ _ _ _)); rfl; exact to_gtrT rfl rfl (by omega))))
                ((with_reducible apply Wseq.stg); (focus rfl); (focus (exact to_indexAddr (k := k) el47 rfl rfl hzk hk)))
                ((with_reducible apply Wseq.stg); (focus rfl); (focus (exact to_load (pl_ rfl) rfl hB2.cel (by omega) hwn)))
                (repeat (first | ((with_reducible apply Wseq.mv); rfl; (intro v hv; (simp (decide := true) only [kw] at hv); subst hv)) | ((with_reducible apply Wseq.stg (op := Op.binOp BinOp.sub _ _ _ _)); rfl; exact to_sub rfl rfl (by omega) (by omega))))
                ((with_reducible apply Wseq.stg); (focus rfl); (focus (exact to_indexAddr (k := i - 1) el35 rfl rfl (by omega) (by omega))))
                ((with_reducible apply Wseq.stg); (focus rfl); (focus (exact to_load (pl_ rfl) rfl hc2 (by omega) hn2)))
                (repeat (first | (with_reducible refine Then.go ?_) | (with_reducible refine Out.go ?_) | (with_reducible refine Wx.skip ?_) | (with_reducible refine Wx.reg ?_) | (refine Wx.condF rfl (by rfl) ?_) | ((with_reducible refine Wseq.nil ?_); intro e he; (simp (decide := true) only [kz] at he; subst he)) | ((with_reducible apply Wseq.mv); rfl; (intro v hv; (simp (decide := true) only [kw] at hv); subst hv)) | ((with_reducible apply Wseq.as); rfl; (intro v hv; (simp (decide := true) only [kw] at hv); subst hv)) | ((with_reducible apply Wseq.pkT); rfl; rfl; (intro v hv; (simp (decide := true) only [kw] at hv); subst hv)) | ((with_reducible apply Wseq.pkF); rfl; rfl; (intro v hv; (simp (decide := true) only [kw] at hv); subst hv)) | ((with_reducible apply Wseq.stg (op := Op.call ⟨Callee.builtin Builtin.len, _, _⟩)); rfl; exact to_lenS (sl_ rfl) rfl) | ((with_reducible apply Wseq.stg (op := Op.binOp BinOp.lss _ _ _ _)); rfl; exact to_lssF rfl rfl (by omega)) | ((with_reducible apply Wseq.stg (op := Op.binOp BinOp.gtr _ _ _ _)); rfl; exact to_gtrF rfl rfl (by omega)) | ((with_reducible apply Wseq.stg (op := Op.binOp BinOp.geq _ _ _ _)); rfl; exact to_geqF rfl rfl (by omega)) | ((with_reducible apply Wseq.stg (op := Op.binOp BinOp.add _ _ _ _)); rfl; exact to_add rfl rfl (by omega) (by omega)) | (refine Wseq.no rfl ?_)))
                refine RoundE.go (l.length - (i + 1)) (E6b _ _ p _ V.length j8 j26 _ c5 Ln (.bool false) ((cntL M k + i : Nat) + 1) zk (.int .i64 zk) (.bool true) _ (.int .i64 (l.length : Int)) (.int .i64 (z + 1)) _ _ _ _) (by omega) (by (refine EqK.of ?_ ?_ <;> (repeat (first | (exact all_nil) | (apply all_cons; rfl))))) ⟨i + 1, z + 1, _, _, _, _, _, _, _, _, rfl, by omega, rfl, hf2, hcc2, hkp2, by omega, rfl⟩
              · (repeat (first | (with_reducible refine Then.go ?_) | (with_reducible refine Wx.seq ?_) | (with_reducible refine Wx.skip ?_) | (with_reducible refine Wx.block ?_) | (with_reducible refine Wx.reg ?_) | (refine Wx.condT rfl (by rfl) ?_) | ((with_reducible refine Wseq.nil ?_); intro e he; (simp (decide := true) only [kz] at he; subst he)) | ((with_reducible apply Wseq.mv); rfl; (intro v hv; (simp (decide := true) only [kw] at hv); subst hv)) | ((with_reducible apply Wseq.stg (op := Op.binOp BinOp.lss _ _ _ _)); rfl; exact to_lssT rfl rfl (by omega))))
                ((with_reducible apply Wseq.stg); (focus rfl); (focus (exact to_indexAddr (k := i) el35 rfl rfl hz hi)))
                ((with_reducible apply Wseq.stg); (focus rfl); (focus (exact to_load (pl_ rfl) rfl hc1 (by omega) hn1)))
                (repeat (first | (with_reducible refine Then.go ?_) | (with_reducible refine Wx.seq ?_) | (with_reducible refine Wx.reg ?_) | ((with_reducible refine Wseq.nil ?_); intro e he; (simp (decide := true) only [kz] at he; subst he)) | ((with_reducible apply Wseq.mv); rfl; (intro v hv; (simp (decide := true) only [kw] at hv); subst hv)) | ((with_reducible apply Wseq.as); rfl; (intro v hv; (simp (decide := true) only [kw] at hv); subst hv)) | ((with_reducible apply Wseq.stg (op := Op.binOp BinOp.gtr _ _ _ _)); rfl; exact to_gtrT rfl rfl (by omega))))
                ((with_reducible apply Wseq.stg); (focus rfl); (focus (exact to_indexAddr (k := k) el47 rfl rfl hzk hk)))
                ((with_reducible apply Wseq.stg); (focus rfl); (focus (exact to_load (pl_ rfl) rfl hB2.cel (by omega) hwn)))
                (repeat (first | ((with_reducible apply Wseq.mv); rfl; (intro v hv; (simp (decide := true) only [kw] at hv); subst hv)) | ((with_reducible apply Wseq.stg (op := Op.binOp BinOp.sub _ _ _ _)); rfl; exact to_sub rfl rfl (by omega) (by omega))))
                ((with_reducible apply Wseq.stg); (focus rfl); (focus (exact to_indexAddr (k := i - 1) el35 rfl rfl (by omega) (by omega))))
                ((with_reducible apply Wseq.stg); (focus rfl); (focus (exact to_load (pl_ rfl) rfl hc2 (by omega) hn2)))
                (repeat (first | ((with_reducible apply Wseq.mv); rfl; (intro v hv; (simp (decide := true) only [kw] at hv); subst hv)) | ((with_reducible apply Wseq.pkT); rfl; rfl; (intro v hv; (simp (decide := true) only [kw] at hv); subst hv)) | ((with_reducible apply Wseq.pkF); rfl; rfl; (intro v hv; (simp (decide := true) only [kw] at hv); subst hv)) | ((with_reducible apply Wseq.stg (op := Op.call ⟨Callee.builtin Builtin.len, _, _⟩)); rfl; exact to_lenS (sl_ rfl) rfl) | ((with_reducible apply Wseq.stg (op := Op.binOp BinOp.lss _ _ _ _)); rfl; exact to_lssF rfl rfl (by omega)) | ((with_reducible apply Wseq.stg (op := Op.binOp BinOp.gtr _ _ _ _)); rfl; exact to_gtrT rfl rfl (by omega)) | ((with_reducible apply Wseq.stg (op := Op.binOp BinOp.gtr _ _ _ _)); rfl; exact to_gtrF rfl rfl (by omega)) | ((with_reducible apply Wseq.stg (op := Op.binOp BinOp.geq _ _ _ _)); rfl; exact to_geqF rfl rfl (by omega)) | ((with_reducible apply Wseq.stg (op := Op.binOp BinOp.sub _ _ _ _)); rfl; exact to_sub rfl rfl (by omega) (by omega))))
                ((with_reducible apply Wseq.stg); (focus rfl); (focus (exact to_indexAddr (k := A) el22 rfl rfl (by omega) hAn)))
                ((with_reducible apply Wseq.stg); (focus rfl); (focus (exact to_load (pl_ rfl) rfl g3.cel (by omega) g4)))
                refine Wseq.call rfl rfl (nearest_spec (by ((repeat (apply Fresh.put; omega)); ((assumption)))) hG2.mrow (by omega) (by omega) hrow g1 (hVb _ (List.getElem_mem hAn)) (fun _ => True) (fun _ _ => trivial) (fun _ _ => trivial)) ?_
                rintro xn h3' c3' r3' w3' ⟨rfl, hext3'⟩
                have fr3' := hext3'.fresh
                have le3' := hext3'.c
                simp only at le3' fr3'
                rw [hnk h0]
                (repeat (first | (with_reducible refine Then.go ?_) | (with_reducible refine Out.go ?_) | (with_reducible refine Wx.skip ?_) | (with_reducible refine Wx.reg ?_) | (refine Wx.condF rfl (by rfl) ?_) | ((with_reducible refine Wseq.nil ?_); intro e he; (simp (decide := true) only [kz] at he; subst he)) | ((with_reducible apply Wseq.mv); rfl; (intro v hv; (simp (decide := true) only [kw] at hv); subst hv)) | ((with_reducible apply Wseq.as); rfl; (intro v hv; (simp (decide := true) only [kw] at hv); subst hv)) | ((with_reducible apply Wseq.pkT); rfl; rfl; (intro v hv; (simp (decide := true) only [kw] at hv); subst hv)) | ((with_reducible apply Wseq.pkF); rfl; rfl; (intro v hv; (simp (decide := true) only [kw] at hv); subst hv)) | ((with_reducible apply Wseq.stg (op := Op.binOp BinOp.add _ _ _ _)); rfl; exact to_add rfl rfl (by omega) (by omega)) | ((with_reducible apply Wseq.stg (op := Op.binOp BinOp.neq _ _ _ _)); rfl; exact to_neIF rfl rfl (by omega))))
                refine RoundE.go (l.length - (i + 1)) (E6b _ _ p _ V.length j8 j26 _ c5 Ln (.bool false) ((cntL M k + i : Nat) + 1) zk (.int .i64 zk) (.bool true) _ (.int .i64 (l.length : Int)) (.int .i64 (z + 1)) _ _ _ _) (by omega) (by (refine EqK.of ?_ ?_ <;> (repeat (first | (exact all_nil) | (apply all_cons; rfl))))) ⟨i + 1, z + 1, _, _, _, _, _, _, _, _, rfl, by omega, rfl, fr3', by omega, fun b hb => (hext3'.get (by omega) (fun q => q)).trans (hkp2 b hb), by omega, rfl⟩
          · (repeat (first | (with_reducible refine Then.go ?_) | (with_reducible refine Then.ex ?_) | (with_reducible refine Out.go ?_) | (with_reducible refine Out.hit ?_) | (with_reducible refine Wx.seq ?_) | (with_reducible refine Wx.exit ?_) | (with_reducible refine Wx.reg ?_) | (with_reducible refine RoundE.ex ?_) | (refine Wx.condF rfl (by rfl) ?_) | ((with_reducible refine Wseq.nil ?_); intro e he; (simp (decide := true) only [kz] at he; subst he)) | ((with_reducible apply Wseq.mv); rfl; (intro v hv; (simp (decide := true) only [kw] at hv); subst hv)) | ((with_reducible apply Wseq.stg (op := Op.binOp BinOp.lss _ _ _ _)); rfl; exact to_lssF rfl rfl (by omega)) | ((with_reducible apply Wseq.stg (op := Op.binOp BinOp.add _ _ _ _)); rfl; exact to_add rfl rfl (by omega) (by omega))))
            obtain rfl : i = l.length := by omega
            refine RoundE.go (Ln - (k + 1)) (E6b _ _ p _ V.length j8 j26 _ c5 Ln (.bool false) (cntL M k + l.length : Nat) (zk + 1) _ _ _ _ _ _ _ _ _) (by omega) (by (refine EqK.of ?_ ?_ <;> (repeat (first | (exact all_nil) | (apply all_cons; rfl))))) ⟨k + 1, zk + 1, _, _, _, _, _, _, _, _, _, _, _, _, _, by rw [hcs]; rfl, by omega, rfl, hf2, hcc2, hkp2, by omega, rfl⟩
      · obtain rfl : k = Ln := by omega
        rw [hcnt]
        have hM' := hM6.keep fr6 (fun b _ hb => hkp' b hb)
        (repeat (first | (with_reducible refine Then.go ?_) | (with_reducible refine Then.ex ?_) | (with_reducible refine Out.hit ?_) | (with_reducible refine Wx.seq ?_) | (with_reducible refine Wx.exit ?_) | (with_reducible refine Wx.reg ?_) | (with_reducible refine RoundE.ex ?_) | (refine Wx.condF rfl (by rfl) ?_) | ((with_reducible refine Wseq.nil ?_); intro e he; (simp (decide := true) only [kz] at he; subst he)) | ((with_reducible apply Wseq.mv); rfl; (intro v hv; (simp (decide := true) only [kw] at hv); subst hv)) | ((with_reducible apply Wseq.stg (op := Op.call ⟨Callee.builtin Builtin.len, _, _⟩)); rfl; exact to_lenS (sl_ rfl) rfl) | ((with_reducible apply Wseq.stg (op := Op.binOp BinOp.lss _ _ _ _)); rfl; exact to_lssF rfl rfl (by omega)) | ((with_reducible apply Wseq.stg (op := Op.binOp BinOp.eql _ _ _ _)); rfl; exact to_eqIT rfl rfl (by omega))))
        refine Wseq.call rfl rfl (iids_spec (by ((repeat (apply Fresh.put; omega)); ((assumption)))) hM' (by omega)) ?_
        rintro x9 h9 c9 r9 w9 ⟨hids, hext9⟩
        obtain ⟨oi, ic, rfl⟩ := hids.val
        (repeat (first | (with_reducible refine Then.go ?_) | (with_reducible refine Wx.ret ?_) | ((with_reducible refine Wseq.nil ?_); intro e he; (simp (decide := true) only [kz] at he; subst he)) | ((with_reducible apply Wseq.mv); rfl; (intro v hv; (simp (decide := true) only [kw] at hv); subst hv)) | ((with_reducible apply Wseq.as); rfl; (intro v hv; (simp (decide := true) only [kw] at hv); subst hv)) | ((with_reducible apply Wseq.pkT); rfl; rfl; (intro v hv; (simp (decide := true) only [kw] at hv); subst hv)) | ((with_reducible apply Wseq.stg (op := Op.call ⟨Callee.builtin Builtin.len, _, _⟩)); rfl; exact to_lenS (sl_ rfl) rfl) | ((with_reducible apply Wseq.stg (op := Op.binOp BinOp.eql _ _ _ _)); rfl; exact to_eqIT rfl rfl (by omega))))
        exact ⟨.inr rfl, Wres.one rfl rfl⟩
end Go.Ab.Seat
