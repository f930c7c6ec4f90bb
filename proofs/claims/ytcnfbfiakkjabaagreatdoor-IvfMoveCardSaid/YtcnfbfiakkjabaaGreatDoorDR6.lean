/- IvfMove: the run answers true (the abstract machine). -/
import Derived.Test.YtcnfbfiakkjabaaGreatDoorDV3
set_option linter.unusedVariables false
set_option linter.unusedSimpArgs false
namespace Go.Ab.Seat
open Go.Extern Go.Proofs
set_option linter.unusedSimpArgs false
set_option linter.unusedVariables false
set_option maxRecDepth 4000
set_option pp.deepTerms false
set_option pp.deepTerms.threshold 6

theorem tmod20 (z : Int) : 0 ≤ (z.tmod 20 + 20).tmod 20 ∧ (z.tmod 20 + 20).tmod 20 < 20 ∧ -20 < z.tmod 20 ∧ z.tmod 20 < 20 := by
  have h1 := tmod_lt z 20 (by omega)
  have h2 := Int.tmod_lt_of_pos (z.tmod 20 + 20) (show (0 : Int) < 20 by omega)
  have h3 := Int.tmod_nonneg (a := z.tmod 20 + 20) 20 (by omega)
  omega
/-- None, or one with that id. -/
def OneM (M : List Rc) (id : Int) : Prop := M = [] ∨ ∃ r, M = [r] ∧ r.id = id
theorem OneM.put {M : List Rc} {id : Int} {r : Rc} (h : OneM M id) (hr : r.id = id) : putM r M = [r] := by
  rcases h with rfl | ⟨r', rfl, h2⟩
  · rfl
  · unfold putM
    rw [if_neg (by omega), if_pos (by omega)]
theorem inL_one {r : Rc} {k : Nat} : inL [r] k = if r.seq = (k : Int) then [r.id] else [] := by
  unfold inL
  by_cases h : r.seq = (k : Int)
  · rw [if_pos h, List.filter_cons_of_pos (by simpa using h)]; rfl
  · rw [if_neg h, List.filter_cons_of_neg (by simpa using h)]; rfl

def E7a (v0 v1 : Value) (id : Int) (p : Nat) (ms lv : Value) (n : Nat) (z : Int) (j37 j11 j12 j45 j46 j47 j48 j13 j14 j54 j66 j15 j16 j93 : Value) : L :=
  .cons 0 v0 (.cons 1 v1 (.cons 2 (.int .i64 id) (.cons 6 (.bool false) (.cons 7 (.bool true) (.cons 22 (.bool false) (.cons 8 (.pointer (some ⟨p, 0, none⟩)) (.cons 9 ms (.cons 34 lv (.cons 35 (.int .i64 (n : Int)) (.cons 36 (.int .i64 z) (.cons 37 j37 (.cons 11 j11 (.cons 12 j12 (.cons 45 j45 (.cons 46 j46 (.cons 47 j47 (.cons 48 j48 (.cons 13 j13 (.cons 14 j14 (.cons 54 j54 (.cons 66 j66 (.cons 15 j15 (.cons 16 j16 (.cons 93 j93 .nil))))))))))))))))))))))))

def E7b (v0 v1 : Value) (id : Int) (p : Nat) (ms lv : Value) (n : Nat) (z : Int) (j37 j11 j12 j45 j46 j47 j48 j13 j14 j54 j66 j15 j16 j93 j17 : Value) (cl Ln : Nat) (zk : Int) (j19 j113 j118 : Value) : L :=
  .cons 0 v0 (.cons 1 v1 (.cons 2 (.int .i64 id) (.cons 6 (.bool false) (.cons 7 (.bool true) (.cons 22 (.bool false) (.cons 8 (.pointer (some ⟨p, 0, none⟩)) (.cons 9 ms (.cons 34 lv (.cons 35 (.int .i64 (n : Int)) (.cons 36 (.int .i64 z) (.cons 37 j37 (.cons 11 j11 (.cons 12 j12 (.cons 45 j45 (.cons 46 j46 (.cons 47 j47 (.cons 48 j48 (.cons 13 j13 (.cons 14 j14 (.cons 54 j54 (.cons 66 j66 (.cons 15 j15 (.cons 16 j16 (.cons 93 j93 (.cons 17 j17 (.cons 108 (.bool false) (.cons 110 (.slice (some ⟨cl, 0, none⟩) Ln Ln) (.cons 111 (.int .i64 (Ln : Int)) (.cons 112 (.int .i64 zk) (.cons 19 j19 (.cons 113 j113 (.cons 118 j118 .nil))))))))))))))))))))))))))))))))

set_option maxHeartbeats 16000000 in
theorem ivfMove_run {h : T AObj} {c : Nat} (hf : Fresh h c) (hg : Glob h) (id0 : Int) {v0 v1 : Value} {zs0 zs1 : List (List Int)} (hv0 : VecsIn h v0 zs0) (hvn0 : zs0.length ≤ 9223372036854775807) (hv1 : VecsIn h v1 zs1) (hvn1 : zs1.length ≤ 9223372036854775807) :
    ∃ r s', FnTo (Cs smQ) eg 7 [v0, v1, .int .i64 id0] ⟨h, c, [], []⟩ r s' ∧ r = .bool true := by
  have hid0 := tmod20 id0
  obtain ⟨oa0, cap0, rfl, _⟩ := _root_.id hv0
  obtain ⟨ob0, capb, rfl, _⟩ := _root_.id hv1
  refine Fn.go (stdQ 7 rfl) ex7 fn7 km7 rfl rfl ?_
  intro e he
  (simp (decide := true) only [kz] at he; subst he)
  (repeat (first | (with_reducible refine Then.go ?_) | (with_reducible refine Wx.seq ?_) | (with_reducible refine Wx.reg ?_) | ((with_reducible refine Wseq.nil ?_); intro e he; (simp (decide := true) only [kz] at he; subst he)) | ((with_reducible apply Wseq.as); rfl; (intro v hv; (simp (decide := true) only [kw] at hv); subst hv))))
  refine Wseq.call rfl rfl (begunQ (by ((repeat (apply Fresh.put; omega)); ((assumption)))) hg) ?_
  rintro x1 h1 c1 r1 w1 ⟨rfl, e1⟩
  cases e1
  (repeat (first | (with_reducible refine Then.go ?_) | (with_reducible refine Wx.seq ?_) | (with_reducible refine Wx.skip ?_) | (with_reducible refine Wx.reg ?_) | (refine Wx.condF rfl (by rfl) ?_) | ((with_reducible refine Wseq.nil ?_); intro e he; (simp (decide := true) only [kz] at he; subst he)) | ((with_reducible apply Wseq.mv); rfl; (intro v hv; (simp (decide := true) only [kw] at hv); subst hv)) | ((with_reducible apply Wseq.as); rfl; (intro v hv; (simp (decide := true) only [kw] at hv); subst hv)) | ((with_reducible apply Wseq.stg (op := Op.unOp UnOp.not _ _)); rfl; exact to_notT rfl) | ((with_reducible apply Wseq.stg (op := Op.binOp BinOp.add _ _ _ _)); rfl; exact to_add rfl rfl (by omega) (by omega)) | ((with_reducible apply Wseq.stg (op := Op.binOp BinOp.rem _ _ _ _)); rfl; exact to_rem rfl rfl (by decide))))
  obtain ⟨id, hid⟩ : ∃ id, 1 + (id0.tmod 20 + 20).tmod 20 = id := ⟨_, rfl⟩
  rw [hid]
  have hidr : 1 ≤ id ∧ id ≤ 20 := by omega
  refine Wseq.call rfl rfl (vecs_spec stdQ (n := 20) (dim := 2) (by ((repeat (apply Fresh.put; omega)); ((assumption)))) hv0 (by omega) (by omega) hvn0) ?_
  rintro lv0 h1 c1 r1 w1 ⟨hV0, hext1⟩
  have fr1 := hext1.fresh
  have le1 := hext1.c
  have kp1 : ∀ b, b < c → h1.get b = h.get b := fun b hb => hext1.get hb (fun q => q)
  simp only at le1 fr1
  generalize hvs0 : vecsZ zs0 2 20 = V0 at hV0
  have hV0b : ∀ zs ∈ V0, Bnd zs := fun zs hz => by
    rw [← hvs0] at hz
    unfold vecsZ at hz
    obtain ⟨y, _, rfl⟩ := List.mem_map.1 hz
    exact Bnd_vecZ _ _
  have hV0l : V0.length ≤ 20 := by rw [← hvs0]; unfold vecsZ; rw [List.length_map, List.length_take]; omega
  have hM0 := hV0.mrow hV0b
  skip
  refine Wseq.call rfl rfl (inew_spec (by ((repeat (apply Fresh.put; omega)); ((assumption)))) (.inl rfl) hM0 (by omega) (by omega) (by omega) (fun _ => True) (fun _ _ => trivial)) ?_
  rintro x2 h2 c2 r2 w2 ⟨⟨p, m, mv, rfl, hI2⟩, hext2⟩
  have hmok := midsZ_ok (n := 4) hM0.vok 3
  generalize midsZ 4 V0 3 = mid at hI2 hmok
  have hok4 : mid.length ≤ 4 := hmok.1
  have fr2 := hext2.fresh
  have le2 := hext2.c
  have kp2 : ∀ b, b < c1 → h2.get b = h1.get b := fun b hb => hext2.get hb (fun q => q)
  simp only at le2 fr2 hI2
  obtain ⟨lp2, lm2⟩ := hI2.lt fr2
  (repeat (first | (with_reducible refine Then.go ?_) | (with_reducible refine Wx.seq ?_) | (with_reducible refine Wx.reg ?_) | ((with_reducible refine Wseq.nil ?_); intro e he; (simp (decide := true) only [kz] at he; subst he)) | ((with_reducible apply Wseq.mv); rfl; (intro v hv; (simp (decide := true) only [kw] at hv); subst hv)) | ((with_reducible apply Wseq.as); rfl; (intro v hv; (simp (decide := true) only [kw] at hv); subst hv))))
  refine Wseq.call rfl rfl (imiddles_spec (by ((repeat (apply Fresh.put; omega)); ((assumption)))) hI2 (by omega) (by omega) (by omega)) ?_
  rintro msv h5 c5 r5 w5 ⟨hG5, hext5⟩
  have fr5 := hext5.fresh
  have le5 := hext5.c
  have kp5 : ∀ b, b < c2 → h5.get b = h2.get b := fun b hb => hext5.get hb (fun q => q)
  simp only at le5 fr5 hG5
  have hI5 := hI2.keep fr2 (fun b _ hb => kp5 b hb)
  obtain ⟨oms, cms, rfl⟩ := hG5.mrow.val
  (repeat (first | (with_reducible refine Then.go ?_) | (with_reducible refine Wx.seq ?_) | (with_reducible refine Wx.reg ?_) | ((with_reducible refine Wseq.nil ?_); intro e he; (simp (decide := true) only [kz] at he; subst he)) | ((with_reducible apply Wseq.mv); rfl; (intro v hv; (simp (decide := true) only [kw] at hv); subst hv)) | ((with_reducible apply Wseq.as); rfl; (intro v hv; (simp (decide := true) only [kw] at hv); subst hv))))
  refine Wseq.call rfl rfl (vecs_spec stdQ (n := 12) (dim := 2) (by ((repeat (apply Fresh.put; omega)); ((assumption)))) (((hv1.keep hf kp1).keep fr1 kp2).keep fr2 kp5) (by omega) (by omega) hvn1) ?_
  rintro lv h3 c3 r3 w3 ⟨hV3, hext3⟩
  have fr3 := hext3.fresh
  have le3 := hext3.c
  have kp3 : ∀ b, b < c5 → h3.get b = h5.get b := fun b hb => hext3.get hb (fun q => q)
  simp only at le3 fr3
  generalize hvs : vecsZ zs1 2 12 = V at hV3
  have hVlen : V.length ≤ 12 := by rw [← hvs]; unfold vecsZ; rw [List.length_map, List.length_take]; omega
  have hVb : ∀ zs ∈ V, Bnd zs := fun zs hz => by
    rw [← hvs] at hz
    unfold vecsZ at hz
    obtain ⟨y, _, rfl⟩ := List.mem_map.1 hz
    exact Bnd_vecZ _ _
  obtain ⟨ov, rfl⟩ := hV3.val
  have hI3 := hI5.keep fr5 (fun b _ hb => kp3 b hb)
  have hG3 := hG5.keep (U' := fun b => c2 ≤ b ∧ b < c5) fr5 (fun _ q => q) (fun b _ hb _ => kp3 b hb)
  (repeat (first | (with_reducible refine Then.go ?_) | (with_reducible refine Wx.block ?_) | ((with_reducible refine Wseq.nil ?_); intro e he; (simp (decide := true) only [kz] at he; subst he)) | ((with_reducible apply Wseq.mv); rfl; (intro v hv; (simp (decide := true) only [kw] at hv); subst hv)) | ((with_reducible apply Wseq.stg (op := Op.call ⟨Callee.builtin Builtin.len, _, _⟩)); rfl; exact to_lenS (sl_ rfl) rfl)))
  refine Wx.cutO (fun e s => ∃ (j37 j11 j12 j45 j46 j47 j48 j13 j14 j54 j66 j15 j16 j93 : Value) (h' : T AObj) (c' : Nat) (rl' wl' : List Nat) (M : List Rc) (U : Nat → Prop), e = E7a (.slice oa0 zs0.length cap0) (.slice ob0 zs1.length capb) id p (.slice oms mid.length cms) (.slice ov V.length V.length) V.length V.length j37 j11 j12 j45 j46 j47 j48 j13 j14 j54 j66 j15 j16 j93 ∧ s = ⟨h', c', rl', wl'⟩ ∧ Fresh h' c' ∧ IvfM h' p m mv 1 2 mid M U ∧ OneM M id) (by (repeat ((exact Resp.fn)))) ?_ ?_
  · refine Wx.loopE (fun k1 e s => ∃ (i : Nat) (z : Int) (j37 j11 j12 j45 j46 j47 j48 j13 j14 j54 j66 j15 j16 j93 : Value) (h' : T AObj) (c' : Nat) (rl' wl' : List Nat) (M : List Rc) (U : Nat → Prop), e = E7a (.slice oa0 zs0.length cap0) (.slice ob0 zs1.length capb) id p (.slice oms mid.length cms) (.slice ov V.length V.length) V.length z j37 j11 j12 j45 j46 j47 j48 j13 j14 j54 j66 j15 j16 j93 ∧ z = i ∧ s = ⟨h', c', rl', wl'⟩ ∧ Fresh h' c' ∧ c3 ≤ c' ∧ VRow h' c5 (.slice ov V.length V.length) 2 V ∧ GRow h' (.slice oms mid.length cms) 2 mid (fun b => c2 ≤ b ∧ b < c5) ∧ IvfM h' p m mv 1 2 mid M U ∧ OneM M id ∧ i ≤ V.length ∧ k1 = V.length - i) V.length (E7a (.slice oa0 zs0.length cap0) (.slice ob0 zs1.length capb) id p (.slice oms mid.length cms) (.slice ov V.length V.length) V.length 0 top top top top top top top top top top top top top top) (by (repeat (first | (exact Resp.fn) | (apply Resp.out) | (apply Resp.cut)))) ?_ ?_ ?_
    · unfold E7a
      (refine EqK.of ?_ ?_ <;> (repeat (first | (exact all_nil) | (apply all_cons; rfl))))
    · exact ⟨0, 0, _, _, _, _, _, _, _, _, _, _, _, _, _, _, _, _, _, _, [], _, rfl, rfl, rfl, fr3, Nat.le_refl _, hV3, hG3, hI3, .inl rfl, by omega, rfl⟩
    · rintro k1 e s ⟨i, z, j37, j11, j12, j45, j46, j47, j48, j13, j14, j54, j66, j15, j16, j93, h', c', rl', wl', M, U, rfl, hz, rfl, hf', hcc', hV', hG', hM, hone, hid', rfl⟩
      unfold E7a
      by_cases hi : i < V.length
      · obtain ⟨g1, bV, vals, bi, rfl, g2, g3, g4, g5, g6⟩ := hV'.at (List.getElem?_eq_getElem hi)
        have lV := g3.lt hf'
        obtain ⟨es, n, hma⟩ := hM.hm
        have hrow : Row h' (.slice (some ⟨bi, 0, none⟩) 2 2) 2 1 (V[i].map (Value.int .i32)) := .inr ⟨bi, 0, none, 2, _, rfl, g6.cel, subN_all _ _ (by rw [List.length_map]; omega)⟩
        have hbnd := hVb _ (List.getElem_mem hi)
        have hput := hone.put (r := mbI id V[i] (listZ mid V[i])) rfl
        (repeat (first | (with_reducible refine Then.go ?_) | (with_reducible refine Wx.seq ?_) | (with_reducible refine Wx.skip ?_) | (with_reducible refine Wx.block ?_) | (with_reducible refine Wx.reg ?_) | (refine Wx.condT rfl (by rfl) ?_) | ((with_reducible refine Wseq.nil ?_); intro e he; (simp (decide := true) only [kz] at he; subst he)) | ((with_reducible apply Wseq.stg (op := Op.binOp BinOp.lss _ _ _ _)); rfl; exact to_lssT rfl rfl (by omega))))
        ((with_reducible apply Wseq.stg); (focus rfl); (focus (exact to_indexAddr (k := i) el22 rfl rfl hz hi)))
        ((with_reducible apply Wseq.stg); (focus rfl); (focus (exact to_load (pl_ rfl) rfl g3.cel (by omega) g4)))
        (repeat (first | (with_reducible refine Then.go ?_) | (with_reducible refine Wx.seq ?_) | (with_reducible refine Wx.reg ?_) | ((with_reducible refine Wseq.nil ?_); intro e he; (simp (decide := true) only [kz] at he; subst he)) | ((with_reducible apply Wseq.mv); rfl; (intro v hv; (simp (decide := true) only [kw] at hv); subst hv)) | ((with_reducible apply Wseq.as); rfl; (intro v hv; (simp (decide := true) only [kw] at hv); subst hv))))
        refine Wseq.call rfl rfl (iput_spec (by ((repeat (apply Fresh.put; omega)); ((assumption)))) hM (by omega) id (by omega) hrow g1 hbnd (by omega) (by omega) (fun b => b = bi) (fun b e => by cases e; rfl) (fun e => notMap g6 hma e.symm)) ?_
        rintro w h4 c4 r4 w4 ⟨hM4, hext4⟩
        rw [hput] at hM4
        have fr4 := hext4.fresh
        have le4 := hext4.c
        simp only at fr4 hM4 le4
        have hV4 : VRow h4 c5 (.slice (some ⟨bV, 0, some 1⟩) V.length V.length) 2 V := hV'.keep hf' fun b hb ⟨cs, hcs⟩ _ => hext4.get hb (notMap hcs hma)
        have hG4 := hG'.keep (U' := fun b => c2 ≤ b ∧ b < c5) hf' (fun _ q => q) (fun b q hb _ => hext4.get hb (by omega))
        have hrow4 : Row h4 (.slice (some ⟨bi, 0, none⟩) 2 2) 2 1 (V[i].map (Value.int .i32)) := .inr ⟨bi, 0, none, 2, _, rfl, (hext4.hs g6 (g6.lt hf') (notMap g6 hma)).cel, subN_all _ _ (by rw [List.length_map]; omega)⟩
        (repeat (first | (with_reducible refine Then.go ?_) | (with_reducible refine Wx.seq ?_) | (with_reducible refine Wx.reg ?_) | ((with_reducible refine Wseq.nil ?_); intro e he; (simp (decide := true) only [kz] at he; subst he)) | ((with_reducible apply Wseq.mv); rfl; (intro v hv; (simp (decide := true) only [kw] at hv); subst hv)) | ((with_reducible apply Wseq.as); rfl; (intro v hv; (simp (decide := true) only [kw] at hv); subst hv))))
        refine Wseq.call rfl rfl (ilists_spec (by ((repeat (apply Fresh.put; omega)); ((assumption)))) hM4 (by omega) (by simp)) ?_
        rintro x6 h6 c6 r6 w6 ⟨⟨rfl, ws, hB6, hL6⟩, hext6⟩
        have fr6 := hext6.fresh
        have le6 := hext6.c
        have kp6 : ∀ b, b < c4 → h6.get b = h4.get b := fun b hb => hext6.get hb (fun q => q)
        simp only at le6 fr6 hB6 hL6
        have lB6 := hB6.lt fr6
        have hG6 := hG4.keep (U' := fun b => c2 ≤ b ∧ b < c5) fr4 (fun _ q => q) (fun b _ hb _ => kp6 b hb)
        have hM6 := hM4.keep fr4 (fun b _ hb => kp6 b hb)
        have hV6 : VRow h6 c5 (.slice (some ⟨bV, 0, some 1⟩) V.length V.length) 2 V := hV4.keep fr4 fun b hb _ _ => kp6 b hb
        have hrow6 := Row.keepF hrow4 fr4 kp6
        have hlr := listZ_rng mid V[i]
        obtain ⟨s0, hs0⟩ : ∃ s0 : Nat, listZ mid V[i] = (s0 : Int) := ⟨(listZ mid V[i]).toNat, by omega⟩
        have hnk : mid.length ≠ 0 → nearZ mid V[i] = (s0 : Int) := fun h0 => by
          have := nearZ_rng (zs := V[i]) h0
          unfold listZ at hs0
          omega
        generalize hLn : max mid.length 1 = Ln at hB6 hL6 hlr
        (repeat (first | (with_reducible refine Then.go ?_) | (with_reducible refine Wx.block ?_) | ((with_reducible refine Wseq.nil ?_); intro e he; (simp (decide := true) only [kz] at he; subst he)) | ((with_reducible apply Wseq.mv); rfl; (intro v hv; (simp (decide := true) only [kw] at hv); subst hv)) | ((with_reducible apply Wseq.stg (op := Op.call ⟨Callee.builtin Builtin.len, _, _⟩)); rfl; exact to_lenS (sl_ rfl) rfl)))
        refine Wx.cutO (fun e s => ∃ (j48 j13 j14 j54 j66 : Value) (h' : T AObj) (c' : Nat) (rl' wl' : List Nat), e = E7a (.slice oa0 zs0.length cap0) (.slice ob0 zs1.length capb) id p (.slice oms mid.length cms) (.slice (some ⟨bV, 0, some 1⟩) V.length V.length) V.length z (.bool true) (.slice (some ⟨bi, 0, none⟩) 2 2) (.int .i64 1) (.slice (some ⟨c4, 0, none⟩) Ln Ln) (.int .i64 (Ln : Int)) (.int .i64 (Ln : Int)) j48 j13 j14 j54 j66 j15 j16 j93 ∧ s = ⟨h', c', rl', wl'⟩ ∧ Fresh h' c' ∧ c6 ≤ c' ∧ (∀ b, b < c6 → h'.get b = h6.get b)) (by (repeat (first | (exact Resp.fn) | (apply Resp.then) | (apply Resp.out) | (apply Resp.round) | (apply Resp.cut)))) ?_ ?_
        · refine Wx.loopE (fun k1 e s => ∃ (k : Nat) (zk : Int) (j48 j13 j14 j54 j66 : Value) (h' : T AObj) (c' : Nat) (rl' wl' : List Nat), e = E7a (.slice oa0 zs0.length cap0) (.slice ob0 zs1.length capb) id p (.slice oms mid.length cms) (.slice (some ⟨bV, 0, some 1⟩) V.length V.length) V.length z (.bool true) (.slice (some ⟨bi, 0, none⟩) 2 2) (.int .i64 (if s0 < k then 1 else 0)) (.slice (some ⟨c4, 0, none⟩) Ln Ln) (.int .i64 (Ln : Int)) (.int .i64 zk) j48 j13 j14 j54 j66 j15 j16 j93 ∧ zk = k ∧ s = ⟨h', c', rl', wl'⟩ ∧ Fresh h' c' ∧ c6 ≤ c' ∧ (∀ b, b < c6 → h'.get b = h6.get b) ∧ k ≤ Ln ∧ k1 = Ln - k) Ln (E7a (.slice oa0 zs0.length cap0) (.slice ob0 zs1.length capb) id p (.slice oms mid.length cms) (.slice (some ⟨bV, 0, some 1⟩) V.length V.length) V.length z (.bool true) (.slice (some ⟨bi, 0, none⟩) 2 2) (.int .i64 0) (.slice (some ⟨c4, 0, none⟩) Ln Ln) (.int .i64 (Ln : Int)) (.int .i64 0) j48 j13 j14 j54 j66 j15 j16 j93) (by (repeat (first | (exact Resp.fn) | (apply Resp.then) | (apply Resp.out) | (apply Resp.round) | (apply Resp.cut)))) ?_ ?_ ?_
          · unfold E7a
            (refine EqK.of ?_ ?_ <;> (repeat (first | (exact all_nil) | (apply all_cons; rfl))))
          · exact ⟨0, 0, _, _, _, _, _, _, _, _, _, rfl, rfl, rfl, fr6, Nat.le_refl _, fun _ _ => rfl, by omega, rfl⟩
          · rintro k1 e s ⟨k, zk, j48, j13, j14, j54, j66, h', c', rl', wl', rfl, hzk, rfl, hf7, hcc7, hkp7, hkd, rfl⟩
            unfold E7a
            by_cases hk : k < Ln
            · obtain ⟨w, hw1, hw2⟩ := hL6.row k _ (listsM_at hk)
              have hwn : nth ws (0 + k * 1) = some w := by rw [nth_eq, Nat.zero_add, Nat.mul_one]; exact hw1
              obtain ⟨ow, rfl, hwr, hwb⟩ := hw2.val
              have hB7 : Has h' c4 (.cells ws) := (hkp7 c4 (by omega)).trans hB6
              have hwr7 := Row.keepF hwr fr6 hkp7
              have hG7 := hG6.keep (U' := fun b => c2 ≤ b ∧ b < c5) fr6 (fun _ q => q) (fun b _ hb _ => hkp7 b hb)
              have hrow7 := Row.keepF hrow6 fr6 hkp7
              have hil : inL [mbI id V[i] (listZ mid V[i])] k = if s0 = k then [id] else [] := by
                rw [inL_one]
                by_cases q : s0 = k
                · rw [if_pos q, if_pos (by show listZ mid V[i] = _; omega)]
                · rw [if_neg q, if_neg (by show ¬listZ mid V[i] = _; omega)]
              rw [hil] at hwn hwr7
              (repeat (first | (with_reducible refine Then.go ?_) | (with_reducible refine Wx.seq ?_) | (with_reducible refine Wx.skip ?_) | (with_reducible refine Wx.block ?_) | (with_reducible refine Wx.reg ?_) | (refine Wx.condT rfl (by rfl) ?_) | ((with_reducible refine Wseq.nil ?_); intro e he; (simp (decide := true) only [kz] at he; subst he)) | ((with_reducible apply Wseq.mv); rfl; (intro v hv; (simp (decide := true) only [kw] at hv); subst hv)) | ((with_reducible apply Wseq.stg (op := Op.binOp BinOp.lss _ _ _ _)); rfl; exact to_lssT rfl rfl (by omega))))
              ((with_reducible apply Wseq.stg); (focus rfl); (focus (exact to_indexAddr (k := k) el47 rfl rfl hzk hk)))
              ((with_reducible apply Wseq.stg); (focus rfl); (focus (exact to_load (pl_ rfl) rfl hB7.cel (by omega) hwn)))
              (repeat (first | (with_reducible refine Then.go ?_) | (with_reducible refine Wx.seq ?_) | (with_reducible refine Wx.reg ?_) | ((with_reducible refine Wseq.nil ?_); intro e he; (simp (decide := true) only [kz] at he; subst he)) | ((with_reducible apply Wseq.mv); rfl; (intro v hv; (simp (decide := true) only [kw] at hv); subst hv)) | ((with_reducible apply Wseq.as); rfl; (intro v hv; (simp (decide := true) only [kw] at hv); subst hv))))
              refine Wseq.call rfl rfl (has_spec (by ((repeat (apply Fresh.put; omega)); ((assumption)))) rfl hwr7 (by split <;> simp) id (fun _ => True) (fun _ _ => trivial)) ?_
              rintro x8 h8 c8 r8 w8 ⟨⟨rfl, e1, e2⟩, hext8⟩
              simp only at e1 e2
              subst e1 e2
              by_cases hsk : s0 = k
              · rw [if_pos hsk, decide_eq_true (List.mem_singleton.2 rfl), if_neg (by omega : ¬s0 < k)]
                by_cases h0 : mid.length = 0
                · (repeat (first | (with_reducible refine Then.go ?_) | (with_reducible refine Out.go ?_) | (with_reducible refine Wx.seq ?_) | (with_reducible refine Wx.skip ?_) | (with_reducible refine Wx.reg ?_) | (refine Wx.condT rfl (by rfl) ?_) | (refine Wx.condF rfl (by rfl) ?_) | ((with_reducible refine Wseq.nil ?_); intro e he; (simp (decide := true) only [kz] at he; subst he)) | ((with_reducible apply Wseq.mv); rfl; (intro v hv; (simp (decide := true) only [kw] at hv); subst hv)) | ((with_reducible apply Wseq.as); rfl; (intro v hv; (simp (decide := true) only [kw] at hv); subst hv)) | ((with_reducible apply Wseq.pkF); rfl; rfl; (intro v hv; (simp (decide := true) only [kw] at hv); subst hv)) | ((with_reducible apply Wseq.stg (op := Op.call ⟨Callee.builtin Builtin.len, _, _⟩)); rfl; exact to_lenS (sl_ rfl) rfl) | ((with_reducible apply Wseq.stg (op := Op.binOp BinOp.gtr _ _ _ _)); rfl; exact to_gtrF rfl rfl (by omega)) | ((with_reducible apply Wseq.stg (op := Op.binOp BinOp.add _ _ _ _)); rfl; exact to_add rfl rfl (by omega) (by omega)) | (refine Wseq.no rfl ?_)))
                  refine RoundE.go (Ln - (k + 1)) (E7a _ _ id p _ _ V.length z (.bool true) _ (.int .i64 1) _ (.int .i64 (Ln : Int)) (.int .i64 (zk + 1)) _ _ _ _ _ j15 j16 j93) (by omega) (by (refine EqK.of ?_ ?_ <;> (repeat (first | (exact all_nil) | (apply all_cons; rfl))))) ⟨k + 1, zk + 1, _, _, _, _, _, _, _, _, _, by rw [if_pos (by omega : s0 < k + 1)]; rfl, by omega, rfl, hf7, hcc7, hkp7, by omega, rfl⟩
                · (repeat (first | (with_reducible refine Then.go ?_) | (with_reducible refine Wx.seq ?_) | (with_reducible refine Wx.reg ?_) | (refine Wx.condT rfl (by rfl) ?_) | ((with_reducible refine Wseq.nil ?_); intro e he; (simp (decide := true) only [kz] at he; subst he)) | ((with_reducible apply Wseq.mv); rfl; (intro v hv; (simp (decide := true) only [kw] at hv); subst hv)) | ((with_reducible apply Wseq.as); rfl; (intro v hv; (simp (decide := true) only [kw] at hv); subst hv)) | ((with_reducible apply Wseq.stg (op := Op.call ⟨Callee.builtin Builtin.len, _, _⟩)); rfl; exact to_lenS (sl_ rfl) rfl) | ((with_reducible apply Wseq.stg (op := Op.binOp BinOp.gtr _ _ _ _)); rfl; exact to_gtrT rfl rfl (by omega)) | ((with_reducible apply Wseq.stg (op := Op.binOp BinOp.add _ _ _ _)); rfl; exact to_add rfl rfl (by omega) (by omega))))
                  refine Wseq.call rfl rfl (nearest_spec (by ((repeat (apply Fresh.put; omega)); ((assumption)))) hG7.mrow (by omega) (by omega) hrow7 g1 hbnd (fun _ => True) (fun _ _ => trivial) (fun _ _ => trivial)) ?_
                  rintro xn h9 c9 r9 w9 ⟨rfl, hext9⟩
                  have fr9 := hext9.fresh
                  have le9 := hext9.c
                  simp only at le9 fr9
                  rw [hnk h0]
                  (repeat (first | (with_reducible refine Then.go ?_) | (with_reducible refine Out.go ?_) | (with_reducible refine Wx.skip ?_) | (with_reducible refine Wx.reg ?_) | (refine Wx.condF rfl (by rfl) ?_) | ((with_reducible refine Wseq.nil ?_); intro e he; (simp (decide := true) only [kz] at he; subst he)) | ((with_reducible apply Wseq.mv); rfl; (intro v hv; (simp (decide := true) only [kw] at hv); subst hv)) | ((with_reducible apply Wseq.pkT); rfl; rfl; (intro v hv; (simp (decide := true) only [kw] at hv); subst hv)) | ((with_reducible apply Wseq.stg (op := Op.binOp BinOp.add _ _ _ _)); rfl; exact to_add rfl rfl (by omega) (by omega)) | ((with_reducible apply Wseq.stg (op := Op.binOp BinOp.neq _ _ _ _)); rfl; exact to_neIF rfl rfl (by omega))))
                  refine RoundE.go (Ln - (k + 1)) (E7a _ _ id p _ _ V.length z (.bool true) _ (.int .i64 1) _ (.int .i64 (Ln : Int)) (.int .i64 (zk + 1)) _ _ _ _ _ j15 j16 j93) (by omega) (by (refine EqK.of ?_ ?_ <;> (repeat (first | (exact all_nil) | (apply all_cons; rfl))))) ⟨k + 1, zk + 1, _, _, _, _, _, _, _, _, _, by rw [if_pos (by omega : s0 < k + 1)]; rfl, by omega, rfl, fr9, by omega, fun b hb => (hext9.get (by omega) (fun q => q)).trans (hkp7 b hb), by omega, rfl⟩
              · rw [if_neg hsk, decide_eq_false List.not_mem_nil]
                (repeat (first | (with_reducible refine Then.go ?_) | (with_reducible refine Out.go ?_) | (with_reducible refine Wx.skip ?_) | (with_reducible refine Wx.reg ?_) | (refine Wx.condF rfl (by rfl) ?_) | ((with_reducible refine Wseq.nil ?_); intro e he; (simp (decide := true) only [kz] at he; subst he)) | ((with_reducible apply Wseq.mv); rfl; (intro v hv; (simp (decide := true) only [kw] at hv); subst hv)) | ((with_reducible apply Wseq.stg (op := Op.binOp BinOp.add _ _ _ _)); rfl; exact to_add rfl rfl (by omega) (by omega))))
                have hif : (if s0 < k + 1 then (1 : Int) else 0) = if s0 < k then 1 else 0 := by
                  by_cases q : s0 < k
                  · rw [if_pos q, if_pos (by omega)]
                  · rw [if_neg q, if_neg (by omega)]
                refine RoundE.go (Ln - (k + 1)) (E7a _ _ id p _ _ V.length z (.bool true) _ (.int .i64 (if s0 < k then 1 else 0)) _ (.int .i64 (Ln : Int)) (.int .i64 (zk + 1)) _ _ _ _ _ j15 j16 j93) (by omega) (by (refine EqK.of ?_ ?_ <;> (repeat (first | (exact all_nil) | (apply all_cons; rfl))))) ⟨k + 1, zk + 1, _, _, _, _, _, _, _, _, _, by rw [hif]; rfl, by omega, rfl, hf7, hcc7, hkp7, by omega, rfl⟩
            · obtain rfl : k = Ln := by omega
              rw [if_pos (by omega : s0 < k)]
              (repeat (first | (with_reducible refine Then.go ?_) | (with_reducible refine Then.ex ?_) | (with_reducible refine Out.hit ?_) | (with_reducible refine Wx.seq ?_) | (with_reducible refine Wx.exit ?_) | (with_reducible refine Wx.reg ?_) | (with_reducible refine RoundE.ex ?_) | (refine Wx.condF rfl (by rfl) ?_) | ((with_reducible refine Wseq.nil ?_); intro e he; (simp (decide := true) only [kz] at he; subst he)) | ((with_reducible apply Wseq.stg (op := Op.binOp BinOp.lss _ _ _ _)); rfl; exact to_lssF rfl rfl (by omega))))
              subst hzk
              exact CutQ.go (E7a (.slice oa0 zs0.length cap0) (.slice ob0 zs1.length capb) id p (.slice oms mid.length cms) (.slice (some ⟨bV, 0, some 1⟩) V.length V.length) V.length z (.bool true) (.slice (some ⟨bi, 0, none⟩) 2 2) (.int .i64 1) (.slice (some ⟨c4, 0, none⟩) k k) (.int .i64 (k : Int)) (.int .i64 (k : Int)) _ _ _ _ _ j15 j16 j93) (by (refine EqK.of ?_ ?_ <;> (repeat (first | (exact all_nil) | (apply all_cons; rfl))))) ⟨_, _, _, _, _, _, _, _, _, rfl, rfl, hf7, hcc7, hkp7⟩
        · rintro e s ⟨j48, j13, j14, j54, j66, h7, c7, rl7, wl7, rfl, rfl, hf7, hcc7, hkp7⟩
          unfold E7a
          have hM7 := hM6.keep fr6 (fun b _ hb => hkp7 b hb)
          have hV7 : VRow h7 c5 (.slice (some ⟨bV, 0, some 1⟩) V.length V.length) 2 V := hV6.keep fr6 fun b hb _ _ => hkp7 b hb
          have hG7 := hG6.keep (U' := fun b => c2 ≤ b ∧ b < c5) fr6 (fun _ q => q) (fun b _ hb _ => hkp7 b hb)
          have hrow7 := Row.keepF hrow6 fr6 hkp7
          (repeat (first | (with_reducible refine Wx.seq ?_) | (with_reducible refine Wx.reg ?_) | ((with_reducible apply Wseq.mv); rfl; (intro v hv; (simp (decide := true) only [kw] at hv); subst hv))))
          refine Wseq.call rfl rfl (ivec_spec (by ((repeat (apply Fresh.put; omega)); ((assumption)))) hM7 (by omega) (by omega) (id := id) (r0 := mbI id V[i] (listZ mid V[i])) (by rw [getM, if_pos rfl])) ?_
          rintro x8 h8 c8 r8 w8 ⟨⟨wv, rfl, hwo⟩, hext8⟩
          have fr8 := hext8.fresh
          have le8 := hext8.c
          have kp8 : ∀ b, b < c7 → h8.get b = h7.get b := fun b hb => hext8.get hb (fun q => q)
          simp only at le8 fr8 hwo
          obtain ⟨wa, wk, rfl⟩ := hwo.val
          have hwrow := hwo.row (by show (V[i].map _).length = 2; rw [List.length_map]; exact g1)
          have hM8 := hM7.keep hf7 (fun b _ hb => kp8 b hb)
          have hV8 : VRow h8 c5 (.slice (some ⟨bV, 0, some 1⟩) V.length V.length) 2 V := hV7.keep hf7 fun b hb _ _ => kp8 b hb
          have hG8 := hG7.keep (U' := fun b => c2 ≤ b ∧ b < c5) hf7 (fun _ q => q) (fun b _ hb _ => kp8 b hb)
          (repeat (first | (with_reducible refine Then.go ?_) | (with_reducible refine Wx.seq ?_) | (with_reducible refine Wx.reg ?_) | ((with_reducible refine Wseq.nil ?_); intro e he; (simp (decide := true) only [kz] at he; subst he)) | ((with_reducible apply Wseq.mv); rfl; (intro v hv; (simp (decide := true) only [kw] at hv); subst hv)) | ((with_reducible apply Wseq.as); rfl; (intro v hv; (simp (decide := true) only [kw] at hv); subst hv)) | ((with_reducible apply Wseq.pkF); rfl; rfl; (intro v hv; (simp (decide := true) only [kw] at hv); subst hv)) | ((with_reducible apply Wseq.stg (op := Op.extract _ _)); rfl; exact to_extract rfl rfl) | ((with_reducible apply Wseq.stg (op := Op.unOp UnOp.not _ _)); rfl; exact to_notT rfl) | ((with_reducible apply Wseq.stg (op := Op.binOp BinOp.neq _ _ _ _)); rfl; exact to_neIF rfl rfl (by omega))))
          refine Wseq.call rfl rfl (eqG_spec (by ((repeat (apply Fresh.put; omega)); ((assumption)))) g1 g1 hwrow (Row.keepF hrow7 hf7 kp8) (by omega) (fun _ => True) (fun _ _ => trivial)) ?_
          rintro x9 h9 c9 r9 w9 ⟨⟨rfl, e1, e2⟩, hext9⟩
          simp only at e1 e2
          subst e1 e2
          rw [decide_eq_true (rfl : V[i] = V[i])]
          (repeat (first | ((with_reducible apply Wseq.mv); rfl; (intro v hv; (simp (decide := true) only [kw] at hv); subst hv)) | ((with_reducible apply Wseq.pkF); rfl; rfl; (intro v hv; (simp (decide := true) only [kw] at hv); subst hv)) | ((with_reducible apply Wseq.stg (op := Op.unOp UnOp.not _ _)); rfl; exact to_notT rfl)))
          refine Wseq.call rfl rfl (iids_spec (by ((repeat (apply Fresh.put; omega)); ((assumption)))) hM8 (by simp)) ?_
          rintro xi h10 c10 r10 w10 ⟨hids, hext10⟩
          have fr10 := hext10.fresh
          have le10 := hext10.c
          have kp10 : ∀ b, b < c9 → h10.get b = h9.get b := fun b hb => hext10.get hb (fun q => q)
          simp only at le10 fr10 hids
          obtain ⟨oi, ic, rfl⟩ := hids.val
          have hirow := hids.row (by simp)
          have hM10 := hM8.keep fr8 (fun b _ hb => kp10 b hb)
          have hV10 : VRow h10 c5 (.slice (some ⟨bV, 0, some 1⟩) V.length V.length) 2 V := hV8.keep fr8 fun b hb _ _ => kp10 b hb
          have hG10 := hG8.keep (U' := fun b => c2 ≤ b ∧ b < c5) fr8 (fun _ q => q) (fun b _ hb _ => kp10 b hb)
          (repeat (first | ((with_reducible apply Wseq.mv); rfl; (intro v hv; (simp (decide := true) only [kw] at hv); subst hv)) | ((with_reducible apply Wseq.bs); rfl; exact (ro_ rfl); rfl; exact (by ((repeat (apply Fresh.put; omega)); ((assumption)))); (intro v hv; (simp (decide := true) only [kw] at hv); subst hv); refine ⟨_, rfl, ?_⟩)))
          refine Wseq.call rfl rfl (ints_spec stdQ (by ((repeat (apply Fresh.put; omega)); ((exact Fresh.up (by assumption) (by omega))))) (l := [id]) (n := 1) rfl (Row.keepF hirow fr10 (fun b hb => get_other (by omega))) (.inr ⟨c10, 0, none, 1, _, rfl, Has.same.cel, subN_all _ _ rfl⟩) (by omega)) ?_
          rintro x11 h11 c11 r11 w11 ⟨rfl, e1, e2, hext11⟩
          simp only at e1 e2
          subst e1 e2
          (repeat (first | (with_reducible refine Then.go ?_) | (with_reducible refine Out.go ?_) | (with_reducible refine Wx.skip ?_) | (with_reducible refine Wx.reg ?_) | (refine Wx.condF rfl (by rfl) ?_) | ((with_reducible refine Wseq.nil ?_); intro e he; (simp (decide := true) only [kz] at he; subst he)) | ((with_reducible apply Wseq.mv); rfl; (intro v hv; (simp (decide := true) only [kw] at hv); subst hv)) | ((with_reducible apply Wseq.pkF); rfl; rfl; (intro v hv; (simp (decide := true) only [kw] at hv); subst hv)) | ((with_reducible apply Wseq.stg (op := Op.unOp UnOp.not _ _)); rfl; exact to_notT rfl) | ((with_reducible apply Wseq.stg (op := Op.binOp BinOp.add _ _ _ _)); rfl; exact to_add rfl rfl (by omega) (by omega))))
          refine RoundE.go (V.length - (i + 1)) (E7a _ _ id p _ _ V.length (z + 1) _ _ _ _ _ _ _ _ _ _ _ _ _ _) (by omega) (by (refine EqK.of ?_ ?_ <;> (repeat (first | (exact all_nil) | (apply all_cons; rfl))))) ⟨i + 1, z + 1, _, _, _, _, _, _, _, _, _, _, _, _, _, _, _, _, _, _, [mbI id V[i] (listZ mid V[i])], _, rfl, by omega, rfl, (by ((repeat (apply Fresh.put; omega)); ((exact Fresh.up (by assumption) (by omega))))), by omega, hV10.keep fr10 (fun b hb _ _ => get_other (by omega)), hG10.keep fr10 (fun _ q => q) (fun b q hb _ => get_other (by omega)), hM10.keep fr10 (fun b _ hb => get_other (by omega)), .inr ⟨mbI id V[i] (listZ mid V[i]), rfl, rfl⟩, by omega, rfl⟩
      · (repeat (first | (with_reducible refine Then.go ?_) | (with_reducible refine Then.ex ?_) | (with_reducible refine Out.hit ?_) | (with_reducible refine Wx.seq ?_) | (with_reducible refine Wx.exit ?_) | (with_reducible refine Wx.reg ?_) | (with_reducible refine RoundE.ex ?_) | (refine Wx.condF rfl (by rfl) ?_) | ((with_reducible refine Wseq.nil ?_); intro e he; (simp (decide := true) only [kz] at he; subst he)) | ((with_reducible apply Wseq.stg (op := Op.binOp BinOp.lss _ _ _ _)); rfl; exact to_lssF rfl rfl (by omega))))
        obtain rfl : i = V.length := by omega
        subst hz
        exact CutQ.go (E7a (.slice oa0 zs0.length cap0) (.slice ob0 zs1.length capb) id p (.slice oms mid.length cms) (.slice ov V.length V.length) V.length V.length _ _ _ _ _ _ _ _ _ _ _ _ _ _) (by (refine EqK.of ?_ ?_ <;> (repeat (first | (exact all_nil) | (apply all_cons; rfl))))) ⟨_, _, _, _, _, _, _, _, _, _, _, _, _, _, _, _, _, _, M, U, rfl, rfl, hf', hM, hone⟩
  · rintro e s ⟨j37, j11, j12, j45, j46, j47, j48, j13, j14, j54, j66, j15, j16, j93, h4, c4, rl4, wl4, M, U, rfl, rfl, hf4, hM, hone⟩
    unfold E7a
    have hgN : getM id ([] : List Rc) = none := rfl
    have hdN : delM id ([] : List Rc) = [] := rfl
    rcases hone with rfl | ⟨r0, rfl, hr0⟩
    · skip
      (repeat (first | (with_reducible refine Wx.seq ?_) | (with_reducible refine Wx.reg ?_) | ((with_reducible apply Wseq.mv); rfl; (intro v hv; (simp (decide := true) only [kw] at hv); subst hv))))
      refine Wseq.call rfl rfl (iids_spec (by ((repeat (apply Fresh.put; omega)); ((assumption)))) hM (by simp)) ?_
      rintro xi h5' c5' r5' w5' ⟨hids, hexta⟩
      have fra := hexta.fresh
      have kpa : ∀ b, b < c4 → h5'.get b = h4.get b := fun b hb => hexta.get hb (fun q => q)
      simp only at fra
      obtain ⟨oi, ic, rfl⟩ := hids.val
      have hMa := hM.keep hf4 (fun b _ hb => kpa b hb)
      (repeat (first | (with_reducible refine Then.go ?_) | (with_reducible refine Wx.seq ?_) | (with_reducible refine Wx.reg ?_) | ((with_reducible refine Wseq.nil ?_); intro e he; (simp (decide := true) only [kz] at he; subst he)) | ((with_reducible apply Wseq.mv); rfl; (intro v hv; (simp (decide := true) only [kw] at hv); subst hv)) | ((with_reducible apply Wseq.as); rfl; (intro v hv; (simp (decide := true) only [kw] at hv); subst hv)) | ((with_reducible apply Wseq.stg (op := Op.call ⟨Callee.builtin Builtin.len, _, _⟩)); rfl; exact to_lenS (sl_ rfl) rfl) | ((with_reducible apply Wseq.stg (op := Op.binOp BinOp.eql _ _ _ _)); rfl; exact to_eqI rfl rfl)))
      refine Wseq.call rfl rfl (idel_spec (by ((repeat (apply Fresh.put; omega)); ((assumption)))) hMa id) ?_
      rintro xd hb' cb rb wb ⟨⟨rfl, hMb⟩, hextb⟩
      have frb := hextb.fresh
      simp only at frb hMb
      rw [hgN]
      rw [hdN] at hMb
      (repeat (first | ((with_reducible apply Wseq.mv); rfl; (intro v hv; (simp (decide := true) only [kw] at hv); subst hv)) | ((with_reducible apply Wseq.stg (op := Op.binOp BinOp.neq _ _ _ _)); rfl; exact to_neBF (un_ rfl) rfl rfl rfl)))
      refine Wseq.call rfl rfl (idel_spec (by ((repeat (apply Fresh.put; omega)); ((assumption)))) hMb id) ?_
      rintro xe hc' cc rc wc ⟨⟨rfl, hMc⟩, hextc⟩
      have frc := hextc.fresh
      simp only at frc hMc
      rw [hgN]
      rw [hdN] at hMc
      (repeat (first | (with_reducible refine Then.go ?_) | (with_reducible refine Wx.seq ?_) | (with_reducible refine Wx.skip ?_) | (with_reducible refine Wx.reg ?_) | (refine Wx.condF rfl (by rfl) ?_) | ((with_reducible refine Wseq.nil ?_); intro e he; (simp (decide := true) only [kz] at he; subst he)) | ((with_reducible apply Wseq.mv); rfl; (intro v hv; (simp (decide := true) only [kw] at hv); subst hv)) | ((with_reducible apply Wseq.pkF); rfl; rfl; (intro v hv; (simp (decide := true) only [kw] at hv); subst hv))))
      refine Wseq.call rfl rfl (ilists_spec (by ((repeat (apply Fresh.put; omega)); ((assumption)))) hMc (by omega) (by simp)) ?_
      rintro xl hd' cd rd wd ⟨⟨rfl, ws, hBd, hLd⟩, hextd⟩
      have frd := hextd.fresh
      have led := hextd.c
      simp only at frd led hBd hLd
      have hMd := hMc.keep frc (fun b _ hb => hextd.get hb (fun q => q))
      have lBd := hBd.lt frd
      have hLb : max mid.length 1 ≤ 12 := by omega
      generalize max mid.length 1 = Ln at hBd hLd hLb
      (repeat (first | (with_reducible refine Then.go ?_) | (with_reducible refine Wx.block ?_) | ((with_reducible refine Wseq.nil ?_); intro e he; (simp (decide := true) only [kz] at he; subst he)) | ((with_reducible apply Wseq.mv); rfl; (intro v hv; (simp (decide := true) only [kw] at hv); subst hv)) | ((with_reducible apply Wseq.stg (op := Op.call ⟨Callee.builtin Builtin.len, _, _⟩)); rfl; exact to_lenS (sl_ rfl) rfl)))
      refine Wx.loopE (fun k1 e s => ∃ (k : Nat) (zk : Int) (j19 j113 j118 : Value) (rl' wl' : List Nat), e = E7b (.slice oa0 zs0.length cap0) (.slice ob0 zs1.length capb) id p (.slice oms mid.length cms) (.slice ov V.length V.length) V.length V.length j37 j11 j12 j45 j46 j47 j48 j13 j14 j54 j66 j15 j16 j93 (.bool false) cc Ln zk j19 j113 j118 ∧ zk = k ∧ s = ⟨hd', cd, rl', wl'⟩ ∧ k ≤ Ln ∧ k1 = Ln - k) Ln (E7b (.slice oa0 zs0.length cap0) (.slice ob0 zs1.length capb) id p (.slice oms mid.length cms) (.slice ov V.length V.length) V.length V.length j37 j11 j12 j45 j46 j47 j48 j13 j14 j54 j66 j15 j16 j93 (.bool false) cc Ln 0 top top top) (by (repeat (first | (exact Resp.fn) | (apply Resp.then) | (apply Resp.out)))) ?_ ?_ ?_
      · unfold E7b
        (refine EqK.of ?_ ?_ <;> (repeat (first | (exact all_nil) | (apply all_cons; rfl))))
      · exact ⟨0, 0, _, _, _, _, _, rfl, rfl, rfl, by omega, rfl⟩
      · rintro k1 e s ⟨k, zk, j19, j113, j118, rl', wl', rfl, hzk, rfl, hkd, rfl⟩
        unfold E7b
        by_cases hk : k < Ln
        · have hz0 : (inL ([] : List Rc) k).length = 0 := rfl
          obtain ⟨w, hw1, hw2⟩ := hLd.row k _ (listsM_at hk)
          have hwn : nth ws (0 + k * 1) = some w := by rw [nth_eq, Nat.zero_add, Nat.mul_one]; exact hw1
          obtain ⟨ow, rfl, hwr, hwb⟩ := hw2.val
          (repeat (first | (with_reducible refine Then.go ?_) | (with_reducible refine Wx.seq ?_) | (with_reducible refine Wx.skip ?_) | (with_reducible refine Wx.block ?_) | (with_reducible refine Wx.reg ?_) | (refine Wx.condT rfl (by rfl) ?_) | ((with_reducible refine Wseq.nil ?_); intro e he; (simp (decide := true) only [kz] at he; subst he)) | ((with_reducible apply Wseq.stg (op := Op.binOp BinOp.lss _ _ _ _)); rfl; exact to_lssT rfl rfl (by omega))))
          ((with_reducible apply Wseq.stg); (focus rfl); (focus (exact to_indexAddr (k := k) el47 rfl rfl hzk hk)))
          ((with_reducible apply Wseq.stg); (focus rfl); (focus (exact to_load (pl_ rfl) rfl hBd.cel (by omega) hwn)))
          (repeat (first | (with_reducible refine Then.go ?_) | (with_reducible refine Out.go ?_) | (with_reducible refine Wx.seq ?_) | (with_reducible refine Wx.skip ?_) | (with_reducible refine Wx.reg ?_) | (refine Wx.condF rfl (by rfl) ?_) | ((with_reducible refine Wseq.nil ?_); intro e he; (simp (decide := true) only [kz] at he; subst he)) | ((with_reducible apply Wseq.mv); rfl; (intro v hv; (simp (decide := true) only [kw] at hv); subst hv)) | ((with_reducible apply Wseq.as); rfl; (intro v hv; (simp (decide := true) only [kw] at hv); subst hv)) | ((with_reducible apply Wseq.stg (op := Op.call ⟨Callee.builtin Builtin.len, _, _⟩)); rfl; exact to_lenS (sl_ rfl) rfl) | ((with_reducible apply Wseq.stg (op := Op.binOp BinOp.add _ _ _ _)); rfl; exact to_add rfl rfl (by omega) (by omega)) | ((with_reducible apply Wseq.stg (op := Op.binOp BinOp.neq _ _ _ _)); rfl; exact to_neIF rfl rfl (by omega))))
          refine RoundE.go (Ln - (k + 1)) (E7b _ _ id p _ _ V.length V.length j37 j11 j12 j45 j46 j47 j48 j13 j14 j54 j66 j15 j16 j93 (.bool false) cc Ln (zk + 1) _ _ _) (by omega) (by (refine EqK.of ?_ ?_ <;> (repeat (first | (exact all_nil) | (apply all_cons; rfl))))) ⟨k + 1, zk + 1, _, _, _, _, _, rfl, by omega, rfl, by omega, rfl⟩
        · (repeat (first | (with_reducible refine Then.go ?_) | (with_reducible refine Then.ex ?_) | (with_reducible refine Out.hit ?_) | (with_reducible refine Wx.seq ?_) | (with_reducible refine Wx.exit ?_) | (with_reducible refine Wx.reg ?_) | (with_reducible refine RoundE.ex ?_) | (refine Wx.condF rfl (by rfl) ?_) | ((with_reducible refine Wseq.nil ?_); intro e he; (simp (decide := true) only [kz] at he; subst he)) | ((with_reducible apply Wseq.mv); rfl; (intro v hv; (simp (decide := true) only [kw] at hv); subst hv)) | ((with_reducible apply Wseq.stg (op := Op.binOp BinOp.lss _ _ _ _)); rfl; exact to_lssF rfl rfl (by omega))))
          obtain rfl : k = Ln := by omega
          refine Wseq.call rfl rfl (iids_spec (by ((repeat (apply Fresh.put; omega)); ((assumption)))) hMd (by simp)) ?_
          rintro xz hz' cz rz wz ⟨hidz, hextz⟩
          obtain ⟨oz, iz, rfl⟩ := hidz.val
          (repeat (first | (with_reducible refine Then.go ?_) | (with_reducible refine Wx.ret ?_) | ((with_reducible refine Wseq.nil ?_); intro e he; (simp (decide := true) only [kz] at he; subst he)) | ((with_reducible apply Wseq.as); rfl; (intro v hv; (simp (decide := true) only [kw] at hv); subst hv)) | ((with_reducible apply Wseq.stg (op := Op.call ⟨Callee.builtin Builtin.len, _, _⟩)); rfl; exact to_lenS (sl_ rfl) rfl) | ((with_reducible apply Wseq.stg (op := Op.binOp BinOp.eql _ _ _ _)); rfl; exact to_eqI rfl rfl)))
          exact ⟨.inr rfl, Wres.one rfl rfl⟩
    · have hgS : getM id [r0] = some r0 := by rw [getM, if_pos hr0]
      have hdS : delM id [r0] = [] := by
        unfold delM
        rw [List.filter_cons_of_neg (by simp [hr0])]; rfl
      (repeat (first | (with_reducible refine Wx.seq ?_) | (with_reducible refine Wx.reg ?_) | ((with_reducible apply Wseq.mv); rfl; (intro v hv; (simp (decide := true) only [kw] at hv); subst hv))))
      refine Wseq.call rfl rfl (iids_spec (by ((repeat (apply Fresh.put; omega)); ((assumption)))) hM (by simp)) ?_
      rintro xi h5' c5' r5' w5' ⟨hids, hexta⟩
      have fra := hexta.fresh
      have kpa : ∀ b, b < c4 → h5'.get b = h4.get b := fun b hb => hexta.get hb (fun q => q)
      simp only at fra
      obtain ⟨oi, ic, rfl⟩ := hids.val
      have hMa := hM.keep hf4 (fun b _ hb => kpa b hb)
      (repeat (first | (with_reducible refine Then.go ?_) | (with_reducible refine Wx.seq ?_) | (with_reducible refine Wx.reg ?_) | ((with_reducible refine Wseq.nil ?_); intro e he; (simp (decide := true) only [kz] at he; subst he)) | ((with_reducible apply Wseq.mv); rfl; (intro v hv; (simp (decide := true) only [kw] at hv); subst hv)) | ((with_reducible apply Wseq.as); rfl; (intro v hv; (simp (decide := true) only [kw] at hv); subst hv)) | ((with_reducible apply Wseq.stg (op := Op.call ⟨Callee.builtin Builtin.len, _, _⟩)); rfl; exact to_lenS (sl_ rfl) rfl) | ((with_reducible apply Wseq.stg (op := Op.binOp BinOp.eql _ _ _ _)); rfl; exact to_eqI rfl rfl)))
      refine Wseq.call rfl rfl (idel_spec (by ((repeat (apply Fresh.put; omega)); ((assumption)))) hMa id) ?_
      rintro xd hb' cb rb wb ⟨⟨rfl, hMb⟩, hextb⟩
      have frb := hextb.fresh
      simp only at frb hMb
      rw [hgS]
      rw [hdS] at hMb
      (repeat (first | ((with_reducible apply Wseq.mv); rfl; (intro v hv; (simp (decide := true) only [kw] at hv); subst hv)) | ((with_reducible apply Wseq.stg (op := Op.binOp BinOp.neq _ _ _ _)); rfl; exact to_neBF (un_ rfl) rfl rfl rfl)))
      refine Wseq.call rfl rfl (idel_spec (by ((repeat (apply Fresh.put; omega)); ((assumption)))) hMb id) ?_
      rintro xe hc' cc rc wc ⟨⟨rfl, hMc⟩, hextc⟩
      have frc := hextc.fresh
      simp only at frc hMc
      rw [hgN]
      rw [hdN] at hMc
      (repeat (first | (with_reducible refine Then.go ?_) | (with_reducible refine Wx.seq ?_) | (with_reducible refine Wx.skip ?_) | (with_reducible refine Wx.reg ?_) | (refine Wx.condF rfl (by rfl) ?_) | ((with_reducible refine Wseq.nil ?_); intro e he; (simp (decide := true) only [kz] at he; subst he)) | ((with_reducible apply Wseq.mv); rfl; (intro v hv; (simp (decide := true) only [kw] at hv); subst hv)) | ((with_reducible apply Wseq.pkF); rfl; rfl; (intro v hv; (simp (decide := true) only [kw] at hv); subst hv))))
      refine Wseq.call rfl rfl (ilists_spec (by ((repeat (apply Fresh.put; omega)); ((assumption)))) hMc (by omega) (by simp)) ?_
      rintro xl hd' cd rd wd ⟨⟨rfl, ws, hBd, hLd⟩, hextd⟩
      have frd := hextd.fresh
      have led := hextd.c
      simp only at frd led hBd hLd
      have hMd := hMc.keep frc (fun b _ hb => hextd.get hb (fun q => q))
      have lBd := hBd.lt frd
      have hLb : max mid.length 1 ≤ 12 := by omega
      generalize max mid.length 1 = Ln at hBd hLd hLb
      (repeat (first | (with_reducible refine Then.go ?_) | (with_reducible refine Wx.block ?_) | ((with_reducible refine Wseq.nil ?_); intro e he; (simp (decide := true) only [kz] at he; subst he)) | ((with_reducible apply Wseq.mv); rfl; (intro v hv; (simp (decide := true) only [kw] at hv); subst hv)) | ((with_reducible apply Wseq.stg (op := Op.call ⟨Callee.builtin Builtin.len, _, _⟩)); rfl; exact to_lenS (sl_ rfl) rfl)))
      refine Wx.loopE (fun k1 e s => ∃ (k : Nat) (zk : Int) (j19 j113 j118 : Value) (rl' wl' : List Nat), e = E7b (.slice oa0 zs0.length cap0) (.slice ob0 zs1.length capb) id p (.slice oms mid.length cms) (.slice ov V.length V.length) V.length V.length j37 j11 j12 j45 j46 j47 j48 j13 j14 j54 j66 j15 j16 j93 (.bool true) cc Ln zk j19 j113 j118 ∧ zk = k ∧ s = ⟨hd', cd, rl', wl'⟩ ∧ k ≤ Ln ∧ k1 = Ln - k) Ln (E7b (.slice oa0 zs0.length cap0) (.slice ob0 zs1.length capb) id p (.slice oms mid.length cms) (.slice ov V.length V.length) V.length V.length j37 j11 j12 j45 j46 j47 j48 j13 j14 j54 j66 j15 j16 j93 (.bool true) cc Ln 0 top top top) (by (repeat (first | (exact Resp.fn) | (apply Resp.then) | (apply Resp.out)))) ?_ ?_ ?_
      · unfold E7b
        (refine EqK.of ?_ ?_ <;> (repeat (first | (exact all_nil) | (apply all_cons; rfl))))
      · exact ⟨0, 0, _, _, _, _, _, rfl, rfl, rfl, by omega, rfl⟩
      · rintro k1 e s ⟨k, zk, j19, j113, j118, rl', wl', rfl, hzk, rfl, hkd, rfl⟩
        unfold E7b
        by_cases hk : k < Ln
        · have hz0 : (inL ([] : List Rc) k).length = 0 := rfl
          obtain ⟨w, hw1, hw2⟩ := hLd.row k _ (listsM_at hk)
          have hwn : nth ws (0 + k * 1) = some w := by rw [nth_eq, Nat.zero_add, Nat.mul_one]; exact hw1
          obtain ⟨ow, rfl, hwr, hwb⟩ := hw2.val
          (repeat (first | (with_reducible refine Then.go ?_) | (with_reducible refine Wx.seq ?_) | (with_reducible refine Wx.skip ?_) | (with_reducible refine Wx.block ?_) | (with_reducible refine Wx.reg ?_) | (refine Wx.condT rfl (by rfl) ?_) | ((with_reducible refine Wseq.nil ?_); intro e he; (simp (decide := true) only [kz] at he; subst he)) | ((with_reducible apply Wseq.stg (op := Op.binOp BinOp.lss _ _ _ _)); rfl; exact to_lssT rfl rfl (by omega))))
          ((with_reducible apply Wseq.stg); (focus rfl); (focus (exact to_indexAddr (k := k) el47 rfl rfl hzk hk)))
          ((with_reducible apply Wseq.stg); (focus rfl); (focus (exact to_load (pl_ rfl) rfl hBd.cel (by omega) hwn)))
          (repeat (first | (with_reducible refine Then.go ?_) | (with_reducible refine Out.go ?_) | (with_reducible refine Wx.seq ?_) | (with_reducible refine Wx.skip ?_) | (with_reducible refine Wx.reg ?_) | (refine Wx.condF rfl (by rfl) ?_) | ((with_reducible refine Wseq.nil ?_); intro e he; (simp (decide := true) only [kz] at he; subst he)) | ((with_reducible apply Wseq.mv); rfl; (intro v hv; (simp (decide := true) only [kw] at hv); subst hv)) | ((with_reducible apply Wseq.as); rfl; (intro v hv; (simp (decide := true) only [kw] at hv); subst hv)) | ((with_reducible apply Wseq.stg (op := Op.call ⟨Callee.builtin Builtin.len, _, _⟩)); rfl; exact to_lenS (sl_ rfl) rfl) | ((with_reducible apply Wseq.stg (op := Op.binOp BinOp.add _ _ _ _)); rfl; exact to_add rfl rfl (by omega) (by omega)) | ((with_reducible apply Wseq.stg (op := Op.binOp BinOp.neq _ _ _ _)); rfl; exact to_neIF rfl rfl (by omega))))
          refine RoundE.go (Ln - (k + 1)) (E7b _ _ id p _ _ V.length V.length j37 j11 j12 j45 j46 j47 j48 j13 j14 j54 j66 j15 j16 j93 (.bool true) cc Ln (zk + 1) _ _ _) (by omega) (by (refine EqK.of ?_ ?_ <;> (repeat (first | (exact all_nil) | (apply all_cons; rfl))))) ⟨k + 1, zk + 1, _, _, _, _, _, rfl, by omega, rfl, by omega, rfl⟩
        · (repeat (first | (with_reducible refine Then.go ?_) | (with_reducible refine Then.ex ?_) | (with_reducible refine Out.hit ?_) | (with_reducible refine Wx.seq ?_) | (with_reducible refine Wx.exit ?_) | (with_reducible refine Wx.reg ?_) | (with_reducible refine RoundE.ex ?_) | (refine Wx.condF rfl (by rfl) ?_) | ((with_reducible refine Wseq.nil ?_); intro e he; (simp (decide := true) only [kz] at he; subst he)) | ((with_reducible apply Wseq.mv); rfl; (intro v hv; (simp (decide := true) only [kw] at hv); subst hv)) | ((with_reducible apply Wseq.stg (op := Op.binOp BinOp.lss _ _ _ _)); rfl; exact to_lssF rfl rfl (by omega))))
          obtain rfl : k = Ln := by omega
          refine Wseq.call rfl rfl (iids_spec (by ((repeat (apply Fresh.put; omega)); ((assumption)))) hMd (by simp)) ?_
          rintro xz hz' cz rz wz ⟨hidz, hextz⟩
          obtain ⟨oz, iz, rfl⟩ := hidz.val
          (repeat (first | (with_reducible refine Then.go ?_) | (with_reducible refine Wx.ret ?_) | ((with_reducible refine Wseq.nil ?_); intro e he; (simp (decide := true) only [kz] at he; subst he)) | ((with_reducible apply Wseq.as); rfl; (intro v hv; (simp (decide := true) only [kw] at hv); subst hv)) | ((with_reducible apply Wseq.stg (op := Op.call ⟨Callee.builtin Builtin.len, _, _⟩)); rfl; exact to_lenS (sl_ rfl) rfl) | ((with_reducible apply Wseq.stg (op := Op.binOp BinOp.eql _ _ _ _)); rfl; exact to_eqI rfl rfl)))
          exact ⟨.inr rfl, Wres.one rfl rfl⟩
end Go.Ab.Seat
