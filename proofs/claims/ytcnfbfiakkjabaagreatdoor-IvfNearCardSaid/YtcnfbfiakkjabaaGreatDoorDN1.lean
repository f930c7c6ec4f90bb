import Derived.Test.YtcnfbfiakkjabaaGreatDoorDO4
import Derived.Test.YtcnfbfiakkjabaaGreatDoorDO7
import Derived.Test.YtcnfbfiakkjabaaGreatDoorDA1
set_option linter.unusedVariables false
set_option linter.unusedSimpArgs false
section
/- The places of middles, plainly. -/
namespace Go.Ab.Seat
open Go.Extern Go.Proofs
set_option linter.unusedVariables false

theorem ordZ_mem {mid : List (List Int)} {qs : List Int} {x : Int} : x ∈ ordZ mid qs ↔ 0 ≤ x ∧ x < mid.length := by
  have h1 := hitO_len qs mid
  have h2 := (bestOf_ord (k := mid.length) (hitO_nodup qs mid) mid.length (by omega) (Nat.le_refl _)).1
  rw [List.take_of_length_le (by omega)] at h2
  unfold ordZ
  rw [(h2.map Ht.id).mem_iff]
  unfold hitO
  rw [List.map_map]
  constructor
  · intro h
    obtain ⟨i, h3, rfl⟩ := List.mem_map.1 h
    have := List.mem_range.1 h3
    show 0 ≤ (i : Int) ∧ (i : Int) < _
    omega
  · rintro ⟨h3, h4⟩
    exact List.mem_map.2 ⟨x.toNat, List.mem_range.2 (by omega), by show ((x.toNat : Nat) : Int) = x; omega⟩
theorem nearZ_rng {mid : List (List Int)} {zs : List Int} (h : mid.length ≠ 0) : 0 ≤ nearZ mid zs ∧ nearZ mid zs < mid.length := by
  have h1 := ordZ_len mid zs
  unfold nearZ
  rw [if_neg h]
  refine ordZ_mem (qs := zs).1 ?_
  rw [List.getD_eq_getElem?_getD, List.getElem?_eq_getElem (by omega)]
  exact List.getElem_mem _
theorem putM_len (r : Rc) : ∀ l : List Rc, (putM r l).length ≤ l.length + 1
  | [] => by simp [putM]
  | x :: l => by
    have := putM_len r l
    unfold putM
    split
    · simp
    · split
      · simp
      · simp; omega

theorem VecsIn.keep {h h' : T AObj} {c : Nat} {v : Value} {zss : List (List Int)} (x : VecsIn h v zss) (hf : Fresh h c) (k : ∀ b, b < c → h'.get b = h.get b) : VecsIn h' v zss := by
  obtain ⟨oa, cap, e, hat⟩ := x
  refine ⟨oa, cap, e, fun i zs hi => ?_⟩
  obtain ⟨b, o, sp, cs, a, kk, e1, e2, e3, e4⟩ := hat i zs hi
  refine ⟨b, o, sp, cs, a, kk, e1, ?_, e3, Row.keepF e4 hf k⟩
  have q := k b (e2.lt hf)
  unfold Cel Has at e2 ⊢
  rw [q]; exact e2

end Go.Ab.Seat
end
section
/- IvfNear: the run answers true (the abstract machine). -/
namespace Go.Ab.Seat
open Go.Extern Go.Proofs
set_option linter.unusedSimpArgs false
set_option linter.unusedVariables false
set_option maxRecDepth 4000
set_option pp.deepTerms false
set_option pp.deepTerms.threshold 6

/-- Of two middles or fewer all lists are near. -/
theorem near_all {mid : List (List Int)} {qs zs : List Int} (h : mid.length ≤ 2) : listZ mid zs ∈ nearL mid qs := by
  have h1 := ordZ_len mid qs
  by_cases h0 : mid.length = 0
  · have e1 : ordZ mid qs = [] := List.length_eq_zero_iff.1 (by omega)
    unfold listZ nearL nearZ nearN
    rw [if_pos h0, if_pos h0, e1]
    exact List.mem_cons_self
  · have h2 := nearZ_rng (zs := zs) h0
    have e1 : nearN mid.length = (ordZ mid qs).length := by unfold nearN; rw [if_neg h0]; omega
    have e2 : listZ mid zs = nearZ mid zs := by unfold listZ; omega
    unfold nearL
    rw [e1, List.take_left, e2]
    exact ordZ_mem.2 h2

def strip (r : Rc) : Rc := { r with seq := 0 }
theorem getM_strip (x : Int) : ∀ M : List Rc, getM x (M.map strip) = (getM x M).map strip
  | [] => rfl
  | r :: M => by
    rw [List.map_cons, getM, getM]
    by_cases h : r.id = x
    · rw [if_pos h, if_pos (show (strip r).id = x from h)]; rfl
    · rw [if_neg h, if_neg (show ¬(strip r).id = x from h)]; exact getM_strip x M
theorem hits_strip (mt : Int) (qs : List Int) (M : List Rc) : hitsM mt qs (M.map strip) = hitsM mt qs M := by
  unfold hitsM
  rw [List.map_map]; rfl

/-- An index of lists of the call's own beside a flat one. -/
structure TwoI (h : T AObj) (c : Nat) (p m : Nat) (mv : Value) (pf mf : Nat) (mt : Int) (dim : Nat) (mid : List (List Int)) (A B : List Rc) : Prop where
  ex : ∃ Ua Ub : Nat → Prop, IvfM h p m mv mt dim mid A Ua ∧ FlatM h pf mf mt dim B Ub ∧ ¬Ua mf ∧ ¬Ub m ∧ m < c ∧ mf < c
theorem TwoI.putI {h : T AObj} {c : Nat} {rl wl : List Nat} (hf : Fresh h c) {p m pf mf dim : Nat} {mv : Value} {mt : Int} {mid : List (List Int)} {A B : List Rc} (t : TwoI h c p m mv pf mf mt dim mid A B) (hn : mid.length ≤ 12) (id : Int) (hid : -9223372036854775808 ≤ id ∧ id ≤ 9223372036854775807) {bi : Nat} {zs : List Int} (hv : Has h bi (.cells (zs.map (Value.int .i32)))) (hz : zs.length = dim) (hb : Bnd zs) (hd : 1 ≤ dim) (hd' : dim ≤ 1000) :
    ∃ r s', FnTo (Cs smQ) eg 19 [.pointer (some ⟨p, 0, none⟩), .int .i64 id, .slice (some ⟨bi, 0, none⟩) dim dim] ⟨h, c, rl, wl⟩ r s' ∧ TwoI s'.h s'.c p m mv pf mf mt dim mid (putM (mbI id zs (listZ mid zs)) A) B ∧ (∃ es n, Has h m (.map es n)) ∧ Ext ⟨h, c, rl, wl⟩ s' (fun _ => True) (fun b => b = m) := by
  obtain ⟨Ua, Ub, qa, qb, u1, u2, l1, l2⟩ := t.ex
  obtain ⟨es, n, hma⟩ := qa.hm
  have hrow : Row h (.slice (some ⟨bi, 0, none⟩) dim dim) dim 1 (zs.map (Value.int .i32)) := .inr ⟨bi, 0, none, dim, _, rfl, hv.cel, subN_all _ _ (by rw [List.length_map]; omega)⟩
  obtain ⟨r, s', e1, e2, e3⟩ := iput_spec (rl := rl) (wl := wl) hf qa hn id hid hrow hz hb hd hd' (fun b => b = bi) (fun b e => by cases e; rfl) (fun e => notMap hv hma e.symm)
  have hc := e3.c
  simp only at hc
  refine ⟨r, s', e1, ⟨_, Ub, e2, qb.keep hf fun b hb hc => e3.h b hc (fun e => u2 (e ▸ hb)), ?_, u2, by omega, by omega⟩, ⟨es, n, hma⟩, e3.mono (fun _ _ _ => trivial) fun _ _ q => q⟩
  rintro (q | q)
  · exact u1 q
  · omega
theorem TwoI.putF {h : T AObj} {c : Nat} {rl wl : List Nat} (hf : Fresh h c) {p m pf mf dim : Nat} {mv : Value} {mt : Int} {mid : List (List Int)} {A B : List Rc} (t : TwoI h c p m mv pf mf mt dim mid A B) (id : Int) (hid : -9223372036854775808 ≤ id ∧ id ≤ 9223372036854775807) {bi : Nat} {zs : List Int} (hv : Has h bi (.cells (zs.map (Value.int .i32)))) (hz : zs.length = dim) (hb : Bnd zs) (hd : 1 ≤ dim) (hd' : dim ≤ 1000) :
    ∃ r s', FnTo (Cs smQ) eg 12 [.pointer (some ⟨pf, 0, none⟩), .int .i64 id, .slice (some ⟨bi, 0, none⟩) dim dim] ⟨h, c, rl, wl⟩ r s' ∧ TwoI s'.h s'.c p m mv pf mf mt dim mid A (putM (mbR id zs) B) ∧ (∃ es n, Has h mf (.map es n)) ∧ Ext ⟨h, c, rl, wl⟩ s' (fun _ => True) (fun b => b = mf) := by
  obtain ⟨Ua, Ub, qa, qb, u1, u2, l1, l2⟩ := t.ex
  obtain ⟨es, n, hma⟩ := qb.hm
  have hrow : Row h (.slice (some ⟨bi, 0, none⟩) dim dim) dim 1 (zs.map (Value.int .i32)) := .inr ⟨bi, 0, none, dim, _, rfl, hv.cel, subN_all _ _ (by rw [List.length_map]; omega)⟩
  obtain ⟨r, s', e1, e2, e3⟩ := fput_spec (rl := rl) (wl := wl) hf qb id hid hrow hz hb hd hd' (fun b => b = bi) (fun b o sp e => by cases e; rfl) (fun e => notMap hv hma e.symm)
  have hc := e3.c
  simp only at hc
  refine ⟨r, s', e1, ⟨Ua, _, qa.keep hf fun b hb hc => e3.h b hc (fun e => u1 (e ▸ hb)), e2, u1, ?_, by omega, by omega⟩, ⟨es, n, hma⟩, e3.mono (fun _ _ _ => trivial) fun _ _ q => q⟩
  rintro (q | q)
  · exact u2 q
  · omega

theorem tmod_rngI (z : Int) : 0 ≤ (z.tmod 15 + 15).tmod 15 ∧ (z.tmod 15 + 15).tmod 15 ≤ 14 ∧ -15 < z.tmod 15 ∧ z.tmod 15 < 15 := by
  have h1 := tmod_lt z 15 (by omega)
  have h2 := Int.tmod_lt_of_pos (z.tmod 15 + 15) (show (0 : Int) < 15 by omega)
  have h3 := Int.tmod_nonneg (a := z.tmod 15 + 15) 15 (by omega)
  omega

def EIN (m : Int) (v qv : Value) (k : Int) (lv : Value) (p pf n : Nat) (z : Int) (j13 j35 : Value) : L :=
  .cons 0 (.int .i64 m) (.cons 1 v (.cons 2 qv (.cons 3 (.int .i64 k) (.cons 8 (.bool false) (.cons 9 (.bool true) (.cons 16 (.bool false) (.cons 10 lv (.cons 11 (.pointer (some ⟨p, 0, none⟩)) (.cons 12 (.pointer (some ⟨pf, 0, none⟩)) (.cons 33 (.int .i64 (n : Int)) (.cons 34 (.int .i64 z) (.cons 13 j13 (.cons 35 j35 .nil)))))))))))))

set_option maxHeartbeats 8000000 in
theorem ivfNear_run {h : T AObj} {c : Nat} (hf : Fresh h c) (hg : Glob h) (m k : Int) {v : Value} {zss : List (List Int)} (hv : VecsIn h v zss) (hvn : zss.length ≤ 9223372036854775807) {qa : Option Addr} {qn qc : Nat} {zq : List Int} (hq : Row h (.slice qa qn qc) qn 1 (zq.map (Value.int .i32))) (hqn : zq.length = qn) :
    ∃ r s', FnTo (Cs smQ) eg 4 [.int .i64 m, v, .slice qa qn qc, .int .i64 k] ⟨h, c, [], []⟩ r s' ∧ r = .bool true := by
  have hk15 := tmod_rngI k
  have hm2 := and1_or m
  obtain ⟨oa0, cap0, rfl, _⟩ := _root_.id hv
  refine Fn.go (stdQ 4 rfl) ex4 fn4 km4 rfl rfl ?_
  intro e he
  (simp (decide := true) only [kz] at he; subst he)
  (repeat (first | (with_reducible refine Then.go ?_) | (with_reducible refine Wx.seq ?_) | (with_reducible refine Wx.reg ?_) | ((with_reducible refine Wseq.nil ?_); intro e he; (simp (decide := true) only [kz] at he; subst he)) | ((with_reducible apply Wseq.as); rfl; (intro v hv; (simp (decide := true) only [kw] at hv); subst hv))))
  refine Wseq.call rfl rfl (begunQ (by ((repeat (apply Fresh.put; omega)); ((assumption)))) hg) ?_
  rintro v1 h1 c1 r1 w1 ⟨rfl, e1⟩
  cases e1
  (repeat (first | (with_reducible refine Then.go ?_) | (with_reducible refine Wx.seq ?_) | (with_reducible refine Wx.skip ?_) | (with_reducible refine Wx.reg ?_) | (refine Wx.condF rfl (by rfl) ?_) | ((with_reducible refine Wseq.nil ?_); intro e he; (simp (decide := true) only [kz] at he; subst he)) | ((with_reducible apply Wseq.mv); rfl; (intro v hv; (simp (decide := true) only [kw] at hv); subst hv)) | ((with_reducible apply Wseq.as); rfl; (intro v hv; (simp (decide := true) only [kw] at hv); subst hv)) | ((with_reducible apply Wseq.stg (op := Op.unOp UnOp.not _ _)); rfl; exact to_notT rfl)))
  ((with_reducible apply Wseq.stg); (focus rfl); (focus (exact to_and1 rfl rfl)))
  (repeat (first | (with_reducible refine Then.go ?_) | (with_reducible refine Wx.seq ?_) | (with_reducible refine Wx.reg ?_) | ((with_reducible refine Wseq.nil ?_); intro e he; (simp (decide := true) only [kz] at he; subst he)) | ((with_reducible apply Wseq.mv); rfl; (intro v hv; (simp (decide := true) only [kw] at hv); subst hv)) | ((with_reducible apply Wseq.as); rfl; (intro v hv; (simp (decide := true) only [kw] at hv); subst hv)) | ((with_reducible apply Wseq.stg (op := Op.binOp BinOp.add _ _ _ _)); rfl; exact to_add rfl rfl (by omega) (by omega)) | ((with_reducible apply Wseq.stg (op := Op.binOp BinOp.rem _ _ _ _)); rfl; exact to_rem rfl rfl (by decide))))
  refine Wseq.call rfl rfl (vecs_spec stdQ (n := 30) (dim := 2) (by ((repeat (apply Fresh.put; omega)); ((assumption)))) hv (by omega) (by omega) hvn) ?_
  rintro lv h1 c1 r1 w1 ⟨hV, hext1⟩
  have fr1 := hext1.fresh
  have le1 := hext1.c
  have kp1 : ∀ b, b < c → h1.get b = h.get b := fun b hb => hext1.get hb (fun q => q)
  simp only at le1 fr1
  generalize hvs : vecsZ zss 2 30 = V at hV
  have hVlen : V.length ≤ 30 := by rw [← hvs]; unfold vecsZ; rw [List.length_map, List.length_take]; omega
  have hVb : ∀ zs ∈ V, Bnd zs := fun zs hz => by
    rw [← hvs] at hz
    unfold vecsZ at hz
    obtain ⟨y, _, rfl⟩ := List.mem_map.1 hz
    exact Bnd_vecZ _ _
  obtain ⟨ov, rfl⟩ := hV.val
  have hmm : 1 + and1 m = 1 ∨ 1 + and1 m = 2 := by omega
  generalize hmt : 1 + and1 m = mt at hmm
  (repeat (first | (with_reducible refine Then.go ?_) | (with_reducible refine Wx.seq ?_) | (with_reducible refine Wx.reg ?_) | ((with_reducible refine Wseq.nil ?_); intro e he; (simp (decide := true) only [kz] at he; subst he)) | ((with_reducible apply Wseq.mv); rfl; (intro v hv; (simp (decide := true) only [kw] at hv); subst hv)) | ((with_reducible apply Wseq.as); rfl; (intro v hv; (simp (decide := true) only [kw] at hv); subst hv))))
  have hv1 : VecsIn h1 (.slice oa0 zss.length cap0) zss := hv.keep hf kp1
  refine Wseq.call rfl rfl (vecs_spec stdQ (n := 2) (dim := 2) (by ((repeat (apply Fresh.put; omega)); ((assumption)))) hv1 (by omega) (by omega) hvn) ?_
  rintro lv2 h2 c2 r2 w2 ⟨hV2, hext2⟩
  have fr2 := hext2.fresh
  have le2 := hext2.c
  have kp2 : ∀ b, b < c1 → h2.get b = h1.get b := fun b hb => hext2.get hb (fun q => q)
  simp only at le2 fr2
  generalize hvs2 : vecsZ zss 2 2 = mid at hV2
  have hmlen : mid.length ≤ 2 := by rw [← hvs2]; unfold vecsZ; rw [List.length_map, List.length_take]; omega
  have hmb : ∀ zs ∈ mid, Bnd zs := fun zs hz => by
    rw [← hvs2] at hz
    unfold vecsZ at hz
    obtain ⟨y, _, rfl⟩ := List.mem_map.1 hz
    exact Bnd_vecZ _ _
  have hM := hV2.mrow hmb
  skip
  refine Wseq.call rfl rfl (iof_spec (by ((repeat (apply Fresh.put; omega)); ((assumption)))) hmm hM (by omega) (by omega) (by omega) (fun _ => True) (fun _ _ => trivial)) ?_
  rintro v3 h3 c3 r3 w3 ⟨⟨p, mm, mv, rfl, hI⟩, hext3⟩
  have fr3 := hext3.fresh
  have le3 := hext3.c
  have kp3 : ∀ b, b < c2 → h3.get b = h2.get b := fun b hb => hext3.get hb (fun q => q)
  simp only at le3 fr3 hI
  (repeat (((with_reducible apply Wseq.mv); rfl; (intro v hv; (simp (decide := true) only [kw] at hv); subst hv))))
  refine Wseq.call rfl rfl (fnew_spec stdQ (by ((repeat (apply Fresh.put; omega)); ((assumption)))) mt hmm) ?_
  rintro v4 h4 c4 r4 w4 ⟨⟨rfl, ga1, ga2, e4⟩, hext4⟩
  simp only at e4
  subst e4
  have fr4 := hext4.fresh
  have kp4 : ∀ b, b < c3 → h4.get b = h3.get b := fun b hb => hext4.get hb (fun q => q)
  have hV4 : VRow h4 c (.slice ov V.length V.length) 2 V := hV.keep fr1 fun b hb _ _ => (kp4 b (by omega)).trans ((kp3 b (by omega)).trans (kp2 b hb))
  have hkp4 : ∀ b, b < c → h4.get b = h.get b := fun b hb => (kp4 b (by omega)).trans ((kp3 b (by omega)).trans ((kp2 b (by omega)).trans (kp1 b hb)))
  obtain ⟨lp3, lm3⟩ := hI.lt fr3
  have hI4 := hI.keep fr3 (fun b _ hb => kp4 b hb)
  have hmU := hI.mU
  have T4 : TwoI h4 (c3 + 2) p mm mv (c3 + 1) c3 mt 2 mid [] [] := ⟨_, _, hI4, FlatM.new ga2 ga1 (by omega), by omega, by omega, by omega, by omega⟩
  (repeat (first | (with_reducible refine Then.go ?_) | (with_reducible refine Wx.seq ?_) | (with_reducible refine Wx.block ?_) | (with_reducible refine Wx.reg ?_) | ((with_reducible refine Wseq.nil ?_); intro e he; (simp (decide := true) only [kz] at he; subst he)) | ((with_reducible apply Wseq.mv); rfl; (intro v hv; (simp (decide := true) only [kw] at hv); subst hv)) | ((with_reducible apply Wseq.as); rfl; (intro v hv; (simp (decide := true) only [kw] at hv); subst hv)) | ((with_reducible apply Wseq.stg (op := Op.call ⟨Callee.builtin Builtin.len, _, _⟩)); rfl; exact to_lenS (sl_ rfl) rfl)))
  refine Wx.cutO (fun e s => ∃ (j13 j35 : Value) (h' : T AObj) (c' : Nat) (rl' wl' : List Nat) (A B : List Rc), e = EIN mt (.slice oa0 zss.length cap0) (.slice qa qn qc) ((k.tmod 15 + 15).tmod 15) (.slice ov V.length V.length) p (c3 + 1) V.length V.length j13 j35 ∧ s = ⟨h', c', rl', wl'⟩ ∧ c ≤ c' ∧ Fresh h' c' ∧ (∀ b, b < c → h'.get b = h.get b) ∧ TwoI h' c' p mm mv (c3 + 1) c3 mt 2 mid A B ∧ A.map strip = B ∧ B.length ≤ 30) (by (repeat ((exact Resp.fn)))) ?_ ?_
  · refine Wx.loopE (fun k1 e s => ∃ (i : Nat) (z : Int) (j13 j35 : Value) (h' : T AObj) (c' : Nat) (rl' wl' : List Nat) (A B : List Rc), e = EIN mt (.slice oa0 zss.length cap0) (.slice qa qn qc) ((k.tmod 15 + 15).tmod 15) (.slice ov V.length V.length) p (c3 + 1) V.length z j13 j35 ∧ z = i ∧ s = ⟨h', c', rl', wl'⟩ ∧ c ≤ c' ∧ Fresh h' c' ∧ (∀ b, b < c → h'.get b = h.get b) ∧ VRow h' c (.slice ov V.length V.length) 2 V ∧ TwoI h' c' p mm mv (c3 + 1) c3 mt 2 mid A B ∧ (∀ x, (getM x A).map strip = getM x B) ∧ B.length ≤ i ∧ i ≤ V.length ∧ k1 = V.length - i) V.length (EIN mt (.slice oa0 zss.length cap0) (.slice qa qn qc) ((k.tmod 15 + 15).tmod 15) (.slice ov V.length V.length) p (c3 + 1) V.length 0 top top) (by (repeat (first | (exact Resp.fn) | (apply Resp.out) | (apply Resp.cut)))) ?_ ?_ ?_
    · unfold EIN
      (refine EqK.of ?_ ?_ <;> (repeat (first | (exact all_nil) | (apply all_cons; rfl))))
    · exact ⟨0, 0, _, _, _, _, _, _, [], [], rfl, rfl, rfl, by omega, fr4, hkp4, hV4, T4, fun x => rfl, Nat.le_refl _, by omega, rfl⟩
    · rintro k1 e s ⟨i, z, j13, j35, h', c', rl', wl', A, B, rfl, hz, rfl, hcc, hf', hkp, hV', hT, hAB, hBl, hid, rfl⟩
      unfold EIN
      by_cases hi : i < V.length
      · obtain ⟨g1, bV, vals, bi, rfl, g2, g3, g4, g5, g6⟩ := hV'.at (List.getElem?_eq_getElem hi)
        have lV := g3.lt hf'
        (repeat (first | (with_reducible refine Then.go ?_) | (with_reducible refine Wx.seq ?_) | (with_reducible refine Wx.skip ?_) | (with_reducible refine Wx.block ?_) | (with_reducible refine Wx.reg ?_) | (refine Wx.condT rfl (by rfl) ?_) | ((with_reducible refine Wseq.nil ?_); intro e he; (simp (decide := true) only [kz] at he; subst he)) | ((with_reducible apply Wseq.mv); rfl; (intro v hv; (simp (decide := true) only [kw] at hv); subst hv)) | ((with_reducible apply Wseq.as); rfl; (intro v hv; (simp (decide := true) only [kw] at hv); subst hv)) | ((with_reducible apply Wseq.stg (op := Op.binOp BinOp.lss _ _ _ _)); rfl; exact to_lssT rfl rfl (by omega)) | ((with_reducible apply Wseq.stg (op := Op.binOp BinOp.add _ _ _ _)); rfl; exact to_add rfl rfl (by omega) (by omega))))
        ((with_reducible apply Wseq.stg); (focus rfl); (focus (exact to_indexAddr (k := i) el22 rfl rfl hz hi)))
        ((with_reducible apply Wseq.stg); (focus rfl); (focus (exact to_load (pl_ rfl) rfl g3.cel (by omega) g4)))
        refine Wseq.call rfl rfl (hT.putI (by ((repeat (apply Fresh.put; omega)); ((assumption)))) (by omega) (z + 1) (by omega) g6 g1 (hVb _ (List.getElem_mem hi)) (by omega) (by omega)) ?_
        rintro w h5 c5 r5 w5 ⟨hT5, ⟨es5, n5, hm5⟩, hext5⟩
        replace hT5 : TwoI h5 c5 _ _ _ _ _ _ _ _ _ _ := hT5
        have fr5 := hext5.fresh
        have le5 := hext5.c
        simp only at le5 fr5
        have hV5 : VRow h5 c _ 2 V := hV'.keep hf' fun b hb ⟨cs, hcs⟩ _ => hext5.get hb (notMap hcs hm5)
        have hk5 : ∀ b, b < c → h5.get b = h.get b := fun b hb => (hext5.get (by omega) (by omega)).trans (hkp b hb)
        obtain ⟨g1', bV', vals', bi', e', g2', g3', g4', g5', g6'⟩ := hV5.at (List.getElem?_eq_getElem hi)
        cases e'
        have lV' := g3'.lt fr5
        (repeat (first | (with_reducible refine Then.go ?_) | (with_reducible refine Wx.reg ?_) | ((with_reducible refine Wseq.nil ?_); intro e he; (simp (decide := true) only [kz] at he; subst he)) | ((with_reducible apply Wseq.mv); rfl; (intro v hv; (simp (decide := true) only [kw] at hv); subst hv)) | ((with_reducible apply Wseq.stg (op := Op.binOp BinOp.add _ _ _ _)); rfl; exact to_add rfl rfl (by omega) (by omega))))
        ((with_reducible apply Wseq.stg); (focus rfl); (focus (exact to_indexAddr (k := i) el22 rfl rfl hz hi)))
        ((with_reducible apply Wseq.stg); (focus rfl); (focus (exact to_load (pl_ rfl) rfl g3'.cel (by omega) g4')))
        refine Wseq.call rfl rfl (hT5.putF (by ((repeat (apply Fresh.put; omega)); ((assumption)))) (z + 1) (by omega) g6' g1' (hVb _ (List.getElem_mem hi)) (by omega) (by omega)) ?_
        rintro w h6 c6 r6 w6 ⟨hT6, ⟨es6, n6, hm6⟩, hext6⟩
        replace hT6 : TwoI h6 c6 _ _ _ _ _ _ _ _ _ _ := hT6
        have fr6 := hext6.fresh
        have le6 := hext6.c
        simp only at le6 fr6
        have hV6 : VRow h6 c _ 2 V := hV5.keep fr5 fun b hb ⟨cs, hcs⟩ _ => hext6.get hb (notMap hcs hm6)
        have hk6 : ∀ b, b < c → h6.get b = h.get b := fun b hb => (hext6.get (by omega) (by omega)).trans (hk5 b hb)
        (repeat (first | (with_reducible refine Then.go ?_) | (with_reducible refine Out.go ?_) | (with_reducible refine Wx.reg ?_) | ((with_reducible refine Wseq.nil ?_); intro e he; (simp (decide := true) only [kz] at he; subst he)) | ((with_reducible apply Wseq.mv); rfl; (intro v hv; (simp (decide := true) only [kw] at hv); subst hv)) | ((with_reducible apply Wseq.stg (op := Op.binOp BinOp.add _ _ _ _)); rfl; exact to_add rfl rfl (by omega) (by omega))))
        refine RoundE.go (V.length - (i + 1)) (EIN mt (.slice oa0 zss.length cap0) (.slice qa qn qc) ((k.tmod 15 + 15).tmod 15) (.slice _ V.length V.length) p (c3 + 1) V.length (z + 1) _ _) (by omega) (by (refine EqK.of ?_ ?_ <;> (repeat (first | (exact all_nil) | (apply all_cons; rfl))))) ⟨i + 1, z + 1, _, _, _, _, _, _, _, _, rfl, by omega, rfl, by omega, fr6, hk6, hV6, hT6, fun x => ?_, ?_, by omega, rfl⟩
        · rw [getM_put, getM_put, ← hAB x]
          by_cases hx : z + 1 = x
          · rw [if_pos hx, if_pos hx]; rfl
          · rw [if_neg hx, if_neg hx]
        · have := putM_len (mbR (z + 1) V[i]) B
          omega
      · (repeat (first | (with_reducible refine Then.go ?_) | (with_reducible refine Then.ex ?_) | (with_reducible refine Out.hit ?_) | (with_reducible refine Wx.seq ?_) | (with_reducible refine Wx.exit ?_) | (with_reducible refine Wx.reg ?_) | (with_reducible refine RoundE.ex ?_) | (refine Wx.condF rfl (by rfl) ?_) | ((with_reducible refine Wseq.nil ?_); intro e he; (simp (decide := true) only [kz] at he; subst he)) | ((with_reducible apply Wseq.stg (op := Op.binOp BinOp.lss _ _ _ _)); rfl; exact to_lssF rfl rfl (by omega))))
        obtain rfl : i = V.length := by omega
        subst hz
        obtain ⟨Ua, Ub, xa, xb, _⟩ := hT.ex
        exact CutQ.go (EIN mt (.slice oa0 zss.length cap0) (.slice qa qn qc) ((k.tmod 15 + 15).tmod 15) (.slice ov V.length V.length) p (c3 + 1) V.length V.length _ _) (by (refine EqK.of ?_ ?_ <;> (repeat (first | (exact all_nil) | (apply all_cons; rfl))))) ⟨_, _, _, _, _, _, A, B, rfl, rfl, hcc, hf', hkp, hT, rises_getM (List.pairwise_map.2 xa.rises) xb.rises (fun x => (getM_strip x A).trans (hAB x)), by omega⟩
  · rintro e s ⟨j13, j35, h5, c5, rl5, wl5, A, B, rfl, rfl, hcc5, hf5, hkp5, hT5, hAB, hBl⟩
    unfold EIN
    obtain ⟨Ua, Ub, qa5, qb5, u1, u2, l1, l2⟩ := hT5.ex
    have hAl : A.length ≤ 30 := by rw [← hAB, List.length_map] at hBl; exact hBl
    have hq5 := Row.keepF hq hf hkp5
    (repeat (first | (with_reducible refine Wx.seq ?_) | (with_reducible refine Wx.reg ?_) | ((with_reducible apply Wseq.mv); rfl; (intro v hv; (simp (decide := true) only [kw] at hv); subst hv))))
    refine Wseq.call rfl rfl (vec_spec stdQ (by ((repeat (apply Fresh.put; omega)); ((assumption)))) hqn hq5 2 (by omega) (fun _ => True) (fun _ _ => trivial)) ?_
    rintro w h6 c6 r6 w6 ⟨⟨rfl, hq6⟩, hext6⟩
    have fr6 := hext6.fresh
    have le6 := hext6.c
    simp only at le6 fr6
    have lq6 := hq6.lt fr6
    have hqr : Row h6 (.slice (some ⟨c5, 0, none⟩) 2 2) 2 1 ((vecZ zq 2).map (Value.int .i32)) := .inr ⟨c5, 0, none, 2, _, rfl, hq6.cel, subN_all _ _ (by rw [List.length_map, vecZ_len])⟩
    have qa6 := qa5.keep hf5 (fun b _ hb => hext6.get hb (fun q => q))
    have qb6 := qb5.keep hf5 (fun b _ hb => hext6.get hb (fun q => q))
    have hkk : max ((k.tmod 15 + 15).tmod 15) 0 = (((k.tmod 15 + 15).tmod 15).toNat : Int) := by omega
    (repeat (first | (with_reducible refine Then.go ?_) | (with_reducible refine Wx.seq ?_) | (with_reducible refine Wx.reg ?_) | ((with_reducible refine Wseq.nil ?_); intro e he; (simp (decide := true) only [kz] at he; subst he)) | ((with_reducible apply Wseq.mv); rfl; (intro v hv; (simp (decide := true) only [kw] at hv); subst hv)) | ((with_reducible apply Wseq.as); rfl; (intro v hv; (simp (decide := true) only [kw] at hv); subst hv))))
    refine Wseq.call rfl rfl (isearch_spec (by ((repeat (apply Fresh.put; omega)); ((assumption)))) qa6 (by omega) hmm hqr (vecZ_len _ _) (Bnd_vecZ _ _) (by omega) _ hkk (by omega) (by omega) (fun _ => True) (fun _ _ => trivial) (fun _ _ => trivial)) ?_
    rintro w7 h7 c7 r7 w7' ⟨⟨gA1, gA2⟩, hext7⟩
    have fr7 := hext7.fresh
    have le7 := hext7.c
    simp only at le7 fr7
    have qb7 := qb6.keep fr6 (fun b _ hb => hext7.get hb (fun q => q))
    have hqr7 := Row.keepF hqr fr6 (fun b hb => hext7.get hb (fun q => q))
    (repeat (((with_reducible apply Wseq.mv); rfl; (intro v hv; (simp (decide := true) only [kw] at hv); subst hv))))
    refine Wseq.call rfl rfl (fsearch_spec (by ((repeat (apply Fresh.put; omega)); ((assumption)))) qb7 hmm hqr7 (vecZ_len _ _) (Bnd_vecZ _ _) (by omega) _ hkk (by omega) (by omega) (fun _ => True) (fun _ _ => trivial) (fun _ _ => trivial)) ?_
    rintro w8 h8 c8 r8 w8' ⟨⟨gB1, gB2⟩, hext8⟩
    have fr8 := hext8.fresh
    have le8 := hext8.c
    simp only at le8 fr8
    have hh : hitsI mt (vecZ zq 2) mid A = hitsM mt (vecZ zq 2) B := by
      unfold hitsI
      rw [← hAB, hits_strip]
      congr 1
      refine List.filter_eq_self.2 fun r hr => ?_
      obtain ⟨zs, e1, _, _⟩ := qa5.ok r hr
      rw [e1]
      exact decide_eq_true (near_all hmlen)
    rw [hh] at gA1
    obtain ⟨oA, cA, rfl, _, rowA⟩ := gA1.row
    obtain ⟨oB, cB, rfl, _, rowB'⟩ := gB1.row
    have rowA8 := Row.keepF rowA fr7 (fun b hb => hext8.get hb (fun q => q))
    have hbl := bestOf_len ((k.tmod 15 + 15).tmod 15).toNat (hitsM mt (vecZ zq 2) B)
    have hhl : (hitsM mt (vecZ zq 2) B).length = B.length := by unfold hitsM; rw [List.length_map]
    skip
    refine Wseq.call rfl rfl (hits_spec stdQ (by ((repeat (apply Fresh.put; omega)); ((assumption)))) rowA8 rowB' (by omega)) ?_
    rintro w9 h9 c9 r9 w9' ⟨rfl, e9, e9', hext9⟩
    (repeat (first | (with_reducible refine Then.go ?_) | (with_reducible refine Wx.ret ?_) | ((with_reducible refine Wseq.nil ?_); intro e he; (simp (decide := true) only [kz] at he; subst he)) | ((with_reducible apply Wseq.as); rfl; (intro v hv; (simp (decide := true) only [kw] at hv); subst hv))))
    exact ⟨.inr rfl, Wres.one rfl rfl⟩
end Go.Ab.Seat
end
