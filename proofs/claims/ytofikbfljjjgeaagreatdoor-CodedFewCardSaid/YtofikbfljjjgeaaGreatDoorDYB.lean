import Derived.Test.YtofikbfljjjgeaaGreatDoorDY9
import Derived.Test.YtofikbfljjjgeaaGreatDoorDF3
import Derived.Test.YtofikbfljjjgeaaGreatDoorDP0
import Derived.Test.YtofikbfljjjgeaaGreatDoorDWA
import Derived.Test.YtofikbfljjjgeaaGreatDoorDO2
import Derived.Test.YtofikbfljjjgeaaGreatDoorE45
import Derived.Carry
set_option linter.unusedVariables false
set_option linter.unusedSimpArgs false
section
/- CodedFew: the run answers true (the abstract machine). -/
namespace Go.Ab.Seat
open Go.Extern Go.Proofs
set_option maxRecDepth 4000
theorem hitsK_few {mt : Int} {qs lo st : List Int} {kk : Nat} {M : List Rc} (hr : Rises M) (hn : M.length ≤ 2 * kk + 4) : hitsK mt qs lo st kk M = bestOf kk (hitsM mt qs M) := by
 have hids : (M.map Rc.id).Nodup := hr.ids.imp fun q => Int.ne_of_lt q
 have e1 : (M.map (hitK mt qs lo st)).map Ht.id = M.map Rc.id := by rw [List.map_map]; rfl
 obtain ⟨p1, _⟩ := bestOf_ord (k := 2 * min kk M.length + 4) (l := M.map (hitK mt qs lo st)) (by rw [e1]; exact hids) M.length (by rw [List.length_map]; omega) (by omega)
 rw [List.take_of_length_le (by rw [List.length_map]; omega)] at p1
 have e2 : (M.map (hitK mt qs lo st)).map (trueK mt qs M) = hitsM mt qs M := by
  unfold hitsM
  rw [List.map_map]
  refine List.map_congr_left fun r h => ?_
  show Ht.mk r.id (scoreZ mt qs (intsV ((getM r.id M).elim [] Rc.xs))) = _
  rw [getM_some hr h rfl]
  rfl
 have p2 := p1.map (trueK mt qs M)
 rw [e2] at p2
 refine bestOf_perm ((p2.map Ht.id).nodup_iff.2 ?_) p2
 unfold hitsM
 rw [List.map_map]
 exact hids
structure TwoC (h : T AObj) (c : Nat) (p m : Nat) (vl vs : Value) (pf mf : Nat) (mt : Int) (dim : Nat) (lo st : List Int) (A : List Rc) (B : List Rc) : Prop where
 ex : ∃ Ua Ub : Nat → Prop, CodM h p m vl vs mt dim lo st A Ua ∧ FlatM h pf mf mt dim B Ub ∧ ¬Ua mf ∧ ¬Ub m ∧ m < c ∧ mf < c
theorem TwoC.putC {h : T AObj} {c : Nat} {rl wl : List Nat} (hf : Fresh h c) {p m pf mf dim : Nat} {vl vs : Value} {mt : Int} {lo st : List Int} {A B : List Rc} (t : TwoC h c p m vl vs pf mf mt dim lo st A B) (id : Int) (hid : -9223372036854775808 ≤ id ∧ id ≤ 9223372036854775807) {bi : Nat} {zs : List Int} (hv : Has h bi (.cells (zs.map (Value.int .i32)))) (hz : zs.length = dim) (hb : Bnd zs) (hd : 1 ≤ dim) (hd' : dim ≤ 8) :
  ∃ r s', FnTo (Cs smQ) eg 30 [.pointer (some ⟨p, 0, none⟩), .int .i64 id, .slice (some ⟨bi, 0, none⟩) dim dim] ⟨h, c, rl, wl⟩ r s' ∧ TwoC s'.h s'.c p m vl vs pf mf mt dim lo st (putM (mbR id zs) A) B ∧ (∃ es n, Has h m (.map es n)) ∧ Ext ⟨h, c, rl, wl⟩ s' (fun _ => True) (fun b => b = m) := by
 obtain ⟨Ua, Ub, qa, qb, u1, u2, l1, l2⟩ := t.ex
 obtain ⟨es, n, hma⟩ := qa.hm
 have hrow : Row h (.slice (some ⟨bi, 0, none⟩) dim dim) dim 1 (zs.map (Value.int .i32)) := .inr ⟨bi, 0, none, dim, _, rfl, hv.cel, subN_all _ _ (by rw [List.length_map]; omega)⟩
 obtain ⟨r, s', e1, e2, e3⟩ := cput_spec (rl := rl) (wl := wl) hf qa id hid hrow hz hb hd hd' (fun b => b = bi) (fun b e => by cases e; rfl) (fun e => notMap hv hma e.symm)
 have hc := e3.c
 simp only at hc
 refine ⟨r, s', e1, ⟨_, Ub, e2, qb.keep hf fun b hb hc => e3.h b hc (fun e => u2 (e ▸ hb)), ?_, u2, by omega, by omega⟩, ⟨es, n, hma⟩, e3.mono (fun _ _ _ => trivial) fun _ _ q => q⟩
 rintro (q | q)
 ·exact u1 q
 ·omega
theorem TwoC.putF {h : T AObj} {c : Nat} {rl wl : List Nat} (hf : Fresh h c) {p m pf mf dim : Nat} {vl vs : Value} {mt : Int} {lo st : List Int} {A B : List Rc} (t : TwoC h c p m vl vs pf mf mt dim lo st A B) (id : Int) (hid : -9223372036854775808 ≤ id ∧ id ≤ 9223372036854775807) {bi : Nat} {zs : List Int} (hv : Has h bi (.cells (zs.map (Value.int .i32)))) (hz : zs.length = dim) (hb : Bnd zs) (hd : 1 ≤ dim) (hd' : dim ≤ 8) :
  ∃ r s', FnTo (Cs smQ) eg 20 [.pointer (some ⟨pf, 0, none⟩), .int .i64 id, .slice (some ⟨bi, 0, none⟩) dim dim] ⟨h, c, rl, wl⟩ r s' ∧ TwoC s'.h s'.c p m vl vs pf mf mt dim lo st A (putM (mbR id zs) B) ∧ (∃ es n, Has h mf (.map es n)) ∧ Ext ⟨h, c, rl, wl⟩ s' (fun _ => True) (fun b => b = mf) := by
 obtain ⟨Ua, Ub, qa, qb, u1, u2, l1, l2⟩ := t.ex
 obtain ⟨es, n, hma⟩ := qb.hm
 have hrow : Row h (.slice (some ⟨bi, 0, none⟩) dim dim) dim 1 (zs.map (Value.int .i32)) := .inr ⟨bi, 0, none, dim, _, rfl, hv.cel, subN_all _ _ (by rw [List.length_map]; omega)⟩
 obtain ⟨r, s', e1, e2, e3⟩ := fput_spec (rl := rl) (wl := wl) hf qb id hid hrow hz hb hd (by omega) (fun b => b = bi) (fun b o sp e => by cases e; rfl) (fun e => notMap hv hma e.symm)
 have hc := e3.c
 simp only at hc
 refine ⟨r, s', e1, ⟨Ua, _, qa.keep hf fun b hb hc => e3.h b hc (fun e => u1 (e ▸ hb)), e2, u1, ?_, by omega, by omega⟩, ⟨es, n, hma⟩, e3.mono (fun _ _ _ => trivial) fun _ _ q => q⟩
 rintro (q | q)
 ·exact u2 q
 ·omega
theorem tmod_rngC (z : Int) : ∃ n : Nat, 1 + (z.tmod 10 + 10).tmod 10 = (n : Int) ∧ 1 ≤ n ∧ n ≤ 10 ∧ -10 < z.tmod 10 ∧ z.tmod 10 < 10 := by
 have h1 := tmod_lt z 10 (by omega)
 have h2 := Int.tmod_lt_of_pos (z.tmod 10 + 10) (show (0 : Int) < 10 by omega)
 have h3 := Int.tmod_nonneg (a := z.tmod 10 + 10) 10 (by omega)
 exact ⟨(1 + (z.tmod 10 + 10).tmod 10).toNat, by omega, by omega, by omega, by omega, by omega⟩
def K6 : List Nat := [0, 1, 2, 3, 4, 10, 11, 12, 13, 14, 15, 18, 39, 40, 41]
set_option maxHeartbeats 16000000 in
theorem codedFew_run {h : T AObj} {c : Nat} (hf : Fresh h c) (hg : Glob h) (m k : Int) {v0 v : Value} {zs0 zss : List (List Int)} (hv0 : VecsIn h v0 zs0) (hvn0 : zs0.length ≤ 9223372036854775807) (hv : VecsIn h v zss) (hvn : zss.length ≤ 9223372036854775807) {qa : Option Addr} {qn qc : Nat} {zq : List Int} (hq : Row h (.slice qa qn qc) qn 1 (zq.map (Value.int .i32))) (hqn : zq.length = qn) :
  ∃ r s', FnTo (Cs smQ) eg 6 [.int .i64 m, v0, v, .slice qa qn qc, .int .i64 k] ⟨h, c, [], []⟩ r s' ∧ r = .bool true := by
 obtain ⟨kk, hkk, hk1, hk2, hk3, hk4⟩ := tmod_rngC k
 have hm2 := and1_or m
 obtain ⟨oa0, cap0, rfl, _⟩ := _root_.id hv0
 obtain ⟨oa1, cap1, rfl, _⟩ := _root_.id hv
 refine Fn.go (stdQ 6 rfl) ex6 fn6 km6 rfl rfl ?_
 refine Zev ?_
 refine Zgo ?_
 refine Wseq.call rfl rfl (begunQ Zfr hg) ?_
 rintro v1 h1 c1 r1 w1 ⟨rfl, e1⟩
 cases e1
 refine Zgo ?_
 refine Zu (to_and1 rfl rfl) ?_
 refine Zgo ?_
 rw [hkk]
 have hmm : 1 + and1 m = 1 ∨ 1 + and1 m = 2 := by omega
 generalize hmt : 1 + and1 m = mt at hmm
 refine Wseq.call rfl rfl (vecs_spec stdQ (n := 10) (dim := 3) Zfr hv0 (by omega) (by omega) hvn0) ?_
 rintro lv0 h1 c1 r1 w1 ⟨hV0, hext1⟩
 have fr1 := hext1.fresh
 have le1 := hext1.c
 have kp1 : ∀ b, b < c → h1.get b = h.get b := fun b hb => hext1.get hb (fun q => q)
 simp only at le1 fr1
 generalize hvs0 : vecsZ zs0 3 10 = S at hV0
 have hSlen : S.length ≤ 10 := by rw [← hvs0]; unfold vecsZ; rw [List.length_map, List.length_take]; omega
 have hSb : ∀ zs ∈ S, Bnd zs := fun zs hz => by
  rw [← hvs0] at hz
  unfold vecsZ at hz
  obtain ⟨y, _, rfl⟩ := List.mem_map.1 hz
  exact Bnd_vecZ _ _
 have hM := hV0.mrow hSb
 refine Zgo ?_
 refine Wseq.call rfl rfl (cnew_spec Zfr hmm hM (by omega) (by omega) (by omega) (fun _ => True) (fun _ _ => trivial)) ?_
 rintro v3 h3 c3 r3 w3 ⟨⟨p, mm, vl, vs', rfl, hC⟩, hext3⟩
 have fr3 := hext3.fresh
 have le3 := hext3.c
 have kp3 : ∀ b, b < c1 → h3.get b = h1.get b := fun b hb => hext3.get hb (fun q => q)
 simp only at le3 fr3 hC
 generalize lowL 3 S = lo at hC
 generalize stepL 3 S = st at hC
 refine Zgo ?_
 refine Wseq.call rfl rfl (fnew_spec stdQ Zfr mt hmm) ?_
 rintro v4 h4 c4 r4 w4 ⟨⟨rfl, ga1, ga2, e4⟩, hext4⟩
 simp only at e4
 subst e4
 have fr4 := hext4.fresh
 have kp4 : ∀ b, b < c3 → h4.get b = h3.get b := fun b hb => hext4.get hb (fun q => q)
 have hkp4 : ∀ b, b < c → h4.get b = h.get b := fun b hb => (kp4 b (by omega)).trans ((kp3 b (by omega)).trans (kp1 b hb))
 obtain ⟨lp3, lm3⟩ := hC.lt fr3
 have hC4 := hC.keep fr3 (fun b _ hb => kp4 b hb)
 have hmU := hC.mU
 simp only at fr4
 have T4 : TwoC h4 (c3 + 2) p mm vl vs' (c3 + 1) c3 mt 3 lo st [] [] := ⟨_, _, hC4, FlatM.new ga2 ga1 (by omega), by omega, by omega, by omega, by omega⟩
 refine Zgo ?_
 rw [show (2 * (kk : Int) + 4) = ((2 * kk + 4 : Nat) : Int) by omega]
 refine Wseq.call rfl rfl (vecs_spec stdQ (n := 2 * kk + 4) (dim := 3) Zfr (hv.keep hf hkp4) (by omega) (by omega) hvn) ?_
 rintro lv h5 c5 r5 w5 ⟨hV, hext5⟩
 have fr5 := hext5.fresh
 have le5 := hext5.c
 have kp5 : ∀ b, b < c3 + 2 → h5.get b = h4.get b := fun b hb => hext5.get hb (fun q => q)
 simp only at le5 fr5
 generalize hvs : vecsZ zss 3 (2 * kk + 4) = V at hV
 have hVlen : V.length ≤ 2 * kk + 4 := by rw [← hvs]; unfold vecsZ; rw [List.length_map, List.length_take]; omega
 have hVb : ∀ zs ∈ V, Bnd zs := fun zs hz => by
  rw [← hvs] at hz
  unfold vecsZ at hz
  obtain ⟨y, _, rfl⟩ := List.mem_map.1 hz
  exact Bnd_vecZ _ _
 obtain ⟨ov, rfl⟩ := hV.val
 have T5 : TwoC h5 c5 p mm vl vs' (c3 + 1) c3 mt 3 lo st [] [] := by
  obtain ⟨Ua, Ub, qa, qb, u1, u2, l1, l2⟩ := T4.ex
  exact ⟨Ua, Ub, qa.keep fr4 (fun b _ hb => kp5 b hb), qb.keep fr4 (fun b _ hb => kp5 b hb), u1, u2, by omega, by omega⟩
 refine Zgo ?_
 refine Wx.cutO (fun e s => ∃ (g : Nat → Value) (h' : T AObj) (c' : Nat) (rl' wl' : List Nat) (A : List Rc), e = fr g [(3, .slice qa qn qc), (4, .int .i64 (kk : Int)), (12, .pointer (some ⟨p, 0, none⟩)), (13, .pointer (some ⟨c3 + 1, 0, none⟩))] K6 ∧ s = ⟨h', c', rl', wl'⟩ ∧ c ≤ c' ∧ Fresh h' c' ∧ (∀ b, b < c → h'.get b = h.get b) ∧ TwoC h' c' p mm vl vs' (c3 + 1) c3 mt 3 lo st A A ∧ A.length ≤ 2 * kk + 4) Zrs ?_ ?_
 ·refine Wx.loopF (fun k1 e s => ∃ (g : Nat → Value) (i : Nat) (z : Int) (h' : T AObj) (c' : Nat) (rl' wl' : List Nat) (A : List Rc), e = fr g [(3, .slice qa qn qc), (4, .int .i64 (kk : Int)), (12, .pointer (some ⟨p, 0, none⟩)), (13, .pointer (some ⟨c3 + 1, 0, none⟩)), (14, .slice ov V.length V.length), (39, .int .i64 (V.length : Int)), (40, .int .i64 z)] K6 ∧ z = i ∧ s = ⟨h', c', rl', wl'⟩ ∧ c ≤ c' ∧ Fresh h' c' ∧ (∀ b, b < c → h'.get b = h.get b) ∧ VRow h' (c3 + 2) (.slice ov V.length V.length) 3 V ∧ TwoC h' c' p mm vl vs' (c3 + 1) c3 mt 3 lo st A A ∧ A.length ≤ i ∧ i ≤ V.length ∧ k1 = V.length - i) V.length K6 [(3, _), (4, _), (12, _), (13, _), (14, _), (39, _), (40, .int .i64 0)] ⟨_, 0, 0, _, _, _, _, [], rfl, rfl, rfl, by omega, fr5, fun b hb => (kp5 b (by omega)).trans (hkp4 b hb), hV, T5, Nat.le_refl _, by omega, rfl⟩ ?_
  rintro k1 e s ⟨g, i, z, h', c', rl', wl', A, rfl, hz, rfl, hcc, hf', hkp, hV', hT, hAl, hid, rfl⟩
  (refine Wx.sw (by simp only [K6, frN, frC, updN, updC, Nat.reduceEqDiff, ↓reduceIte]; rfl) ?_)
  by_cases hi : i < V.length
  rotate_left
  ·refine Zgo ?_
   exact CutQ.goF K6 [(3, _), (4, _), (12, _), (13, _)] ⟨_, _, _, _, _, A, rfl, rfl, hcc, hf', hkp, hT, by omega⟩
  obtain ⟨g1, bV, vals, bi, rfl, g2, g3, g4, g5, g6⟩ := hV'.at (List.getElem?_eq_getElem hi)
  have lV := g3.lt hf'
  refine Zgo ?_
  refine Zu (to_indexAddr (k := i) el22 rfl rfl hz hi) ?_
  refine Zu (to_load (pl_ rfl) rfl g3.cel (by omega) g4) ?_
  refine Zgo ?_
  refine Wseq.call rfl rfl (hT.putC Zfr (z + 1) (by omega) g6 g1 (hVb _ (List.getElem_mem hi)) (by omega) (by omega)) ?_
  rintro w h5 c5 r5 w5 ⟨hT5, ⟨es5, n5, hm5⟩, hext5⟩
  replace hT5 : TwoC h5 c5 _ _ _ _ _ _ _ _ _ _ _ _ := hT5
  have fr5 := hext5.fresh
  have le5 := hext5.c
  simp only at le5 fr5
  have hV5 : VRow h5 (c3 + 2) _ 3 V := hV'.keep hf' fun b hb ⟨cs, hcs⟩ _ => hext5.get hb (notMap hcs hm5)
  have hk5 : ∀ b, b < c → h5.get b = h.get b := fun b hb => (hext5.get (by omega) (by omega)).trans (hkp b hb)
  obtain ⟨g1', bV', vals', bi', e', g2', g3', g4', g5', g6'⟩ := hV5.at (List.getElem?_eq_getElem hi)
  cases e'
  have lV' := g3'.lt fr5
  refine Zgo ?_
  refine Zu (to_indexAddr (k := i) el22 rfl rfl hz hi) ?_
  refine Zu (to_load (pl_ rfl) rfl g3'.cel (by omega) g4') ?_
  refine Zgo ?_
  refine Wseq.call rfl rfl (hT5.putF Zfr (z + 1) (by omega) g6' g1' (hVb _ (List.getElem_mem hi)) (by omega) (by omega)) ?_
  rintro w h6 c6 r6 w6 ⟨hT6, ⟨es6, n6, hm6⟩, hext6⟩
  replace hT6 : TwoC h6 c6 _ _ _ _ _ _ _ _ _ _ _ _ := hT6
  have fr6 := hext6.fresh
  have le6 := hext6.c
  simp only at le6 fr6
  have hV6 : VRow h6 (c3 + 2) _ 3 V := hV5.keep fr5 fun b hb ⟨cs, hcs⟩ _ => hext6.get hb (notMap hcs hm6)
  have hk6 : ∀ b, b < c → h6.get b = h.get b := fun b hb => (hext6.get (by omega) (by omega)).trans (hk5 b hb)
  refine Zgo ?_
  refine RoundE.goF (V.length - (i + 1)) K6 [(3, _), (4, _), (12, _), (13, _), (14, _), (39, _), (40, .int .i64 (z + 1))] (by omega) ⟨_, i + 1, z + 1, _, _, _, _, _, rfl, by omega, rfl, by omega, fr6, hk6, hV6, hT6, ?_, by omega, rfl⟩
  have := putM_len (mbR (z + 1) V[i]) A
  omega
 ·rintro e s ⟨g, h5, c5, rl5, wl5, A, rfl, rfl, hcc5, hf5, hkp5, hT5, hAl⟩
  (refine Wx.sw (by simp only [K6, frN, frC, updN, updC, Nat.reduceEqDiff, ↓reduceIte]; rfl) ?_)
  obtain ⟨Ua, Ub, qa5, qb5, u1, u2, l1, l2⟩ := hT5.ex
  have hq5 := Row.keepF hq hf hkp5
  refine Zgo ?_
  refine Wseq.call rfl rfl (vec_spec stdQ Zfr hqn hq5 3 (by omega) (fun _ => True) (fun _ _ => trivial)) ?_
  rintro w h6 c6 r6 w6 ⟨⟨rfl, hq6⟩, hext6⟩
  have fr6 := hext6.fresh
  have le6 := hext6.c
  simp only at le6 fr6
  have lq6 := hq6.lt fr6
  have hqr : Row h6 (.slice (some ⟨c5, 0, none⟩) 3 3) 3 1 ((vecZ zq 3).map (Value.int .i32)) := .inr ⟨c5, 0, none, 3, _, rfl, hq6.cel, subN_all _ _ (by rw [List.length_map, vecZ_len])⟩
  have qa6 := qa5.keep hf5 (fun b _ hb => hext6.get hb (fun q => q))
  have qb6 := qb5.keep hf5 (fun b _ hb => hext6.get hb (fun q => q))
  have hkx : max (kk : Int) 0 = (kk : Int) := by omega
  refine Zgo ?_
  refine Wseq.call rfl rfl (csearch_spec Zfr qa6 hmm hqr (vecZ_len _ _) (Bnd_vecZ _ _) (by omega) _ hkx (by omega) (by omega) (fun _ => True) (fun _ _ => trivial) (fun _ _ => trivial)) ?_
  rw [hitsK_few qa6.rises hAl]
  rintro w7 h7 c7 r7 w7' ⟨⟨gA1, gA2⟩, hext7⟩
  have fr7 := hext7.fresh
  have le7 := hext7.c
  simp only at le7 fr7
  have qa7 := qa6.keep fr6 (fun b _ hb => hext7.get hb (fun q => q))
  have qb7 := qb6.keep fr6 (fun b _ hb => hext7.get hb (fun q => q))
  have hqr7 := Row.keepF hqr fr6 (fun b hb => hext7.get hb (fun q => q))
  refine Zgo ?_
  refine Wseq.call rfl rfl (fsearch_spec Zfr qb7 hmm hqr7 (vecZ_len _ _) (Bnd_vecZ _ _) (by omega) _ hkx (by omega) (by omega) (fun _ => True) (fun _ _ => trivial) (fun _ _ => trivial)) ?_
  rintro w8 h8 c8 r8 w8' ⟨⟨gB1, gB2⟩, hext8⟩
  have fr8 := hext8.fresh
  have le8 := hext8.c
  simp only at le8 fr8
  have qa8 := qa7.keep fr7 (fun b _ hb => hext8.get hb (fun q => q))
  have hqr8 := Row.keepF hqr7 fr7 (fun b hb => hext8.get hb (fun q => q))
  obtain ⟨oA, cA, rfl, _, rowA⟩ := gA1.row
  obtain ⟨oB, cB, rfl, _, rowB'⟩ := gB1.row
  have rowA8 := Row.keepF rowA fr7 (fun b hb => hext8.get hb (fun q => q))
  have hbl := bestOf_len kk (hitsM mt (vecZ zq 3) A)
  have hhl : (hitsM mt (vecZ zq 3) A).length = A.length := by unfold hitsM; rw [List.length_map]
  refine Zgo ?_
  refine Wseq.call rfl rfl (hits_spec stdQ Zfr rowA8 rowB' (by omega)) ?_
  rintro w9 h9 c9 r9 w9' ⟨rfl, e9, e9', hext9⟩
  simp only at e9 e9'
  subst e9 e9'
  refine Zgo ?_
  refine Wseq.call rfl rfl (csearch_spec Zfr qa8 hmm hqr8 (vecZ_len _ _) (Bnd_vecZ _ _) (by omega) 0 (kk := 0) rfl (by omega) (by omega) (fun _ => True) (fun _ _ => trivial) (fun _ _ => trivial)) ?_
  rintro w9 h9 c9 r9 w9' ⟨⟨gC1, gC2⟩, hext9⟩
  obtain ⟨oC, cC, rfl, _, _⟩ := gC1.row
  have e0 : (hitsK mt (vecZ zq 3) lo st 0 A).length = 0 := by
   have := bestOf_good 0 ((candK mt (vecZ zq 3) lo st 0 A).map (trueK mt (vecZ zq 3) A)) _ (Nat.le_refl _)
   rw [List.take_length] at this
   unfold hitsK; omega
  rw [e0]
  refine Zgo ?_
  exact ⟨.inr rfl, Wres.one rfl rfl⟩
end Go.Ab.Seat
end
section
/- Data that come in, as the abstract machine is shown them; a run that answers true. -/
namespace Go.Ab.Seat
open Go.Extern Go.Proofs Go.RowKit
theorem s0_glob : Glob s0.h := ⟨by unfold Has; rw [s0_get, if_neg (by omega), if_pos rfl], by unfold Has; rw [s0_get, if_pos rfl]⟩
end Go.Ab.Seat
namespace Go.Proofs.YtofikbfljjjgeaaGreatDoor
open Go.ChangeShapes Go.WideShapes Go.RowKit Go.Ab Go.Ab.Seat
theorem arr_len {H : Type} {enc : TypeId × Value → H} {P : Program} {w : World} {base : Nat} {sp : Nat → Bool} {held : Bool} {fuel : Nat} {t e n : Nat} (hu : P.underlying t = some (.array n e))
  {cs : List Value} {x : DataW H × List MemPlace} (h : DataW.trod enc P w base sp held fuel t cs = some x) : cs.length = P.cellsOf t := by
 cases fuel with
 | zero => simp [DataW.trod] at h
 | succ k =>
  rw [DataW.trod_step] at h
  unfold DataW.trodStep at h
  simp only [hu] at h
  split at h
  ·assumption
  ·cases h
theorem cTab : Tryz.prog.cellsOf 193 = 32 := by kernel_rfl
structure _root_.Go.Ab.Seat.LaidX (w : World) : Prop where
 laid : Laid w
 x0 : ∃ c t fr, w.heap[0]? = some (.cells c t fr) ∧ c.toList = tab
 x1 : ∃ c t fr, w.heap[1]? = some (.cells c t fr) ∧ c.toList = [rt tErr]
theorem laidx_of {W : World} (h : laidMetH Tryz.prog laidVars W) (hs : W.ShapedOpen Tryz.prog) : LaidX W := by
 have h' : laidMet Tryz.prog [("math/bits.deBruijn32tab", Rows.laid_math_bits_deBruijn32tab)] W ∧ handlesMet Tryz.prog [("errors.errorType", Rows.laid_errors_errorType)] W := h
 have hl := laid_of h hs
 refine ⟨hl, ?_, ?_⟩
 ·obtain ⟨ps, ⟨g, t, cs, fuel, p, q, hg, ht, hvar, hd, _, _⟩, _⟩ := h'.1
  obtain rfl := Option.some.inj (gTab.symm.trans hg)
  obtain rfl := Option.some.inj (gType.symm.trans ht)
  have h1 := arr_len uTab hd
  rw [cTab] at h1
  obtain ⟨c, t, fr, hH, _, hc⟩ := hl.var0
  refine ⟨c, t, fr, hH, ?_⟩
  have hv := hvar
  unfold World.var? at hv
  rw [hg] at hv
  simp only [Option.bind_some] at hv
  rw [hH] at hv
  cases hv
  have ht : tab.length = 32 := by rfl
  refine List.ext_getElem? fun i => ?_
  by_cases hi : i < 32
  ·have : tab[i]? = some tab[i] := List.getElem?_eq_getElem (by omega)
   rw [this, Array.getElem?_toList]
   exact hc i _ this
  ·rw [List.getElem?_eq_none (by omega), List.getElem?_eq_none (by omega)]
 ·obtain ⟨name, u, ty, e1, e2, e3, e4, e5⟩ := h'.2 _ (List.mem_singleton.2 rfl)
  have en : name = [101, 114, 114, 111, 114] := (Option.some.inj e1).symm
  subst en
  obtain rfl := Option.some.inj (rtNo.symm.trans e2)
  have hm : ty ∈ (List.range 391).filter fun t => Tryz.prog.rowNamed t [101, 114, 114, 111, 114] := List.mem_filter.2 ⟨List.mem_range.2 (by rw [← tSize]; exact e3), e4⟩
  rw [oneRow] at hm
  obtain rfl := List.mem_singleton.1 hm
  have hv := e5
  unfold World.var? at hv
  rw [gEt] at hv
  simp only [Option.bind_some] at hv
  split at hv
  ·rename_i c t fr hH
   obtain rfl := Option.some.inj hv
   refine ⟨_, t, fr, hH, ?_⟩
   have hh : typeHandle Tryz.prog tErr = hd tErr := by unfold typeHandle; rw [gSize]; rfl
   rw [hh]
   rfl
  ·cases hv
theorem _root_.Go.Ab.Seat.LaidX.low {w : World} (h : LaidX w) : LowOk s0.h w.heap := by
 have hr := h.laid.hr
 have hle : (ι0 w).le (ιW w.heap) := by
  intro b L hb
  unfold ι0 at hb
  split at hb
  ·cases hb
   have := h.laid.size
   unfold ιW
   exact if_pos (by omega)
  ·cases hb
 refine ⟨?_, ?_, ?_⟩
 ·intro b o hb
  rw [s0_get] at hb
  split at hb
  ·cases hb; rfl
  ·split at hb
   ·cases hb; rfl
   ·cases hb
 ·intro b o hb
  obtain ⟨L, h1, h2⟩ := hr.obj b o hb
  exact ⟨L, hle _ _ h1, h2.mono hle⟩
 ·intro b o hb c t fr hH i v hv hp
  rw [s0_get] at hb
  split at hb
  ·rename_i h0
   subst h0
   cases hb
   obtain ⟨c', t', fr', hH', hc'⟩ := h.x1
   rw [hH] at hH'
   cases hH'
   rw [← Array.getElem?_toList, hc'] at hv
   cases i with
   | zero => cases hv; cases hp
   | succ i => simp at hv
  ·split at hb
   ·rename_i h0
    subst h0
    cases hb
    obtain ⟨c', t', fr', hH', hc'⟩ := h.x0
    rw [hH] at hH'
    cases hH'
    rw [← Array.getElem?_toList, hc'] at hv
    refine ⟨tab, rfl, ?_⟩
    have hm := List.mem_of_getElem? hv
    unfold tab at hm
    obtain ⟨n, _, rfl⟩ := List.mem_map.1 hm
    exact hv
   ·cases hb
theorem _root_.Go.Ab.Seat.LaidX.glob {w : World} (h : LaidX w) : Glob (hW w.heap s0.h) := ⟨h.low.has s0_glob.1, h.low.has s0_glob.2⟩
theorem data_true {f : Nat} {args args' : List Value} {w : World} (hsm : smQ f = none) (hex : ex f = none) (hl : LaidX w) (ha : VRl (ιW w.heap) args args')
  (h : ∃ v s', FnTo CQ eg f args ⟨hW w.heap s0.h, w.heap.size, [], []⟩ v s' ∧ v = .bool true) :
  Calls Tryz.prog f args'.toArray w fun e w' => e = .returned (.bool true) ∧ Below w.heap.size w w' := by
 obtain ⟨v, s', h1, rfl⟩ := h
 obtain ⟨n, h2⟩ := FnTo.callB hsm hex h1
 refine (calls_of_abs wholeQ n f h2 ha (hl.low.hr (by have := hl.laid.size; omega)) (fun b h1 _ => ?_) fun v' w' ι' hv hp => ?_).2
 ·have : w.heap.size ≤ b := h1
  exact if_neg (by omega)
 ·cases hv
  exact ⟨rfl, hp.os, hp.tape, hp.output, hp.size, fun k hk => hp.frame k hk hl.low.owned⟩
#print axioms data_true
end Go.Proofs.YtofikbfljjjgeaaGreatDoor
end
section
/- Rows of ints that come in. -/
namespace Go.Proofs.YtofikbfljjjgeaaGreatDoor
open Go.ChangeShapes Go.WideShapes Go.RowKit Go.Ab Go.Ab.Seat
theorem cat_ints {q : IntKind} {g : Nat → List Value} : ∀ {n : Nat}, (∀ i, i < n → ∃ z : Int, g i = [.int q z] ∧ (Lit.int q z).wf = true) → ∃ zs : List Int, zs.length = n ∧ cat g n = zs.map (Value.int q) ∧ ∀ z ∈ zs, (Lit.int q z).wf = true
 | 0, _ => ⟨[], rfl, rfl, fun z hz => by cases hz⟩
 | n + 1, h => by
  obtain ⟨zs, h1, h2, h3⟩ := cat_ints (n := n) fun i hi => h i (by omega)
  obtain ⟨z, hz, hw⟩ := h n (by omega)
  refine ⟨zs ++ [z], by simp [h1], by rw [cat_succ, h2, hz]; simp, fun y hy => ?_⟩
  rcases List.mem_append.1 hy with hy | hy
  ·exact h3 y hy
  ·obtain rfl := List.mem_singleton.1 hy
   exact hw
theorem ints_of {H : Type} {enc : TypeId × Value → H} {W : World} {fuel : Nat} (hl : LaidX W) {t e : Nat} {q : IntKind} (ht : Tryz.prog.underlying t = some (.slice e)) (he : Tryz.prog.underlying e = some (.int q)) (hc : Tryz.prog.cellsOf e = 1) {v : Value} {x : DataW H × List MemPlace} (h : DataW.trod enc Tryz.prog W 0 (fun _ => true) true fuel t [v] = some x) :
  ∃ oa n cap, ∃ zs : List Int, absV W.heap.size v = .slice oa n cap ∧ zs.length = n ∧ n ≤ maxLen ∧ Row (hW W.heap s0.h) (.slice oa n cap) n 1 (zs.map (Value.int q)) ∧ ∀ z ∈ zs, (Lit.int q z).wf = true := by
 obtain ⟨oa, oa', n, cap, f, rfl, ha, hn, hm, hf, hr⟩ := slice_row hl.low ht hc (by decide) (fun m cs y hy x hx => by
  obtain ⟨z, rfl, _⟩ := DataW.trod_int he hy
  obtain rfl := List.mem_singleton.1 hx
  rfl) h
 rw [ha] at hr ⊢
 obtain ⟨zs, h1, h2, h3⟩ := cat_ints (q := q) (g := fun i => (f i).map (absV W.heap.size)) (n := n) fun i hi => by
  obtain ⟨_, m, y, hy⟩ := hf i hi
  obtain ⟨z, hz, _, hw⟩ := DataW.trod_int he hy
  exact ⟨z, by rw [hz]; rfl, hw⟩
 rw [h2] at hr
 exact ⟨_, _, _, zs, rfl, h1, Nat.le_trans hn hm, hr, h3⟩
end Go.Proofs.YtofikbfljjjgeaaGreatDoor
end
section
/- The data of a call: a vector as it is shown. -/
namespace Go.Proofs.YtofikbfljjjgeaaGreatDoor
open Go.ChangeShapes Go.WideShapes Go.RowKit Go.Ab Go.Ab.Seat
theorem c21 : Tryz.prog.cellsOf 21 = 1 := by kernel_rfl
theorem c24 : Tryz.prog.cellsOf 25 = 1 := by kernel_rfl
theorem c3 : Tryz.prog.cellsOf 3 = 1 := by kernel_rfl
section
variable {H : Type} {enc : TypeId × Value → H} {W : World} {fuel : Nat}
theorem vec_of (hl : LaidX W) {v : Value} {x : DataW H × List MemPlace} (h : DataW.trod enc Tryz.prog W 0 (fun _ => true) true fuel 25 [v] = some x) :
  plainV v = true ∧ ∃ va nv kv, ∃ zs : List Int, absV W.heap.size v = .slice va nv kv ∧ zs.length = nv ∧ nv ≤ maxLen ∧ Row (hW W.heap s0.h) (.slice va nv kv) nv 1 (zs.map (Value.int .i32)) := by
 obtain ⟨oa, n, cap, zs, ha, h1, h3, h2, _⟩ := ints_of hl Tryz.underlying25 Tryz.underlying21 c21 h
 have hp : ∃ ob m c, v = .slice ob m c := by
  rcases DataW.trod_slice Tryz.underlying25 h with ⟨e, _⟩ | ⟨a, len, c, _, _, _, _, e, _⟩
  ·exact ⟨none, 0, 0, by simpa using e⟩
  ·exact ⟨some a, len, c, by simpa using e⟩
 obtain ⟨ob, m, c, rfl⟩ := hp
 exact ⟨rfl, oa, n, cap, zs, ha, h1, h3, h2⟩
end
end Go.Proofs.YtofikbfljjjgeaaGreatDoor
end
section
/- The data of a call: vectors of vectors, as they are shown. -/
namespace Go.Proofs.YtofikbfljjjgeaaGreatDoor
open Go.ChangeShapes Go.WideShapes Go.RowKit Go.Ab Go.Ab.Seat
theorem choose_list {α : Type} {P : Nat → α → Prop} : ∀ {n : Nat}, (∀ i, i < n → ∃ x, P i x) → ∃ l : List α, l.length = n ∧ ∀ (i : Nat) (x : α), l[i]? = some x → P i x
 | 0, _ => ⟨[], rfl, fun i x h => by cases h⟩
 | n + 1, h => by
  obtain ⟨l, h1, h2⟩ := choose_list (P := P) (n := n) fun i hi => h i (by omega)
  obtain ⟨x, hx⟩ := h n (by omega)
  refine ⟨l ++ [x], by rw [List.length_append, h1]; rfl, fun i y hy => ?_⟩
  rcases Nat.lt_or_ge i n with q | q
  ·rw [List.getElem?_append_left (by omega)] at hy
   exact h2 i y hy
  ·rw [List.getElem?_append_right (by omega), h1] at hy
   rcases Nat.eq_zero_or_pos (i - n) with e | e
   ·rw [e] at hy
    simp only [List.getElem?_cons_zero, Option.some.injEq] at hy
    subst hy
    rw [show i = n by omega]; exact hx
   ·rw [List.getElem?_eq_none (by simp; omega)] at hy
    cases hy
section
variable {H : Type} {enc : TypeId × Value → H} {W : World} {fuel : Nat}
theorem vecs_of (hl : LaidX W) {v : Value} {x : DataW H × List MemPlace} (h : DataW.trod enc Tryz.prog W 0 (fun _ => true) true fuel 22 [v] = some x) :
  ∃ zss, VecsIn (hW W.heap s0.h) (absV W.heap.size v) zss ∧ zss.length ≤ 9223372036854775807 := by
 obtain ⟨oa, oa', n, cap, f, rfl, ha, hn, hm, hf, hr⟩ := slice_row hl.low Tryz.underlying22 c24 (by decide) (fun m cs y hy x hx => by
  have hlen : cs.length = 1 := by
   rcases DataW.trod_slice Tryz.underlying25 hy with ⟨e, _⟩ | ⟨a, len, c, _, _, _, _, e, _⟩
   ·rw [e]; rfl
   ·rw [e]; rfl
  obtain ⟨w, rfl⟩ : ∃ w, cs = [w] := by
   match cs, hlen with
   | [w], _ => exact ⟨w, rfl⟩
  obtain rfl := List.mem_singleton.1 hx
  exact (vec_of hl hy).1) h
 rw [ha] at hr ⊢
 have one : ∀ i, i < n → ∃ zs : List Int, ∃ b o sp cs a k, oa' = some ⟨b, o, sp⟩ ∧ Cel (hW W.heap s0.h) b cs ∧ nth cs (o + i * 1) = some (.slice a zs.length k) ∧ Row (hW W.heap s0.h) (.slice a zs.length k) zs.length 1 (zs.map (Value.int .i32)) := by
  intro i hi
  obtain ⟨hl1, m, y, hy⟩ := hf i hi
  obtain ⟨w, hw⟩ : ∃ w, f i = [w] := by
   match hfi : f i, hl1 with
   | [w], _ => exact ⟨w, rfl⟩
  rw [hw] at hy
  obtain ⟨_, va, nv, kv, zs, e1, e2, _, e3⟩ := vec_of hl hy
  subst e2
  obtain ⟨b, o, sp, cs, e4, e5, e6⟩ := rowCell hr (j := i * 1) (by omega) (x := .slice va zs.length kv) (by
   have hlen : ∀ i, i < n → ((f i).map (absV W.heap.size)).length = 1 := fun i hi => by rw [List.length_map]; exact (hf i hi).1
   have := cat_get (g := fun i => (f i).map (absV W.heap.size)) (k := 1) (i := i) (r := 0) (by decide) hlen hi
   rw [Nat.add_zero] at this
   rw [this, hw]
   show some (absV W.heap.size w) = _
   rw [e1])
  exact ⟨zs, b, o, sp, cs, va, kv, e4, e5, e6, e3⟩
 obtain ⟨zss, h1, h2⟩ := choose_list one
 subst h1
 refine ⟨zss, ⟨oa', cap, rfl, h2⟩, ?_⟩
 have : maxLen ≤ 9223372036854775807 := by decide
 omega
end
end Go.Proofs.YtofikbfljjjgeaaGreatDoor
end
section
/- The preamble's patterns for five parameters and for six. -/
namespace Go.Ab.Seat
open Go.ChangeShapes Go.RowKit
variable {H : Type} {enc : TypeId × Value → H} {P : Program} {w : World} {base : Nat} {spare : Nat → Bool} {held : Bool}
theorem trodAll_five {t t1 t2 t3 t4 : TypeId} {args : Array Value} {ds : List (DataW H)} {ps : List MemPlace} (h : DataW.TrodAll enc P w base spare held [t, t1, t2, t3, t4] args.toList ds ps) :
  ∃ v v1 v2 v3 v4 d d1 d2 d3 d4 p p1 p2 p3 p4, args = #[v, v1, v2, v3, v4] ∧ ds = [d, d1, d2, d3, d4] ∧ ps = p ++ p1 ++ p2 ++ p3 ++ p4 ∧ DataW.Trod enc P w base spare held t v d p ∧ DataW.Trod enc P w base spare held t1 v1 d1 p1 ∧ DataW.Trod enc P w base spare held t2 v2 d2 p2 ∧ DataW.Trod enc P w base spare held t3 v3 d3 p3 ∧ DataW.Trod enc P w base spare held t4 v4 d4 p4 := by
 obtain ⟨v, vs, d, ds', p, q, hargs, rfl, rfl, hd, g⟩ := trodAll_cons h
 obtain ⟨v1, vs1, d1, ds1, p1, q1, rfl, rfl, rfl, hd1, g1⟩ := trodAll_cons g
 obtain ⟨v2, vs2, d2, ds2, p2, q2, rfl, rfl, rfl, hd2, g2⟩ := trodAll_cons g1
 obtain ⟨v3, vs3, d3, ds3, p3, q3, rfl, rfl, rfl, hd3, g3⟩ := trodAll_cons g2
 obtain ⟨v4, vs4, d4, ds4, p4, q4, rfl, rfl, rfl, hd4, g4⟩ := trodAll_cons g3
 obtain ⟨rfl, rfl, rfl⟩ := trodAll_nil g4
 exact ⟨v, v1, v2, v3, v4, d, d1, d2, d3, d4, p, p1, p2, p3, p4, by cases args; simp_all, rfl, by simp, hd, hd1, hd2, hd3, hd4⟩
end Go.Ab.Seat
end
section
/- CodedFew: the walk over the data of a call. -/
namespace Go.Proofs.YtofikbfljjjgeaaGreatDoor
open Go.ChangeShapes Go.WideShapes Go.RowKit Go.Ab Go.Ab.Seat
theorem codedFew_walk {H : Type} {enc : TypeId × Value → H} {W : World} (hl : LaidX W) {m k : Int} {v0 v q : Value} {m0 m1 m2 : Nat} {x0 x x' : DataW H × List MemPlace} (h0 : DataW.trod enc Tryz.prog W 0 (fun _ => true) true m0 22 [v0] = some x0) (hv : DataW.trod enc Tryz.prog W 0 (fun _ => true) true m1 22 [v] = some x) (hq : DataW.trod enc Tryz.prog W 0 (fun _ => true) true m2 25 [q] = some x') :
  Calls Tryz.prog 6 #[.int .i64 m, v0, v, q, .int .i64 k] W fun e w' => e = .returned (.bool true) ∧ Below W.heap.size W w' := by
 obtain ⟨zs0, a1, a2⟩ := vecs_of hl h0
 obtain ⟨zss, h1, h2⟩ := vecs_of hl hv
 obtain ⟨_, va, nv, kv, zs, e1, e2, _, e3⟩ := vec_of hl hq
 have r0 := absV_VR W.heap v0
 have r1 := absV_VR W.heap v
 have r2 := absV_VR W.heap q
 rw [e1] at r2
 refine data_true (args := [.int .i64 m, absV W.heap.size v0, absV W.heap.size v, .slice va nv kv, .int .i64 k]) (args' := [.int .i64 m, v0, v, q, .int .i64 k]) (stdQ 6 rfl) (ex6 (sm := smQ)) hl (VRl.cons (.int _ _) (VRl.cons r0 (VRl.cons r1 (VRl.cons r2 (VRl.cons (.int _ _) (VRl.nil _)))))) ?_
 exact codedFew_run (hW_fresh _ _) hl.glob m k a1 a2 h1 h2 e3 e2
#print axioms codedFew_walk
end Go.Proofs.YtofikbfljjjgeaaGreatDoor
end
