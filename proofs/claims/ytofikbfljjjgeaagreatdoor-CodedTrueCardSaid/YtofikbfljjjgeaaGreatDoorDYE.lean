/- CodedTrue: the run answers true (the abstract machine). -/
import Derived.Test.YtofikbfljjjgeaaGreatDoorDP4
set_option linter.unusedVariables false
set_option linter.unusedSimpArgs false
namespace Go.Ab.Seat
open Go.Extern Go.Proofs
set_option maxRecDepth 4000
theorem CodM.putO {h : T AObj} {c : Nat} {rl wl : List Nat} (hf : Fresh h c) {p m dim : Nat} {vl vs : Value} {mt : Int} {lo st : List Int} {A : List Rc} {U : Nat → Prop} (q : CodM h p m vl vs mt dim lo st A U) (id : Int) (hid : -9223372036854775808 ≤ id ∧ id ≤ 9223372036854775807) {bi : Nat} {zs : List Int} (hv : Has h bi (.cells (zs.map (Value.int .i32)))) (hz : zs.length = dim) (hb : Bnd zs) (hd : 1 ≤ dim) (hd' : dim ≤ 8) :
  ∃ r s', FnTo (Cs smQ) eg 30 [.pointer (some ⟨p, 0, none⟩), .int .i64 id, .slice (some ⟨bi, 0, none⟩) dim dim] ⟨h, c, rl, wl⟩ r s' ∧ (CodM s'.h p m vl vs mt dim lo st (putM (mbR id zs) A) (fun b => U b ∨ c ≤ b ∧ b < s'.c) ∧ ∃ es n, Has h m (.map es n)) ∧ Ext ⟨h, c, rl, wl⟩ s' (fun _ => True) (fun b => b = m) := by
 have hma := q.hm
 obtain ⟨es, n, hm⟩ := hma
 have hrow : Row h (.slice (some ⟨bi, 0, none⟩) dim dim) dim 1 (zs.map (Value.int .i32)) := .inr ⟨bi, 0, none, dim, _, rfl, hv.cel, subN_all _ _ (by rw [List.length_map]; omega)⟩
 obtain ⟨r, s', e1, e2, e3⟩ := cput_spec (rl := rl) (wl := wl) hf q id hid hrow hz hb hd hd' (fun b => b = bi) (fun b e => by cases e; rfl) (fun e => notMap hv hm e.symm)
 exact ⟨r, s', e1, ⟨e2, es, n, hm⟩, e3.mono (fun _ _ _ => trivial) fun _ _ q => q⟩
section
variable {C : Ctx} {eg : TypeId → Bool} {e : Env} {s : St} {d : Option Nat} {ty : TypeId} {ps : String} {af : Array Edge} {g : Option (Nat × Bool)}
theorem to_add8 {t t2 : TypeId} {x y : Operand} {a b : Int} (hx : evalA e x = .int .u8 a) (hy : evalA e y = .int .u8 b) : OpTo C eg e ⟨d, .binOp .add t x y t2, ty, ps, af, g⟩ s (.int .u8 (wrapA .u8 (a + b))) s :=
 to_bin hx hy (opBin_int (by decide) (by decide))
end
theorem putM_new (r : Rc) : ∀ l : List Rc, getM r.id l = none → (putM r l).length = l.length + 1
 | [], _ => rfl
 | x :: l, h => by
  have h0 := getM_none.1 h x (List.mem_cons_self ..)
  have ih := putM_new r l (getM_none.2 fun y hy => getM_none.1 h y (List.mem_cons_of_mem _ hy))
  unfold putM
  split
  ·rfl
  ·split
   ·omega
   ·rw [List.length_cons, ih, List.length_cons]
def K10 : List Nat := [0, 1, 4, 5, 6, 7, 8, 9, 10, 11, 12, 13, 14, 15, 16, 19, 26, 27, 28, 42, 43, 44, 78, 90, 98, 99, 100, 134]
set_option maxHeartbeats 16000000 in
theorem codedTrue_run {h : T AObj} {c : Nat} (hf : Fresh h c) (hg : Glob h) {v0 v : Value} {zs0 zss : List (List Int)} (hv0 : VecsIn h v0 zs0) (hvn0 : zs0.length ≤ 9223372036854775807) (hv : VecsIn h v zss) (hvn : zss.length ≤ 9223372036854775807) :
  ∃ r s', FnTo (Cs smQ) eg 10 [v0, v] ⟨h, c, [], []⟩ r s' ∧ r = .bool true := by
 obtain ⟨oa0, cap0, rfl, _⟩ := _root_.id hv0
 obtain ⟨oa1, cap1, rfl, _⟩ := _root_.id hv
 refine Fn.go (stdQ 10 rfl) ex10 fn10 km10 rfl rfl ?_
 refine Zev ?_
 refine Zgo ?_
 refine Wseq.call rfl rfl (begunQ Zfr hg) ?_
 rintro v1 h1 c1 r1 w1 ⟨rfl, e1⟩
 cases e1
 refine Zgo ?_
 refine Wseq.call rfl rfl (vecs_spec stdQ (n := 10) (dim := 2) Zfr hv0 (by omega) (by omega) hvn0) ?_
 rintro lv0 h1 c1 r1 w1 ⟨hV0, hext1⟩
 have fr1 := hext1.fresh
 have le1 := hext1.c
 have kp1 : ∀ b, b < c → h1.get b = h.get b := fun b hb => hext1.get hb (fun q => q)
 simp only at le1 fr1
 generalize hvs0 : vecsZ zs0 2 10 = S at hV0
 have hSlen : S.length ≤ 10 := by rw [← hvs0]; unfold vecsZ; rw [List.length_map, List.length_take]; omega
 have hSb : ∀ zs ∈ S, Bnd zs := fun zs hz => by
  rw [← hvs0] at hz
  unfold vecsZ at hz
  obtain ⟨y, _, rfl⟩ := List.mem_map.1 hz
  exact Bnd_vecZ _ _
 have hM := hV0.mrow hSb
 refine Zgo ?_
 refine Wseq.call rfl rfl (cnew_spec Zfr (mt := 1) (.inl rfl) hM (by omega) (by omega) (by omega) (fun _ => True) (fun _ _ => trivial)) ?_
 rintro v3 h3 c3 r3 w3 ⟨⟨p, mm, vl, vs', rfl, hC⟩, hext3⟩
 have fr3 := hext3.fresh
 have le3 := hext3.c
 have kp3 : ∀ b, b < c1 → h3.get b = h1.get b := fun b hb => hext3.get hb (fun q => q)
 simp only at le3 fr3 hC
 generalize lowL 2 S = lo at hC
 generalize stepL 2 S = st at hC
 have hkp3 : ∀ b, b < c → h3.get b = h.get b := fun b hb => (kp3 b (by omega)).trans (kp1 b hb)
 refine Zgo ?_
 refine Wseq.call rfl rfl (vecs_spec stdQ (n := 20) (dim := 2) Zfr (hv.keep hf hkp3) (by omega) (by omega) hvn) ?_
 rintro lv h5 c5 r5 w5 ⟨hV, hext5⟩
 have fr5 := hext5.fresh
 have le5 := hext5.c
 have kp5 : ∀ b, b < c3 → h5.get b = h3.get b := fun b hb => hext5.get hb (fun q => q)
 simp only at le5 fr5
 generalize hvs : vecsZ zss 2 20 = V at hV
 have hVlen : V.length ≤ 20 := by rw [← hvs]; unfold vecsZ; rw [List.length_map, List.length_take]; omega
 have hVb : ∀ zs ∈ V, Bnd zs := fun zs hz => by
  rw [← hvs] at hz
  unfold vecsZ at hz
  obtain ⟨y, _, rfl⟩ := List.mem_map.1 hz
  exact Bnd_vecZ _ _
 obtain ⟨ov, rfl⟩ := hV.val
 have hC5 := hC.keep fr3 (fun b _ hb => kp5 b hb)
 refine Zgo ?_
 refine Wx.cutO (fun e s => ∃ (g : Nat → Value) (h' : T AObj) (c' : Nat) (rl' wl' : List Nat) (A : List Rc) (U : Nat → Prop), e = fr g [(6, .pointer (some ⟨p, 0, none⟩)), (7, .slice ov V.length V.length)] K10 ∧ s = ⟨h', c', rl', wl'⟩ ∧ Fresh h' c' ∧ VRow h' c3 (.slice ov V.length V.length) 2 V ∧ CodM h' p mm vl vs' 1 2 lo st A U ∧ (∀ b, U b → b < c') ∧ (∀ x : Int, getM x A = if 1 ≤ x ∧ x ≤ (V.length : Int) then some (mbR x (V.getD (x - 1).toNat [])) else none) ∧ A.length = V.length) Zrs ?_ ?_
 ·refine Wx.loopF (fun k1 e s => ∃ (g : Nat → Value) (i : Nat) (z : Int) (h' : T AObj) (c' : Nat) (rl' wl' : List Nat) (A : List Rc) (U : Nat → Prop), e = fr g [(6, .pointer (some ⟨p, 0, none⟩)), (7, .slice ov V.length V.length), (26, .int .i64 (V.length : Int)), (27, .int .i64 z)] K10 ∧ z = i ∧ s = ⟨h', c', rl', wl'⟩ ∧ Fresh h' c' ∧ VRow h' c3 (.slice ov V.length V.length) 2 V ∧ CodM h' p mm vl vs' 1 2 lo st A U ∧ (∀ b, U b → b < c') ∧ (∀ x : Int, getM x A = if 1 ≤ x ∧ x ≤ (i : Int) then some (mbR x (V.getD (x - 1).toNat [])) else none) ∧ A.length = i ∧ i ≤ V.length ∧ k1 = V.length - i) V.length K10 [(6, _), (7, _), (26, _), (27, .int .i64 0)] ⟨_, 0, 0, _, _, _, _, [], _, rfl, rfl, rfl, fr5, hV, hC5, fun b hb => by have := hb.2; omega, fun x => by rw [if_neg (by omega)]; rfl, rfl, by omega, rfl⟩ ?_
  rintro k1 e s ⟨g, i, z, h', c', rl', wl', A, U, rfl, hz, rfl, hf', hV', hC', hU, hA, hAi, hid, rfl⟩
  (refine Wx.sw (by simp only [K10, frN, frC, updN, updC, Nat.reduceEqDiff, ↓reduceIte]; rfl) ?_)
  by_cases hi : i < V.length
  rotate_left
  ·refine Zgo ?_
   obtain rfl : i = V.length := by omega
   exact CutQ.goF K10 [(6, _), (7, _)] ⟨_, _, _, _, _, A, U, rfl, rfl, hf', hV', hC', hU, hA, hAi⟩
  obtain ⟨g1, bV, vals, bi, rfl, g2, g3, g4, g5, g6⟩ := hV'.at (List.getElem?_eq_getElem hi)
  have lV := g3.lt hf'
  refine Zgo ?_
  refine Zu (to_indexAddr (k := i) el22 rfl rfl hz hi) ?_
  refine Zu (to_load (pl_ rfl) rfl g3.cel (by omega) g4) ?_
  refine Zgo ?_
  refine Wseq.call rfl rfl (hC'.putO Zfr (z + 1) (by omega) g6 g1 (hVb _ (List.getElem_mem hi)) (by omega) (by omega)) ?_
  rintro w h6 c6 r6 w6 ⟨⟨hC6, ⟨es6, n6, hm6⟩⟩, hext6⟩
  have fr6 := hext6.fresh
  have le6 := hext6.c
  simp only at le6 fr6 hC6
  have hV6 : VRow h6 c3 _ 2 V := hV'.keep hf' fun b hb ⟨cs, hcs⟩ _ => hext6.get hb (notMap hcs hm6)
  refine Zgo ?_
  refine RoundE.goF (V.length - (i + 1)) K10 [(6, _), (7, _), (26, _), (27, .int .i64 (z + 1))] (by omega) ⟨_, i + 1, z + 1, _, _, _, _, _, _, rfl, by omega, rfl, fr6, hV6, hC6, fun b hb => hb.elim (fun q => by have := hU b q; omega) (fun q => q.2), fun x => ?_, by rw [putM_new _ _ (by show getM (z + 1) A = none; rw [hA, if_neg (by omega)]), hAi], by omega, rfl⟩
  rw [getM_put, hA x]
  by_cases hx : z + 1 = x
  ·rw [if_pos hx, if_pos (by omega)]
   subst hx
   rw [show (z + 1 - 1).toNat = i by omega, List.getD_eq_getElem?_getD, List.getElem?_eq_getElem hi]
   rfl
  ·rw [if_neg hx]
   by_cases hx2 : 1 ≤ x ∧ x ≤ (i : Int)
   ·rw [if_pos hx2, if_pos (by omega)]
   ·rw [if_neg hx2, if_neg (by omega)]
 ·rintro e s ⟨g, h5, c5, rl5, wl5, A, U, rfl, rfl, fr5, hV5, hC5, hU5, hA, hAl⟩
  (refine Wx.sw (by simp only [K10, frN, frC, updN, updC, Nat.reduceEqDiff, ↓reduceIte]; rfl) ?_)
  refine Zgo ?_
  refine Wseq.call rfl rfl (cbook_spec Zfr hC5 (by omega) (by omega)) ?_
  rintro bk h6 c6 r6 w6 ⟨hB6, hext6⟩
  have fr6 := hext6.fresh
  have le6 := hext6.c
  simp only at le6 fr6 hB6
  have kp6 : ∀ b, b < c5 → h6.get b = h5.get b := fun b hb => hext6.get hb (fun q => q)
  obtain ⟨⟨al, kl, at_, ks, rfl, _⟩, _⟩ := _root_.id hB6
  refine Zgo ?_
  have hV7 : VRow ((h6.set c6 (some (.cells [.slice none 0 0, .slice none 0 0]))).set c6 (some (.cells [.slice al 2 kl, .slice at_ 2 ks]))) c3 (.slice ov V.length V.length) 2 V := hV5.keep fr5 fun b hb _ _ => ((get_other (by omega)).trans (get_other (by omega))).trans (kp6 b hb)
  have hC7 : CodM ((h6.set c6 (some (.cells [.slice none 0 0, .slice none 0 0]))).set c6 (some (.cells [.slice al 2 kl, .slice at_ 2 ks]))) p mm vl vs' 1 2 lo st A U := hC5.keep fr5 fun b hb hc => ((get_other (by omega)).trans (get_other (by omega))).trans (kp6 b hc)
  have hB7 : BkAt ((h6.set c6 (some (.cells [.slice none 0 0, .slice none 0 0]))).set c6 (some (.cells [.slice al 2 kl, .slice at_ 2 ks]))) (.agg ⟨[.slice al 2 kl, .slice at_ 2 ks]⟩) 2 lo st (fun b => b < c6) := hB6.keep fr6 (fun b hb => hb.2) fun b hb hc => (get_other (by omega)).trans (get_other (by omega))
  have fr7 : Fresh ((h6.set c6 (some (.cells [.slice none 0 0, .slice none 0 0]))).set c6 (some (.cells [.slice al 2 kl, .slice at_ 2 ks]))) (c6 + 1) := Zfr
  generalize hh7 : (h6.set c6 (some (.cells [.slice none 0 0, .slice none 0 0]))).set c6 (some (.cells [.slice al 2 kl, .slice at_ 2 ks])) = h7 at hV7 hC7 hB7 fr7 ⊢
  have hb7 : Has h7 c6 (.cells [.slice al 2 kl, .slice at_ 2 ks]) := by rw [← hh7]; exact Has.same
  clear hh7
  refine Wx.cutO (fun e s => ∃ (g : Nat → Value) (h' : T AObj) (c' : Nat) (rl' wl' : List Nat), e = fr g [(6, .pointer (some ⟨p, 0, none⟩)), (7, .slice ov V.length V.length), (9, .pointer (some ⟨c6, 0, none⟩))] K10 ∧ s = ⟨h', c', rl', wl'⟩ ∧ c6 + 1 ≤ c' ∧ Fresh h' c' ∧ (∀ b, b < c6 + 1 → h'.get b = h7.get b)) Zrs ?_ ?_
  ·refine Wx.loopF (fun k1 e s => ∃ (g : Nat → Value) (i : Nat) (z : Int) (h' : T AObj) (c' : Nat) (rl' wl' : List Nat), e = fr g [(6, .pointer (some ⟨p, 0, none⟩)), (7, .slice ov V.length V.length), (9, .pointer (some ⟨c6, 0, none⟩)), (42, .int .i64 (V.length : Int)), (43, .int .i64 z)] K10 ∧ z = i ∧ s = ⟨h', c', rl', wl'⟩ ∧ c6 + 1 ≤ c' ∧ Fresh h' c' ∧ (∀ b, b < c6 + 1 → h'.get b = h7.get b) ∧ i ≤ V.length ∧ k1 = V.length - i) V.length K10 [(6, _), (7, _), (9, _), (42, _), (43, .int .i64 0)] ⟨_, 0, 0, _, _, _, _, rfl, rfl, rfl, by omega, fr7, fun b hb => rfl, by omega, rfl⟩ ?_
   rintro k1 e s ⟨g, i, z, h', c', rl', wl', rfl, hz, rfl, hcc, hf', hkp, hid, rfl⟩
   (refine Wx.sw (by simp only [K10, frN, frC, updN, updC, Nat.reduceEqDiff, ↓reduceIte]; rfl) ?_)
   by_cases hi : i < V.length
   rotate_left
   ·refine Zgo ?_
    exact CutQ.goF K10 [(6, _), (7, _), (9, _)] ⟨_, _, _, _, _, rfl, rfl, hcc, hf', hkp⟩
   have hV' := hV7.keep fr7 fun b hb _ _ => hkp b hb
   have hC' := hC7.keep fr7 (fun b _ hb => hkp b hb)
   have hB' := hB7.keep (U' := fun b => b < c6) fr7 (fun _ q => q) (fun b hb hc => hkp b hc)
   have hb9 : Has h' c6 (.cells [.slice al 2 kl, .slice at_ 2 ks]) := (hkp c6 (by omega)).trans hb7
   have hgA : getM (z + 1) A = some (mbR (z + 1) V[i]) := by
    rw [hA, if_pos (by omega), show (z + 1 - 1).toNat = i by omega, List.getD_eq_getElem?_getD, List.getElem?_eq_getElem hi]; rfl
   obtain ⟨g1, bV, vals, bi, rfl, g2, g3, g4, g5, g6⟩ := hV'.at (List.getElem?_eq_getElem hi)
   have lV := g3.lt hf'
   have lbi := g6.lt hf'
   have hbV := hVb _ (List.getElem_mem hi)
   generalize hzs : V[i] = zs at g1 g6 hgA hbV
   have lB9 := hb9.lt hf'
   refine Zgo ?_
   refine Wseq.call rfl rfl (cvec_spec Zfr hC' (by omega) (by omega) hgA) ?_
   rintro v8 h8 c8 r8 w8 ⟨⟨w, rfl, hw⟩, hext8⟩
   have fr8 := hext8.fresh
   have le8 := hext8.c
   have kp8 : ∀ b, b < c' → h8.get b = h'.get b := fun b hb => hext8.get hb (fun q => q)
   simp only at le8 fr8 hw
   rcases hw with ⟨_, e, _⟩ | ⟨bw, sp, cw, rfl, hcw, hbw, hwb⟩
   ·cases e
   have lbw := hwb.lt fr8
   have g38 : Has h8 bV (.cells vals) := (kp8 bV lV).trans g3
   have g68 : Has h8 bi (.cells (zs.map (Value.int .i32))) := (kp8 bi lbi).trans g6
   have hbg : big = 1048576 := rfl
   have hv8 : Row h8 (.slice (some ⟨bi, 0, none⟩) 2 2) 2 1 (zs.map (Value.int .i32)) := .inr ⟨bi, 0, none, 2, _, rfl, g68.cel, subN_all _ _ (by rw [List.length_map, g1])⟩
   have hw8 : Row h8 (.slice (some ⟨bw, 0, sp⟩) 2 cw) 2 1 (zs.map (Value.int .i32)) := .inr ⟨bw, 0, sp, cw, _, rfl, hwb.cel, subN_all _ _ (by show 2 * 1 = (zs.map _).length; rw [List.length_map, g1])⟩
   refine Zgo ?_
   refine Zq (to_indexAddr (k := i) el22 rfl rfl hz hi) ?_
   refine Zd (to_load (pl_ rfl) rfl g38.cel (by omega) g4) ?_
   refine Zgo ?_
   refine Wtr.call rfl rfl (eq_spec stdQ Zfr g1 hw8 hv8 (by omega) (fun b => b = bw ∨ b = bi) (fun b hb => hb.elim (fun q => .inl (by simpa [blkOf] using q.symm)) (fun q => .inr (by simpa [blkOf] using q.symm)))) ?_
   rintro v9 h9 c9 r9 w9 ⟨rfl, hext9⟩
   have hq9 := hext9.quiet (fun _ _ q => q)
   have fr9 := hext9.fresh
   have le9 := hext9.c
   have kp9 : ∀ b, b < c8 → h9.get b = h8.get b := fun b hb => hext9.get hb (fun q => q)
   simp only at le9 fr9
   refine ⟨Zap, ?_⟩
   have hC9 := hC'.keep hf' (fun b _ hb => (kp9 b (by omega)).trans (kp8 b hb))
   have k9 : ∀ b, b < c' → h9.get b = h'.get b := fun b hb => (kp9 b (by omega)).trans (kp8 b hb)
   refine Zgo ?_
   refine Wtr.call rfl rfl (ccode_spec Zfr hC9 (by omega) (by omega) hgA) ?_
   rintro v10 h10 c10 r10 w10 ⟨⟨bc, rfl, hbc, hc10⟩, hext10⟩
   have hq10 := hext10.quiet (fun _ _ q => q)
   have fr10 := hext10.fresh
   have le10 := hext10.c
   have kp10 : ∀ b, b < c9 → h10.get b = h9.get b := fun b hb => hext10.get hb (fun q => q)
   simp only at le10 fr10 hc10
   rw [show intsV (mbR (z + 1) zs).xs = zs from intsV_ints zs] at hc10
   have lbc := hc10.lt fr10
   refine ⟨Zap, ?_⟩
   have k10 : ∀ b, b < c' → h10.get b = h'.get b := fun b hb => (kp10 b (by omega)).trans (k9 b hb)
   have hb10 : Has h10 c6 (.cells [.slice al 2 kl, .slice at_ 2 ks]) := (k10 c6 (by omega)).trans hb9
   have g310 : Has h10 bV (.cells vals) := (k10 bV lV).trans g3
   have g610 : Has h10 bi (.cells (zs.map (Value.int .i32))) := (k10 bi lbi).trans g6
   have hB10 := hB'.keep (U' := fun b => b < c6) hf' (fun _ q => q) (fun b _ hc => k10 b hc)
   have hcl : (codeZ lo st zs).length = 2 := by rw [codeZ_len, g1]
   have hap1 : ApartP ⟨r10, w10, c9, c10⟩ ⟨[c6], [], c10, c10⟩ := ApartP.wr (fun y hy => (hq10 y hy).elim) (by omega)
   have hap2 : ApartP ⟨r10, w10, c9, c10⟩ ⟨[bV], [], c10, c10⟩ := ApartP.wr (fun y hy => (hq10 y hy).elim) (by omega)
   refine Zgo ?_
   refine Zd (to_toStr str77 rfl hc10.cel (by omega) (subN_all _ _ (by rw [List.length_map, hcl]))) ?_
   refine Zgo ?_
   refine Zq (to_indexAddr (k := i) el22 rfl rfl hz hi) ?_
   refine Zd (to_load (pl_ rfl) rfl g310.cel (by omega) g4) ?_
   refine Zgo ?_
   refine Wtr.call rfl rfl (qcode_spec Zfr hB10 (by omega) g1 (.inr ⟨bi, 0, none, 2, _, rfl, g610.cel, subN_all _ _ (by rw [List.length_map, g1])⟩) hbV (fun b => b < c') (fun b hb => by omega) (fun b hb => by cases hb; exact lbi)) ?_
   rintro v11 h11 c11 r11 w11 ⟨⟨cb, rfl, hcb, hcc11⟩, hext11⟩
   have hq11 := hext11.quiet (fun _ _ q => q)
   have fr11 := hext11.fresh
   have le11 := hext11.c
   have kp11 : ∀ b, b < c10 → h11.get b = h10.get b := fun b hb => hext11.get hb (fun q => q)
   simp only at le11 fr11 hcc11
   have lcb := hcc11.lt fr11
   refine ⟨Zap, ?_⟩
   refine Zgo ?_
   refine Zd (to_toStr str77 rfl hcc11.cel (by omega) (subN_all _ _ (by rw [List.length_map, hcl]))) ?_
   refine Zgo ?_
   have hwb11 : Has h11 bw (.cells (zs.map (Value.int .i32))) := (kp11 bw (by omega)).trans ((kp10 bw (by omega)).trans ((kp9 bw lbw).trans hwb))
   have hz0 := hbV 0
   have k11 : ∀ b, b < c' → h11.get b = h'.get b := fun b hb => (kp11 b (by omega)).trans (k10 b hb)
   have hC11 := hC'.keep (h' := h11.set bw (some (.cells ((zs.map (Value.int .i32)).set 0 (.int .i32 (zs.getD 0 0 + 1)))))) hf' (fun b _ hb => (get_other (by omega)).trans (k11 b hb))
   refine Zu (to_indexAddr (k := 0) el25 rfl rfl rfl (by omega)) ?_
   refine Zu (to_load (pl_ rfl) rfl hwb11.cel (by omega) (show nth (zs.map (Value.int .i32)) (0 + 0 * 1) = some (.int .i32 (zs.getD 0 0)) by rw [nth_eq]; exact vec_nth (j := 0) (by omega))) ?_
   refine Zu (to_add32 rfl rfl (by omega) (by omega)) ?_
   refine Zu (to_indexAddr (k := 0) el25 rfl rfl rfl (by omega)) ?_
   ((with_reducible apply Wseq.so); rfl; exact (sz_ rfl); rfl; exact hwb11; omega; refine Znv ?_; refine ⟨_, _, (by (first | exact cellsA_agg _ | rfl)), rfl, setOne (i := 0) (by rw [List.length_map]; omega) rfl, ?_⟩)
   refine Zgo ?_
   refine Wseq.call rfl rfl (ccode_spec Zfr hC11 (by omega) (by omega) hgA) ?_
   rintro v12 h12 c12 r12 w12 ⟨⟨bd, rfl, hbd, hc12⟩, hext12⟩
   have fr12 := hext12.fresh
   have le12 := hext12.c
   have kp12 : ∀ b, b < c11 → h12.get b = _ := fun b hb => hext12.get hb (fun q => q)
   simp only at le12 fr12 hc12
   rw [show intsV (mbR (z + 1) zs).xs = zs from intsV_ints zs] at hc12
   have lbd := hc12.lt fr12
   have hnc : nth ((codeZ lo st zs).map (Value.int .u8)) (0 + 0 * 1) = some (.int .u8 ((codeZ lo st zs).getD 0 0)) := by rw [nth_eq]; exact kvec_nth (j := 0) (by omega)
   have k12 : ∀ b, b < c' → h12.get b = h'.get b := fun b hb => (kp12 b (by omega)).trans ((get_other (by omega)).trans (k11 b hb))
   refine Zgo ?_
   refine Zu (to_indexAddr (k := 0) el77 rfl rfl rfl (by omega)) ?_
   refine Zu (to_load (pl_ rfl) rfl hc12.cel (by omega) hnc) ?_
   refine Zu (to_add8 rfl rfl) ?_
   refine Zu (to_indexAddr (k := 0) el77 rfl rfl rfl (by omega)) ?_
   ((with_reducible apply Wseq.so); rfl; exact (sz_ rfl); rfl; exact hc12; omega; refine Znv ?_; refine ⟨_, _, (by (first | exact cellsA_agg _ | rfl)), rfl, setOne (i := 0) (by rw [List.length_map]; omega) rfl, ?_⟩)
   refine Zgo ?_
   exact RoundE.goF (V.length - (i + 1)) K10 [(6, _), (7, _), (9, _), (42, _), (43, .int .i64 (z + 1))] (by omega) ⟨_, i + 1, z + 1, _, _, _, _, rfl, by omega, rfl, by omega, Zfr, fun b hb => (get_other (by omega)).trans ((k12 b (by omega)).trans (hkp b hb)), by omega, rfl⟩
  ·rintro e s ⟨g, h', c', rl', wl', rfl, rfl, hcc, hf', hkp⟩
   (refine Wx.sw (by simp only [K10, frN, frC, updN, updC, Nat.reduceEqDiff, ↓reduceIte]; rfl) ?_)
   refine Zgo ?_
   refine Wx.cutO (fun e s => ∃ (g : Nat → Value) (h' : T AObj) (c' : Nat) (rl' wl' : List Nat), e = fr g [(6, .pointer (some ⟨p, 0, none⟩)), (7, .slice ov V.length V.length)] K10 ∧ s = ⟨h', c', rl', wl'⟩ ∧ c6 + 1 ≤ c' ∧ Fresh h' c' ∧ (∀ b, b < c6 + 1 → h'.get b = h7.get b)) Zrs ?_ ?_
   ·refine Wx.loopF (fun k1 e s => ∃ (g : Nat → Value) (i : Nat) (z : Int) (h' : T AObj) (c' : Nat) (rl' wl' : List Nat), e = fr g [(6, .pointer (some ⟨p, 0, none⟩)), (7, .slice ov V.length V.length), (9, .pointer (some ⟨c6, 0, none⟩)), (98, .int .i64 (V.length : Int)), (99, .int .i64 z)] K10 ∧ z = i ∧ s = ⟨h', c', rl', wl'⟩ ∧ c6 + 1 ≤ c' ∧ Fresh h' c' ∧ (∀ b, b < c6 + 1 → h'.get b = h7.get b) ∧ i ≤ V.length ∧ k1 = V.length - i) V.length K10 [(6, _), (7, _), (9, _), (98, _), (99, .int .i64 0)] ⟨_, 0, 0, _, _, _, _, rfl, rfl, rfl, hcc, hf', hkp, by omega, rfl⟩ ?_
    rintro k1 e s ⟨g, i, z, h', c', rl', wl', rfl, hz, rfl, hcc, hf', hkp, hid, rfl⟩
    (refine Wx.sw (by simp only [K10, frN, frC, updN, updC, Nat.reduceEqDiff, ↓reduceIte]; rfl) ?_)
    by_cases hi : i < V.length
    rotate_left
    ·refine Zgo ?_
     exact CutQ.goF K10 [(6, _), (7, _)] ⟨_, _, _, _, _, rfl, rfl, hcc, hf', hkp⟩
    have hV' := hV7.keep fr7 fun b hb _ _ => hkp b hb
    have hC' := hC7.keep fr7 (fun b _ hb => hkp b hb)
    have hB' := hB7.keep (U' := fun b => b < c6) fr7 (fun _ q => q) (fun b hb hc => hkp b hc)
    have hb9 : Has h' c6 (.cells [.slice al 2 kl, .slice at_ 2 ks]) := (hkp c6 (by omega)).trans hb7
    have hgA : getM (z + 1) A = some (mbR (z + 1) V[i]) := by
     rw [hA, if_pos (by omega), show (z + 1 - 1).toNat = i by omega, List.getD_eq_getElem?_getD, List.getElem?_eq_getElem hi]; rfl
    obtain ⟨g1, bV, vals, bi, rfl, g2, g3, g4, g5, g6⟩ := hV'.at (List.getElem?_eq_getElem hi)
    have lV := g3.lt hf'
    have lbi := g6.lt hf'
    have hbV := hVb _ (List.getElem_mem hi)
    generalize hzs : V[i] = zs at g1 g6 hgA hbV
    have lB9 := hb9.lt hf'
    refine Zgo ?_
    refine Wseq.call rfl rfl (cvec_spec Zfr hC' (by omega) (by omega) hgA) ?_
    rintro v8 h8 c8 r8 w8 ⟨⟨w, rfl, hw⟩, hext8⟩
    have fr8 := hext8.fresh
    have le8 := hext8.c
    have kp8 : ∀ b, b < c' → h8.get b = h'.get b := fun b hb => hext8.get hb (fun q => q)
    simp only at le8 fr8 hw
    rcases hw with ⟨_, e, _⟩ | ⟨bw, sp, cw, rfl, hcw, hbw, hwb⟩
    ·cases e
    have lbw := hwb.lt fr8
    have g38 : Has h8 bV (.cells vals) := (kp8 bV lV).trans g3
    have g68 : Has h8 bi (.cells (zs.map (Value.int .i32))) := (kp8 bi lbi).trans g6
    have hbg : big = 1048576 := rfl
    have hv8 : Row h8 (.slice (some ⟨bi, 0, none⟩) 2 2) 2 1 (zs.map (Value.int .i32)) := .inr ⟨bi, 0, none, 2, _, rfl, g68.cel, subN_all _ _ (by rw [List.length_map, g1])⟩
    have hw8 : Row h8 (.slice (some ⟨bw, 0, sp⟩) 2 cw) 2 1 (zs.map (Value.int .i32)) := .inr ⟨bw, 0, sp, cw, _, rfl, hwb.cel, subN_all _ _ (by show 2 * 1 = (zs.map _).length; rw [List.length_map, g1])⟩
    refine Zgo ?_
    refine Zq (to_indexAddr (k := i) el22 rfl rfl hz hi) ?_
    refine Zd (to_load (pl_ rfl) rfl g38.cel (by omega) g4) ?_
    refine Zgo ?_
    refine Wtr.call rfl rfl (eq_spec stdQ Zfr g1 hw8 hv8 (by omega) (fun b => b = bw ∨ b = bi) (fun b hb => hb.elim (fun q => .inl (by simpa [blkOf] using q.symm)) (fun q => .inr (by simpa [blkOf] using q.symm)))) ?_
    rintro v9 h9 c9 r9 w9 ⟨rfl, hext9⟩
    have hq9 := hext9.quiet (fun _ _ q => q)
    have fr9 := hext9.fresh
    have le9 := hext9.c
    have kp9 : ∀ b, b < c8 → h9.get b = h8.get b := fun b hb => hext9.get hb (fun q => q)
    simp only at le9 fr9
    refine ⟨Zap, ?_⟩
    have hC9 := hC'.keep hf' (fun b _ hb => (kp9 b (by omega)).trans (kp8 b hb))
    have k9 : ∀ b, b < c' → h9.get b = h'.get b := fun b hb => (kp9 b (by omega)).trans (kp8 b hb)
    refine Zgo ?_
    refine Wtr.call rfl rfl (ccode_spec Zfr hC9 (by omega) (by omega) hgA) ?_
    rintro v10 h10 c10 r10 w10 ⟨⟨bc, rfl, hbc, hc10⟩, hext10⟩
    have hq10 := hext10.quiet (fun _ _ q => q)
    have fr10 := hext10.fresh
    have le10 := hext10.c
    have kp10 : ∀ b, b < c9 → h10.get b = h9.get b := fun b hb => hext10.get hb (fun q => q)
    simp only at le10 fr10 hc10
    rw [show intsV (mbR (z + 1) zs).xs = zs from intsV_ints zs] at hc10
    have lbc := hc10.lt fr10
    refine ⟨Zap, ?_⟩
    have k10 : ∀ b, b < c' → h10.get b = h'.get b := fun b hb => (kp10 b (by omega)).trans (k9 b hb)
    have hb10 : Has h10 c6 (.cells [.slice al 2 kl, .slice at_ 2 ks]) := (k10 c6 (by omega)).trans hb9
    have g310 : Has h10 bV (.cells vals) := (k10 bV lV).trans g3
    have g610 : Has h10 bi (.cells (zs.map (Value.int .i32))) := (k10 bi lbi).trans g6
    have hB10 := hB'.keep (U' := fun b => b < c6) hf' (fun _ q => q) (fun b _ hc => k10 b hc)
    have hcl : (codeZ lo st zs).length = 2 := by rw [codeZ_len, g1]
    have hap1 : ApartP ⟨r10, w10, c9, c10⟩ ⟨[c6], [], c10, c10⟩ := ApartP.wr (fun y hy => (hq10 y hy).elim) (by omega)
    have hap2 : ApartP ⟨r10, w10, c9, c10⟩ ⟨[bV], [], c10, c10⟩ := ApartP.wr (fun y hy => (hq10 y hy).elim) (by omega)
    refine Zgo ?_
    refine Zd (to_toStr str77 rfl hc10.cel (by omega) (subN_all _ _ (by rw [List.length_map, hcl]))) ?_
    refine Zgo ?_
    refine Zq (to_indexAddr (k := i) el22 rfl rfl hz hi) ?_
    refine Zd (to_load (pl_ rfl) rfl g310.cel (by omega) g4) ?_
    refine Zgo ?_
    refine Wtr.call rfl rfl (qcode_spec Zfr hB10 (by omega) g1 (.inr ⟨bi, 0, none, 2, _, rfl, g610.cel, subN_all _ _ (by rw [List.length_map, g1])⟩) hbV (fun b => b < c') (fun b hb => by omega) (fun b hb => by cases hb; exact lbi)) ?_
    rintro v11 h11 c11 r11 w11 ⟨⟨cb, rfl, hcb, hcc11⟩, hext11⟩
    have hq11 := hext11.quiet (fun _ _ q => q)
    have fr11 := hext11.fresh
    have le11 := hext11.c
    have kp11 : ∀ b, b < c10 → h11.get b = h10.get b := fun b hb => hext11.get hb (fun q => q)
    simp only at le11 fr11 hcc11
    have lcb := hcc11.lt fr11
    refine ⟨Zap, ?_⟩
    refine Zgo ?_
    refine Zd (to_toStr str77 rfl hcc11.cel (by omega) (subN_all _ _ (by rw [List.length_map, hcl]))) ?_
    refine Zgo ?_
    exact RoundE.goF (V.length - (i + 1)) K10 [(6, _), (7, _), (9, _), (98, _), (99, .int .i64 (z + 1))] (by omega) ⟨_, i + 1, z + 1, _, _, _, _, rfl, by omega, rfl, by omega, fr11, fun b hb => (kp11 b (by omega)).trans ((k10 b (by omega)).trans (hkp b hb)), by omega, rfl⟩
   ·rintro e s ⟨g, h', c', rl', wl', rfl, rfl, hcc, hf', hkp⟩
    (refine Wx.sw (by simp only [K10, frN, frC, updN, updC, Nat.reduceEqDiff, ↓reduceIte]; rfl) ?_)
    have hC' := hC7.keep fr7 (fun b _ hb => hkp b hb)
    refine Zgo ?_
    refine Wseq.call rfl rfl (cids_spec Zfr hC' (by omega)) ?_
    rintro v1 h1 c1 r1 w1 ⟨hids, hext⟩
    obtain ⟨oi, ic, rfl⟩ := hids.val
    rw [hAl]
    refine Zgo ?_
    exact ⟨.inr rfl, Wres.one rfl rfl⟩
end Go.Ab.Seat
