/- A look at a level of a graph (the abstract machine). -/
import Derived.Test.YtofikbfljjjgeaaGreatDoorDJ7
set_option linter.unusedVariables false
set_option linter.unusedSimpArgs false
namespace Go.Ab.Seat
open Go.Extern Go.Proofs
set_option maxRecDepth 4000
def LookAt (h : T AObj) (c n : Nat) (F : List Ht) (S D : List Int) : Prop := ∃ lv, Has h c (.cells [lv, .int .i64 (n : Int)]) ∧ Best h lv F.length (flatH F) ∧ (∀ b, blkOf lv = some b → c + 4 ≤ b) ∧ SetM h (c + 1) S ∧ Has h (c + 3) (.cells [.map (some (c + 2))]) ∧ SetM h (c + 2) D
theorem LookAt.keep {h h' : T AObj} {c c' n : Nat} {F : List Ht} {S D : List Int} (x : LookAt h c n F S D) (hf : Fresh h c') (k : ∀ b, c ≤ b → b < c' → h'.get b = h.get b) : LookAt h' c n F S D := by
 obtain ⟨lv, x1, x2, x3, x4, x5, x6⟩ := x
 refine ⟨lv, (k _ (Nat.le_refl _) (x1.lt hf)).trans x1, x2.keep fun b hb => k b (by have := x3 b hb; omega) ?_, x3, x4.keep (k _ (by omega) (x4.lt hf)), (k _ (by omega) (x5.lt hf)).trans x5, x6.keep (k _ (by omega) (x6.lt hf))⟩
 rcases x2 with ⟨rfl, _⟩ | ⟨bl, cap, cs, rfl, _, _, g, _⟩
 ·cases hb
 ·cases hb; exact g.lt hf
theorem Keyed.wfAt {es : List (Value × Value × Nat)} {n : Nat} {ids : List Int} (k : Keyed es n ids) {x : Int} {v : Value} (h : valI x es = some v) : wfI x = true := by
 refine k.wf x (Classical.byContradiction fun q => ?_)
 rw [valI_none.2 ((findI_none_iff k.keys).2 q)] at h
 cases h
theorem GrO.wf {h : T AObj} {p m : Nat} {mt : Int} {dim : Nat} {G : Gr} {U : Nat → Prop} {ow : Ow} (q : GrO h p m mt dim G U ow) {id : Int} {r : Rc} (hr : getM id G.M = some r) : wfI id = true := by
 obtain ⟨es, n, vi, nb, vv, ls, hm, ⟨ids, hk⟩, hfit, hfi, _⟩ := q.at hr
 exact hk.wfAt (v := .pointer (some ⟨nb, 0, none⟩)) (by unfold valI; rw [hfi]; rfl)
theorem ar110 {sm : Nat → Option (List Value → M Value)} : arrAt (Cs sm) 110 = some (5, 1) := by kernel_rfl
theorem ar187 {sm : Nat → Option (List Value → M Value)} : arrAt (Cs sm) 187 = some (2, 1) := by kernel_rfl
def K74 : List Nat := [0, 1, 2, 3, 4, 10, 11, 12, 13, 15, 16, 17, 19, 24, 25, 26, 27, 46, 66, 67, 68, 69, 75]
section
variable {h : T AObj} {c : Nat} {rl wl : List Nat} {p m dim : Nat} {mt : Int} {G : Gr} {U : Nat → Prop} {qa : Option Addr} {qc : Nat} {qs : List Int}
theorem found_spec {c0 n : Nat} {F : List Ht} {S D : List Int} (hf : Fresh h c) (L : LookAt h c0 n F S D) (hn : F.length ≤ 900) (hk : n ≤ 900) (x : Ht) :
  ∃ r s', FnTo (Cs smQ) eg 138 [.pointer (some ⟨c0, 0, none⟩), hitv x.id x.sc] ⟨h, c, rl, wl⟩ r s' ∧ LookAt s'.h c0 n (putB n F x) S D ∧ Ext ⟨h, c, rl, wl⟩ s' (fun b => c0 ≤ b) (fun b => c0 ≤ b) := by
 have L0 := L
 obtain ⟨lv, x1, x2, x3, x4, x5, x6⟩ := L
 have l1 := x1.lt hf
 have l4 := x4.lt hf
 have l5 := x5.lt hf
 have l6 := x6.lt hf
 obtain ⟨r, s', g1, ⟨lv', g2, g3, g4⟩, g5⟩ := bput_spec stdQ (rfl : smQ 200 = some gIns) (rl := rl) (wl := wl) hf x x1 x2 (fun b hb => by have := x3 b hb; omega) hn (by omega)
 have kk : ∀ b, b < c → b ≠ c0 → (c0 ≤ b → b < c0 + 4) → s'.h.get b = h.get b := fun b hb hne hlt => g5.h b hb fun q => by
  rcases q with q | q
  ·exact hne q
  ·have := x3 b q; have := hlt (by omega); omega
 refine ⟨r, s', g1, ⟨lv', g2, g3, fun b hb => ?_, x4.keep (kk _ l4 (by omega) (by omega)), (kk _ l5 (by omega) (by omega)).trans x5, x6.keep (kk _ l6 (by omega) (by omega))⟩, g5.mono (fun b _ q => ?_) (fun b _ q => ?_)⟩
 ·rcases g4 b hb with q | q
  ·exact x3 b q
  ·omega
 ·rcases q with q | q
  ·show c0 ≤ b; omega
  ·have := x3 b q; show c0 ≤ b; omega
 ·rcases q with q | q
  ·show c0 ≤ b; omega
  ·have := x3 b q; show c0 ≤ b; omega
set_option maxHeartbeats 16000000 in
theorem look_spec (hf : Fresh h c) (qm : GrM h p m mt dim G U) (hmt : mt = 1 ∨ mt = 2) (hq : Row h (.slice qa dim qc) dim 1 (qs.map (Value.int .i32))) (hqn : qs.length = dim) (hqb : Bnd qs) (hd : dim ≤ 1000) {l : Nat} (hl : l ≤ 4) {oa : Option Addr} {fc : Nat} {fs : List Int} (hfr : Row h (.slice oa fs.length fc) fs.length 1 (fs.map (Value.int .i64))) (hfm : ∀ x ∈ fs, ∃ r, getM x G.M = some r) (hfl : fs.length ≤ 900) {n : Nat} (hn : n ≤ 900) (hml : G.M.length ≤ 800) (R : Nat → Prop) (hUR : ∀ b, U b → R b) (hqR : ∀ b, blkOf (.slice qa dim qc) = some b → R b) (hfR : ∀ b, blkOf (.slice oa fs.length fc) = some b → R b) :
  ∃ r s', FnTo (Cs smQ) eg 74 [.pointer (some ⟨p, 0, none⟩), .slice qa dim qc, .int .i64 (l : Int), .slice oa fs.length fc, .int .i64 (n : Int)] ⟨h, c, rl, wl⟩ r s' ∧ IRow s'.h c r (lookG mt G qs l fs n) ∧ Ext ⟨h, c, rl, wl⟩ s' R (fun _ => False) := by
 have hbg : big = 1048576 := rfl
 obtain ⟨ow, q⟩ := qm
 refine Fn.go (stdQ 74 rfl) ex74 fn74 km74 rfl rfl ?_
 refine Zev ?_
 refine Zgo ?_
 refine Wseq.call rfl rfl (bnew_spec stdQ Zfr (n : Int)) ?_
 rintro v1 h1 c1 r1 w1 ⟨⟨rfl, g1, rfl⟩, hext⟩
 simp only at g1
 rw [show max (n : Int) 0 = n by omega] at g1
 have kp := Kp.ext (W := fun _ => False) (h := h) (c := c) Zkp hext (by omega) (fun _ _ q => q)
 have lr := Lg.extR (R := R) (c := c) Zlg hext (fun _ _ q => q.elim)
 have lw := Lg.extW (W := fun _ => False) (c := c) Zlg hext (fun _ _ q => q)
 have fr1 := hext.fresh
 simp only at fr1
 refine Zgo ?_
 refine Wx.cutO (fun e s => ∃ (g : Nat → Value) (h' : T AObj) (c' : Nat) (rl' wl' : List Nat), e = fr g [(0, .pointer (some ⟨p, 0, none⟩)), (1, .slice qa dim qc), (2, .int .i64 (l : Int)), (11, .pointer (some ⟨c, 0, none⟩)), (12, .map (some (c + 1))), (13, .pointer (some ⟨c + 3, 0, none⟩))] K74 ∧ s = ⟨h', c', rl', wl'⟩ ∧ c + 4 ≤ c' ∧ Fresh h' c' ∧ Kp h h' c (fun _ => False) ∧ LookAt h' c n (startG mt G.M qs n fs).f (startG mt G.M qs n fs).s [] ∧ Lg c R rl' ∧ Lg c (fun _ => False) wl') Zrs ?_ ?_
 ·refine Wx.loopF (fun k1 e s => ∃ (g : Nat → Value) (i : Nat) (z : Int) (h' : T AObj) (c' : Nat) (rl' wl' : List Nat), e = fr g [(0, .pointer (some ⟨p, 0, none⟩)), (1, .slice qa dim qc), (2, .int .i64 (l : Int)), (11, .pointer (some ⟨c, 0, none⟩)), (12, .map (some (c + 1))), (13, .pointer (some ⟨c + 3, 0, none⟩)), (24, .slice oa fs.length fc), (25, .int .i64 (fs.length : Int)), (26, .int .i64 z)] K74 ∧ z = i ∧ s = ⟨h', c', rl', wl'⟩ ∧ c + 4 ≤ c' ∧ Fresh h' c' ∧ Kp h h' c (fun _ => False) ∧ LookAt h' c n ((fs.take i).foldl (fromG mt G.M qs n) ([], [])).1 ((fs.take i).foldl (fromG mt G.M qs n) ([], [])).2 [] ∧ Lg c R rl' ∧ Lg c (fun _ => False) wl' ∧ i ≤ fs.length ∧ k1 = fs.length - i) fs.length K74 [(0, _), (1, _), (2, _), (11, _), (12, _), (13, _), (24, _), (25, _), (26, .int .i64 0)] ⟨_, 0, 0, _, _, _, _, rfl, rfl, rfl, by omega, Zfr, Zkp, ⟨_, Zhs, .inl ⟨rfl, rfl, rfl⟩, (fun b hb => by cases hb), .nil Zhs, Zhs, .nil Zhs⟩, Zlg, Zlg, by omega, rfl⟩ ?_
  rintro k1 e s ⟨g, i, z, h', c', rl', wl', rfl, hz, rfl, hcc, hf', hkp, hL, hlr, hlw, hid, rfl⟩
  (refine Wx.sw (by simp only [K74, frN, frC, updN, updC, Nat.reduceEqDiff, ↓reduceIte]; rfl) ?_)
  by_cases hi : i < fs.length
  rotate_left
  ·refine Zgo ?_
   obtain rfl : i = fs.length := by omega
   rw [List.take_length] at hL
   exact CutQ.goF K74 [(0, _), (1, _), (2, _), (11, _), (12, _), (13, _)] ⟨_, _, _, _, _, rfl, rfl, hcc, hf', hkp, hL, hlr, hlw⟩
  have hgood : FGood mt G.M qs n ((fs.take i).foldl (fromG mt G.M qs n) ([], [])) := FGood.nil.fromAll fun y hy => hfm y (List.mem_of_mem_take hy)
  have hst := foldl_take (fromG mt G.M qs n) ([], []) hi
  obtain ⟨r0, hr0⟩ := hfm fs[i] (List.getElem_mem hi)
  have hwf := q.wf hr0
  generalize hFS : (fs.take i).foldl (fromG mt G.M qs n) ([], []) = FS at hL hgood hst
  obtain ⟨b1, o1, sp1, cs1, rfl, hc1, hn1⟩ := rowCell (Row.keepF hfr hf (fun b hb => hkp b hb (fun q => q))) (j := i * 1) (by omega) (int_nth (List.getElem?_eq_getElem hi))
  have hR1 := hfR b1 rfl
  have l1 := hc1.lt hf'
  obtain ⟨lv, x1, x2, x3, ⟨es, en, ids, x4, x4k, x4v⟩, x5, x6⟩ := hL
  have l4 := x4.lt hf'
  refine Zgo ?_
  refine Zu (to_indexAddr (k := i) el45 rfl rfl hz (by omega)) ?_
  refine Zu (to_load (pl_ rfl) rfl hc1 (by omega) hn1) ?_
  refine Zgo ?_
  refine Wseq.st0 (to_mapUpdate (mi_ rfl) rfl rfl rfl x4 l4 x4k.ks) ?_
  refine Zgo ?_
  have kA : ∀ b, b < c → (h'.set (c + 1) (some (.map (putI .i64 fs[i] (.bool true) en es).1 (putI .i64 fs[i] (.bool true) en es).2))).get b = h.get b := fun b hb => (get_other (by omega)).trans (hkp b hb (fun q => q))
  refine Wseq.call rfl rfl (ghit_spec Zfr (GrM.keep ⟨ow, q⟩ hf (fun b _ hb => kA b hb)) hmt (Row.keepF hq hf kA) hqn hqb hd hr0 R hUR hqR) ?_
  rintro v2 h2 c2 r2 w2 ⟨rfl, hext2⟩
  have fr2 := hext2.fresh
  have le2 := hext2.c
  simp only at fr2 le2
  have kp2 := Kp.ext (W := fun _ => False) (h := h) (c := c) Zkp hext2 (by omega) (fun _ _ q => q)
  have lr2 := Lg.extR (R := R) (c := c) Zlg hext2 (fun _ _ q => q)
  have lw2 := Lg.extW (W := fun _ => False) (c := c) Zlg hext2 (fun _ _ q => q)
  have lbl : ∀ b, blkOf lv = some b → b < c' := by
   rcases x2 with ⟨rfl, _⟩ | ⟨bl, cap, cs, rfl, _, _, gb, _⟩
   ·intro b hb; cases hb
   ·intro b hb; cases hb; exact gb.lt hf'
  have hL2 : LookAt h2 c n FS.1 (fs[i] :: FS.2) [] := by
   have e1 : ∀ b, b < c' → b ≠ c + 1 → h2.get b = h'.get b := fun b hb hne => (hext2.h b hb (fun q => q)).trans (get_other hne)
   refine ⟨lv, (e1 c (by omega) (by omega)).trans x1, x2.keep fun b hb => e1 b (lbl b hb) (by have := x3 b hb; omega), x3, ⟨_, _, _, (hext2.h (c + 1) l4 (fun q => q)).trans Has.same, x4k.put hwf _, fun x => set_put x4k x4v _ x⟩, (e1 _ (x5.lt hf') (by omega)).trans x5, x6.keep (e1 _ (x6.lt hf') (by omega))⟩
  refine Zgo ?_
  refine Wseq.call rfl rfl (found_spec Zfr hL2 (by have := hgood.len; omega) hn (hitG mt G.M qs fs[i])) ?_
  rintro v3 h3 c3 r3 w3 ⟨hL3, hext3⟩
  have fr3 := hext3.fresh
  have le3 := hext3.c
  simp only at fr3 le3
  have kp3 := Kp.ext (W := fun _ => False) (h := h) (c := c) kp2 hext3 (by omega) (fun b hb q => by omega)
  have lr3 := Lg.extR (R := R) (c := c) Zlg hext3 (fun b hb q => by omega)
  have lw3 := Lg.extW (W := fun _ => False) (c := c) Zlg hext3 (fun b hb q => by omega)
  refine Zgo ?_
  exact RoundE.goF (fs.length - (i + 1)) K74 [(0, _), (1, _), (2, _), (11, _), (12, _), (13, _), (24, _), (25, _), (26, .int .i64 (z + 1))] (by omega) ⟨_, i + 1, z + 1, _, _, _, _, rfl, by omega, rfl, by omega, fr3, kp3, by rw [hst]; exact hL3, lr3, lw3, by omega, rfl⟩
 rintro e s ⟨g, h2, c2, r2, w2, rfl, rfl, hcc, hf2, hkp2, hL, hlr2, hlw2⟩
 (refine Wx.sw (by simp only [K74, frN, frC, updN, updC, Nat.reduceEqDiff, ↓reduceIte]; rfl) ?_)
 refine Zgo ?_
 refine Wx.loopF (fun k1 e s => ∃ (g : Nat → Value) (st : LS) (h' : T AObj) (c' : Nat) (rl' wl' : List Nat), e = fr g [(0, .pointer (some ⟨p, 0, none⟩)), (1, .slice qa dim qc), (2, .int .i64 (l : Int)), (11, .pointer (some ⟨c, 0, none⟩)), (12, .map (some (c + 1))), (13, .pointer (some ⟨c + 3, 0, none⟩))] K74 ∧ s = ⟨h', c', rl', wl'⟩ ∧ c + 4 ≤ c' ∧ Fresh h' c' ∧ Kp h h' c (fun _ => False) ∧ LookAt h' c n st.f st.s st.d ∧ LGood mt G qs n st ∧ lookN mt G qs l n k1 st = lookH mt G qs l fs n ∧ st.d.length + k1 = G.M.length + 1 ∧ Lg c R rl' ∧ Lg c (fun _ => False) wl') (G.M.length + 1) K74 [(0, _), (1, _), (2, _), (11, _), (12, _), (13, _)] ⟨_, startG mt G.M qs n fs, _, _, _, _, rfl, rfl, hcc, hf2, hkp2, hL, LGood.start hfm, rfl, by show 0 + _ = _; omega, hlr2, hlw2⟩ ?_
 rintro k1 e s ⟨g, st, h2, c2, r2, w2, rfl, rfl, hcc, hf2, hkp2, hL, hgd, hlk, hdk, hlr2, hlw2⟩
 (refine Wx.sw (by simp only [K74, frN, frC, updN, updC, Nat.reduceEqDiff, ↓reduceIte]; rfl) ?_)
 have hfn := hgd.f.len
 obtain ⟨lv, x1, x2, x3, ⟨es, en, ids, x4, x4k, x4v⟩, x5, x6⟩ := hL
 have lbl : ∀ b, blkOf lv = some b → b < c2 := by
  rcases x2 with ⟨rfl, _⟩ | ⟨bl, cap, cs, rfl, _, _, gb, _⟩
  ·intro b hb; cases hb
  ·intro b hb; cases hb; exact gb.lt hf2
 have l4 := x4.lt hf2
 have l5 := x5.lt hf2
 have l6 := x6.lt hf2
 refine Zgo ?_
 refine Wseq.call rfl rfl (all_spec stdQ Zfr x1 x2 (by have : st.f.length ≤ n := hfn; omega)) ?_
 rintro v3 h3 c3 r3 w3 ⟨⟨y1, y2⟩, hext3⟩
 have fr3 := hext3.fresh
 have le3 := hext3.c
 simp only at fr3 le3
 have kp3 := Kp.ext (W := fun _ => False) (h := h2) (c := c2) Zkp hext3 (by omega) (fun _ _ q => q)
 have lr3 := Lg.extR (R := R) (c := c) Zlg hext3 (fun b hb q => q.elim (fun q => by omega) (fun q => by have := x3 b q; omega))
 have lw3 := Lg.extW (W := fun _ => False) (c := c) Zlg hext3 (fun _ _ q => q)
 obtain ⟨oh, ch, rfl, hch, hrow⟩ := y1.row
 refine Zgo ?_
 refine Wseq.call rfl rfl (gids_spec Zfr hrow (by have : st.f.length ≤ n := hfn; omega) (fun b => c2 ≤ b) y2) ?_
 rintro v4 h4 c4 r4 w4 ⟨hI, hext4⟩
 have fr4 := hext4.fresh
 have le4 := hext4.c
 simp only at fr4 le4
 have kp4 := Kp.ext (W := fun _ => False) (h := h2) (c := c2) kp3 hext4 (by omega) (fun _ _ q => q)
 have lr4 := Lg.extR (R := R) (c := c) Zlg hext4 (fun b hb q => by omega)
 have lw4 := Lg.extW (W := fun _ => False) (c := c) Zlg hext4 (fun _ _ q => q)
 obtain ⟨oi, rfl, hir, hib⟩ := hI.val
 have hls : (st.f.map Ht.id).length = st.f.length := List.length_map _
 have hfn2 : st.f.length ≤ n := hfn
 refine Zgo ?_
 refine Wseq.call rfl rfl (gidx_spec Zfr (fun x => decide (x ∉ st.d)) hir (by omega) (fun b => c ≤ b) (fun b hb => by have := hib b hb; show c ≤ b; omega) (fun h' c' rl' wl' f' hc' k' x hx => look1_spec f' ((k' _ (by omega) (fun q => q)).trans ((kp4 _ l5 (fun q => q)).trans x5)) (x6.keep ((k' _ (by omega) (fun q => q)).trans (kp4 _ l6 (fun q => q)))) x _ (by show c ≤ c + 3; omega) (by show c ≤ c + 2; omega))) ?_
 rintro v5 h5 c5 r5 w5 ⟨hix, hext5⟩
 have fr5 := hext5.fresh
 have le5 := hext5.c
 simp only at fr5 le5
 have kp5 := Kp.ext (W := fun _ => False) (h := h2) (c := c2) kp4 hext5 (by omega) (fun _ _ q => q)
 have kpc : Kp h h5 c (fun _ => False) := fun b hb _ => (kp5 b (by omega) (fun q => q)).trans (hkp2 b hb (fun q => q))
 have lr5 := Lg.extR (R := R) (c := c) Zlg hext5 (fun b hb q => by omega)
 have lw5 := Lg.extW (W := fun _ => False) (c := c) Zlg hext5 (fun _ _ q => q)
 have hI5 : IRow h5 c3 _ (st.f.map Ht.id) := hI.keep fun b hb => hext5.h b (hI.lt fr4 b hb) (fun q => q)
 rcases hix with ⟨i, x, ix1, ix2, ix3, rfl⟩ | ⟨rfl, hno⟩
 rotate_left
 ·have hnone : nextG st = none := nextG_none fun y hy => by simpa using hno y hy
  refine Zgo ?_
  refine ⟨.inr rfl, Wres.one rfl ⟨?_, Zex⟩⟩
  unfold lookG
  rw [← hlk, lookN_end hnone]
  exact hI5.low (by omega)
 obtain ⟨xh, hnx, hxid, hxf⟩ := nextG_at ix1 (by simpa using ix2) (fun y hy => by simpa using ix3 y hy)
 obtain ⟨hi, _⟩ := List.getElem?_eq_some_iff.1 ix1
 obtain ⟨r0, hr0⟩ := hgd.f.mem xh (nextG_some hnx).1
 rw [hxid] at hr0
 have q5 : GrO h5 p m mt dim G U ow := q.keep hf (fun b _ hb => kpc b hb (fun q => q))
 have hp5 := q5.ptr
 obtain ⟨lp, lm⟩ := q.lt hf
 have hpR := hUR p q.pU
 have hmR := hUR m q.mU
 obtain ⟨es1, n1, vi, nb, vv, ls, hm5, ⟨ids1, hk1⟩, hfit, hfi, hn5, hid5⟩ := q5.at hr0
 have lnb : nb < c := by
  obtain ⟨es0, n0, vi0, nb0, vv0, ls0, hm0, _, _, hfi0, hn0, _⟩ := q.at hr0
  have e1 : Has h5 m (.map es0 n0) := (kpc m lm (fun q => q)).trans hm0
  have e2 := hm5.symm.trans e1
  simp only [Option.some.injEq, AObj.map.injEq] at e2
  rw [e2.1, hfi0] at hfi
  simp only [Option.some.injEq, Prod.mk.injEq, Value.pointer.injEq, Addr.mk.injEq] at hfi
  rw [← hfi.2.1]
  exact hn0.at_.lt hf
 have rnb := hUR nb hn5.u
 have hnb := hn5.at_
 have hlk5 := hn5.lk l (by omega)
 have hol5 := hn5.ol l (by omega)
 rw [hid5] at hlk5
 obtain ⟨ol, cl, hlv⟩ := hlk5.val
 have lol : ∀ b, blkOf (ls l) = some b → b < c := by
  obtain ⟨es0, n0, vi0, nb0, vv0, ls0, hm0, _, _, hfi0, hn0, hid0⟩ := q.at hr0
  have e1 : Has h5 m (.map es0 n0) := (kpc m lm (fun q => q)).trans hm0
  have e2 := hm5.symm.trans e1
  simp only [Option.some.injEq, AObj.map.injEq] at e2
  rw [e2.1, hfi0] at hfi
  simp only [Option.some.injEq, Prod.mk.injEq, Value.pointer.injEq, Addr.mk.injEq] at hfi
  have e3 : Has h5 nb (.cells (nodeC vv0 r0.seq ls0)) := by rw [← hfi.2.1]; exact (kpc nb0 (hn0.at_.lt hf) (fun q => q)).trans hn0.at_
  have e4 := hnb.symm.trans e3
  have e5 : ls l = ls0 l := by
   have e6 : nth (nodeC vv r0.seq ls) (0 + 2 + l * 1) = nth (nodeC vv0 r0.seq ls0) (0 + 2 + l * 1) := by rw [AObj.cells.inj (Option.some.inj e4)]
   rw [node_nth (by omega), node_nth (by omega)] at e6
   exact Option.some.inj e6
  rw [e5]
  exact (hn0.lk l (by omega)).lt hf
 rw [hlv] at lol hol5 hlk5
 have x55 : Has h5 (c + 3) (.cells [.map (some (c + 2))]) := (kp5 _ l5 (fun q => q)).trans x5
 obtain ⟨esd, nd, idd, z1, z2, z3⟩ := x6.keep (kp5 _ l6 (fun q => q))
 have hir5 : Row h5 (.slice oi (st.f.map Ht.id).length (st.f.map Ht.id).length) (st.f.map Ht.id).length 1 ((st.f.map Ht.id).map (Value.int .i64)) := by
  obtain ⟨_, e, g5, _⟩ := hI5.val
  exact g5
 obtain ⟨b1, o1, sp1, cs1, rfl, hc1, hn1⟩ := rowCell hir5 (j := i * 1) (by omega) (int_nth ix1)
 have hb1 := hib b1 rfl
 have l1 := hc1.lt fr5
 have hwf := q.wf hr0
 refine Zgo ?_
 refine Zq (to_indexAddr (k := i) el45 rfl rfl rfl hi) ?_
 refine Zd (to_load (pl_ rfl) rfl hc1 (by omega) hn1) ?_
 refine Wtr.op (s1 := ⟨h5.set (c + 2) (some (.map (putI .i64 x (.bool true) nd esd).1 (putI .i64 x (.bool true) nd esd).2)), c5, [c + 2], [c + 2]⟩) rfl (to_mapUpdate (mi_ rfl) rfl rfl rfl z1 (z1.lt fr5) z2.ks) ?_ ?_
 ·exact Zap
 dsimp only [put]
 refine Zgo ?_
 refine Zq (to_indexAddr (k := i) el45 rfl rfl rfl hi) ?_
 refine Zd (to_load (pl_ rfl) rfl (hc1.other (by omega)) (by omega) hn1) ?_
 refine Zgo ?_
 refine Zd (to_lookup (mi_ rfl) (ze_ rfl) rfl rfl (hm5.other (by omega)) (by omega) hk1.ks (by rw [hfi])) ?_
 refine Zgo ?_
 refine Zq (to_indexAddrA (k := l) ar110 rfl rfl rfl (by omega)) ?_
 refine Zd (to_load (pl_ rfl) rfl (hnb.cel.other (by omega)) (by omega) (node_nth (by omega))) ?_
 rw [hlv]
 refine Zgo ?_
 have kp6 : ∀ b, b < c2 → b ≠ c + 2 → (h5.set (c + 2) (some (.map (putI .i64 x (.bool true) nd esd).1 (putI .i64 x (.bool true) nd esd).2))).get b = h2.get b := fun b hb hne => (get_other hne).trans (kp5 b hb (fun q => q))
 have hLA : LookAt (h5.set (c + 2) (some (.map (putI .i64 x (.bool true) nd esd).1 (putI .i64 x (.bool true) nd esd).2))) c n st.f st.s (x :: st.d) :=
  ⟨lv, (kp6 _ (x1.lt hf2) (by omega)).trans x1, x2.keep fun b hb => kp6 b (lbl b hb) (by have := x3 b hb; omega), x3, ⟨_, _, _, (kp6 _ l4 (by omega)).trans x4, x4k, x4v⟩, Has.other (by omega) x55, ⟨_, _, _, Has.same, z2.put hwf _, fun y => set_put z2 z3 _ y⟩⟩
 have hgd2 := hgd.step (l := l) hnx (q.mem xh.id l)
 have hlen2 := hgd2.len
 have hdl : (stepG mt G qs l n st xh).d.length = st.d.length + 1 := rfl
 obtain ⟨k1, rfl⟩ : ∃ k, k1 = k + 1 := ⟨k1 - 1, by omega⟩
 rw [lookN_step hnx] at hlk
 have hlen : (G.L x l).length ≤ 800 := by
  have := nodup_len (a := G.L x l) (b := G.M.map Rc.id) ((q.up x l).imp fun h => by omega) fun y hy => by
   obtain ⟨r, hr⟩ := q.mem x l y hy
   obtain ⟨g1, g2⟩ := getM_mem hr
   exact List.mem_map.2 ⟨r, g1, g2⟩
  rw [List.length_map] at this; omega
 refine Wx.loopF (fun k2 e s => ∃ (g : Nat → Value) (j : Nat) (z : Int) (h' : T AObj) (c' : Nat) (rl' wl' : List Nat), e = fr g [(0, .pointer (some ⟨p, 0, none⟩)), (1, .slice qa dim qc), (2, .int .i64 (l : Int)), (11, .pointer (some ⟨c, 0, none⟩)), (12, .map (some (c + 1))), (13, .pointer (some ⟨c + 3, 0, none⟩)), (66, .slice ol (G.L x l).length cl), (67, .int .i64 ((G.L x l).length : Int)), (68, .int .i64 z)] K74 ∧ z = j ∧ s = ⟨h', c', rl', wl'⟩ ∧ c + 4 ≤ c' ∧ Fresh h' c' ∧ Kp h h' c (fun _ => False) ∧ LookAt h' c n (((G.L x l).take j).foldl (seeG mt G.M qs n) (st.f, st.s)).1 (((G.L x l).take j).foldl (seeG mt G.M qs n) (st.f, st.s)).2 (x :: st.d) ∧ Lg c R rl' ∧ Lg c (fun _ => False) wl' ∧ j ≤ (G.L x l).length ∧ k2 = (G.L x l).length - j) (G.L x l).length K74 [(0, _), (1, _), (2, _), (11, _), (12, _), (13, _), (66, _), (67, _), (68, .int .i64 0)] ⟨_, 0, 0, _, _, _, _, rfl, rfl, rfl, by omega, Zfr, fun b hb _ => (get_other (by omega)).trans (kpc b hb (fun q => q)), hLA, Zlg, Zlg, by omega, rfl⟩ ?_
 rintro k2 e s ⟨g, j, z, h', c', rl', wl', rfl, hz, rfl, hcc', hf', hkp, hL, hlr, hlw, hid, rfl⟩
 (refine Wx.sw (by simp only [K74, frN, frC, updN, updC, Nat.reduceEqDiff, ↓reduceIte]; rfl) ?_)
 by_cases hj : j < (G.L x l).length
 rotate_left
 ·refine Zgo ?_
  obtain rfl : j = (G.L x l).length := by omega
  rw [List.take_length] at hL
  refine RoundE.goF k1 K74 [(0, _), (1, _), (2, _), (11, _), (12, _), (13, _)] (by omega) ⟨_, stepG mt G qs l n st xh, _, _, _, _, rfl, rfl, hcc', hf', hkp, ?_, hgd2, hlk, by rw [hdl]; omega, hlr, hlw⟩
  unfold stepG
  rw [hxid]
  exact hL
 have hgood : FGood mt G.M qs n (((G.L x l).take j).foldl (seeG mt G.M qs n) (st.f, st.s)) := hgd.f.seeAll fun y hy => q.mem x l y (List.mem_of_mem_take hy)
 have hst := foldl_take (seeG mt G.M qs n) (st.f, st.s) hj
 obtain ⟨ry, hry⟩ := q.mem x l _ (List.getElem_mem hj)
 have hwfy := q.wf hry
 generalize hFS : ((G.L x l).take j).foldl (seeG mt G.M qs n) (st.f, st.s) = FS at hL hgood hst
 obtain ⟨bl, ol', spl, csl, rfl, hcl, hnl⟩ := rowCell (hlk5.keep (h' := h') (fun b hb => (hkp b (lol b hb) (fun q => q)).trans (kpc b (lol b hb) (fun q => q)).symm)).row (j := j * 1) (by omega) (int_nth (List.getElem?_eq_getElem hj))
 have hRl := hUR bl (hol5 bl rfl).1
 have ll := lol bl rfl
 obtain ⟨lv', u1, u2, u3, ⟨es', en', ids', u4, u4k, u4v⟩, u5, u6⟩ := hL
 have l4' := u4.lt hf'
 refine Zgo ?_
 refine Zu (to_indexAddr (k := j) el45 rfl rfl hz (by omega)) ?_
 refine Zu (to_load (pl_ rfl) rfl hcl (by omega) hnl) ?_
 refine Zgo ?_
 refine Zu (to_lookup (mi_ rfl) (ze_ rfl) rfl rfl u4 l4' u4k.ks (set_look u4v _)) ?_
 by_cases hs : (G.L x l)[j] ∈ FS.2
 ·rw [decide_eq_true hs]
  refine Zgo ?_
  refine RoundE.goF ((G.L x l).length - (j + 1)) K74 [(0, _), (1, _), (2, _), (11, _), (12, _), (13, _), (66, _), (67, _), (68, .int .i64 (z + 1))] (by omega) ⟨_, j + 1, z + 1, _, _, _, _, rfl, by omega, rfl, by omega, hf', hkp, ?_, Zlg, Zlg, by omega, rfl⟩
  rw [hst]
  unfold seeG
  rw [if_pos hs]
  exact ⟨lv', u1, u2, u3, ⟨_, _, _, u4, u4k, u4v⟩, u5, u6⟩
 rw [decide_eq_false hs]
 refine Zgo ?_
 refine Wseq.st0 (to_mapUpdate (mi_ rfl) rfl rfl rfl u4 l4' u4k.ks) ?_
 refine Zgo ?_
 have kA : ∀ b, b < c → (h'.set (c + 1) (some (.map (putI .i64 (G.L x l)[j] (.bool true) en' es').1 (putI .i64 (G.L x l)[j] (.bool true) en' es').2))).get b = h.get b := fun b hb => (get_other (by omega)).trans (hkp b hb (fun q => q))
 refine Wseq.call rfl rfl (ghit_spec Zfr (GrM.keep ⟨ow, q⟩ hf (fun b _ hb => kA b hb)) hmt (Row.keepF hq hf kA) hqn hqb hd hry R hUR hqR) ?_
 rintro v7 h7 c7 r7 w7 ⟨rfl, hext7⟩
 have fr7 := hext7.fresh
 have le7 := hext7.c
 simp only at fr7 le7
 have kp7 := Kp.ext (W := fun _ => False) (h := h) (c := c) Zkp hext7 (by omega) (fun _ _ q => q)
 have lr7 := Lg.extR (R := R) (c := c) Zlg hext7 (fun _ _ q => q)
 have lw7 := Lg.extW (W := fun _ => False) (c := c) Zlg hext7 (fun _ _ q => q)
 have lbl' : ∀ b, blkOf lv' = some b → b < c' := by
  rcases u2 with ⟨rfl, _⟩ | ⟨bl, cap, cs, rfl, _, _, gb, _⟩
  ·intro b hb; cases hb
  ·intro b hb; cases hb; exact gb.lt hf'
 have hL2 : LookAt h7 c n FS.1 ((G.L x l)[j] :: FS.2) (x :: st.d) := by
  have e1 : ∀ b, b < c' → b ≠ c + 1 → h7.get b = h'.get b := fun b hb hne => (hext7.h b hb (fun q => q)).trans (get_other hne)
  refine ⟨lv', (e1 c (by omega) (by omega)).trans u1, u2.keep fun b hb => e1 b (lbl' b hb) (by have := u3 b hb; omega), u3, ⟨_, _, _, (hext7.h (c + 1) l4' (fun q => q)).trans Has.same, u4k.put hwfy _, fun x => set_put u4k u4v _ x⟩, (e1 _ (u5.lt hf') (by omega)).trans u5, u6.keep (e1 _ (u6.lt hf') (by omega))⟩
 refine Zgo ?_
 refine Wseq.call rfl rfl (found_spec Zfr hL2 (by have := hgood.len; omega) hn (hitG mt G.M qs (G.L x l)[j])) ?_
 rintro v8 h8 c8 r8 w8 ⟨hL8, hext8⟩
 have fr8 := hext8.fresh
 have le8 := hext8.c
 simp only at fr8 le8
 have kp8 := Kp.ext (W := fun _ => False) (h := h) (c := c) kp7 hext8 (by omega) (fun b hb q => by omega)
 have lr8 := Lg.extR (R := R) (c := c) Zlg hext8 (fun b hb q => by omega)
 have lw8 := Lg.extW (W := fun _ => False) (c := c) Zlg hext8 (fun b hb q => by omega)
 refine Zgo ?_
 refine RoundE.goF ((G.L x l).length - (j + 1)) K74 [(0, _), (1, _), (2, _), (11, _), (12, _), (13, _), (66, _), (67, _), (68, .int .i64 (z + 1))] (by omega) ⟨_, j + 1, z + 1, _, _, _, _, rfl, by omega, rfl, by omega, fr8, kp8, ?_, lr8, lw8, by omega, rfl⟩
 rw [hst]
 unfold seeG
 rw [if_neg hs]
 exact hL8
end
end Go.Ab.Seat
