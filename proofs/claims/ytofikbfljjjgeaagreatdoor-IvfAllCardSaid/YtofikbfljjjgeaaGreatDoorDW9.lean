/- The reference's middles (the abstract machine). -/
import Derived.Test.YtofikbfljjjgeaaGreatDoorDW8
import Derived.Test.YtofikbfljjjgeaaGreatDoorDW0
set_option linter.unusedVariables false
set_option linter.unusedSimpArgs false
namespace Go.Ab.Seat
open Go.Extern Go.Proofs
set_option maxRecDepth 4000
def K98 : List Nat := [0, 1, 2, 6, 7, 8, 9, 10, 11, 12, 13, 14, 15, 16, 17, 18, 19, 35, 39, 40, 41, 57, 68, 75, 76, 77, 90, 91, 92, 101, 102, 103, 110, 122, 141, 142, 143, 146]
theorem vec_nth {zs : List Int} {j : Nat} (hj : j < zs.length) : (zs.map (Value.int .i32))[j * 1]? = some (.int .i32 (zs.getD j 0)) := by
 rw [Nat.mul_one, List.getElem?_map, List.getD_eq_getElem?_getD, List.getElem?_eq_getElem hj]; rfl
theorem kind_ne {h : T AObj} {x y n i : Nat} {zs : List Int} {f g : Nat → Int} (h1 : Has h x (.cells (zs.map (Value.int .i32)))) (h2 : Has h y (.cells (mixK .i64 f g n i))) (hz : 1 ≤ zs.length) : x ≠ y := by
 rintro rfl
 have e := h1.symm.trans h2
 simp only [Option.some.injEq, AObj.cells.injEq] at e
 have e0 : (zs.map (Value.int .i32))[0]? = (mixK .i64 f g n i)[0]? := by rw [e]
 have hl := congrArg List.length e
 rw [List.length_map, mixK_len] at hl
 rw [List.getElem?_map, List.getElem?_eq_getElem (by omega), mixK_at (by omega)] at e0
 simp at e0
set_option maxHeartbeats 16000000 in
theorem rmiddles_spec {h : T AObj} {c : Nat} {rl wl : List Nat} (hf : Fresh h c) {N tt : Nat} (hN1 : 1 ≤ N) (hN : N ≤ 12) (hT : tt ≤ 10) {v : Value} {dim : Nat} {vs : List (List Int)} {U0 : Nat → Prop} (hm0 : MRow h v dim vs U0) (hn : vs.length ≤ 1000) (hd1 : 1 ≤ dim) (hd : dim ≤ 1000) (R : Nat → Prop) (hUR0 : ∀ b, U0 b → R b) :
  ∃ r s', FnTo (Cs smQ) eg 98 [.int .i64 (N : Int), .int .i64 (tt : Int), v] ⟨h, c, rl, wl⟩ r s' ∧ GRow s'.h r dim (midsZ N vs tt) (fun b => c ≤ b ∧ b < s'.c) ∧ Ext ⟨h, c, rl, wl⟩ s' R (fun _ => False) := by
 have hm := hm0.bound hf hd1
 have hvok := hm0.vok
 generalize hU : (fun b => U0 b ∧ b < c) = U at hm
 have hUR : ∀ b, U b → R b := fun b hb => by subst hU; exact hUR0 b hb.1
 have hUc : ∀ b, U b → b < c := fun b hb => by subst hU; exact hb.2
 clear hU hm0 hUR0
 have hNN : max (1 : Int) (min (N : Int) 16) = N := by omega
 have hTT : max (0 : Int) (min (tt : Int) 10) = tt := by omega
 obtain ⟨oa, cap, rfl⟩ := hm.val
 have hbg : big = 1048576 := rfl
 refine Fn.go (stdQ 98 rfl) ex98 fn98 km98 rfl rfl ?_
 refine Zev ?_
 refine Zgo ?_
 rw [hNN, hTT]
 refine Wx.cutO (fun e s => ∃ (g : Nat → Value) (lv : Value) (h' : T AObj) (c' : Nat) (rl' wl' : List Nat), e = fr g [(0, .int .i64 (N : Int)), (1, .int .i64 (tt : Int)), (2, .slice oa vs.length cap), (6, .slice none 0 0), (7, lv)] K98 ∧ s = ⟨h', c', rl', wl'⟩ ∧ c ≤ c' ∧ Fresh h' c' ∧ Kp h h' c (fun _ => False) ∧ MG h' c lv dim (fstM N vs) ∧ Lg c R rl' ∧ Lg c (fun _ => False) wl') Zrs ?_ ?_
 ·refine Wx.loopF (fun k1 e s => ∃ (g : Nat → Value) (lv : Value) (i : Nat) (z : Int) (h' : T AObj) (c' : Nat) (rl' wl' : List Nat), e = fr g [(0, .int .i64 (N : Int)), (1, .int .i64 (tt : Int)), (2, .slice oa vs.length cap), (6, .slice none 0 0), (7, lv), (8, .int .i64 z)] K98 ∧ z = i ∧ s = ⟨h', c', rl', wl'⟩ ∧ c ≤ c' ∧ Fresh h' c' ∧ Kp h h' c (fun _ => False) ∧ MG h' c lv dim (fstM N (vs.take i)) ∧ Lg c R rl' ∧ Lg c (fun _ => False) wl' ∧ i ≤ vs.length ∧ k1 = vs.length - i) vs.length K98 [(0, _), (1, _), (2, _), (6, _), (7, .slice none 0 0), (8, .int .i64 0)] ⟨_, _, 0, 0, _, _, _, _, rfl, rfl, rfl, Nat.le_refl _, Zfr, Zkp, .inl ⟨rfl, rfl⟩, Zlg, Zlg, by omega, rfl⟩ ?_
  rintro k1 e s ⟨g, lv, i, z, h', c', rl', wl', rfl, hz, rfl, hcc, hf', hkp, hG, hlr, hlw, hid, rfl⟩
  (refine Wx.sw (by simp only [K98, frN, frC, updN, updC, Nat.reduceEqDiff, ↓reduceIte]; rfl) ?_)
  have hst := fun hi => fstM_take (n := N) (vs := vs) (k := i) hi
  have hok := fstM_ok (n := N) hvok i hid
  have hfull := fstM_full (n := N) (i := i) (vs := vs)
  have hlast : i = vs.length → fstM N vs = fstM N (vs.take i) := fun e => by rw [e, List.take_length]
  generalize fstM N (vs.take i) = mm at hG hst hok hfull hlast
  obtain ⟨om, rfl⟩ := hG.val
  by_cases hi : i < vs.length
  rotate_left
  ·refine Zgo ?_
   have hG : MG h' c (.slice om mm.length mm.length) dim (fstM N vs) := by rw [hlast (by omega)]; exact hG
   exact CutQ.goF K98 [(0, _), (1, _), (2, _), (6, _), (7, _)] ⟨_, _, _, _, _, _, rfl, rfl, hcc, hf', hkp, hG, hlr, hlw⟩
  have hst := hst hi
  generalize hmm1 : fstM N (vs.take (i + 1)) = mm1 at hst
  by_cases hlN : mm.length < N
  rotate_left
  ·refine Zgo ?_
   have hG : MG h' c (.slice om mm.length mm.length) dim (fstM N vs) := by rw [hfull (by omega)]; exact hG
   exact CutQ.goF K98 [(0, _), (1, _), (2, _), (6, _), (7, _)] ⟨_, _, _, _, _, _, rfl, rfl, hcc, hf', hkp, hG, hlr, hlw⟩
  have hm' := hm.keep hf (fun _ q => q) (fun b _ hb _ => hkp b hb (fun q => q))
  obtain ⟨g1, g2, b, sp, vals, a, k, rfl, g4, g5, g6, g7, g8⟩ := hm'.at (List.getElem?_eq_getElem hi)
  have lb := g5.lt hf'
  have rb := hUR b g4
  have hGm := hG.mrow
  refine Zgo ?_
  refine Wx.cutO (fun e s => ∃ (g : Nat → Value) (rl' wl' : List Nat), e = fr g [(0, .int .i64 (N : Int)), (1, .int .i64 (tt : Int)), (2, .slice (some ⟨b, 0, sp⟩) vs.length cap), (6, .slice none 0 0), (7, .slice om mm.length mm.length), (8, .int .i64 z), (9, .bool (decide (vs[i] ∈ mm)))] K98 ∧ s = ⟨h', c', rl', wl'⟩ ∧ Lg c R rl' ∧ Lg c (fun _ => False) wl') Zrs ?_ ?_
  ·refine Wx.loopF (fun k1 e s => ∃ (g : Nat → Value) (j : Nat) (z2 : Int) (rl' wl' : List Nat), e = fr g [(0, .int .i64 (N : Int)), (1, .int .i64 (tt : Int)), (2, .slice (some ⟨b, 0, sp⟩) vs.length cap), (6, .slice none 0 0), (7, .slice om mm.length mm.length), (8, .int .i64 z), (9, .bool (decide (vs[i] ∈ mm.take j))), (39, .int .i64 (mm.length : Int)), (40, .int .i64 z2)] K98 ∧ z2 = j ∧ s = ⟨h', c', rl', wl'⟩ ∧ Lg c R rl' ∧ Lg c (fun _ => False) wl' ∧ j ≤ mm.length ∧ k1 = mm.length - j) mm.length K98 [(0, _), (1, _), (2, _), (6, _), (7, _), (8, _), (9, .bool (decide (vs[i] ∈ mm.take 0))), (39, _), (40, .int .i64 0)] ⟨_, 0, 0, _, _, rfl, rfl, rfl, Zlg, Zlg, by omega, rfl⟩ ?_
   rintro k1 e s ⟨g, j, z2, rl2, wl2, rfl, hz2, rfl, hlr2, hlw2, hj, rfl⟩
   (refine Wx.sw (by simp only [K98, frN, frC, updN, updC, Nat.reduceEqDiff, ↓reduceIte]; rfl) ?_)
   by_cases hjl : j < mm.length
   ·have hts := List.take_succ_eq_append_getElem hjl
    obtain ⟨p1, p2, bm, spm, valm, am, km, rfl, p4, p5, p6, p7, p8⟩ := hGm.at (List.getElem?_eq_getElem hjl)
    have lbm := p5.lt hf'
    by_cases hin : vs[i] ∈ mm.take j
    ·have hin2 : vs[i] ∈ mm.take (j + 1) := by rw [hts]; exact List.mem_append_left _ hin
     rw [decide_eq_true hin]
     refine Zgo ?_
     exact RoundE.goF (mm.length - (j + 1)) K98 [(0, _), (1, _), (2, _), (6, _), (7, _), (8, _), (9, .bool true), (39, _), (40, .int .i64 (z2 + 1))] (by omega) ⟨_, j + 1, z2 + 1, _, _, by rw [decide_eq_true hin2], by omega, rfl, Zlg, Zlg, by omega, rfl⟩
    ·have hin2 : decide (mm[j] = vs[i]) = decide (vs[i] ∈ mm.take (j + 1)) := decide_eq_decide.2 (by
      rw [hts, List.mem_append, List.mem_singleton]
      exact ⟨fun e => .inr e.symm, fun q => q.elim (fun q => absurd q hin) Eq.symm⟩)
     rw [decide_eq_false hin]
     refine Zgo ?_
     refine Zq (to_indexAddr (k := j) el22 rfl rfl hz2 hjl) ?_
     refine Zd (to_load (pl_ rfl) rfl p5.cel (by omega) p6) ?_
     refine Zgo ?_
     refine Zq (to_indexAddr (k := i) el22 rfl rfl hz hi) ?_
     refine Zd (to_load (pl_ rfl) rfl g5.cel (by omega) g6) ?_
     refine Wtr.call rfl rfl (reqvec_spec Zfr p1 g1 p7 g7 hd (fun b => c ≤ b ∨ R b) (fun x hx => hx.elim (fun q => .inl (p8 x q)) (fun q => .inr (hUR x (g8 x q))))) ?_
     rintro v1 hA c1 r1 w1 ⟨⟨rfl, e1, e2⟩, hext⟩
     simp only at e1 e2
     have hqt := hext.quiet (fun _ _ q => q)
     have lr := Lg.extR (R := R) (c := c) Zlg hext (fun b hb q => q.elim (fun q => by omega) (fun q => q))
     have lw := Lg.extW (W := fun _ => False) (c := c) Zlg hext (fun _ _ q => q)
     subst e1 e2
     refine ⟨Zap, ?_⟩
     rw [hin2]
     refine Zgo ?_
     exact RoundE.goF (mm.length - (j + 1)) K98 [(0, _), (1, _), (2, _), (6, _), (7, _), (8, _), (9, _), (39, _), (40, .int .i64 (z2 + 1))] (by omega) ⟨_, j + 1, z2 + 1, _, _, rfl, by omega, rfl, Zlg, Zlg, by omega, rfl⟩
   ·refine Zgo ?_
    have e9 : decide (vs[i] ∈ mm.take j) = decide (vs[i] ∈ mm) := by rw [List.take_of_length_le (by omega)]
    rw [e9]
    exact CutQ.goF K98 [(0, _), (1, _), (2, _), (6, _), (7, _), (8, _), (9, _)] ⟨_, _, _, rfl, rfl, Zlg, Zlg⟩
  ·rintro e s ⟨g, rl2, wl2, rfl, rfl, hlr2, hlw2⟩
   (refine Wx.sw (by simp only [K98, frN, frC, updN, updC, Nat.reduceEqDiff, ↓reduceIte]; rfl) ?_)
   by_cases hin : vs[i] ∈ mm
   ·rw [decide_eq_true hin]
    refine Zgo ?_
    have e1 : mm1 = mm := by rw [hst]; unfold addM; rw [if_neg (fun q => q.2 hin)]
    exact RoundE.goF (vs.length - (i + 1)) K98 [(0, _), (1, _), (2, _), (6, _), (7, _), (8, .int .i64 (z + 1))] (by omega) ⟨_, _, i + 1, z + 1, _, _, _, _, rfl, by omega, rfl, by omega, Zfr, Zkp, by rw [hmm1, e1]; exact hG, Zlg, Zlg, by omega, rfl⟩
   ·rw [decide_eq_false hin]
    have e1 : mm1 = mm ++ [vs[i]] := by rw [hst]; unfold addM; rw [if_pos ⟨hlN, hin⟩]
    refine Zgo ?_
    refine Zu (to_indexAddr (k := i) el22 rfl rfl hz hi) ?_
    refine Zu (to_load (pl_ rfl) rfl g5.cel (by omega) g6) ?_
    refine Wseq.call rfl rfl (copyVec_spec Zfr g7 hd1 (by omega) R (fun b q => hUR b (g8 b q))) ?_
    rintro v1 hA c1 r1 w1 ⟨⟨rfl, e2, hcv⟩, hext⟩
    simp only at e2 hcv
    subst e2
    have frA := hext.fresh
    simp only at frA
    have kpA := Kp.ext (W := fun _ => False) (h := h) (c := c) hkp hext (by omega) (fun _ _ q => q)
    have lr := Lg.extR (R := R) (c := c) Zlg hext (fun _ _ q => q)
    have lw := Lg.extW (W := fun _ => False) (c := c) Zlg hext (fun _ _ q => q)
    have kA : ∀ b, b < c' → hA.get b = h'.get b := fun b hb => hext.get hb (fun q => q)
    rcases hG with ⟨e3, rfl⟩ | ⟨bl, bs, e3, hne, hbl1, hbc, hbl, hnd, hb7, hb8⟩
    ·simp only [Value.slice.injEq] at e3
     obtain ⟨rfl, _, _⟩ := e3
     refine Zgo ?_
     refine Zu (to_appNil ro22 sl22 rfl rfl (k := 0) Has.same.cel (by omega) (subN_all _ _ rfl) (by omega) Zfr) ?_
     refine Zgo ?_
     refine RoundE.goF (vs.length - (i + 1)) K98 [(0, _), (1, _), (2, _), (6, _), (7, _), (8, .int .i64 (z + 1))] (by omega) ⟨_, _, i + 1, z + 1, _, _, _, _, rfl, by omega, rfl, by omega, Zfr, Zkp, ?_, Zlg, Zlg, by omega, rfl⟩
     rw [hmm1, e1]
     exact MG.push (ms := []) (bs := []) (x := c') (b' := c' + 2) (c := c') hf' rfl List.nodup_nil (fun y hy => by cases hy) (fun i zs h => by cases h) g1 g2 Zhs (Nat.le_refl _) hcc (by omega) (by omega) Has.same
    ·simp only [Value.slice.injEq] at e3
     obtain ⟨rfl, _, _⟩ := e3
     have l3 := hbc.lt hf'
     have hbcA := (kA bl l3).trans hbc
     refine Zgo ?_
     refine Zu (to_appOwn ro22 sl22 rfl rfl (k := 0) Has.same.cel (by omega) (subN_all _ _ rfl) (by omega) (by omega) (Has.other (by omega) hbcA) (by omega) (subN_all _ _ (by rw [List.length_map, hbl]; omega)) (all_cons rfl all_nil) Zfr) ?_
     refine Zgo ?_
     refine RoundE.goF (vs.length - (i + 1)) K98 [(0, _), (1, _), (2, _), (6, _), (7, _), (8, .int .i64 (z + 1))] (by omega) ⟨_, _, i + 1, z + 1, _, _, _, _, rfl, by omega, rfl, by omega, Zfr, Zkp, ?_, Zlg, Zlg, by omega, rfl⟩
     rw [hmm1, e1]
     refine MG.push (ms := mm) (bs := bs) (x := c') (b' := c' + 2) (c := c') hf' hbl hnd (fun y hy => ⟨(hb7 y hy).1, ?_⟩) (fun i zs h9 => ?_) g1 g2 Zhs (Nat.le_refl _) hcc (by omega) (by omega) Has.same
     ·obtain ⟨q1, q2⟩ := List.mem_iff_getElem?.1 hy
      have q3 := (List.getElem?_eq_some_iff.1 q2).1
      obtain ⟨_, _, x, q4, q5⟩ := hb8 q1 (mm[q1]'(by omega)) (List.getElem?_eq_getElem (by omega))
      rw [q2] at q4; cases q4
      exact q5.lt hf'
     ·obtain ⟨q1, q2, x, q3, q4⟩ := hb8 i zs h9
      have q5 := q4.lt hf'
      have q6 := (hb7 x (List.mem_of_getElem? q3)).2
      exact ⟨q1, q2, x, q3, Has.other (by omega) (Has.other (by omega) (Has.other (by omega) ((kA x q5).trans q4)))⟩
 ·rintro e s ⟨g, lv, h1, c1, rl1, wl1, rfl, rfl, hcc1, hf1, hkp1, hG1, hlr1, hlw1⟩
  (refine Wx.sw (by simp only [K98, frN, frC, updN, updC, Nat.reduceEqDiff, ↓reduceIte]; rfl) ?_)
  refine Zgo ?_
  refine Wx.loopF (fun k1 e s => ∃ (g : Nat → Value) (lv : Value) (t : Nat) (z : Int) (h' : T AObj) (c' : Nat) (rl' wl' : List Nat), e = fr g [(0, .int .i64 (N : Int)), (1, .int .i64 (tt : Int)), (2, .slice oa vs.length cap), (6, .slice none 0 0), (7, lv), (11, .int .i64 z)] K98 ∧ z = t ∧ s = ⟨h', c', rl', wl'⟩ ∧ c ≤ c' ∧ Fresh h' c' ∧ Kp h h' c (fun _ => False) ∧ MG h' c lv dim (midsZ N vs t) ∧ Lg c R rl' ∧ Lg c (fun _ => False) wl' ∧ t ≤ tt ∧ k1 = tt - t) tt K98 [(0, _), (1, _), (2, _), (6, _), (7, _), (11, .int .i64 0)] ⟨_, _, 0, 0, _, _, _, _, rfl, rfl, rfl, hcc1, hf1, hkp1, hG1, hlr1, hlw1, by omega, rfl⟩ ?_
  rintro k1 e s ⟨g, lv, t, z, h', c', rl', wl', rfl, hz, rfl, hcc, hf', hkp, hG, hlr, hlw, htd, rfl⟩
  (refine Wx.sw (by simp only [K98, frN, frC, updN, updC, Nat.reduceEqDiff, ↓reduceIte]; rfl) ?_)
  by_cases ht : t < tt
  rotate_left
  ·refine Zgo ?_
   obtain rfl : t = tt := by omega
   obtain ⟨om, rfl⟩ := hG.val
   refine Zgo ?_
   refine ⟨.inr rfl, Wres.one rfl ⟨hG.grow hf', ?_⟩⟩
   exact Zex
  have hok := midsZ_ok (n := N) hvok t
  have hrs : midsZ N vs (t + 1) = rndM vs (midsZ N vs t) := rfl
  generalize midsZ N vs t = mm at hG hok hrs
  obtain ⟨om, rfl⟩ := hG.val
  have fNv : ∀ i (hi : i < vs.length), nearZ mm vs[i] = (fun j => nearZ mm (vs.getD j [])) i := fun i hi => by
   show _ = nearZ mm (vs.getD i [])
   rw [getD_at hi]
  generalize hfN : (fun j => nearZ mm (vs.getD j [])) = fN at fNv
  refine Zgo ?_
  refine Zu (to_makeSlice (a := vs.length) (b := vs.length) ro45 rfl rfl rfl rfl (by omega) (by omega) Zfr) ?_
  refine Zgo ?_
  have fS : Fresh (h'.set c' (some (.cells (rep [.int .i64 0] vs.length)))) (c' + 1) := Zfr
  have kS : ∀ b, b < c' → (h'.set c' (some (.cells (rep [.int .i64 0] vs.length)))).get b = h'.get b := fun b hb => get_other (by omega)
  have gS : Has (h'.set c' (some (.cells (rep [.int .i64 0] vs.length)))) c' (.cells (mixK .i64 fN (fun _ => 0) vs.length 0)) := by rw [← mixK_rep]; exact Has.same
  generalize (h'.set c' (some (.cells (rep [.int .i64 0] vs.length)))) = hS at fS kS gS
  refine Wx.cutO (fun e s => ∃ (g : Nat → Value) (h2 : T AObj) (rl' wl' : List Nat), e = fr g [(0, .int .i64 (N : Int)), (1, .int .i64 (tt : Int)), (2, .slice oa vs.length cap), (6, .slice none 0 0), (7, .slice om mm.length mm.length), (11, .int .i64 z), (12, .slice (some ⟨c', 0, none⟩) vs.length vs.length)] K98 ∧ s = ⟨h2, c' + 1, rl', wl'⟩ ∧ Fresh h2 (c' + 1) ∧ Kp h' h2 c' (fun _ => False) ∧ Has h2 c' (.cells (mixK .i64 fN (fun _ => 0) vs.length vs.length)) ∧ Lg c R rl' ∧ Lg c (fun _ => False) wl') Zrs ?_ ?_
  ·refine Wx.loopF (fun k1 e s => ∃ (g : Nat → Value) (i : Nat) (z2 : Int) (h2 : T AObj) (rl' wl' : List Nat), e = fr g [(0, .int .i64 (N : Int)), (1, .int .i64 (tt : Int)), (2, .slice oa vs.length cap), (6, .slice none 0 0), (7, .slice om mm.length mm.length), (11, .int .i64 z), (12, .slice (some ⟨c', 0, none⟩) vs.length vs.length), (75, .int .i64 (vs.length : Int)), (76, .int .i64 z2)] K98 ∧ z2 = i ∧ s = ⟨h2, c' + 1, rl', wl'⟩ ∧ Fresh h2 (c' + 1) ∧ Kp h' h2 c' (fun _ => False) ∧ Has h2 c' (.cells (mixK .i64 fN (fun _ => 0) vs.length i)) ∧ Lg c R rl' ∧ Lg c (fun _ => False) wl' ∧ i ≤ vs.length ∧ k1 = vs.length - i) vs.length K98 [(0, _), (1, _), (2, _), (6, _), (7, _), (11, _), (12, _), (75, _), (76, .int .i64 0)] ⟨_, 0, 0, _, _, _, rfl, rfl, rfl, fS, fun b hb _ => kS b hb, gS, Zlg, Zlg, by omega, rfl⟩ ?_
   rintro k1 e s ⟨g, i, z2, h2, rl2, wl2, rfl, hz2, rfl, hf2, hkp2, hT2, hlr2, hlw2, hid, rfl⟩
   (refine Wx.sw (by simp only [K98, frN, frC, updN, updC, Nat.reduceEqDiff, ↓reduceIte]; rfl) ?_)
   by_cases hi : i < vs.length
   ·have kph : Kp h h2 c (fun _ => False) := fun b hb _ => (hkp2 b (by omega) (fun q => q)).trans (hkp b hb (fun q => q))
    have hm' := hm.keep hf (fun _ q => q) (fun b _ hb _ => kph b hb (fun q => q))
    have hGm := (hG.keep hf' (fun b _ hb => hkp2 b hb (fun q => q))).mrow
    obtain ⟨g1, g2, b, sp, vals, a, k, rfl, g4, g5, g6, g7, g8⟩ := hm'.at (List.getElem?_eq_getElem hi)
    have lb := g5.lt hf2
    have rb := hUR b g4
    refine Zgo ?_
    refine Zu (to_indexAddr (k := i) el22 rfl rfl hz2 hi) ?_
    refine Zu (to_load (pl_ rfl) rfl g5.cel (by omega) g6) ?_
    refine Wseq.call rfl rfl (rnearest_spec Zfr hGm (by omega) hd g7 g1 g2 (fun b => c ≤ b ∨ R b) (fun b q => .inl q) (fun b q => .inr (hUR b (g8 b q)))) ?_
    rintro v1 hA cA r1 w1 ⟨⟨rfl, e1, e2⟩, hext⟩
    simp only at e1 e2
    have lr := Lg.extR (R := R) (c := c) Zlg hext (fun b hb q => q.elim (fun q => by omega) (fun q => q))
    have lw := Lg.extW (W := fun _ => False) (c := c) Zlg hext (fun _ _ q => q)
    subst e1 e2
    rw [fNv i hi]
    refine Zu (to_indexAddr (k := i) el45 rfl rfl hz2 hi) ?_
    ((with_reducible apply Wseq.so); rfl; exact (sz_ rfl); rfl; exact hT2; omega; refine Znv ?_; refine ⟨_, _, (by (first | exact cellsA_agg _ | rfl)), rfl, mixK_step .i64 fN (fun _ => 0) vs.length i hi, ?_⟩)
    refine Zgo ?_
    exact RoundE.goF (vs.length - (i + 1)) K98 [(0, _), (1, _), (2, _), (6, _), (7, _), (11, _), (12, _), (75, _), (76, .int .i64 (z2 + 1))] (by omega) ⟨_, i + 1, z2 + 1, _, _, _, rfl, by omega, rfl, Zfr, Zkp, Has.same, Zlg, Zlg, by omega, rfl⟩
   ·refine Zgo ?_
    obtain rfl : i = vs.length := by omega
    exact CutQ.goF K98 [(0, _), (1, _), (2, _), (6, _), (7, _), (11, _), (12, _)] ⟨_, _, _, _, rfl, rfl, hf2, hkp2, hT2, hlr2, hlw2⟩
  ·rintro e s ⟨g, h2, rl2, wl2, rfl, rfl, hf2, hkp2, hT2, hlr2, hlw2⟩
   (refine Wx.sw (by simp only [K98, frN, frC, updN, updC, Nat.reduceEqDiff, ↓reduceIte]; rfl) ?_)
   have hG2 := hG.keep hf' (fun b _ hb => hkp2 b hb (fun q => q))
   have kph2 : Kp h h2 c (fun _ => False) := fun b hb _ => (hkp2 b (by omega) (fun q => q)).trans (hkp b hb (fun q => q))
   refine Zgo ?_
   refine Wx.loopF (fun k1 e s => ∃ (g : Nat → Value) (k : Nat) (z3 : Int) (h3 : T AObj) (c3 : Nat) (rl' wl' : List Nat), e = fr g [(0, .int .i64 (N : Int)), (1, .int .i64 (tt : Int)), (2, .slice oa vs.length cap), (6, .slice none 0 0), (7, .slice om mm.length mm.length), (11, .int .i64 z), (12, .slice (some ⟨c', 0, none⟩) vs.length vs.length), (90, .int .i64 (mm.length : Int)), (91, .int .i64 z3)] K98 ∧ z3 = k ∧ s = ⟨h3, c3, rl', wl'⟩ ∧ c' + 1 ≤ c3 ∧ Fresh h3 c3 ∧ Kp h h3 c (fun _ => False) ∧ Has h3 c' (.cells (mixK .i64 fN (fun _ => 0) vs.length vs.length)) ∧ MG h3 c (.slice om mm.length mm.length) dim (rndK vs mm k) ∧ Lg c R rl' ∧ Lg c (fun _ => False) wl' ∧ k ≤ mm.length ∧ k1 = mm.length - k) mm.length K98 [(0, _), (1, _), (2, _), (6, _), (7, _), (11, _), (12, _), (90, _), (91, .int .i64 0)] ⟨_, 0, 0, _, _, _, _, rfl, rfl, rfl, Nat.le_refl _, hf2, kph2, hT2, by rw [rndK_zero]; exact hG2, Zlg, Zlg, by omega, rfl⟩ ?_
   rintro k1 e s ⟨g, k, z3, h3, c3, rl3, wl3, rfl, hz3, rfl, hcc3, hf3, hkp3, hT3, hG3, hlr3, hlw3, hkd, rfl⟩
   (refine Wx.sw (by simp only [K98, frN, frC, updN, updC, Nat.reduceEqDiff, ↓reduceIte]; rfl) ?_)
   by_cases hk : k < mm.length
   rotate_left
   ·refine Zgo ?_
    obtain rfl : k = mm.length := by omega
    have hG9 : MG h3 c (.slice om mm.length mm.length) dim (midsZ N vs (t + 1)) := by rw [hrs]; exact hG3
    exact RoundE.goF (tt - (t + 1)) K98 [(0, _), (1, _), (2, _), (6, _), (7, _), (11, .int .i64 (z + 1))] (by omega) ⟨_, _, t + 1, z + 1, _, _, _, _, rfl, by omega, rfl, by omega, hf3, hkp3, hG9, hlr3, hlw3, by omega, rfl⟩
   have hrk := rndK_at (vs := vs) (k := k) hk
   rw [if_neg (by omega)] at hrk
   have hrl := rndK_len vs mm k
   have hrs3 := rndK_succ (vs := vs) hk
   have hmk := hok.2 _ (List.getElem_mem hk)
   rcases hG3 with ⟨_, e9⟩ | ⟨b, bs, e3, hne, hbl1, hbc, hbl, hnd, hb7, hb8⟩
   ·have : (rndK vs mm k).length = 0 := by rw [e9]; rfl
    omega
   obtain rfl : om = some ⟨b, 0, some 1⟩ := by simp only [Value.slice.injEq] at e3; exact e3.1
   obtain ⟨v1, v2, x, hx1, hx2⟩ := hb8 k _ hrk
   have lb := hbc.lt hf3
   have lx := hx2.lt hf3
   have lT := hT3.lt hf3
   have hxT : x ≠ c' := kind_ne hx2 hT3 (by omega)
   have hcx := (hb7 x (List.mem_of_getElem? hx1)).1
   have hrow : nth (bs.map (vcl dim)) (0 + k * 1) = some (.slice (some ⟨x, 0, some 1⟩) dim dim) := by
    rw [nth_eq, Nat.zero_add, Nat.mul_one, List.getElem?_map, hx1]; rfl
   have hm3 := hm.keep hf (fun _ q => q) (fun b _ hb _ => hkp3 b hb (fun q => q))
   have hofk := ofM_len vs mm k
   refine Zgo ?_
   refine Zu (to_indexAddr (k := k) el22 rfl rfl hz3 hk) ?_
   refine Zu (to_load (pl_ rfl) rfl hbc.cel (by omega) hrow) ?_
   refine Zgo ?_
   refine Zu (to_makeSlice (a := dim) (b := dim) ro205 rfl rfl rfl rfl (by omega) (by omega) Zfr) ?_
   refine Zgo ?_
   have fS4 : Fresh (h3.set c3 (some (.cells (rep [.int .i64 0] dim)))) (c3 + 1) := Zfr
   have kS4 : ∀ b, b < c3 → (h3.set c3 (some (.cells (rep [.int .i64 0] dim)))).get b = h3.get b := fun b hb => get_other (by omega)
   have gS4 : Has (h3.set c3 (some (.cells (rep [.int .i64 0] dim)))) c3 (.cells (mixK .i64 (fun j => sumZ j (ofM (vs.take 0) mm k)) (fun _ => 0) dim dim)) := by
    have e : mixK .i64 (fun j => sumZ j (ofM (vs.take 0) mm k)) (fun _ => 0) dim dim = mixK .i64 (fun _ => 0) (fun _ => 0) dim 0 := mixK_ext fun j hj => by rw [if_pos hj, if_neg (by omega)]; rfl
    rw [e, ← mixK_rep]; exact Has.same
   generalize (h3.set c3 (some (.cells (rep [.int .i64 0] dim)))) = hS4 at fS4 kS4 gS4
   refine Wx.cutO (fun e s => ∃ (g : Nat → Value) (h4 : T AObj) (rl' wl' : List Nat), e = fr g [(0, .int .i64 (N : Int)), (1, .int .i64 (tt : Int)), (2, .slice oa vs.length cap), (6, .slice none 0 0), (7, .slice (some ⟨b, 0, some 1⟩) mm.length mm.length), (11, .int .i64 z), (12, .slice (some ⟨c', 0, none⟩) vs.length vs.length), (14, .int .i64 z3), (15, .int .i64 ((ofM vs mm k).length : Int)), (16, .slice (some ⟨c3, 0, none⟩) dim dim), (90, .int .i64 (mm.length : Int)), (91, .int .i64 z3)] K98 ∧ s = ⟨h4, c3 + 1, rl', wl'⟩ ∧ Fresh h4 (c3 + 1) ∧ Kp h3 h4 c3 (fun _ => False) ∧ Has h4 c3 (.cells (mixK .i64 (fun j => sumZ j (ofM vs mm k)) (fun _ => 0) dim dim)) ∧ Lg c R rl' ∧ Lg c (fun _ => False) wl') Zrs ?_ ?_
   ·refine Wx.loopF (fun k1 e s => ∃ (g : Nat → Value) (i : Nat) (z4 : Int) (h4 : T AObj) (rl' wl' : List Nat), e = fr g [(0, .int .i64 (N : Int)), (1, .int .i64 (tt : Int)), (2, .slice oa vs.length cap), (6, .slice none 0 0), (7, .slice (some ⟨b, 0, some 1⟩) mm.length mm.length), (11, .int .i64 z), (12, .slice (some ⟨c', 0, none⟩) vs.length vs.length), (14, .int .i64 z3), (15, .int .i64 ((ofM (vs.take i) mm k).length : Int)), (16, .slice (some ⟨c3, 0, none⟩) dim dim), (90, .int .i64 (mm.length : Int)), (91, .int .i64 z3), (101, .int .i64 (vs.length : Int)), (102, .int .i64 z4)] K98 ∧ z4 = i ∧ s = ⟨h4, c3 + 1, rl', wl'⟩ ∧ Fresh h4 (c3 + 1) ∧ Kp h3 h4 c3 (fun _ => False) ∧ Has h4 c3 (.cells (mixK .i64 (fun j => sumZ j (ofM (vs.take i) mm k)) (fun _ => 0) dim dim)) ∧ Lg c R rl' ∧ Lg c (fun _ => False) wl' ∧ i ≤ vs.length ∧ k1 = vs.length - i) vs.length K98 [(0, _), (1, _), (2, _), (6, _), (7, _), (11, _), (12, _), (14, _), (15, .int .i64 0), (16, _), (90, _), (91, _), (101, _), (102, .int .i64 0)] ⟨_, 0, 0, _, _, _, rfl, rfl, rfl, fS4, fun b hb _ => kS4 b hb, gS4, Zlg, Zlg, by omega, rfl⟩ ?_
    rintro k1 e s ⟨g, i, z4, h4, rl4, wl4, rfl, hz4, rfl, hf4, hkp4, hS, hlr4, hlw4, hid, rfl⟩
    (refine Wx.sw (by simp only [K98, frN, frC, updN, updC, Nat.reduceEqDiff, ↓reduceIte]; rfl) ?_)
    by_cases hi : i < vs.length
    rotate_left
    ·refine Zgo ?_
     have e9 : vs.take i = vs := List.take_of_length_le (by omega)
     rw [e9] at hS ⊢
     exact CutQ.goF K98 [(0, _), (1, _), (2, _), (6, _), (7, _), (11, _), (12, _), (14, _), (15, _), (16, _), (90, _), (91, _)] ⟨_, _, _, _, rfl, rfl, hf4, hkp4, hS, hlr4, hlw4⟩
    have hT4 : Has h4 c' _ := (hkp4 c' (by omega) (fun q => q)).trans hT3
    have hTn : nth (mixK .i64 fN (fun _ => 0) vs.length vs.length) (0 + i * 1) = some (.int .i64 (fN i)) := by rw [mixK_nth hi, if_pos hi]
    have hsc := ofM_succ (vs := vs) (ms := mm) (k := i) (i := k) hi
    rw [fNv i hi] at hsc
    have hpl := ofM_len (vs.take i) mm k
    rw [List.length_take] at hpl
    have hpv : Vok dim (ofM (vs.take i) mm k) := ofM_ok fun v hv => hvok v (List.mem_of_mem_take hv)
    have hg1 := hvok _ (List.getElem_mem hi)
    generalize ofM (vs.take i) mm k = pr at hS hsc hpl hpv
    by_cases hnk : fN i = (k : Int)
    rotate_left
    ·rw [if_neg hnk] at hsc
     refine Zgo ?_
     refine Zu (to_indexAddr (k := i) el45 rfl rfl hz4 hi) ?_
     refine Zu (to_load (pl_ rfl) rfl hT4.cel (by omega) hTn) ?_
     refine Zgo ?_
     exact RoundE.goF (vs.length - (i + 1)) K98 [(0, _), (1, _), (2, _), (6, _), (7, _), (11, _), (12, _), (14, _), (15, _), (16, _), (90, _), (91, _), (101, _), (102, .int .i64 (z4 + 1))] (by omega) ⟨_, i + 1, z4 + 1, _, _, _, by rw [hsc], by omega, rfl, Zfr, Zkp, by rw [hsc]; exact hS, Zlg, Zlg, by omega, rfl⟩
    rw [if_pos hnk] at hsc
    refine Zgo ?_
    refine Zu (to_indexAddr (k := i) el45 rfl rfl hz4 hi) ?_
    refine Zu (to_load (pl_ rfl) rfl hT4.cel (by omega) hTn) ?_
    refine Zgo ?_
    have q2 : ∀ j, -(1048576 * (pr.length : Int)) ≤ sumZ j pr ∧ sumZ j pr ≤ 1048576 * (pr.length : Int) := fun j => by
     have := sumZ_bnd (i := j) hpv pr.length (Nat.le_refl _)
     rwa [List.take_length] at this
    have hS0 : Has h4 c3 (.cells (mixK .i64 (fun j => sumZ j (pr ++ [vs[i]])) (fun j => sumZ j pr) dim 0)) := by
     rw [mixK_ext (f' := fun j => sumZ j pr) (g' := fun _ => 0) (i' := dim) fun j hj => by rw [if_neg (by omega), if_pos hj]]
     exact hS
    refine Wx.loopF (fun k1 e s => ∃ (g : Nat → Value) (j : Nat) (z5 : Int) (h5 : T AObj) (rl' wl' : List Nat), e = fr g [(0, .int .i64 (N : Int)), (1, .int .i64 (tt : Int)), (2, .slice oa vs.length cap), (6, .slice none 0 0), (7, .slice (some ⟨b, 0, some 1⟩) mm.length mm.length), (11, .int .i64 z), (12, .slice (some ⟨c', 0, none⟩) vs.length vs.length), (14, .int .i64 z3), (15, .int .i64 ((pr.length : Int) + 1)), (16, .slice (some ⟨c3, 0, none⟩) dim dim), (90, .int .i64 (mm.length : Int)), (91, .int .i64 z3), (101, .int .i64 (vs.length : Int)), (102, .int .i64 z4), (17, .int .i64 z4), (18, .int .i64 z5)] K98 ∧ z5 = j ∧ s = ⟨h5, c3 + 1, rl', wl'⟩ ∧ Fresh h5 (c3 + 1) ∧ Kp h3 h5 c3 (fun _ => False) ∧ Has h5 c3 (.cells (mixK .i64 (fun j => sumZ j (pr ++ [vs[i]])) (fun j => sumZ j pr) dim j)) ∧ Lg c R rl' ∧ Lg c (fun _ => False) wl' ∧ j ≤ dim ∧ k1 = dim - j) dim K98 [(0, _), (1, _), (2, _), (6, _), (7, _), (11, _), (12, _), (14, _), (15, _), (16, _), (90, _), (91, _), (101, _), (102, _), (17, _), (18, .int .i64 0)] ⟨_, 0, 0, _, _, _, rfl, rfl, rfl, hf4, hkp4, hS0, Zlg, Zlg, by omega, rfl⟩ ?_
    rintro k1 e s ⟨g, j, z5, h5, rl5, wl5, rfl, hz5, rfl, hf5, hkp5, hS5, hlr5, hlw5, hjd, rfl⟩
    (refine Wx.sw (by simp only [K98, frN, frC, updN, updC, Nat.reduceEqDiff, ↓reduceIte]; rfl) ?_)
    have hm5 := hm3.keep hf3 (fun _ q => q) (fun b _ hb _ => hkp5 b hb (fun q => q))
    obtain ⟨g1, g2, b4, sp, vals, a, kk, e8, g4, g5, g6, g7, g8⟩ := hm5.at (List.getElem?_eq_getElem hi)
    subst e8
    have lb4 := g5.lt hf5
    have rb4 := hUR b4 g4
    have cb4 := hUc b4 g4
    by_cases hj : j < dim
    ·obtain ⟨b1, o1, sp1, cs1, rfl, hc1, hn1⟩ := rowCell g7 (j := j * 1) (by omega) (vec_nth (by omega))
     have rb1 := hUR b1 (g8 b1 rfl)
     have cb1 := hUc b1 (g8 b1 rfl)
     have l1 := hc1.lt hf5
     have q1 := g2 j
     have q3 := q2 j
     have hsum : nth (mixK .i64 (fun j => sumZ j (pr ++ [vs[i]])) (fun j => sumZ j pr) dim j) (0 + j * 1) = some (.int .i64 (sumZ j pr)) := by rw [mixK_nth hj, if_neg (by omega)]
     have hsn := sumZ_snoc j pr vs[i]
     have hstp := mixK_step .i64 (fun j => sumZ j (pr ++ [vs[i]])) (fun j => sumZ j pr) dim j hj
     refine Zgo ?_
     refine Zu (to_indexAddr (k := i) el22 rfl rfl hz4 hi) ?_
     refine Zu (to_load (pl_ rfl) rfl g5.cel (by omega) g6) ?_
     refine Zgo ?_
     refine Zq (to_indexAddr (k := j) el205 rfl rfl hz5 hj) ?_
     refine Zd (to_load (pl_ rfl) rfl hS5.cel (by omega) hsum) ?_
     refine Zgo ?_
     refine Zq (to_indexAddr (k := i) el22 rfl rfl hz4 hi) ?_
     refine Zd (to_load (pl_ rfl) rfl g5.cel (by omega) g6) ?_
     refine Zgo ?_
     refine Zq (to_indexAddr (k := j) el25 rfl rfl hz5 hj) ?_
     refine Zd (to_load (pl_ rfl) rfl hc1 (by omega) hn1) ?_
     refine Zgo ?_
     simp only [wrapA_i64 (show (-9223372036854775808 : Int) ≤ vs[i].getD j 0 by omega) (by omega)]
     refine Zgo ?_
     rw [← hsn]
     refine Zq (to_indexAddr (k := j) el205 rfl rfl hz5 hj) ?_
     ((with_reducible apply Wtr.so); rfl; exact (sz_ rfl); rfl; exact hS5; omega; exact Zap; refine Znv ?_; refine ⟨_, _, (by (first | exact cellsA_agg _ | rfl)), rfl, hstp, ?_⟩)
     refine Zgo ?_
     exact RoundE.goF (dim - (j + 1)) K98 [(0, _), (1, _), (2, _), (6, _), (7, _), (11, _), (12, _), (14, _), (15, _), (16, _), (90, _), (91, _), (101, _), (102, _), (17, _), (18, .int .i64 (z5 + 1))] (by omega) ⟨_, j + 1, z5 + 1, _, _, _, rfl, by omega, rfl, Zfr, Zkp, Has.same, Zlg, Zlg, by omega, rfl⟩
    ·refine Zgo ?_
     refine Zu (to_indexAddr (k := i) el22 rfl rfl hz4 hi) ?_
     refine Zu (to_load (pl_ rfl) rfl g5.cel (by omega) g6) ?_
     refine Zgo ?_
     have e15 : ((pr.length : Int) + 1) = ((ofM (vs.take (i + 1)) mm k).length : Int) := by rw [hsc, List.length_append]; rfl
     rw [e15]
     refine RoundE.goF (vs.length - (i + 1)) K98 [(0, _), (1, _), (2, _), (6, _), (7, _), (11, _), (12, _), (14, _), (15, _), (16, _), (90, _), (91, _), (101, _), (102, .int .i64 (z4 + 1))] (by omega) ⟨_, i + 1, z4 + 1, _, _, _, rfl, by omega, rfl, Zfr, Zkp, ?_, Zlg, Zlg, by omega, rfl⟩
     rw [hsc, mixK_ext (f' := fun j => sumZ j (pr ++ [vs[i]])) (g' := fun j => sumZ j pr) (i' := j) fun j' hj' => by rw [if_pos hj', if_pos (by omega)]]
     exact hS5
   ·rintro e s ⟨g, h4, rl4, wl4, rfl, rfl, hf4, hkp4, hS4, hlr4, hlw4⟩
    (refine Wx.sw (by simp only [K98, frN, frC, updN, updC, Nat.reduceEqDiff, ↓reduceIte]; rfl) ?_)
    have hov : Vok dim (ofM vs mm k) := ofM_ok hvok
    generalize hof : ofM vs mm k = of at *
    have hF0 : ∀ j, of.length = 0 → (if of.length = 0 then mm[k].getD j 0 else flZ (sumZ j of) of.length) = mm[k].getD j 0 := fun j q => if_pos q
    have hF1 : ∀ j, of.length ≠ 0 → (if of.length = 0 then mm[k].getD j 0 else flZ (sumZ j of) of.length) = flZ (sumZ j of) of.length := fun j q => if_neg q
    have hmz : (midZ mm[k] of).map (Value.int .i32) = mixK .i32 (fun j => if of.length = 0 then mm[k].getD j 0 else flZ (sumZ j of) of.length) (fun j => mm[k].getD j 0) dim dim := by
     by_cases h0 : of.length = 0
     ·have e : midZ mm[k] of = mm[k] := by unfold midZ; rw [if_pos h0]
      rw [e, mixK_vec .i32 (fun j => mm[k].getD j 0) mm[k], v1]
      exact mixK_ext fun j hj => by rw [if_neg (by omega), if_pos hj, if_pos h0]
     ·rw [midZ_map h0, v1, ← mixK_all .i32 (fun i => flZ (sumZ i of) of.length) (fun j => mm[k].getD j 0) dim]
      exact mixK_ext fun j hj => by rw [if_pos hj, if_pos hj, if_neg h0]
    have hmok := midZ_ok (m := mm[k]) ⟨v1, v2⟩ hov
    generalize hF : (fun j => if of.length = 0 then mm[k].getD j 0 else flZ (sumZ j of) of.length) = F at hmz
    have hF0 : ∀ j, of.length = 0 → F j = mm[k].getD j 0 := fun j q => by rw [← hF]; exact hF0 j q
    have hF1 : ∀ j, of.length ≠ 0 → F j = flZ (sumZ j of) of.length := fun j q => by rw [← hF]; exact hF1 j q
    have hx4 : Has h4 x (.cells (mixK .i32 F (fun j => mm[k].getD j 0) dim 0)) := by
     have e : mixK .i32 F (fun j => mm[k].getD j 0) dim 0 = mm[k].map (Value.int .i32) := by rw [mixK_vec .i32 F mm[k], v1]
     rw [e]
     exact (hkp4 x lx (fun q => q)).trans hx2
    refine Zgo ?_
    refine Wx.loopF (fun k1 e s => ∃ (g : Nat → Value) (j : Nat) (z6 : Int) (h5 : T AObj) (rl' wl' : List Nat), e = fr g [(0, .int .i64 (N : Int)), (1, .int .i64 (tt : Int)), (2, .slice oa vs.length cap), (6, .slice none 0 0), (7, .slice (some ⟨b, 0, some 1⟩) mm.length mm.length), (11, .int .i64 z), (12, .slice (some ⟨c', 0, none⟩) vs.length vs.length), (14, .int .i64 z3), (15, .int .i64 (of.length : Int)), (16, .slice (some ⟨c3, 0, none⟩) dim dim), (90, .int .i64 (mm.length : Int)), (91, .int .i64 z3), (141, .int .i64 (dim : Int)), (142, .int .i64 z6)] K98 ∧ z6 = j ∧ s = ⟨h5, c3 + 1, rl', wl'⟩ ∧ Fresh h5 (c3 + 1) ∧ Kp h4 h5 (c3 + 1) (fun b => b = x) ∧ Has h5 x (.cells (mixK .i32 F (fun j => mm[k].getD j 0) dim j)) ∧ Lg c R rl' ∧ Lg c (fun _ => False) wl' ∧ j ≤ dim ∧ k1 = dim - j) dim K98 [(0, _), (1, _), (2, _), (6, _), (7, _), (11, _), (12, _), (14, _), (15, _), (16, _), (90, _), (91, _), (141, _), (142, .int .i64 0)] ⟨_, 0, 0, _, _, _, rfl, rfl, rfl, hf4, Kp.refl, hx4, Zlg, Zlg, by omega, rfl⟩ ?_
    rintro k1 e s ⟨g, j, z6, h5, rl5, wl5, rfl, hz6, rfl, hf5, hkp5, hx5, hlr5, hlw5, hjd, rfl⟩
    (refine Wx.sw (by simp only [K98, frN, frC, updN, updC, Nat.reduceEqDiff, ↓reduceIte]; rfl) ?_)
    have hb5 : Has h5 b (.cells (bs.map (vcl dim))) := (hkp5 b (by omega) (fun e => (hb7 x (List.mem_of_getElem? hx1)).2 e.symm)).trans ((hkp4 b lb (fun q => q)).trans hbc)
    have hS5 : Has h5 c3 _ := (hkp5 c3 (by omega) (by omega)).trans hS4
    by_cases hj : j < dim
    ·have hstp := mixK_step .i32 F (fun j => mm[k].getD j 0) dim j hj
     by_cases h0 : of.length = 0
     ·refine Zgo ?_
      refine RoundE.goF (dim - (j + 1)) K98 [(0, _), (1, _), (2, _), (6, _), (7, _), (11, _), (12, _), (14, _), (15, _), (16, _), (90, _), (91, _), (141, _), (142, .int .i64 (z6 + 1))] (by omega) ⟨_, j + 1, z6 + 1, _, _, _, rfl, by omega, rfl, hf5, hkp5, ?_, Zlg, Zlg, by omega, rfl⟩
      rw [mixK_ext (f' := F) (g' := fun j => mm[k].getD j 0) (i' := j) fun j' hj' => by
       rw [hF0 j' h0]
       split <;> split <;> rfl]
      exact hx5
     ·have hsum : nth (mixK .i64 (fun j => sumZ j of) (fun _ => 0) dim dim) (0 + j * 1) = some (.int .i64 (sumZ j of)) := by rw [mixK_nth hj, if_pos hj]
      have q2 := sumZ_bnd (i := j) hov of.length (Nat.le_refl _)
      rw [List.take_length] at q2
      have q3 := flZ_sum (i := j) hov h0
      refine Zgo ?_
      refine Zq (to_indexAddr (k := k) el22 rfl rfl hz3 hk) ?_
      refine Zd (to_load (pl_ rfl) rfl hb5.cel (by omega) hrow) ?_
      refine Zgo ?_
      refine Zq (to_indexAddr (k := j) el205 rfl rfl hz6 hj) ?_
      refine Zd (to_load (pl_ rfl) rfl hS5.cel (by omega) hsum) ?_
      refine Zgo ?_
      refine Wtr.call rfl rfl (rdown_spec Zfr (by omega) (by omega)) ?_
      rintro v9 hA cA r1 w1 ⟨rfl, e1⟩
      cases e1
      refine ⟨Zap, ?_⟩
      refine Zgo ?_
      simp only [wrapA_i32 (show (-2147483648 : Int) ≤ flZ (sumZ j of) of.length by omega) (by omega)]
      rw [← hF1 j h0]
      refine Zq (to_indexAddr (k := j) el25 rfl rfl hz6 hj) ?_
      ((with_reducible apply Wtr.so); rfl; exact (sz_ rfl); rfl; exact hx5; omega; exact Zap; refine Znv ?_; refine ⟨_, _, (by (first | exact cellsA_agg _ | rfl)), rfl, hstp, ?_⟩)
      refine Zgo ?_
      exact RoundE.goF (dim - (j + 1)) K98 [(0, _), (1, _), (2, _), (6, _), (7, _), (11, _), (12, _), (14, _), (15, _), (16, _), (90, _), (91, _), (141, _), (142, .int .i64 (z6 + 1))] (by omega) ⟨_, j + 1, z6 + 1, _, _, _, rfl, by omega, rfl, Zfr, Zkp, Has.same, Zlg, Zlg, by omega, rfl⟩
    ·refine Zgo ?_
     obtain rfl : j = dim := by omega
     rw [← hmz] at hx5
     have kp5 : Kp h h5 c (fun _ => False) := fun b' hb' _ => (hkp5 b' (by omega) (by omega)).trans ((hkp4 b' (by omega) (fun q => q)).trans (hkp3 b' hb' (fun q => q)))
     have hT5 : Has h5 c' _ := (hkp5 c' (by omega) (fun e => hxT e.symm)).trans ((hkp4 c' lT (fun q => q)).trans hT3)
     have hG5 : MG h5 c (.slice (some ⟨b, 0, some 1⟩) mm.length mm.length) j (rndK vs mm (k + 1)) := by
      rw [hrs3, ← hrl]
      refine MG.upd (h := h4) (c := c3 + 1) (x := x) hne hbl1 ((hkp4 b lb (fun q => q)).trans hbc) hbl hnd hb7 (fun i zs hi => ?_) hf4 hx1 hmok.1 hmok.2 hx5 (fun y hy1 hy2 hy3 => hkp5 y hy2 hy3)
      obtain ⟨q1, q2, y, q3, q4⟩ := hb8 i zs hi
      exact ⟨q1, q2, y, q3, (hkp4 y (q4.lt hf3) (fun q => q)).trans q4⟩
     exact RoundE.goF (mm.length - (k + 1)) K98 [(0, _), (1, _), (2, _), (6, _), (7, _), (11, _), (12, _), (90, _), (91, .int .i64 (z3 + 1))] (by omega) ⟨_, k + 1, z3 + 1, _, _, _, _, rfl, by omega, rfl, by omega, hf5, kp5, hT5, hG5, Zlg, Zlg, by omega, rfl⟩
end Go.Ab.Seat
