import Derived.Test.YtofikbfljjjgeaaGreatDoorDW9
import Derived.Test.YtofikbfljjjgeaaGreatDoorDWC
import Derived.Test.YtofikbfljjjgeaaGreatDoorDL1
import Derived.Test.YtofikbfljjjgeaaGreatDoorDO3
import Derived.Test.YtofikbfljjjgeaaGreatDoorDI2
import Derived.Test.YtofikbfljjjgeaaGreatDoorDW0
set_option linter.unusedVariables false
set_option linter.unusedSimpArgs false
section
/- The reference's index of lists is made (the abstract machine). -/
namespace Go.Ab.Seat
open Go.Extern Go.Proofs
set_option maxRecDepth 4000
def K49 : List Nat := [0, 1, 4, 5, 17, 19, 20, 21, 34]
theorem rmay_spec {h : T AObj} {c : Nat} {rl wl : List Nat} (hf : Fresh h c) {a : Option Addr} {dim k : Nat} {zs : List Int} (hn : zs.length = dim) (hx : Row h (.slice a dim k) dim 1 (zs.map (Value.int .i32))) (hb : Bnd zs) (hd1 : 1 ≤ dim) (hd : dim ≤ 8) (R : Nat → Prop) (hR : ∀ x, blkOf (.slice a dim k) = some x → R x) :
  ∃ r s', FnTo (Cs smQ) eg 49 [.slice a dim k, .int .i64 (dim : Int)] ⟨h, c, rl, wl⟩ r s' ∧ (r = .bool true ∧ s'.h = h ∧ s'.c = c) ∧ Ext ⟨h, c, rl, wl⟩ s' R (fun _ => False) := by
 refine Fn.go (stdQ 49 rfl) ex49 fn49 km49 rfl rfl ?_
 refine Zev ?_
 refine Zgo ?_
 refine Wx.loopF (fun k1 e s => ∃ (g : Nat → Value) (i : Nat) (z : Int) (rl' : List Nat), e = fr g [(0, .slice a dim k), (19, .int .i64 (dim : Int)), (20, .int .i64 z)] K49 ∧ z = i ∧ s = ⟨h, c, rl', []⟩ ∧ Lg c R rl' ∧ i ≤ dim ∧ k1 = dim - i) dim K49 [(0, _), (19, _), (20, .int .i64 0)] ⟨_, 0, 0, _, rfl, rfl, rfl, Zlg, by omega, rfl⟩ ?_
 rintro k1 e s ⟨g, i, z, rl', rfl, hz, rfl, hlr, hin, rfl⟩
 (refine Wx.sw (by simp only [K49, frN, frC, updN, updC, Nat.reduceEqDiff, ↓reduceIte]; rfl) ?_)
 by_cases hi : i < dim
 ·obtain ⟨b1, o1, sp1, cs1, rfl, hc1, hn1⟩ := rowCell hx (j := i * 1) (by omega) (vec_nth (by omega))
  have l1 := hc1.lt hf
  have r1 := hR b1 rfl
  have q1 := hb i
  refine Zgo ?_
  refine Zu (to_indexAddr (k := i) el25 rfl rfl hz hi) ?_
  refine Zu (to_load (pl_ rfl) rfl hc1 (by omega) hn1) ?_
  refine Zgo ?_
  refine Zu (to_indexAddr (k := i) el25 rfl rfl hz hi) ?_
  refine Zu (to_load (pl_ rfl) rfl hc1 (by omega) hn1) ?_
  refine Zgo ?_
  exact RoundE.goF (dim - (i + 1)) K49 [(0, _), (19, _), (20, .int .i64 (z + 1))] (by omega) ⟨_, i + 1, z + 1, _, rfl, by omega, rfl, Zlg, by omega, rfl⟩
 ·refine Zgo ?_
  refine ⟨.inr rfl, Wres.one rfl ⟨⟨rfl, rfl, rfl⟩, ?_⟩⟩
  exact Zex
theorem ORow.val {h : T AObj} {c0 dim : Nat} {w : Value} {l : List (List Int)} {Uv : Nat → Prop} (x : ORow h c0 w dim l Uv) : ∃ oa, w = .slice oa l.length l.length := by
 rcases x with ⟨rfl, rfl⟩ | ⟨b, vals, h1, _⟩
 ·exact ⟨_, rfl⟩
 ·exact ⟨_, h1⟩
def K44 : List Nat := [0, 1, 2, 3, 8, 9, 10, 11, 12, 26, 32, 34, 35, 36, 43, 57, 58, 65]
set_option maxHeartbeats 16000000 in
theorem rnew2_spec {h : T AObj} {c : Nat} {rl wl : List Nat} (hf : Fresh h c) {mt : Int} (hmt : mt = 1 ∨ mt = 2) {v : Value} {dim : Nat} {vs : List (List Int)} {U0 : Nat → Prop} (hm0 : MRow h v dim vs U0) (hn : vs.length ≤ 1000) (hd1 : 1 ≤ dim) (hd : dim ≤ 8) (R : Nat → Prop) (hUR0 : ∀ b, U0 b → R b) :
  ∃ r s', FnTo (Cs smQ) eg 44 [.int .i64 2, .int .i64 mt, .int .i64 (dim : Int), v] ⟨h, c, rl, wl⟩ r s' ∧ (∃ p mv, r = .tuple #[.pointer (some ⟨p, 0, none⟩), .int .i64 0] ∧ Has s'.h p (.cells (refC ⟨2, mv, .slice none 0 0, .slice none 0 0⟩ mt dim (.slice none 0 0))) ∧ c ≤ p ∧ MRow s'.h mv dim (midsZ 4 vs 3) (fun b => c ≤ b ∧ b < s'.c ∧ b ≠ p)) ∧ Ext ⟨h, c, rl, wl⟩ s' R (fun _ => False) := by
 have hm := hm0.bound hf hd1
 have hvok := hm0.vok
 generalize hU : (fun b => U0 b ∧ b < c) = U at hm
 have hUR : ∀ b, U b → R b := fun b hb => by subst hU; exact hUR0 b hb.1
 have hUc : ∀ b, U b → b < c := fun b hb => by subst hU; exact hb.2
 clear hU hm0 hUR0
 obtain ⟨oa, cap, rfl⟩ := hm.val
 have hbg : big = 1048576 := rfl
 refine Fn.go (stdQ 44 rfl) ex44 fn44 km44 rfl rfl ?_
 refine Zev ?_
 rcases hmt with hmt | hmt
 all_goals
  refine Zgo ?_
  refine Wx.cutO (fun e s => ∃ (g : Nat → Value) (lv : Value) (h' : T AObj) (c' : Nat) (rl' wl' : List Nat), e = fr g [(0, .int .i64 2), (1, .int .i64 mt), (2, .int .i64 (dim : Int)), (10, lv)] K44 ∧ s = ⟨h', c', rl', wl'⟩ ∧ c ≤ c' ∧ Fresh h' c' ∧ Kp h h' c (fun _ => False) ∧ ORow h' c lv dim vs U ∧ Lg c R rl' ∧ Lg c (fun _ => False) wl') Zrs ?_ ?_
  ·refine Wx.loopF (fun k1 e s => ∃ (g : Nat → Value) (lv : Value) (i : Nat) (z : Int) (h' : T AObj) (c' : Nat) (rl' wl' : List Nat), e = fr g [(0, .int .i64 2), (1, .int .i64 mt), (2, .int .i64 (dim : Int)), (3, .slice oa vs.length cap), (10, lv), (34, .int .i64 (vs.length : Int)), (35, .int .i64 z)] K44 ∧ z = i ∧ s = ⟨h', c', rl', wl'⟩ ∧ c ≤ c' ∧ Fresh h' c' ∧ Kp h h' c (fun _ => False) ∧ ORow h' c lv dim (vs.take i) U ∧ Lg c R rl' ∧ Lg c (fun _ => False) wl' ∧ i ≤ vs.length ∧ k1 = vs.length - i) vs.length K44 [(0, _), (1, _), (2, _), (3, _), (10, .slice none 0 0), (34, _), (35, .int .i64 0)] ⟨_, _, 0, 0, _, _, _, _, rfl, rfl, rfl, Nat.le_refl _, Zfr, Zkp, .inl ⟨rfl, rfl⟩, Zlg, Zlg, by omega, rfl⟩ ?_
   rintro k1 e s ⟨g, lv, i, z, h', c', rl', wl', rfl, hz, rfl, hcc, hf', hkp, hO, hlr, hlw, hid, rfl⟩
   (refine Wx.sw (by simp only [K44, frN, frC, updN, updC, Nat.reduceEqDiff, ↓reduceIte]; rfl) ?_)
   by_cases hi : i < vs.length
   ·have hm' := hm.keep hf (fun _ q => q) (fun b _ hb _ => hkp b hb (fun q => q))
    obtain ⟨g1, g2, b, sp, vals, a, k, rfl, g4, g5, g6, g7, g8⟩ := hm'.at (List.getElem?_eq_getElem hi)
    have lb := g5.lt hf'
    have rb := hUR b g4
    have hts := List.take_succ_eq_append_getElem hi
    have hlt : (vs.take i).length ≤ 1000 := by rw [List.length_take]; omega
    refine Zgo ?_
    refine Zu (to_indexAddr (k := i) el22 rfl rfl hz hi) ?_
    refine Zu (to_load (pl_ rfl) rfl g5.cel (by omega) g6) ?_
    refine Zgo ?_
    refine Wseq.call rfl rfl (rmay_spec Zfr g1 g7 g2 hd1 hd R (fun x q => hUR x (g8 x q))) ?_
    rintro v1 hA cA r1 w1 ⟨⟨rfl, e1, e2⟩, hext⟩
    simp only at e1 e2
    have lr := Lg.extR (R := R) (c := c) Zlg hext (fun _ _ q => q)
    have lw := Lg.extW (W := fun _ => False) (c := c) Zlg hext (fun _ _ q => q)
    subst e1 e2
    rcases hO with ⟨rfl, hnil⟩ | ⟨bl, vals2, rfl, hne, hbl, hbc, hvl⟩
    ·refine Zgo ?_
     refine Zu (to_indexAddr (k := i) el22 rfl rfl hz hi) ?_
     refine Zu (to_load (pl_ rfl) rfl g5.cel (by omega) g6) ?_
     refine Zgo ?_
     refine Zu (to_appNil ro22 sl22 rfl rfl (k := 0) Has.same.cel (by omega) (subN_all _ _ rfl) (by omega) Zfr) ?_
     refine Zgo ?_
     refine RoundE.goF (vs.length - (i + 1)) K44 [(0, _), (1, _), (2, _), (3, _), (10, _), (34, _), (35, .int .i64 (z + 1))] (by omega) ⟨_, _, i + 1, z + 1, _, _, _, _, rfl, by omega, rfl, by omega, Zfr, Zkp, ?_, Zlg, Zlg, by omega, rfl⟩
     rw [hts, hnil]
     exact .inr ⟨cA + 1, [.slice a dim k], rfl, (fun e => by cases e), by omega, Has.same, GVals.push .nil g1 g2 (Row.keepF g7 hf' fun b hb => by rw [get_other (by omega), get_other (by omega)]) g8⟩
    ·have l3 := hbc.lt hf'
     refine Zgo ?_
     refine Zu (to_indexAddr (k := i) el22 rfl rfl hz hi) ?_
     refine Zu (to_load (pl_ rfl) rfl g5.cel (by omega) g6) ?_
     refine Zgo ?_
     refine Zu (to_appOwn ro22 sl22 rfl rfl (k := 0) Has.same.cel (by omega) (subN_all _ _ rfl) (by omega) (by omega) Zhs (by omega) (subN_all _ _ (by rw [hvl.1]; omega)) (all_cons rfl all_nil) Zfr) ?_
     refine Zgo ?_
     refine RoundE.goF (vs.length - (i + 1)) K44 [(0, _), (1, _), (2, _), (3, _), (10, _), (34, _), (35, .int .i64 (z + 1))] (by omega) ⟨_, _, i + 1, z + 1, _, _, _, _, rfl, by omega, rfl, by omega, Zfr, Zkp, ?_, Zlg, Zlg, by omega, rfl⟩
     have hk9 : ∀ b, U b → b < cA → b ≠ bl := fun b hb _ e => by have := hUc b hb; omega
     rw [hts]
     refine .inr ⟨cA + 1, vals2 ++ [.slice a dim k], by rw [List.length_append]; rfl, (fun e => by have := congrArg List.length e; rw [List.length_append] at this; cases this), by omega, Has.same, GVals.push (hvl.keep hf' (fun _ q => q) (fun b hb hc _ => ?_)) g1 g2 (Row.keepBT g7 fun b hb => ?_) g8⟩
     ·have := hk9 b hb hc
      rw [get_other (by omega), get_other (by omega), get_other (by omega)]
     ·have := hUc b (g8 b hb)
      rw [get_other (by omega), get_other (by omega), get_other (by omega)]
   ·refine Zgo ?_
    have e9 : vs.take i = vs := List.take_of_length_le (by omega)
    rw [e9] at hO
    exact CutQ.goF K44 [(0, _), (1, _), (2, _), (10, _)] ⟨_, _, _, _, _, _, rfl, rfl, hcc, hf', hkp, hO, hlr, hlw⟩
  ·rintro e s ⟨g, lv, h1, c1, rl1, wl1, rfl, rfl, hcc1, hf1, hkp1, hO1, hlr1, hlw1⟩
   (refine Wx.sw (by simp only [K44, frN, frC, updN, updC, Nat.reduceEqDiff, ↓reduceIte]; rfl) ?_)
   obtain ⟨ol, rfl⟩ := hO1.val
   have hml := hO1.mrow
   have hml1 : MRow (h1.set c1 (some (.cells [.int .i64 2, .int .i64 mt, .int .i64 (dim : Int), .slice none 0 0, .slice none 0 0, .slice none 0 0, .slice none 0 0]))) (.slice ol vs.length vs.length) dim vs (fun b => c ≤ b ∨ U b) := hml.keep hf1 (fun _ q => q) (fun b _ hb _ => get_other (by omega))
   refine Zgo ?_
   refine Wseq.call rfl rfl (rmiddles_spec Zfr (N := 4) (tt := 3) (by omega) (by omega) (by omega) hml1 hn hd1 (by omega) (fun b => c ≤ b ∨ R b) (fun b q => q.imp (fun q => q) (hUR b))) ?_
   rintro v9 hB cB r1 w1 ⟨hGR, hext⟩
   have frB := hext.fresh
   have leB := hext.c
   simp only at frB leB hGR
   have kpB := Kp.ext (W := fun _ => False) (h := h) (c := c) Zkp hext (by omega) (fun _ _ q => q)
   have lrB := Lg.extR (R := R) (c := c) Zlg hext (fun b hb q => q.elim (fun q => by omega) (fun q => q))
   have lwB := Lg.extW (W := fun _ => False) (c := c) Zlg hext (fun _ _ q => q)
   have gp := hext.hs (b := c1) Has.same (by omega) (fun q => q)
   have hMR := hGR.mrow
   obtain ⟨om, cm, rfl⟩ := hMR.val
   refine Zgo ?_
   refine ⟨.inr rfl, Wres.two rfl rfl ⟨⟨c1, _, rfl, Has.same, hcc1, ?_⟩, ?_⟩⟩
   ·exact hMR.keep frB (fun b q => ⟨by omega, q.2, by omega⟩) (fun b q _ _ => get_other (by omega))
   ·exact Zex
theorem rmade2_spec {h : T AObj} {c : Nat} {rl wl : List Nat} (hf : Fresh h c) {mt : Int} (hmt : mt = 1 ∨ mt = 2) {v : Value} {dim : Nat} {vs : List (List Int)} {U0 : Nat → Prop} (hm0 : MRow h v dim vs U0) (hn : vs.length ≤ 1000) (hd1 : 1 ≤ dim) (hd : dim ≤ 8) (R : Nat → Prop) (hUR0 : ∀ b, U0 b → R b) :
  ∃ r s', FnTo (Cs smQ) eg 59 [.int .i64 2, .int .i64 mt, .int .i64 (dim : Int), v] ⟨h, c, rl, wl⟩ r s' ∧ (∃ p mv, r = .pointer (some ⟨p, 0, none⟩) ∧ RefX s'.h p ⟨2, mv, .slice none 0 0, .slice none 0 0⟩ mt dim dim [] (fun b => b = p) ∧ c ≤ p ∧ p < s'.c ∧ MRow s'.h mv dim (midsZ 4 vs 3) (fun b => c ≤ b ∧ b < s'.c ∧ b ≠ p)) ∧ Ext ⟨h, c, rl, wl⟩ s' R (fun _ => False) := by
 obtain ⟨oa, cap, rfl⟩ := hm0.val
 refine Fn.go (stdQ 59 rfl) ex59 fn59 km59 rfl rfl ?_
 refine Zev ?_
 refine Zgo ?_
 refine Wseq.call rfl rfl (rnew2_spec Zfr hmt hm0 hn hd1 hd R hUR0) ?_
 rintro v1 h1 c1 r1 w1 ⟨⟨p, mv, rfl, g1, g2, g3⟩, hext⟩
 have fr1 := hext.fresh
 simp only at g1 g3 fr1
 have kp := Kp.ext (W := fun _ => False) (h := h) (c := c) Zkp hext (by omega) (fun _ _ q => q)
 have lr := Lg.extR (R := R) (c := c) Zlg hext (fun _ _ q => q)
 have lw := Lg.extW (W := fun _ => False) (c := c) Zlg hext (fun _ _ q => q)
 have le1 := hext.c
 simp only at le1
 refine Zgo ?_
 refine ⟨.inr rfl, Wres.one rfl ⟨⟨p, mv, rfl, RefX.new g1, g2, g1.lt fr1, g3⟩, ?_⟩⟩
 exact Zex
end Go.Ab.Seat
end
section
/- IvfAll: the run answers true (the abstract machine). -/
namespace Go.Ab.Seat
open Go.Extern Go.Proofs
set_option maxRecDepth 4000
def K13 : List Nat := [0, 1, 2, 3, 8, 9, 10, 11, 12, 13, 14, 15, 18, 44, 65, 67, 68, 69, 101]
set_option maxHeartbeats 8000000 in
theorem ivfAll_run {h : T AObj} {c : Nat} (hf : Fresh h c) (hg : Glob h) (m d : Int) {v0 : Value} {zs0 : List (List Int)} (hv0 : VecsIn h v0 zs0) (hvn0 : zs0.length ≤ 9223372036854775807) {oa : Option Addr} {n cap : Nat} (hx : OpsD h c oa n) :
  ∃ r s', FnTo (Cs smQ) eg 13 [.int .i64 m, .int .i64 d, v0, .slice oa n cap] ⟨h, c, [], []⟩ r s' ∧ r = .bool true := by
 have hm2 := and1_or m
 have hd2 := dim_rng d
 obtain ⟨oa0, cap0, rfl, _⟩ := _root_.id hv0
 refine Fn.go (stdQ 13 rfl) ex13 fn13 km13 rfl rfl ?_
 refine Zev ?_
 refine Zgo ?_
 refine Wseq.call rfl rfl (begunQ Zfr hg) ?_
 rintro v1 h1 c1 r1 w1 ⟨rfl, e1⟩
 cases e1
 refine Zgo ?_
 refine Zu (to_and1 rfl rfl) ?_
 refine Zgo ?_
 refine Wseq.call rfl rfl (dim_spec Zfr d) ?_
 rintro v1 h1 c1 r1 w1 ⟨⟨rfl, e1, e2⟩, x1⟩
 simp only at e1 e2
 subst e1 e2
 generalize dimZ d = dim at hd2
 obtain ⟨hd2, hd3, hd4⟩ := hd2
 clear hd4
 have hmm : 1 + and1 m = 1 ∨ 1 + and1 m = 2 := by omega
 generalize hmt : 1 + and1 m = mt at hmm
 refine Zgo ?_
 refine Wseq.call rfl rfl (vecs_spec stdQ (n := 20) (dim := dim) Zfr hv0 (by omega) (by omega) hvn0) ?_
 rintro lv0 h2 c2 r2 w2 ⟨hV0, hext2⟩
 have fr2 := hext2.fresh
 have le2 := hext2.c
 have kp2 : ∀ b, b < c1 → h2.get b = h1.get b := fun b hb => hext2.get hb (fun q => q)
 simp only at le2 fr2 hV0
 generalize hvs0 : vecsZ zs0 dim 20 = V0 at hV0
 have hV0b : ∀ zs ∈ V0, Bnd zs := fun zs hz => by
  rw [← hvs0] at hz
  unfold vecsZ at hz
  obtain ⟨y, _, rfl⟩ := List.mem_map.1 hz
  exact Bnd_vecZ _ _
 have hV0l : V0.length ≤ 20 := by rw [← hvs0]; unfold vecsZ; rw [List.length_map, List.length_take]; omega
 have hM0 := hV0.mrow hV0b
 have hx2 := hx.keep kp2
 obtain ⟨os, cs, rfl⟩ := hM0.val
 refine Zgo ?_
 refine Wseq.call rfl rfl (inew_spec Zfr hmm hM0 (by omega) hd2 (by omega) (fun _ => True) (fun _ _ => trivial)) ?_
 rintro x3 h3 c3 r3 w3 ⟨⟨p, mp, mv, rfl, hI3⟩, hext3⟩
 have hmok := midsZ_ok (n := 4) hM0.vok 3
 have fr3 := hext3.fresh
 have le3 := hext3.c
 have kp3 : ∀ b, b < c2 → h3.get b = h2.get b := fun b hb => hext3.get hb (fun q => q)
 simp only at le3 fr3 hI3
 have hM3 := hM0.keep fr2 (fun _ q => q) (fun b _ hb _ => kp3 b hb)
 refine Zgo ?_
 refine Wseq.call rfl rfl (rmade2_spec Zfr hmm hM3 (by omega) hd2 hd3 (fun _ => True) (fun _ _ => trivial)) ?_
 rintro x4 h4 c4 r4 w4 ⟨⟨r, mv2, rfl, hR4, hr4, hrc, hMr4⟩, hext4⟩
 have fr4 := hext4.fresh
 have le4 := hext4.c
 have kp4 : ∀ b, b < c3 → h4.get b = h3.get b := fun b hb => hext4.get hb (fun q => q)
 simp only at le4 fr4 hR4 hrc hMr4
 generalize midsZ 4 V0 3 = mid at hI3 hmok hMr4
 have hok4 : mid.length ≤ 4 := hmok.1
 have hI4 := hI3.keep fr3 (fun b _ hb => kp4 b hb)
 have D4 : IDuo c1 p mp r mv mv2 mt dim mid h4 c4 (fun b => c1 ≤ b ∧ b < c4) [] [] := ⟨fr4, fun b hb => hb, fun b => c2 ≤ b ∧ b < c3, fun b => b = r, fun b => c3 ≤ b ∧ b < c4 ∧ b ≠ r, hI4, hR4, hMr4, (fun q hq => by cases hq), (fun b hb => ⟨by omega, by omega⟩), (fun b hb => by omega), fun b hb => ⟨by omega, by omega, hb.2.2⟩⟩
 have hx4 := (hx2.keep (c0 := c1) (fun b hb => (kp4 b (by omega)).trans (kp3 b (by omega))))
 refine Zgo ?_
 refine Wseq.call rfl rfl (alike_gen (N := 50) (iduet (by omega) hmm hd2 hd3) hd2 hd3 D4 (fun x hx => by cases hx) (by omega) (by omega) hx4) ?_
 rintro x5 h5 c5 r5 w5 ⟨rfl, U5, M, D5, hlow, le5, kp5⟩
 simp only at le5 D5
 have fr5 := D5.f
 have hML := ids_len (by obtain ⟨U1, U2, U3, q1, _⟩ := D5.ex; exact q1.rises) hlow
 refine Zgo ?_
 obtain ⟨U1, U2, U3, q1, q2, q3, q4, q5, q6, q7⟩ := D5.ex
 refine Wseq.call rfl rfl (ilists_spec Zfr q1 (by omega) (by omega)) ?_
 rintro x6 h6 c6 r6 w6 ⟨⟨rfl, ws6, hw6, hG6⟩, hext6⟩
 have fr6 := hext6.fresh
 have le6 := hext6.c
 have kp6 : ∀ b, b < c5 → h6.get b = h5.get b := fun b hb => hext6.get hb (fun q => q)
 simp only at le6 fr6 hw6 hG6
 have D6 := D5.keep fr6 le6 (fun b hb => kp6 b (D5.bd b hb).2)
 obtain ⟨V1, V2, V3, p1, p2, p3, p4, p5, p6, p7⟩ := D6.ex
 refine Zgo ?_
 refine Wseq.call rfl rfl (rlists_spec Zfr p2 p3 p4 (by omega) (by omega) (by omega) (fun _ => True) (fun _ _ => trivial) (fun _ _ => trivial)) ?_
 rintro x7 h7 c7 r7 w7 ⟨⟨rfl, ws7, hw7, hG7⟩, hext7⟩
 have fr7 := hext7.fresh
 have le7 := hext7.c
 have kp7 : ∀ b, b < c6 → h7.get b = h6.get b := fun b hb => hext7.get hb (fun q => q)
 simp only at le7 fr7 hw7 hG7
 have D7 := D6.keep fr7 le7 (fun b hb => kp7 b (D6.bd b hb).2)
 obtain ⟨W1, W2, W3, s1, s2, s3, s4, s5, s6, s7⟩ := D7.ex
 refine Zgo ?_
 refine Wseq.call rfl rfl (imiddles_spec Zfr s1 (by omega) hd2 (by omega)) ?_
 rintro x8 h8 c8 r8 w8 ⟨hG8, hext8⟩
 have fr8 := hext8.fresh
 have le8 := hext8.c
 have kp8 : ∀ b, b < c7 → h8.get b = h7.get b := fun b hb => hext8.get hb (fun q => q)
 simp only at le8 fr8 hG8
 have D8 := D7.keep fr8 le8 (fun b hb => kp8 b (D7.bd b hb).2)
 obtain ⟨X1, X2, X3, t1, t2, t3, t4, t5, t6, t7⟩ := D8.ex
 obtain ⟨lv8, l8, hr8, _⟩ := t2.ex
 have lr8 := hr8.lt fr8
 have hM8 := hG8.mrow
 have lw6 := hw6.lt fr6
 have lw7 := hw7.lt fr7
 have hw6' : Has h8 c5 (.cells ws6) := (kp8 _ (by omega)).trans ((kp7 _ (by omega)).trans hw6)
 have hw7' : Has h8 c6 (.cells ws7) := (kp8 _ (by omega)).trans hw7
 have hG6' := (hG6.keep fr6 (fun b hb _ => kp7 b hb)).keep fr7 (fun b hb _ => kp8 b hb)
 have hG7' := hG7.keep fr7 (fun b hb _ => kp8 b hb)
 obtain ⟨om, cm, rfl⟩ := hM8.val
 obtain ⟨or, cr, rfl⟩ := t3.val
 unfold refC at hr8
 generalize hL : max mid.length 1 = L at hG6' hG7'
 have hL1 : mid.length ≤ L ∧ L ≤ 4 := by omega
 refine Zgo ?_
 refine Wx.loopF (fun k1 e s => ∃ (g : Nat → Value) (i : Nat) (z : Int) (h' : T AObj) (c' : Nat) (rl' wl' : List Nat), e = fr g [(10, .pointer (some ⟨p, 0, none⟩)), (11, .pointer (some ⟨r, 0, none⟩)), (12, .slice (some ⟨c5, 0, none⟩) L L), (13, .slice (some ⟨c6, 0, none⟩) L L), (14, .slice om mid.length cm), (67, .int .i64 (L : Int)), (68, .int .i64 z)] K13 ∧ z = i ∧ s = ⟨h', c', rl', wl'⟩ ∧ c8 ≤ c' ∧ Fresh h' c' ∧ Kp h8 h' c8 (fun _ => False) ∧ i ≤ L ∧ k1 = L - i) L K13 [(10, _), (11, _), (12, _), (13, _), (14, _), (67, _), (68, .int .i64 0)] ⟨_, 0, 0, _, _, _, _, rfl, rfl, rfl, Nat.le_refl _, fr8, Kp.refl, by omega, rfl⟩ ?_
 rintro k1 e s ⟨g, i, z, h', c', rl', wl', rfl, hz, rfl, hcc, hf', hkp, hin, rfl⟩
 (refine Wx.sw (by simp only [K13, frN, frC, updN, updC, Nat.reduceEqDiff, ↓reduceIte]; rfl) ?_)
 by_cases hi : i < L
 rotate_left
 ·refine Zgo ?_
  exact ⟨.inr rfl, Wres.one rfl rfl⟩
 obtain ⟨wA, hA1, hA2⟩ := hG6'.row i _ (listsM_at hi)
 obtain ⟨wB, hB1, hB2⟩ := hG7'.row i _ (listsM_at hi)
 have hA2' := hA2.keep (h' := h') fun b hb => hkp b (hA2.lt fr8 hb).2 (fun q => q)
 have hB2' := hB2.keep (h' := h') fun b hb => hkp b (hB2.lt fr8 hb).2 (fun q => q)
 have hil := inL_len M i
 generalize inL M i = li at hA2' hB2' hil
 obtain ⟨oA, rfl, rowA, _⟩ := HJ.val (h := h') (c := c5 + 1) hA2'
 obtain ⟨oB, rfl, rowB, _⟩ := HJ.val (h := h') (c := c6 + 1) hB2'
 have nA : nth ws6 (0 + i * 1) = some (.slice oA li.length li.length) := by rw [nth_eq, Nat.zero_add, Nat.mul_one]; exact hA1
 have nB : nth ws7 (0 + i * 1) = some (.slice oB li.length li.length) := by rw [nth_eq, Nat.zero_add, Nat.mul_one]; exact hB1
 have lw6' := hw6'.lt fr8
 have lw7' := hw7'.lt fr8
 have gw6 : Has h' c5 _ := (hkp _ lw6' (fun q => q)).trans hw6'
 have gw7 : Has h' c6 _ := (hkp _ lw7' (fun q => q)).trans hw7'
 have gr : Has h' r _ := (hkp _ lr8 (fun q => q)).trans hr8
 refine Zgo ?_
 refine Zq (to_indexAddr (k := i) el102 rfl rfl hz hi) ?_
 refine Zd (to_load (pl_ rfl) rfl gw6.cel (by omega) nA) ?_
 refine Zgo ?_
 refine Zq (to_indexAddr (k := i) el102 rfl rfl hz hi) ?_
 refine Zd (to_load (pl_ rfl) rfl gw7.cel (by omega) nB) ?_
 refine Wtr.call rfl rfl (ints_spec stdQ Zfr rfl rowA rowB (by omega)) ?_
 rintro v9 h9 c9 r9 w9 ⟨rfl, e1, e2, hext9⟩
 simp only at e1 e2
 have hqt := hext9.quiet (fun _ _ q => q)
 subst e1 e2
 refine ⟨Zap, ?_⟩
 by_cases him : i < mid.length
 ·obtain ⟨g1, g2, b, sp, vals, a, k, rfl, g4, g5, g6, g7, g8⟩ := hM8.at (List.getElem?_eq_getElem him)
  obtain ⟨j1, j2, b', sp', vals', a', k', rfl, j4, j5, j6, j7, j8⟩ := t3.at (List.getElem?_eq_getElem him)
  have lb := g5.lt fr8
  have lb' := j5.lt fr8
  have gg : Has h9 b _ := (hkp _ lb (fun q => q)).trans g5
  have gj : Has h9 b' _ := (hkp _ lb' (fun q => q)).trans j5
  have rg := Row.keepF g7 fr8 (fun b hb => hkp b hb (fun q => q))
  have rj := Row.keepF j7 fr8 (fun b hb => hkp b hb (fun q => q))
  refine Zgo ?_
  refine Zq (to_indexAddr (k := i) el22 rfl rfl hz him) ?_
  refine Zd (to_load (pl_ rfl) rfl gg.cel (by omega) g6) ?_
  refine Zgo ?_
  refine Zq (to_indexAddr (k := i) el22 rfl rfl hz him) ?_
  refine Zd (to_load (pl_ rfl) rfl gj.cel (by omega) j6) ?_
  refine Wtr.call rfl rfl (eq_spec stdQ Zfr g1 rg rj (by unfold big; omega) (fun _ => True) (fun _ _ => trivial)) ?_
  rintro va hA cA ra wa ⟨rfl, hextA⟩
  have frA := hextA.fresh
  have leA := hextA.c
  simp only at frA leA
  have kpA := Kp.ext (W := fun _ => False) (h := h8) (c := c8) hkp hextA (by omega) (fun _ _ q => q)
  refine ⟨Zap, ?_⟩
  refine Zgo ?_
  exact RoundE.goF (L - (i + 1)) K13 [(10, _), (11, _), (12, _), (13, _), (14, _), (67, _), (68, .int .i64 (z + 1))] (by omega) ⟨_, i + 1, z + 1, _, _, _, _, rfl, by omega, rfl, by omega, frA, kpA, by omega, rfl⟩
 ·refine Zgo ?_
  exact RoundE.goF (L - (i + 1)) K13 [(10, _), (11, _), (12, _), (13, _), (14, _), (67, _), (68, .int .i64 (z + 1))] (by omega) ⟨_, i + 1, z + 1, _, _, _, _, rfl, by omega, rfl, by omega, hf', hkp, by omega, rfl⟩
end Go.Ab.Seat
end
section
/- Data that come in, as the abstract machine is shown them; a run that answers true. -/
namespace Go.Ab.Seat
open Go.Extern Go.Proofs Go.RowKit
theorem s0_glob : Glob s0.h := ⟨by unfold Has; rw [s0_get, if_neg (by omega), if_pos rfl], by unfold Has; rw [s0_get, if_pos rfl]⟩
end Go.Ab.Seat
namespace Go.Proofs.YtofikbfljjjgeaaGreatDoor
open Go.ChangeShapes Go.WideShapes Go.RowKit Go.Ab Go.Ab.Seat
theorem arr_len {H : Type} {enc : TypeId × Value → H} {P : Program} {w : World} {base : Nat} {sp : Nat → Bool} {held : Bool} {fuel : Nat} {t e n : Nat} (hu : P.underlying t = some (.array n e))
  {cs : List Value} {x : DataW H × List MemPlace} (h : DataW.trod enc P w base sp held fuel t cs = some x) : cs.length = P.cellsOf t := by
 cases fuel with
 | zero => simp [DataW.trod] at h
 | succ k =>
  rw [DataW.trod_step] at h
  unfold DataW.trodStep at h
  simp only [hu] at h
  split at h
  ·assumption
  ·cases h
theorem cTab : Tryz.prog.cellsOf 193 = 32 := by kernel_rfl
structure _root_.Go.Ab.Seat.LaidX (w : World) : Prop where
 laid : Laid w
 x0 : ∃ c t fr, w.heap[0]? = some (.cells c t fr) ∧ c.toList = tab
 x1 : ∃ c t fr, w.heap[1]? = some (.cells c t fr) ∧ c.toList = [rt tErr]
theorem laidx_of {W : World} (h : laidMetH Tryz.prog laidVars W) (hs : W.ShapedOpen Tryz.prog) : LaidX W := by
 have h' : laidMet Tryz.prog [("math/bits.deBruijn32tab", Rows.laid_math_bits_deBruijn32tab)] W ∧ handlesMet Tryz.prog [("errors.errorType", Rows.laid_errors_errorType)] W := h
 have hl := laid_of h hs
 refine ⟨hl, ?_, ?_⟩
 ·obtain ⟨ps, ⟨g, t, cs, fuel, p, q, hg, ht, hvar, hd, _, _⟩, _⟩ := h'.1
  obtain rfl := Option.some.inj (gTab.symm.trans hg)
  obtain rfl := Option.some.inj (gType.symm.trans ht)
  have h1 := arr_len uTab hd
  rw [cTab] at h1
  obtain ⟨c, t, fr, hH, _, hc⟩ := hl.var0
  refine ⟨c, t, fr, hH, ?_⟩
  have hv := hvar
  unfold World.var? at hv
  rw [hg] at hv
  simp only [Option.bind_some] at hv
  rw [hH] at hv
  cases hv
  have ht : tab.length = 32 := by rfl
  refine List.ext_getElem? fun i => ?_
  by_cases hi : i < 32
  ·have : tab[i]? = some tab[i] := List.getElem?_eq_getElem (by omega)
   rw [this, Array.getElem?_toList]
   exact hc i _ this
  ·rw [List.getElem?_eq_none (by omega), List.getElem?_eq_none (by omega)]
 ·obtain ⟨name, u, ty, e1, e2, e3, e4, e5⟩ := h'.2 _ (List.mem_singleton.2 rfl)
  have en : name = [101, 114, 114, 111, 114] := (Option.some.inj e1).symm
  subst en
  obtain rfl := Option.some.inj (rtNo.symm.trans e2)
  have hm : ty ∈ (List.range 391).filter fun t => Tryz.prog.rowNamed t [101, 114, 114, 111, 114] := List.mem_filter.2 ⟨List.mem_range.2 (by rw [← tSize]; exact e3), e4⟩
  rw [oneRow] at hm
  obtain rfl := List.mem_singleton.1 hm
  have hv := e5
  unfold World.var? at hv
  rw [gEt] at hv
  simp only [Option.bind_some] at hv
  split at hv
  ·rename_i c t fr hH
   obtain rfl := Option.some.inj hv
   refine ⟨_, t, fr, hH, ?_⟩
   have hh : typeHandle Tryz.prog tErr = hd tErr := by unfold typeHandle; rw [gSize]; rfl
   rw [hh]
   rfl
  ·cases hv
theorem _root_.Go.Ab.Seat.LaidX.low {w : World} (h : LaidX w) : LowOk s0.h w.heap := by
 have hr := h.laid.hr
 have hle : (ι0 w).le (ιW w.heap) := by
  intro b L hb
  unfold ι0 at hb
  split at hb
  ·cases hb
   have := h.laid.size
   unfold ιW
   exact if_pos (by omega)
  ·cases hb
 refine ⟨?_, ?_, ?_⟩
 ·intro b o hb
  rw [s0_get] at hb
  split at hb
  ·cases hb; rfl
  ·split at hb
   ·cases hb; rfl
   ·cases hb
 ·intro b o hb
  obtain ⟨L, h1, h2⟩ := hr.obj b o hb
  exact ⟨L, hle _ _ h1, h2.mono hle⟩
 ·intro b o hb c t fr hH i v hv hp
  rw [s0_get] at hb
  split at hb
  ·rename_i h0
   subst h0
   cases hb
   obtain ⟨c', t', fr', hH', hc'⟩ := h.x1
   rw [hH] at hH'
   cases hH'
   rw [← Array.getElem?_toList, hc'] at hv
   cases i with
   | zero => cases hv; cases hp
   | succ i => simp at hv
  ·split at hb
   ·rename_i h0
    subst h0
    cases hb
    obtain ⟨c', t', fr', hH', hc'⟩ := h.x0
    rw [hH] at hH'
    cases hH'
    rw [← Array.getElem?_toList, hc'] at hv
    refine ⟨tab, rfl, ?_⟩
    have hm := List.mem_of_getElem? hv
    unfold tab at hm
    obtain ⟨n, _, rfl⟩ := List.mem_map.1 hm
    exact hv
   ·cases hb
theorem _root_.Go.Ab.Seat.LaidX.glob {w : World} (h : LaidX w) : Glob (hW w.heap s0.h) := ⟨h.low.has s0_glob.1, h.low.has s0_glob.2⟩
theorem data_true {f : Nat} {args args' : List Value} {w : World} (hsm : smQ f = none) (hex : ex f = none) (hl : LaidX w) (ha : VRl (ιW w.heap) args args')
  (h : ∃ v s', FnTo CQ eg f args ⟨hW w.heap s0.h, w.heap.size, [], []⟩ v s' ∧ v = .bool true) :
  Calls Tryz.prog f args'.toArray w fun e w' => e = .returned (.bool true) ∧ Below w.heap.size w w' := by
 obtain ⟨v, s', h1, rfl⟩ := h
 obtain ⟨n, h2⟩ := FnTo.callB hsm hex h1
 refine (calls_of_abs wholeQ n f h2 ha (hl.low.hr (by have := hl.laid.size; omega)) (fun b h1 _ => ?_) fun v' w' ι' hv hp => ?_).2
 ·have : w.heap.size ≤ b := h1
  exact if_neg (by omega)
 ·cases hv
  exact ⟨rfl, hp.os, hp.tape, hp.output, hp.size, fun k hk => hp.frame k hk hl.low.owned⟩
#print axioms data_true
end Go.Proofs.YtofikbfljjjgeaaGreatDoor
end
section
/- Rows of ints that come in. -/
namespace Go.Proofs.YtofikbfljjjgeaaGreatDoor
open Go.ChangeShapes Go.WideShapes Go.RowKit Go.Ab Go.Ab.Seat
theorem cat_ints {q : IntKind} {g : Nat → List Value} : ∀ {n : Nat}, (∀ i, i < n → ∃ z : Int, g i = [.int q z] ∧ (Lit.int q z).wf = true) → ∃ zs : List Int, zs.length = n ∧ cat g n = zs.map (Value.int q) ∧ ∀ z ∈ zs, (Lit.int q z).wf = true
 | 0, _ => ⟨[], rfl, rfl, fun z hz => by cases hz⟩
 | n + 1, h => by
  obtain ⟨zs, h1, h2, h3⟩ := cat_ints (n := n) fun i hi => h i (by omega)
  obtain ⟨z, hz, hw⟩ := h n (by omega)
  refine ⟨zs ++ [z], by simp [h1], by rw [cat_succ, h2, hz]; simp, fun y hy => ?_⟩
  rcases List.mem_append.1 hy with hy | hy
  ·exact h3 y hy
  ·obtain rfl := List.mem_singleton.1 hy
   exact hw
theorem ints_of {H : Type} {enc : TypeId × Value → H} {W : World} {fuel : Nat} (hl : LaidX W) {t e : Nat} {q : IntKind} (ht : Tryz.prog.underlying t = some (.slice e)) (he : Tryz.prog.underlying e = some (.int q)) (hc : Tryz.prog.cellsOf e = 1) {v : Value} {x : DataW H × List MemPlace} (h : DataW.trod enc Tryz.prog W 0 (fun _ => true) true fuel t [v] = some x) :
  ∃ oa n cap, ∃ zs : List Int, absV W.heap.size v = .slice oa n cap ∧ zs.length = n ∧ n ≤ maxLen ∧ Row (hW W.heap s0.h) (.slice oa n cap) n 1 (zs.map (Value.int q)) ∧ ∀ z ∈ zs, (Lit.int q z).wf = true := by
 obtain ⟨oa, oa', n, cap, f, rfl, ha, hn, hm, hf, hr⟩ := slice_row hl.low ht hc (by decide) (fun m cs y hy x hx => by
  obtain ⟨z, rfl, _⟩ := DataW.trod_int he hy
  obtain rfl := List.mem_singleton.1 hx
  rfl) h
 rw [ha] at hr ⊢
 obtain ⟨zs, h1, h2, h3⟩ := cat_ints (q := q) (g := fun i => (f i).map (absV W.heap.size)) (n := n) fun i hi => by
  obtain ⟨_, m, y, hy⟩ := hf i hi
  obtain ⟨z, hz, _, hw⟩ := DataW.trod_int he hy
  exact ⟨z, by rw [hz]; rfl, hw⟩
 rw [h2] at hr
 exact ⟨_, _, _, zs, rfl, h1, Nat.le_trans hn hm, hr, h3⟩
end Go.Proofs.YtofikbfljjjgeaaGreatDoor
end
section
/- The data of a call: a vector as it is shown. -/
namespace Go.Proofs.YtofikbfljjjgeaaGreatDoor
open Go.ChangeShapes Go.WideShapes Go.RowKit Go.Ab Go.Ab.Seat
theorem c21 : Tryz.prog.cellsOf 21 = 1 := by kernel_rfl
theorem c24 : Tryz.prog.cellsOf 25 = 1 := by kernel_rfl
theorem c3 : Tryz.prog.cellsOf 3 = 1 := by kernel_rfl
section
variable {H : Type} {enc : TypeId × Value → H} {W : World} {fuel : Nat}
theorem vec_of (hl : LaidX W) {v : Value} {x : DataW H × List MemPlace} (h : DataW.trod enc Tryz.prog W 0 (fun _ => true) true fuel 25 [v] = some x) :
  plainV v = true ∧ ∃ va nv kv, ∃ zs : List Int, absV W.heap.size v = .slice va nv kv ∧ zs.length = nv ∧ nv ≤ maxLen ∧ Row (hW W.heap s0.h) (.slice va nv kv) nv 1 (zs.map (Value.int .i32)) := by
 obtain ⟨oa, n, cap, zs, ha, h1, h3, h2, _⟩ := ints_of hl Tryz.underlying25 Tryz.underlying21 c21 h
 have hp : ∃ ob m c, v = .slice ob m c := by
  rcases DataW.trod_slice Tryz.underlying25 h with ⟨e, _⟩ | ⟨a, len, c, _, _, _, _, e, _⟩
  ·exact ⟨none, 0, 0, by simpa using e⟩
  ·exact ⟨some a, len, c, by simpa using e⟩
 obtain ⟨ob, m, c, rfl⟩ := hp
 exact ⟨rfl, oa, n, cap, zs, ha, h1, h3, h2⟩
end
end Go.Proofs.YtofikbfljjjgeaaGreatDoor
end
section
/- Operations on an index, as they are shown. -/
namespace Go.Proofs.YtofikbfljjjgeaaGreatDoor
open Go.ChangeShapes Go.WideShapes Go.RowKit Go.Ab Go.Ab.Seat
section
variable {H : Type} {enc : TypeId × Value → H} {W : World} {fuel : Nat}
theorem field_of {P : Program} {w : World} {base : Nat} {sp : Nat → Bool} {held : Bool} {t : TypeId} {fs : Array Field} (ht : P.underlying t = some (.struct fs)) {cs : List Value} {x : DataW H × List MemPlace} (h : DataW.trod enc P w base sp held fuel t cs = some x) :
  cs.length = P.cellsOf t ∧ ∀ (i : Nat) (f : Field), fs[i]? = some f → ∃ n y, DataW.trod enc P w base sp held n f.type ((cs.drop f.offset).take (P.cellsOf f.type)) = some y := by
 obtain ⟨xs, n, _, _, hlen, hxl, hfld⟩ := DataW.trod_struct ht h
 refine ⟨hlen, fun i f hf => ⟨n, ?_⟩⟩
 have hi : i < xs.length := by rw [hxl]; exact (Array.getElem?_eq_some_iff.1 hf).1
 exact ⟨xs[i], (hfld i f hf).trans (List.getElem?_eq_getElem hi)⟩
theorem c68 : Tryz.prog.cellsOf 32 = 1 := by kernel_rfl
theorem c99 : Tryz.prog.cellsOf 50 = 5 := by kernel_rfl
theorem _root_.Go.Ab.Seat.LaidX.pos (hl : LaidX W) : 0 < W.heap.size := by
 have := hl.glob.g0.lt (hW_fresh _ _)
 exact this
set_option maxRecDepth 100000 in
theorem op_cells {cs : List Value} {y : DataW H × List MemPlace} (h : DataW.trod enc Tryz.prog W 0 (fun _ => true) true fuel 50 cs = some y) :
  ∃ kd id k v dw, cs = [.int .i64 kd, .int .i64 id, .int .i64 k, v, .int .u32 dw] ∧ ∃ m y', DataW.trod enc Tryz.prog W 0 (fun _ => true) true m 25 [v] = some y' := by
 obtain ⟨hl, hf⟩ := field_of Tryz.underlying50 h
 rw [c99] at hl
 obtain ⟨n0, y0, h0⟩ := hf 0 _ rfl
 obtain ⟨n1, y1, h1⟩ := hf 1 _ rfl
 obtain ⟨n2, y2, h2⟩ := hf 2 _ rfl
 obtain ⟨n3, y3, h3⟩ := hf 3 _ rfl
 obtain ⟨n4, y4, h4⟩ := hf 4 _ rfl
 change DataW.trod enc Tryz.prog W 0 (fun _ => true) true n0 3 ((cs.drop 0).take (Tryz.prog.cellsOf 3)) = some y0 at h0
 change DataW.trod enc Tryz.prog W 0 (fun _ => true) true n1 3 ((cs.drop 1).take (Tryz.prog.cellsOf 3)) = some y1 at h1
 change DataW.trod enc Tryz.prog W 0 (fun _ => true) true n2 3 ((cs.drop 2).take (Tryz.prog.cellsOf 3)) = some y2 at h2
 change DataW.trod enc Tryz.prog W 0 (fun _ => true) true n3 25 ((cs.drop 3).take (Tryz.prog.cellsOf 25)) = some y3 at h3
 change DataW.trod enc Tryz.prog W 0 (fun _ => true) true n4 32 ((cs.drop 4).take (Tryz.prog.cellsOf 32)) = some y4 at h4
 rw [c3] at h0 h1 h2
 rw [c24] at h3
 rw [c68] at h4
 match cs, hl with
 | [c0, c1, c2, c3, c4], _ =>
  obtain ⟨kd, e0, _⟩ := DataW.trod_int Tryz.underlying3 h0
  obtain ⟨id, e1, _⟩ := DataW.trod_int Tryz.underlying3 h1
  obtain ⟨k, e2, _⟩ := DataW.trod_int Tryz.underlying3 h2
  obtain ⟨dw, e4, _⟩ := DataW.trod_int Tryz.underlying32 h4
  have e0' : c0 = .int .i64 kd := by simpa using e0
  have e1' : c1 = .int .i64 id := by simpa using e1
  have e2' : c2 = .int .i64 k := by simpa using e2
  have e4' : c4 = .int .u32 dw := by simpa using e4
  subst e0'; subst e1'; subst e2'; subst e4'
  exact ⟨kd, id, k, c3, dw, rfl, n3, y3, h3⟩
theorem absV_blk {n : Nat} {v : Value} {b : Nat} (hn : 0 < n) (h : blkOf (absV n v) = some b) : b < n := by
 unfold absV at h
 split at h
 all_goals (try (cases h; done))
 rename_i a l c
 split at h
 ·rename_i q
  cases h
  exact q.2
 ·split at h
  ·cases h; exact hn
  ·cases h
theorem ops_of (hl : LaidX W) {v : Value} {x : DataW H × List MemPlace} (h : DataW.trod enc Tryz.prog W 0 (fun _ => true) true fuel 48 [v] = some x) :
  ∃ oa n cap, absV W.heap.size v = .slice oa n cap ∧ OpsD (hW W.heap s0.h) W.heap.size oa n := by
 obtain ⟨oa, oa', n, cap, f, rfl, ha, _, _, hf, hr⟩ := slice_row hl.low Tryz.underlying48 c99 (by decide) (fun m cs y hy x hx => by
  obtain ⟨kd, id, k, v, dw, rfl, m', y', hv⟩ := op_cells hy
  obtain ⟨hp, _⟩ := vec_of hl hv
  simp only [List.mem_cons, List.not_mem_nil, or_false] at hx
  rcases hx with rfl | rfl | rfl | rfl | rfl <;> first | rfl | exact hp) h
 rw [ha] at hr ⊢
 refine ⟨_, _, _, rfl, fun i hi => ?_⟩
 rcases hr with ⟨rfl, _⟩ | ⟨b, o, sp, cap', cs, e, hc, hs⟩
 ·omega
 cases e
 obtain ⟨_, m, y, hy⟩ := hf i hi
 obtain ⟨kd, id, k, v, dw, hfi, m', y', hv⟩ := op_cells hy
 obtain ⟨_, va, nv, kv, zs, e1, e2, _, e4⟩ := vec_of hl hv
 have hlen : ∀ i, i < n → ((f i).map (absV W.heap.size)).length = 5 := fun i hi => by rw [List.length_map]; exact (hf i hi).1
 have cell : ∀ r, r < 5 → cs[o + (i * 5 + r)]? = ((f i).map (absV W.heap.size))[r]? := by
  intro r hr
  have h1 := cat_get (g := fun i => (f i).map (absV W.heap.size)) (k := 5) (i := i) (r := r) hr hlen hi
  have hlt : i * 5 + r < n * 5 := by omega
  rw [← h1, (subN_some _ _ _ _ hs).2.2 _ hlt]
 rw [hfi] at cell
 refine ⟨b, o, sp, cs, kd, id, k, va, nv, kv, zs, dw, rfl, hc.lt (hW_fresh _ _), hc, ?_, e4, e2, fun b hb => absV_blk hl.pos (v := v) (by rw [e1]; exact hb)⟩
 refine subN_ext rfl (by omega) fun j hj => ?_
 have := cell j (by omega)
 rw [show o + i * 5 + j = o + (i * 5 + j) by omega, this]
 rw [← e1]
 match j, hj with
 | 0, _ => rfl
 | 1, _ => rfl
 | 2, _ => rfl
 | 3, _ => rfl
 | 4, _ => rfl
end
end Go.Proofs.YtofikbfljjjgeaaGreatDoor
end
section
/- The data of a call: vectors of vectors, as they are shown. -/
namespace Go.Proofs.YtofikbfljjjgeaaGreatDoor
open Go.ChangeShapes Go.WideShapes Go.RowKit Go.Ab Go.Ab.Seat
theorem choose_list {α : Type} {P : Nat → α → Prop} : ∀ {n : Nat}, (∀ i, i < n → ∃ x, P i x) → ∃ l : List α, l.length = n ∧ ∀ (i : Nat) (x : α), l[i]? = some x → P i x
 | 0, _ => ⟨[], rfl, fun i x h => by cases h⟩
 | n + 1, h => by
  obtain ⟨l, h1, h2⟩ := choose_list (P := P) (n := n) fun i hi => h i (by omega)
  obtain ⟨x, hx⟩ := h n (by omega)
  refine ⟨l ++ [x], by rw [List.length_append, h1]; rfl, fun i y hy => ?_⟩
  rcases Nat.lt_or_ge i n with q | q
  ·rw [List.getElem?_append_left (by omega)] at hy
   exact h2 i y hy
  ·rw [List.getElem?_append_right (by omega), h1] at hy
   rcases Nat.eq_zero_or_pos (i - n) with e | e
   ·rw [e] at hy
    simp only [List.getElem?_cons_zero, Option.some.injEq] at hy
    subst hy
    rw [show i = n by omega]; exact hx
   ·rw [List.getElem?_eq_none (by simp; omega)] at hy
    cases hy
section
variable {H : Type} {enc : TypeId × Value → H} {W : World} {fuel : Nat}
theorem vecs_of (hl : LaidX W) {v : Value} {x : DataW H × List MemPlace} (h : DataW.trod enc Tryz.prog W 0 (fun _ => true) true fuel 22 [v] = some x) :
  ∃ zss, VecsIn (hW W.heap s0.h) (absV W.heap.size v) zss ∧ zss.length ≤ 9223372036854775807 := by
 obtain ⟨oa, oa', n, cap, f, rfl, ha, hn, hm, hf, hr⟩ := slice_row hl.low Tryz.underlying22 c24 (by decide) (fun m cs y hy x hx => by
  have hlen : cs.length = 1 := by
   rcases DataW.trod_slice Tryz.underlying25 hy with ⟨e, _⟩ | ⟨a, len, c, _, _, _, _, e, _⟩
   ·rw [e]; rfl
   ·rw [e]; rfl
  obtain ⟨w, rfl⟩ : ∃ w, cs = [w] := by
   match cs, hlen with
   | [w], _ => exact ⟨w, rfl⟩
  obtain rfl := List.mem_singleton.1 hx
  exact (vec_of hl hy).1) h
 rw [ha] at hr ⊢
 have one : ∀ i, i < n → ∃ zs : List Int, ∃ b o sp cs a k, oa' = some ⟨b, o, sp⟩ ∧ Cel (hW W.heap s0.h) b cs ∧ nth cs (o + i * 1) = some (.slice a zs.length k) ∧ Row (hW W.heap s0.h) (.slice a zs.length k) zs.length 1 (zs.map (Value.int .i32)) := by
  intro i hi
  obtain ⟨hl1, m, y, hy⟩ := hf i hi
  obtain ⟨w, hw⟩ : ∃ w, f i = [w] := by
   match hfi : f i, hl1 with
   | [w], _ => exact ⟨w, rfl⟩
  rw [hw] at hy
  obtain ⟨_, va, nv, kv, zs, e1, e2, _, e3⟩ := vec_of hl hy
  subst e2
  obtain ⟨b, o, sp, cs, e4, e5, e6⟩ := rowCell hr (j := i * 1) (by omega) (x := .slice va zs.length kv) (by
   have hlen : ∀ i, i < n → ((f i).map (absV W.heap.size)).length = 1 := fun i hi => by rw [List.length_map]; exact (hf i hi).1
   have := cat_get (g := fun i => (f i).map (absV W.heap.size)) (k := 1) (i := i) (r := 0) (by decide) hlen hi
   rw [Nat.add_zero] at this
   rw [this, hw]
   show some (absV W.heap.size w) = _
   rw [e1])
  exact ⟨zs, b, o, sp, cs, va, kv, e4, e5, e6, e3⟩
 obtain ⟨zss, h1, h2⟩ := choose_list one
 subst h1
 refine ⟨zss, ⟨oa', cap, rfl, h2⟩, ?_⟩
 have : maxLen ≤ 9223372036854775807 := by decide
 omega
end
end Go.Proofs.YtofikbfljjjgeaaGreatDoor
end
section
/- IvfAll: the walk over the data of a call. -/
namespace Go.Proofs.YtofikbfljjjgeaaGreatDoor
open Go.ChangeShapes Go.WideShapes Go.RowKit Go.Ab Go.Ab.Seat
theorem ivfAll_walk {H : Type} {enc : TypeId × Value → H} {W : World} (hl : LaidX W) {m d : Int} {v0 v : Value} {m0 m1 : Nat} {x0 x : DataW H × List MemPlace} (h0 : DataW.trod enc Tryz.prog W 0 (fun _ => true) true m0 22 [v0] = some x0) (hv : DataW.trod enc Tryz.prog W 0 (fun _ => true) true m1 48 [v] = some x) :
  Calls Tryz.prog 13 #[.int .i64 m, .int .i64 d, v0, v] W fun e w' => e = .returned (.bool true) ∧ Below W.heap.size W w' := by
 obtain ⟨zs0, a1, a2⟩ := vecs_of hl h0
 obtain ⟨oa, n, cap, h1, h2⟩ := ops_of hl hv
 have r0 := absV_VR W.heap v0
 have r1 := absV_VR W.heap v
 rw [h1] at r1
 refine data_true (args := [.int .i64 m, .int .i64 d, absV W.heap.size v0, .slice oa n cap]) (args' := [.int .i64 m, .int .i64 d, v0, v]) (stdQ 13 rfl) (ex13 (sm := smQ)) hl (VRl.cons (.int _ _) (VRl.cons (.int _ _) (VRl.cons r0 (VRl.cons r1 (VRl.nil _))))) ?_
 exact ivfAll_run (hW_fresh _ _) hl.glob m d a1 a2 h2
#print axioms ivfAll_walk
end Go.Proofs.YtofikbfljjjgeaaGreatDoor
end
