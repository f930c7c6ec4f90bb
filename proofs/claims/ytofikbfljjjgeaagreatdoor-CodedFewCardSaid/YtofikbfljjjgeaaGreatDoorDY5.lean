import Derived.Test.YtofikbfljjjgeaaGreatDoorDY3
set_option linter.unusedVariables false
set_option linter.unusedSimpArgs false
section
/- Codes by a book, and back (the abstract machine). -/
namespace Go.Ab.Seat
open Go.Extern Go.Proofs
set_option maxRecDepth 4000
structure BkAt (h : T AObj) (bk : Value) (dim : Nat) (lo st : List Int) (U : Nat → Prop) : Prop where
 ex : ∃ al kl at_ ks, bk = .agg ⟨[.slice al dim kl, .slice at_ dim ks]⟩ ∧ Row h (.slice al dim kl) dim 1 (lo.map (Value.int .i32)) ∧ Row h (.slice at_ dim ks) dim 1 (st.map (Value.int .i32)) ∧ (∀ b, blkOf (.slice al dim kl) = some b → U b) ∧ ∀ b, blkOf (.slice at_ dim ks) = some b → U b
 ll : lo.length = dim
 ls : st.length = dim
 bl : ∀ i, -1048576 ≤ lo.getD i 0 ∧ lo.getD i 0 ≤ 1048576
 bs : ∀ i, i < dim → 1 ≤ st.getD i 0 ∧ st.getD i 0 ≤ 8226
theorem BkAt.keep {h h' : T AObj} {c dim : Nat} {bk : Value} {lo st : List Int} {U U' : Nat → Prop} (x : BkAt h bk dim lo st U) (hf : Fresh h c) (hU : ∀ b, U b → U' b) (k : ∀ b, U b → b < c → h'.get b = h.get b) : BkAt h' bk dim lo st U' := by
 obtain ⟨⟨al, kl, at_, ks, h1, h2, h3, h4, h5⟩, h6, h7, h8, h9⟩ := x
 refine ⟨⟨al, kl, at_, ks, h1, ?_, ?_, fun b hb => hU b (h4 b hb), fun b hb => hU b (h5 b hb)⟩, h6, h7, h8, h9⟩
 ·rcases h2 with g | ⟨b, o, sp, cap, cs, e, g6, g7⟩
  ·exact .inl g
  ·refine .inr ⟨b, o, sp, cap, cs, e, ?_, g7⟩
   have q := k b (h4 b (by rw [e]; rfl)) (g6.lt hf)
   unfold Cel Has at g6 ⊢
   rw [q]; exact g6
 ·rcases h3 with g | ⟨b, o, sp, cap, cs, e, g6, g7⟩
  ·exact .inl g
  ·refine .inr ⟨b, o, sp, cap, cs, e, ?_, g7⟩
   have q := k b (h5 b (by rw [e]; rfl)) (g6.lt hf)
   unfold Cel Has at g6 ⊢
   rw [q]; exact g6
theorem ri1_spec {h : T AObj} {c : Nat} {rl wl : List Nat} (hf : Fresh h c) {x : Int} (hx : 1 ≤ x) :
  ∃ r s', FnTo (Cs smQ) eg 163 [.int .i32 x] ⟨h, c, rl, wl⟩ r s' ∧ (r = .bool false ∧ s' = ⟨h, c, rl, wl⟩) := by
 refine Fn.go (stdQ 163 rfl) ex163 fn163 km163 rfl rfl ?_
 refine Zev ?_
 refine Zgo ?_
 exact ⟨.inr rfl, Wres.one rfl ⟨rfl, rfl⟩⟩
theorem ix212_spec {h : T AObj} {c : Nat} {rl wl : List Nat} (hf : Fresh h c) {a : Option Addr} {dim k : Nat} {zs : List Int} (hn : zs.length = dim) (hx : Row h (.slice a dim k) dim 1 (zs.map (Value.int .i32))) (hb : ∀ i, i < dim → 1 ≤ zs.getD i 0) (hd : dim ≤ 1000) (R : Nat → Prop) (hR : ∀ x, blkOf (.slice a dim k) = some x → R x) :
  ∃ r s', FnTo (Cs smQ) eg 212 [.slice a dim k, .func (.func 163) #[] #[]] ⟨h, c, rl, wl⟩ r s' ∧ (r = .int .i64 (-1) ∧ s'.h = h ∧ s'.c = c) ∧ Ext ⟨h, c, rl, wl⟩ s' R (fun _ => False) := by
 refine Fn.go (stdQ 212 rfl) ex212 fn212 km212 rfl rfl ?_
 refine Zev ?_
 refine Zgo ?_
 refine Wx.loopF (fun k1 e s => ∃ (g : Nat → Value) (i : Nat) (z : Int) (rl' wl' : List Nat), e = fr g [(0, .slice a dim k), (1, .func (.func 163) #[] #[]), (7, .int .i64 (dim : Int)), (8, .int .i64 z)] KIx ∧ z = i ∧ s = ⟨h, c, rl', wl'⟩ ∧ Lg c R rl' ∧ Lg c (fun _ => False) wl' ∧ i ≤ dim ∧ k1 = dim - i) dim KIx [(0, _), (1, _), (7, _), (8, .int .i64 0)] ⟨_, 0, 0, _, _, rfl, rfl, rfl, Zlg, Zlg, by omega, rfl⟩ ?_
 rintro k1 e s ⟨g, i, z, rl', wl', rfl, hz, rfl, hlr, hlw, hin, rfl⟩
 (refine Wx.sw (by simp only [KIx, frN, frC, updN, updC, Nat.reduceEqDiff, ↓reduceIte]; rfl) ?_)
 by_cases hi : i < dim
 ·obtain ⟨b1, o1, sp1, cs1, rfl, hc1, hn1⟩ := rowCell hx (j := i * 1) (by omega) (vec_nth (by omega))
  have l1 := hc1.lt hf
  have r1 := hR b1 rfl
  refine Zgo ?_
  refine Zu (to_indexAddr (k := i) el24 rfl rfl hz hi) ?_
  refine Zu (to_load (pl_ rfl) rfl hc1 (by omega) hn1) ?_
  refine Wseq.callV rfl rfl rfl (ri1_spec Zfr (hb i hi)) ?_
  rintro v2 h1 c1 r1 w1 ⟨rfl, e1⟩
  cases e1
  refine Zgo ?_
  exact RoundE.goF (dim - (i + 1)) KIx [(0, _), (1, _), (7, _), (8, .int .i64 (z + 1))] (by omega) ⟨_, i + 1, z + 1, _, _, rfl, by omega, rfl, Zlg, Zlg, by omega, rfl⟩
 ·refine Zgo ?_
  refine ⟨.inr rfl, Wres.one rfl ⟨⟨rfl, rfl, rfl⟩, ?_⟩⟩
  exact Zex
theorem cf162_spec {h : T AObj} {c : Nat} {rl wl : List Nat} (hf : Fresh h c) {a : Option Addr} {dim k : Nat} {zs : List Int} (hn : zs.length = dim) (hx : Row h (.slice a dim k) dim 1 (zs.map (Value.int .i32))) (hb : ∀ i, i < dim → 1 ≤ zs.getD i 0) (hd : dim ≤ 1000) (R : Nat → Prop) (hR : ∀ x, blkOf (.slice a dim k) = some x → R x) :
  ∃ r s', FnTo (Cs smQ) eg 162 [.slice a dim k, .func (.func 163) #[] #[]] ⟨h, c, rl, wl⟩ r s' ∧ (r = .bool false ∧ s'.h = h ∧ s'.c = c) ∧ Ext ⟨h, c, rl, wl⟩ s' R (fun _ => False) := by
 refine Fn.go (stdQ 162 rfl) ex162 fn162 km162 rfl rfl ?_
 refine Zev ?_
 refine Zgo ?_
 refine Wseq.call rfl rfl (ix212_spec Zfr hn hx hb hd R hR) ?_
 rintro v1 h1 c1 r1 w1 ⟨⟨rfl, e1, e2⟩, hext⟩
 simp only at e1 e2
 subst e1 e2
 have lr := Lg.extR (R := R) (c := c1) Zlg hext (fun _ _ q => q)
 have lw := Lg.extW (W := fun _ => False) (c := c1) Zlg hext (fun _ _ q => q)
 refine Zgo ?_
 refine ⟨.inr rfl, Wres.one rfl ⟨⟨rfl, rfl, rfl⟩, ?_⟩⟩
 exact Zex
theorem right_spec {h : T AObj} {c : Nat} {rl wl : List Nat} (hf : Fresh h c) {bk : Value} {dim : Nat} {lo st : List Int} {U : Nat → Prop} (q : BkAt h bk dim lo st U) (hd : dim ≤ 1000) (R : Nat → Prop) (hUR : ∀ b, U b → R b) :
  ∃ r s', FnTo (Cs smQ) eg 95 [bk] ⟨h, c, rl, wl⟩ r s' ∧ r = .bool true ∧ Ext ⟨h, c, rl, wl⟩ s' R (fun _ => False) := by
 obtain ⟨⟨al, kl, at_, ks, rfl, h2, h3, h4, h5⟩, h6, h7, h8, h9⟩ := q
 refine Fn.go (stdQ 95 rfl) ex95 fn95 km95 rfl rfl ?_
 refine Zev ?_
 refine Zgo ?_
 refine Wseq.call rfl rfl (cf162_spec Zfr h7 (Row.keepF h3 hf (fun b hb => get_other (by omega))) (fun i hi => (h9 i hi).1) hd R (fun b q => hUR b (h5 b q))) ?_
 rintro v1 h1 c1 r1 w1 ⟨⟨rfl, e1, e2⟩, hext⟩
 simp only at e1 e2
 have lr := Lg.extR (R := R) (c := c) Zlg hext (fun _ _ q => q)
 have lw := Lg.extW (W := fun _ => False) (c := c) Zlg hext (fun _ _ q => q)
 subst e1 e2
 refine Zgo ?_
 refine ⟨.inr rfl, Wres.one rfl ⟨rfl, ?_⟩⟩
 exact Zex
end Go.Ab.Seat
end
section
/- A vector's code, a code's vector (the abstract machine). -/
namespace Go.Ab.Seat
open Go.Extern Go.Proofs
set_option maxRecDepth 4000
theorem wrapA_u8 {z : Int} (h0 : 0 ≤ z) (h1 : z ≤ 255) : wrapA .u8 z = z := wrapA_of (IntWalk.u8_in z ⟨h0, h1⟩)
theorem kvec_nth {k : IntKind} {zs : List Int} {j : Nat} (hj : j < zs.length) : (zs.map (Value.int k))[j * 1]? = some (.int k (zs.getD j 0)) := by
 rw [Nat.mul_one, List.getElem?_map, List.getD_eq_getElem?_getD, List.getElem?_eq_getElem hj]; rfl
theorem qfloor_spec {h : T AObj} {c : Nat} {rl wl : List Nat} (hf : Fresh h c) {a b : Int} (hb : 0 < b) (ha : -1000000000000 ≤ a ∧ a ≤ 1000000000000) :
  ∃ r s', FnTo (Cs smQ) eg 96 [.int .i64 a, .int .i64 b] ⟨h, c, rl, wl⟩ r s' ∧ (r = .int .i64 (flZ a b) ∧ s' = ⟨h, c, rl, wl⟩) := by
 have h1 := tdiv_rng (a := a) hb
 refine Fn.go (stdQ 96 rfl) ex96 fn96 km96 rfl rfl ?_
 refine Zev ?_
 refine Zgo ?_
 refine Zu (to_quo rfl rfl (by omega) (by omega) (by omega)) ?_
 refine Zgo ?_
 refine Zu (to_rem rfl rfl (by omega)) ?_
 unfold flZ
 by_cases hq : a.tmod b < 0
 ·rw [if_pos hq]
  refine Zgo ?_
  exact ⟨.inr rfl, Wres.one rfl ⟨rfl, rfl⟩⟩
 ·rw [if_neg hq]
  refine Zgo ?_
  exact ⟨.inr rfl, Wres.one rfl ⟨rfl, rfl⟩⟩
def codeI (lo st zs : List Int) (i : Nat) : Int := min (max (flZ (zs.getD i 0 - lo.getD i 0 + (st.getD i 0).tdiv 2) (st.getD i 0)) 0) 255
def codeZ (lo st zs : List Int) : List Int := (List.range zs.length).map (codeI lo st zs)
def backI (lo st co : List Int) (i : Nat) : Int := min (max (lo.getD i 0 + st.getD i 0 * co.getD i 0) (-1048576)) 1048576
def backZ (lo st co : List Int) : List Int := (List.range co.length).map (backI lo st co)
theorem codeI_rng (lo st zs : List Int) (i : Nat) : 0 ≤ codeI lo st zs i ∧ codeI lo st zs i ≤ 255 := by unfold codeI; omega
def K42 : List Nat := [0, 1, 2, 4, 5, 6, 7, 8, 11, 17, 18, 19, 24]
set_option maxHeartbeats 8000000 in
theorem qcode_spec {h : T AObj} {c : Nat} {rl wl : List Nat} (hf : Fresh h c) {bk : Value} {dim : Nat} {lo st : List Int} {U : Nat → Prop} (q : BkAt h bk dim lo st U) (hd : dim ≤ 8) {a : Option Addr} {k : Nat} {zs : List Int} (hn : zs.length = dim) (hx : Row h (.slice a dim k) dim 1 (zs.map (Value.int .i32))) (hb : Bnd zs) (R : Nat → Prop) (hUR : ∀ b, U b → R b) (hR : ∀ x, blkOf (.slice a dim k) = some x → R x) :
  ∃ r s', FnTo (Cs smQ) eg 42 [bk, .slice a dim k] ⟨h, c, rl, wl⟩ r s' ∧ (∃ b, r = .slice (some ⟨b, 0, none⟩) dim dim ∧ c ≤ b ∧ Has s'.h b (.cells ((codeZ lo st zs).map (Value.int .u8)))) ∧ Ext ⟨h, c, rl, wl⟩ s' R (fun _ => False) := by
 have q0 := q
 obtain ⟨⟨al, kl, at_, ks, rfl, h2, h3, h4, h5⟩, h6, h7, h8, h9⟩ := q
 have hbg : big = 1048576 := rfl
 refine Fn.go (stdQ 42 rfl) ex42 fn42 km42 rfl rfl ?_
 refine Zev ?_
 refine Zgo ?_
 refine Wseq.call rfl rfl (right_spec Zfr (q0.keep hf (fun _ q => q) (fun b _ hb => get_other (by omega))) (by omega) R hUR) ?_
 rintro v1 h1 c1 r1 w1 ⟨rfl, hext⟩
 have fr1 := hext.fresh
 have le1 := hext.c
 simp only at fr1 le1
 have kp := Kp.ext (W := fun _ => False) (h := h) (c := c) Zkp hext (by omega) (fun _ _ q => q)
 have lr := Lg.extR (R := R) (c := c) Zlg hext (fun _ _ q => q)
 have lw := Lg.extW (W := fun _ => False) (c := c) Zlg hext (fun _ _ q => q)
 have gb := hext.hs (b := c) Has.same (by omega) (fun q => q)
 refine Zgo ?_
 refine Zu (to_makeSlice (a := dim) (b := dim) ro77 rfl rfl rfl rfl (by omega) (by omega) Zfr) ?_
 refine Zgo ?_
 refine Wx.loopF (fun k1 e s => ∃ (g : Nat → Value) (i : Nat) (z : Int) (h' : T AObj) (rl' wl' : List Nat), e = fr g [(1, .slice a dim k), (2, .pointer (some ⟨c, 0, none⟩)), (5, .slice (some ⟨c1, 0, none⟩) dim dim), (17, .int .i64 (dim : Int)), (18, .int .i64 z)] K42 ∧ z = i ∧ s = ⟨h', c1 + 1, rl', wl'⟩ ∧ Fresh h' (c1 + 1) ∧ Kp h1 h' c1 (fun _ => False) ∧ Has h' c1 (.cells (mixK .u8 (codeI lo st zs) (fun _ => 0) dim i)) ∧ Lg c R rl' ∧ Lg c (fun _ => False) wl' ∧ i ≤ dim ∧ k1 = dim - i) dim K42 [(1, _), (2, _), (5, _), (17, _), (18, .int .i64 0)] ⟨_, 0, 0, _, _, _, rfl, rfl, rfl, Zfr, Zkp, by rw [← mixK_rep]; exact Has.same, Zlg, Zlg, by omega, rfl⟩ ?_
 rintro k1 e s ⟨g, i, z, h', rl', wl', rfl, hz, rfl, hf', hkp, hC, hlr, hlw, hid, rfl⟩
 (refine Wx.sw (by simp only [K42, frN, frC, updN, updC, Nat.reduceEqDiff, ↓reduceIte]; rfl) ?_)
 have kph : Kp h h' c (fun _ => False) := fun b hb _ => (hkp b (by omega) (fun q => q)).trans (kp b hb (fun q => q))
 by_cases hi : i < dim
 ·have gb' : Has h' c _ := (hkp c (by omega) (fun q => q)).trans gb
  obtain ⟨b1, o1, sp1, cs1, rfl, hc1, hn1⟩ := rowCell (Row.keepF hx hf (fun b hb => kph b hb (fun q => q))) (j := i * 1) (by omega) (kvec_nth (by omega))
  obtain ⟨b2, o2, sp2, cs2, rfl, hc2, hn2⟩ := rowCell (Row.keepF h2 hf (fun b hb => kph b hb (fun q => q))) (j := i * 1) (by omega) (kvec_nth (by omega))
  obtain ⟨b3, o3, sp3, cs3, rfl, hc3, hn3⟩ := rowCell (Row.keepF h3 hf (fun b hb => kph b hb (fun q => q))) (j := i * 1) (by omega) (kvec_nth (by omega))
  have l1 := hc1.lt hf'
  have l2 := hc2.lt hf'
  have l3 := hc3.lt hf'
  have r1 := hR b1 rfl
  have r2 := hUR b2 (h4 b2 rfl)
  have r3 := hUR b3 (h5 b3 rfl)
  have q1 := hb i
  have q2 := h8 i
  have q3 := h9 i hi
  have q4 : 0 ≤ (st.getD i 0).tdiv 2 ∧ (st.getD i 0).tdiv 2 ≤ 8226 := by rw [Int.tdiv_eq_ediv_of_nonneg (by omega)]; omega
  have hstp := mixK_step .u8 (codeI lo st zs) (fun _ => 0) dim i hi
  have hcr := codeI_rng lo st zs i
  have hce : codeI lo st zs i = min (max (flZ (zs.getD i 0 - lo.getD i 0 + (st.getD i 0).tdiv 2) (st.getD i 0)) 0) 255 := rfl
  refine Zgo ?_
  refine Zq (to_indexAddr (k := i) el24 rfl rfl hz hi) ?_
  refine Zd (to_load (pl_ rfl) rfl hc2 (by omega) hn2) ?_
  refine Zgo ?_
  refine Zq (to_indexAddr (k := i) el24 rfl rfl hz hi) ?_
  refine Zd (to_load (pl_ rfl) rfl hc3 (by omega) hn3) ?_
  refine Zgo ?_
  simp only [wrapA_i64 (show (-9223372036854775808 : Int) ≤ lo.getD i 0 by omega) (by omega), wrapA_i64 (show (-9223372036854775808 : Int) ≤ st.getD i 0 by omega) (by omega)]
  refine Zu (to_indexAddr (k := i) el25 rfl rfl hz hi) ?_
  refine Zu (to_load (pl_ rfl) rfl hc1 (by omega) hn1) ?_
  refine Zgo ?_
  simp only [wrapA_i64 (show (-9223372036854775808 : Int) ≤ zs.getD i 0 by omega) (by omega)]
  refine Zgo ?_
  refine Zu (to_quo rfl rfl (by omega) (by omega) (by omega)) ?_
  refine Zgo ?_
  refine Wseq.call rfl rfl (qfloor_spec Zfr (by omega) (by omega)) ?_
  rintro v9 h9' c9 r9 w9 ⟨rfl, e9⟩
  cases e9
  refine Zgo ?_
  rw [← hce]
  simp only [wrapA_u8 hcr.1 hcr.2]
  refine Zu (to_indexAddr (k := i) el77 rfl rfl hz hi) ?_
  ((with_reducible apply Wseq.so); rfl; exact (sz_ rfl); rfl; exact hC; omega; refine Znv ?_; refine ⟨_, _, (by (first | exact cellsA_agg _ | rfl)), rfl, hstp, ?_⟩)
  refine Zgo ?_
  exact RoundE.goF (dim - (i + 1)) K42 [(1, _), (2, _), (5, _), (17, _), (18, .int .i64 (z + 1))] (by omega) ⟨_, i + 1, z + 1, _, _, _, rfl, by omega, rfl, Zfr, Zkp, Has.same, Zlg, Zlg, by omega, rfl⟩
 ·refine Zgo ?_
  obtain rfl : i = dim := by omega
  refine ⟨.inr rfl, Wres.one rfl ⟨⟨c1, rfl, by omega, ?_⟩, ?_⟩⟩
  ·unfold codeZ
   rw [hn, ← mixK_all .u8 (codeI lo st zs) (fun _ => 0) i]
   exact hC
  ·exact Zex
end Go.Ab.Seat
end
