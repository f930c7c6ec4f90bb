import Derived.Test.YtofikbfljjjgeaaGreatDoorDY3
import Derived.Test.YtofikbfljjjgeaaGreatDoorDY2
set_option linter.unusedVariables false
set_option linter.unusedSimpArgs false
section
/- Codes by a book, and back (the abstract machine). -/
namespace Go.Ab.Seat
open Go.Extern Go.Proofs
set_option maxRecDepth 4000
structure BkAt (h : T AObj) (bk : Value) (dim : Nat) (lo st : List Int) (U : Nat → Prop) : Prop where
 ex : ∃ al kl at_ ks, bk = .agg ⟨[.slice al dim kl, .slice at_ dim ks]⟩ ∧ Row h (.slice al dim kl) dim 1 (lo.map (Value.int .i32)) ∧ Row h (.slice at_ dim ks) dim 1 (st.map (Value.int .i32)) ∧ (∀ b, blkOf (.slice al dim kl) = some b → U b) ∧ ∀ b, blkOf (.slice at_ dim ks) = some b → U b
 ll : lo.length = dim
 ls : st.length = dim
 bl : ∀ i, -1048576 ≤ lo.getD i 0 ∧ lo.getD i 0 ≤ 1048576
 bs : ∀ i, i < dim → 1 ≤ st.getD i 0 ∧ st.getD i 0 ≤ 8226
theorem BkAt.keep {h h' : T AObj} {c dim : Nat} {bk : Value} {lo st : List Int} {U U' : Nat → Prop} (x : BkAt h bk dim lo st U) (hf : Fresh h c) (hU : ∀ b, U b → U' b) (k : ∀ b, U b → b < c → h'.get b = h.get b) : BkAt h' bk dim lo st U' := by
 obtain ⟨⟨al, kl, at_, ks, h1, h2, h3, h4, h5⟩, h6, h7, h8, h9⟩ := x
 refine ⟨⟨al, kl, at_, ks, h1, ?_, ?_, fun b hb => hU b (h4 b hb), fun b hb => hU b (h5 b hb)⟩, h6, h7, h8, h9⟩
 ·rcases h2 with g | ⟨b, o, sp, cap, cs, e, g6, g7⟩
  ·exact .inl g
  ·refine .inr ⟨b, o, sp, cap, cs, e, ?_, g7⟩
   have q := k b (h4 b (by rw [e]; rfl)) (g6.lt hf)
   unfold Cel Has at g6 ⊢
   rw [q]; exact g6
 ·rcases h3 with g | ⟨b, o, sp, cap, cs, e, g6, g7⟩
  ·exact .inl g
  ·refine .inr ⟨b, o, sp, cap, cs, e, ?_, g7⟩
   have q := k b (h5 b (by rw [e]; rfl)) (g6.lt hf)
   unfold Cel Has at g6 ⊢
   rw [q]; exact g6
theorem ri1_spec {h : T AObj} {c : Nat} {rl wl : List Nat} (hf : Fresh h c) {x : Int} (hx : 1 ≤ x) :
  ∃ r s', FnTo (Cs smQ) eg 163 [.int .i32 x] ⟨h, c, rl, wl⟩ r s' ∧ (r = .bool false ∧ s' = ⟨h, c, rl, wl⟩) := by
 refine Fn.go (stdQ 163 rfl) ex163 fn163 km163 rfl rfl ?_
 refine Zev ?_
 refine Zgo ?_
 exact ⟨.inr rfl, Wres.one rfl ⟨rfl, rfl⟩⟩
theorem ix212_spec {h : T AObj} {c : Nat} {rl wl : List Nat} (hf : Fresh h c) {a : Option Addr} {dim k : Nat} {zs : List Int} (hn : zs.length = dim) (hx : Row h (.slice a dim k) dim 1 (zs.map (Value.int .i32))) (hb : ∀ i, i < dim → 1 ≤ zs.getD i 0) (hd : dim ≤ 1000) (R : Nat → Prop) (hR : ∀ x, blkOf (.slice a dim k) = some x → R x) :
  ∃ r s', FnTo (Cs smQ) eg 212 [.slice a dim k, .func (.func 163) #[] #[]] ⟨h, c, rl, wl⟩ r s' ∧ (r = .int .i64 (-1) ∧ s'.h = h ∧ s'.c = c) ∧ Ext ⟨h, c, rl, wl⟩ s' R (fun _ => False) := by
 refine Fn.go (stdQ 212 rfl) ex212 fn212 km212 rfl rfl ?_
 refine Zev ?_
 refine Zgo ?_
 refine Wx.loopF (fun k1 e s => ∃ (g : Nat → Value) (i : Nat) (z : Int) (rl' wl' : List Nat), e = fr g [(0, .slice a dim k), (1, .func (.func 163) #[] #[]), (7, .int .i64 (dim : Int)), (8, .int .i64 z)] KIx ∧ z = i ∧ s = ⟨h, c, rl', wl'⟩ ∧ Lg c R rl' ∧ Lg c (fun _ => False) wl' ∧ i ≤ dim ∧ k1 = dim - i) dim KIx [(0, _), (1, _), (7, _), (8, .int .i64 0)] ⟨_, 0, 0, _, _, rfl, rfl, rfl, Zlg, Zlg, by omega, rfl⟩ ?_
 rintro k1 e s ⟨g, i, z, rl', wl', rfl, hz, rfl, hlr, hlw, hin, rfl⟩
 (refine Wx.sw (by simp only [KIx, frN, frC, updN, updC, Nat.reduceEqDiff, ↓reduceIte]; rfl) ?_)
 by_cases hi : i < dim
 ·obtain ⟨b1, o1, sp1, cs1, rfl, hc1, hn1⟩ := rowCell hx (j := i * 1) (by omega) (vec_nth (by omega))
  have l1 := hc1.lt hf
  have r1 := hR b1 rfl
  refine Zgo ?_
  refine Zu (to_indexAddr (k := i) el24 rfl rfl hz hi) ?_
  refine Zu (to_load (pl_ rfl) rfl hc1 (by omega) hn1) ?_
  refine Wseq.callV rfl rfl rfl (ri1_spec Zfr (hb i hi)) ?_
  rintro v2 h1 c1 r1 w1 ⟨rfl, e1⟩
  cases e1
  refine Zgo ?_
  exact RoundE.goF (dim - (i + 1)) KIx [(0, _), (1, _), (7, _), (8, .int .i64 (z + 1))] (by omega) ⟨_, i + 1, z + 1, _, _, rfl, by omega, rfl, Zlg, Zlg, by omega, rfl⟩
 ·refine Zgo ?_
  refine ⟨.inr rfl, Wres.one rfl ⟨⟨rfl, rfl, rfl⟩, ?_⟩⟩
  exact Zex
theorem cf162_spec {h : T AObj} {c : Nat} {rl wl : List Nat} (hf : Fresh h c) {a : Option Addr} {dim k : Nat} {zs : List Int} (hn : zs.length = dim) (hx : Row h (.slice a dim k) dim 1 (zs.map (Value.int .i32))) (hb : ∀ i, i < dim → 1 ≤ zs.getD i 0) (hd : dim ≤ 1000) (R : Nat → Prop) (hR : ∀ x, blkOf (.slice a dim k) = some x → R x) :
  ∃ r s', FnTo (Cs smQ) eg 162 [.slice a dim k, .func (.func 163) #[] #[]] ⟨h, c, rl, wl⟩ r s' ∧ (r = .bool false ∧ s'.h = h ∧ s'.c = c) ∧ Ext ⟨h, c, rl, wl⟩ s' R (fun _ => False) := by
 refine Fn.go (stdQ 162 rfl) ex162 fn162 km162 rfl rfl ?_
 refine Zev ?_
 refine Zgo ?_
 refine Wseq.call rfl rfl (ix212_spec Zfr hn hx hb hd R hR) ?_
 rintro v1 h1 c1 r1 w1 ⟨⟨rfl, e1, e2⟩, hext⟩
 simp only at e1 e2
 subst e1 e2
 have lr := Lg.extR (R := R) (c := c1) Zlg hext (fun _ _ q => q)
 have lw := Lg.extW (W := fun _ => False) (c := c1) Zlg hext (fun _ _ q => q)
 refine Zgo ?_
 refine ⟨.inr rfl, Wres.one rfl ⟨⟨rfl, rfl, rfl⟩, ?_⟩⟩
 exact Zex
theorem right_spec {h : T AObj} {c : Nat} {rl wl : List Nat} (hf : Fresh h c) {bk : Value} {dim : Nat} {lo st : List Int} {U : Nat → Prop} (q : BkAt h bk dim lo st U) (hd : dim ≤ 1000) (R : Nat → Prop) (hUR : ∀ b, U b → R b) :
  ∃ r s', FnTo (Cs smQ) eg 95 [bk] ⟨h, c, rl, wl⟩ r s' ∧ r = .bool true ∧ Ext ⟨h, c, rl, wl⟩ s' R (fun _ => False) := by
 obtain ⟨⟨al, kl, at_, ks, rfl, h2, h3, h4, h5⟩, h6, h7, h8, h9⟩ := q
 refine Fn.go (stdQ 95 rfl) ex95 fn95 km95 rfl rfl ?_
 refine Zev ?_
 refine Zgo ?_
 refine Wseq.call rfl rfl (cf162_spec Zfr h7 (Row.keepF h3 hf (fun b hb => get_other (by omega))) (fun i hi => (h9 i hi).1) hd R (fun b q => hUR b (h5 b q))) ?_
 rintro v1 h1 c1 r1 w1 ⟨⟨rfl, e1, e2⟩, hext⟩
 simp only at e1 e2
 have lr := Lg.extR (R := R) (c := c) Zlg hext (fun _ _ q => q)
 have lw := Lg.extW (W := fun _ => False) (c := c) Zlg hext (fun _ _ q => q)
 subst e1 e2
 refine Zgo ?_
 refine ⟨.inr rfl, Wres.one rfl ⟨rfl, ?_⟩⟩
 exact Zex
end Go.Ab.Seat
end
section
/- A vector's code, a code's vector (the abstract machine). -/
namespace Go.Ab.Seat
open Go.Extern Go.Proofs
set_option maxRecDepth 4000
theorem wrapA_u8 {z : Int} (h0 : 0 ≤ z) (h1 : z ≤ 255) : wrapA .u8 z = z := wrapA_of (IntWalk.u8_in z ⟨h0, h1⟩)
theorem kvec_nth {k : IntKind} {zs : List Int} {j : Nat} (hj : j < zs.length) : (zs.map (Value.int k))[j * 1]? = some (.int k (zs.getD j 0)) := by
 rw [Nat.mul_one, List.getElem?_map, List.getD_eq_getElem?_getD, List.getElem?_eq_getElem hj]; rfl
theorem qfloor_spec {h : T AObj} {c : Nat} {rl wl : List Nat} (hf : Fresh h c) {a b : Int} (hb : 0 < b) (ha : -1000000000000 ≤ a ∧ a ≤ 1000000000000) :
  ∃ r s', FnTo (Cs smQ) eg 96 [.int .i64 a, .int .i64 b] ⟨h, c, rl, wl⟩ r s' ∧ (r = .int .i64 (flZ a b) ∧ s' = ⟨h, c, rl, wl⟩) := by
 have h1 := tdiv_rng (a := a) hb
 refine Fn.go (stdQ 96 rfl) ex96 fn96 km96 rfl rfl ?_
 refine Zev ?_
 refine Zgo ?_
 refine Zu (to_quo rfl rfl (by omega) (by omega) (by omega)) ?_
 refine Zgo ?_
 refine Zu (to_rem rfl rfl (by omega)) ?_
 unfold flZ
 by_cases hq : a.tmod b < 0
 ·rw [if_pos hq]
  refine Zgo ?_
  exact ⟨.inr rfl, Wres.one rfl ⟨rfl, rfl⟩⟩
 ·rw [if_neg hq]
  refine Zgo ?_
  exact ⟨.inr rfl, Wres.one rfl ⟨rfl, rfl⟩⟩
def codeI (lo st zs : List Int) (i : Nat) : Int := min (max (flZ (zs.getD i 0 - lo.getD i 0 + (st.getD i 0).tdiv 2) (st.getD i 0)) 0) 255
def codeZ (lo st zs : List Int) : List Int := (List.range zs.length).map (codeI lo st zs)
theorem codeI_rng (lo st zs : List Int) (i : Nat) : 0 ≤ codeI lo st zs i ∧ codeI lo st zs i ≤ 255 := by unfold codeI; omega
def K42 : List Nat := [0, 1, 2, 4, 5, 6, 7, 8, 11, 17, 18, 19, 24]
set_option maxHeartbeats 8000000 in
theorem qcode_spec {h : T AObj} {c : Nat} {rl wl : List Nat} (hf : Fresh h c) {bk : Value} {dim : Nat} {lo st : List Int} {U : Nat → Prop} (q : BkAt h bk dim lo st U) (hd : dim ≤ 8) {a : Option Addr} {k : Nat} {zs : List Int} (hn : zs.length = dim) (hx : Row h (.slice a dim k) dim 1 (zs.map (Value.int .i32))) (hb : Bnd zs) (R : Nat → Prop) (hUR : ∀ b, U b → R b) (hR : ∀ x, blkOf (.slice a dim k) = some x → R x) :
  ∃ r s', FnTo (Cs smQ) eg 42 [bk, .slice a dim k] ⟨h, c, rl, wl⟩ r s' ∧ (∃ b, r = .slice (some ⟨b, 0, none⟩) dim dim ∧ c ≤ b ∧ Has s'.h b (.cells ((codeZ lo st zs).map (Value.int .u8)))) ∧ Ext ⟨h, c, rl, wl⟩ s' R (fun _ => False) := by
 have q0 := q
 obtain ⟨⟨al, kl, at_, ks, rfl, h2, h3, h4, h5⟩, h6, h7, h8, h9⟩ := q
 have hbg : big = 1048576 := rfl
 refine Fn.go (stdQ 42 rfl) ex42 fn42 km42 rfl rfl ?_
 refine Zev ?_
 refine Zgo ?_
 refine Wseq.call rfl rfl (right_spec Zfr (q0.keep hf (fun _ q => q) (fun b _ hb => get_other (by omega))) (by omega) R hUR) ?_
 rintro v1 h1 c1 r1 w1 ⟨rfl, hext⟩
 have fr1 := hext.fresh
 have le1 := hext.c
 simp only at fr1 le1
 have kp := Kp.ext (W := fun _ => False) (h := h) (c := c) Zkp hext (by omega) (fun _ _ q => q)
 have lr := Lg.extR (R := R) (c := c) Zlg hext (fun _ _ q => q)
 have lw := Lg.extW (W := fun _ => False) (c := c) Zlg hext (fun _ _ q => q)
 have gb := hext.hs (b := c) Has.same (by omega) (fun q => q)
 refine Zgo ?_
 refine Zu (to_makeSlice (a := dim) (b := dim) ro77 rfl rfl rfl rfl (by omega) (by omega) Zfr) ?_
 refine Zgo ?_
 refine Wx.loopF (fun k1 e s => ∃ (g : Nat → Value) (i : Nat) (z : Int) (h' : T AObj) (rl' wl' : List Nat), e = fr g [(1, .slice a dim k), (2, .pointer (some ⟨c, 0, none⟩)), (5, .slice (some ⟨c1, 0, none⟩) dim dim), (17, .int .i64 (dim : Int)), (18, .int .i64 z)] K42 ∧ z = i ∧ s = ⟨h', c1 + 1, rl', wl'⟩ ∧ Fresh h' (c1 + 1) ∧ Kp h1 h' c1 (fun _ => False) ∧ Has h' c1 (.cells (mixK .u8 (codeI lo st zs) (fun _ => 0) dim i)) ∧ Lg c R rl' ∧ Lg c (fun _ => False) wl' ∧ i ≤ dim ∧ k1 = dim - i) dim K42 [(1, _), (2, _), (5, _), (17, _), (18, .int .i64 0)] ⟨_, 0, 0, _, _, _, rfl, rfl, rfl, Zfr, Zkp, by rw [← mixK_rep]; exact Has.same, Zlg, Zlg, by omega, rfl⟩ ?_
 rintro k1 e s ⟨g, i, z, h', rl', wl', rfl, hz, rfl, hf', hkp, hC, hlr, hlw, hid, rfl⟩
 (refine Wx.sw (by simp only [K42, frN, frC, updN, updC, Nat.reduceEqDiff, ↓reduceIte]; rfl) ?_)
 have kph : Kp h h' c (fun _ => False) := fun b hb _ => (hkp b (by omega) (fun q => q)).trans (kp b hb (fun q => q))
 by_cases hi : i < dim
 ·have gb' : Has h' c _ := (hkp c (by omega) (fun q => q)).trans gb
  obtain ⟨b1, o1, sp1, cs1, rfl, hc1, hn1⟩ := rowCell (Row.keepF hx hf (fun b hb => kph b hb (fun q => q))) (j := i * 1) (by omega) (kvec_nth (by omega))
  obtain ⟨b2, o2, sp2, cs2, rfl, hc2, hn2⟩ := rowCell (Row.keepF h2 hf (fun b hb => kph b hb (fun q => q))) (j := i * 1) (by omega) (kvec_nth (by omega))
  obtain ⟨b3, o3, sp3, cs3, rfl, hc3, hn3⟩ := rowCell (Row.keepF h3 hf (fun b hb => kph b hb (fun q => q))) (j := i * 1) (by omega) (kvec_nth (by omega))
  have l1 := hc1.lt hf'
  have l2 := hc2.lt hf'
  have l3 := hc3.lt hf'
  have r1 := hR b1 rfl
  have r2 := hUR b2 (h4 b2 rfl)
  have r3 := hUR b3 (h5 b3 rfl)
  have q1 := hb i
  have q2 := h8 i
  have q3 := h9 i hi
  have q4 : 0 ≤ (st.getD i 0).tdiv 2 ∧ (st.getD i 0).tdiv 2 ≤ 8226 := by rw [Int.tdiv_eq_ediv_of_nonneg (by omega)]; omega
  have hstp := mixK_step .u8 (codeI lo st zs) (fun _ => 0) dim i hi
  have hcr := codeI_rng lo st zs i
  have hce : codeI lo st zs i = min (max (flZ (zs.getD i 0 - lo.getD i 0 + (st.getD i 0).tdiv 2) (st.getD i 0)) 0) 255 := rfl
  refine Zgo ?_
  refine Zq (to_indexAddr (k := i) el24 rfl rfl hz hi) ?_
  refine Zd (to_load (pl_ rfl) rfl hc2 (by omega) hn2) ?_
  refine Zgo ?_
  refine Zq (to_indexAddr (k := i) el24 rfl rfl hz hi) ?_
  refine Zd (to_load (pl_ rfl) rfl hc3 (by omega) hn3) ?_
  refine Zgo ?_
  simp only [wrapA_i64 (show (-9223372036854775808 : Int) ≤ lo.getD i 0 by omega) (by omega), wrapA_i64 (show (-9223372036854775808 : Int) ≤ st.getD i 0 by omega) (by omega)]
  refine Zu (to_indexAddr (k := i) el25 rfl rfl hz hi) ?_
  refine Zu (to_load (pl_ rfl) rfl hc1 (by omega) hn1) ?_
  refine Zgo ?_
  simp only [wrapA_i64 (show (-9223372036854775808 : Int) ≤ zs.getD i 0 by omega) (by omega)]
  refine Zgo ?_
  refine Zu (to_quo rfl rfl (by omega) (by omega) (by omega)) ?_
  refine Zgo ?_
  refine Wseq.call rfl rfl (qfloor_spec Zfr (by omega) (by omega)) ?_
  rintro v9 h9' c9 r9 w9 ⟨rfl, e9⟩
  cases e9
  refine Zgo ?_
  rw [← hce]
  simp only [wrapA_u8 hcr.1 hcr.2]
  refine Zu (to_indexAddr (k := i) el77 rfl rfl hz hi) ?_
  ((with_reducible apply Wseq.so); rfl; exact (sz_ rfl); rfl; exact hC; omega; refine Znv ?_; refine ⟨_, _, (by (first | exact cellsA_agg _ | rfl)), rfl, hstp, ?_⟩)
  refine Zgo ?_
  exact RoundE.goF (dim - (i + 1)) K42 [(1, _), (2, _), (5, _), (17, _), (18, .int .i64 (z + 1))] (by omega) ⟨_, i + 1, z + 1, _, _, _, rfl, by omega, rfl, Zfr, Zkp, Has.same, Zlg, Zlg, by omega, rfl⟩
 ·refine Zgo ?_
  obtain rfl : i = dim := by omega
  refine ⟨.inr rfl, Wres.one rfl ⟨⟨c1, rfl, by omega, ?_⟩, ?_⟩⟩
  ·unfold codeZ
   rw [hn, ← mixK_all .u8 (codeI lo st zs) (fun _ => 0) i]
   exact hC
  ·exact Zex
end Go.Ab.Seat
end
section
/- A code's vector; a book's copy; an empty index of codes (the abstract machine). -/
namespace Go.Ab.Seat
open Go.Extern Go.Proofs
set_option maxRecDepth 4000
theorem clone161_spec {h : T AObj} {c : Nat} {rl wl : List Nat} (hf : Fresh h c) {b dim k : Nat} {sp : Option Nat} {xs : List Value} (hb : Has h b (.cells xs)) (hl : xs.length = dim) (hd1 : 1 ≤ dim) (hd : dim ≤ 1000) (R : Nat → Prop) (hR : R b) :
  ∃ r s', FnTo (Cs smQ) eg 161 [.slice (some ⟨b, 0, sp⟩) dim k] ⟨h, c, rl, wl⟩ r s' ∧ (r = .slice (some ⟨c + 1, 0, some 1⟩) dim dim ∧ s'.c = c + 2 ∧ Has s'.h (c + 1) (.cells xs)) ∧ Ext ⟨h, c, rl, wl⟩ s' R (fun _ => False) := by
 obtain ⟨n, rfl⟩ : ∃ n, dim = n + 1 := ⟨dim - 1, by omega⟩
 have hbg : big = 1048576 := rfl
 have lb := hb.lt hf
 refine Fn.go (stdQ 161 rfl) ex161 fn161 km161 rfl rfl ?_
 refine Zev ?_
 refine Zgo ?_
 refine Zu (to_appEx ro24 sl24 rfl rfl (hb.other (by omega)).cel (by omega) (subN_all _ _ (by omega)) (by omega) Zfr) ?_
 refine Zgo ?_
 refine ⟨.inr rfl, Wres.one rfl ⟨⟨rfl, rfl, Has.same⟩, ?_⟩⟩
 exact Zex
end Go.Ab.Seat
end
section
/- An index of codes: its members as a rising list; an empty one (the abstract machine). -/
namespace Go.Ab.Seat
open Go.Extern Go.Proofs
set_option maxRecDepth 4000
theorem copied_spec {h : T AObj} {c : Nat} {rl wl : List Nat} (hf : Fresh h c) {bl bs dim kl ks : Nat} {sl ss : Option Nat} {xs ys : List Value} (hl : Has h bl (.cells xs)) (hs : Has h bs (.cells ys)) (hxl : xs.length = dim) (hyl : ys.length = dim) (hd1 : 1 ≤ dim) (hd : dim ≤ 1000) (R : Nat → Prop) (hRl : R bl) (hRs : R bs) :
  ∃ r s', FnTo (Cs smQ) eg 92 [.agg ⟨[.slice (some ⟨bl, 0, sl⟩) dim kl, .slice (some ⟨bs, 0, ss⟩) dim ks]⟩] ⟨h, c, rl, wl⟩ r s' ∧ (∃ b1 b2, r = .agg ⟨[.slice (some ⟨b1, 0, some 1⟩) dim dim, .slice (some ⟨b2, 0, some 1⟩) dim dim]⟩ ∧ c ≤ b1 ∧ c ≤ b2 ∧ b1 ≠ b2 ∧ Has s'.h b1 (.cells xs) ∧ Has s'.h b2 (.cells ys)) ∧ Ext ⟨h, c, rl, wl⟩ s' R (fun _ => False) := by
 have lbl := hl.lt hf
 have lbs := hs.lt hf
 refine Fn.go (stdQ 92 rfl) ex92 fn92 km92 rfl rfl ?_
 refine Zev ?_
 refine Zgo ?_
 refine Wtr.call rfl rfl (clone161_spec Zfr (hl.other (by omega) |>.other (by omega)) hxl hd1 hd R hRl) ?_
 rintro v1 h1 c1 r1 w1 ⟨⟨rfl, e1, g1⟩, hext⟩
 have fr1 := hext.fresh
 simp only at fr1 e1 g1
 subst e1
 have hqt := hext.quiet (fun _ _ q => q)
 have kp := Kp.ext (W := fun _ => False) (h := h) (c := c) Zkp hext (by omega) (fun _ _ q => q)
 have lr := Lg.extR (R := R) (c := c) Zlg hext (fun _ _ q => q)
 have lw := Lg.extW (W := fun _ => False) (c := c) Zlg hext (fun _ _ q => q)
 have gb := hext.hs (b := c) (Has.other (by omega) Has.same) (by omega) (fun q => q)
 have gr := hext.hs (b := c + 1) Has.same (by omega) (fun q => q)
 have hap : ApartP ⟨r1, w1, c + 1 + 1, c + 1 + 1 + 2⟩ ⟨[c], [], c + 1 + 1 + 2, c + 1 + 1 + 2⟩ := ApartP.wr (fun y hy => (hqt y hy).elim) (by omega)
 refine ⟨Zap, ?_⟩
 have hs1 := hext.hs (b := bs) (hs.other (by omega) |>.other (by omega)) (by omega) (fun q => q)
 refine Zgo ?_
 refine Wtr.call rfl rfl (clone161_spec Zfr hs1 hyl hd1 hd R hRs) ?_
 rintro v2 h2 c2 r2 w2 ⟨⟨rfl, e2, g2⟩, hext2⟩
 have fr2 := hext2.fresh
 simp only at fr2 e2 g2
 subst e2
 have hqt2 := hext2.quiet (fun _ _ q => q)
 have kp2 := Kp.ext (W := fun _ => False) (h := h) (c := c) kp hext2 (by omega) (fun _ _ q => q)
 have lr2 := Lg.extR (R := R) (c := c) Zlg hext2 (fun _ _ q => q)
 have lw2 := Lg.extW (W := fun _ => False) (c := c) Zlg hext2 (fun _ _ q => q)
 have gr2 := hext2.hs (b := c + 1) gr (by omega) (fun q => q)
 have g12 := hext2.hs g1 (by omega) (fun q => q)
 refine ⟨Zap, ?_⟩
 refine Zgo ?_
 refine ⟨.inr rfl, Wres.cell rfl (ag_ rfl) Has.same.cel (by omega) (by rfl) ⟨⟨_, _, rfl, by omega, by omega, by omega, Has.other (by omega) g12, Has.other (by omega) g2⟩, ?_⟩⟩
 exact Zex
def CRep (h : T AObj) (p m : Nat) (U : Nat → Prop) (lo st : List Int) (r : Rc) (v : Value) : Prop := ∃ w cw, v = .agg ⟨[w, cw]⟩ ∧ Own h 0 w r.xs.length r.xs ∧ Own h 0 cw r.xs.length ((codeZ lo st (intsV r.xs)).map (Value.int .u8)) ∧ (∀ b, blkOf w = some b → U b ∧ b ≠ p ∧ b ≠ m) ∧ ∀ b, blkOf cw = some b → U b ∧ b ≠ p ∧ b ≠ m
def CFits (h : T AObj) (p m : Nat) (U : Nat → Prop) (lo st : List Int) (o : Option Rc) (w : Option Value) : Prop := (o = none ∧ w = none) ∨ ∃ r v, o = some r ∧ w = some v ∧ CRep h p m U lo st r v
structure CodM (h : T AObj) (p m : Nat) (vl vs : Value) (mt : Int) (dim : Nat) (lo st : List Int) (M : List Rc) (U : Nat → Prop) : Prop where
 ptr : Has h p (.cells [.int .i64 mt, vl, vs, .map (some m)])
 book : BkAt h (.agg ⟨[vl, vs]⟩) dim lo st (fun b => U b ∧ b ≠ p ∧ b ≠ m)
 ex : ∃ es n, Has h m (.map es n) ∧ (∃ ids, Keyed es n ids) ∧ ∀ x, CFits h p m U lo st (getM x M) (valI x es)
 pU : U p
 mU : U m
 ne : p ≠ m
 rises : Rises M
 ok : ∀ r ∈ M, ∃ zs : List Int, r = mbR r.id zs ∧ zs.length = dim ∧ Bnd zs
theorem CRep.keep {h h' : T AObj} {p m c : Nat} {U U' : Nat → Prop} {lo st : List Int} {r : Rc} {v : Value} (x : CRep h p m U lo st r v) (hf : Fresh h c) (hU : ∀ b, U b → U' b) (k : ∀ b, U b → b < c → b ≠ p → b ≠ m → h'.get b = h.get b) : CRep h' p m U' lo st r v := by
 obtain ⟨w, cw, e, x1, x2, x3, x4⟩ := x
 exact ⟨w, cw, e, x1.keep fun b hb => k b (x3 b hb).1 ((x1.blk hb).2.lt hf) (x3 b hb).2.1 (x3 b hb).2.2, x2.keep fun b hb => k b (x4 b hb).1 ((x2.blk hb).2.lt hf) (x4 b hb).2.1 (x4 b hb).2.2, fun b hb => ⟨hU b (x3 b hb).1, (x3 b hb).2⟩, fun b hb => ⟨hU b (x4 b hb).1, (x4 b hb).2⟩⟩
theorem CFits.keep {h h' : T AObj} {p m c : Nat} {U U' : Nat → Prop} {lo st : List Int} {o : Option Rc} {w : Option Value} (x : CFits h p m U lo st o w) (hf : Fresh h c) (hU : ∀ b, U b → U' b) (k : ∀ b, U b → b < c → b ≠ p → b ≠ m → h'.get b = h.get b) : CFits h' p m U' lo st o w := by
 rcases x with x | ⟨r, v, h1, h2, h3⟩
 ·exact .inl x
 ·exact .inr ⟨r, v, h1, h2, h3.keep hf hU k⟩
theorem CodM.keep {h h' : T AObj} {c p m dim : Nat} {vl vs : Value} {mt : Int} {lo st : List Int} {M : List Rc} {U : Nat → Prop} (q : CodM h p m vl vs mt dim lo st M U) (hf : Fresh h c) (k : ∀ b, U b → b < c → h'.get b = h.get b) : CodM h' p m vl vs mt dim lo st M U := by
 obtain ⟨es, n, h1, h2, h3⟩ := q.ex
 exact ⟨(k p q.pU (q.ptr.lt hf)).trans q.ptr, q.book.keep hf (fun _ q => q) (fun b hb hc => k b hb.1 hc), ⟨es, n, (k m q.mU (h1.lt hf)).trans h1, h2, fun x => (h3 x).keep hf (fun _ q => q) fun b hb hc _ _ => k b hb hc⟩, q.pU, q.mU, q.ne, q.rises, q.ok⟩
theorem CodM.wide {h : T AObj} {c p m dim : Nat} {vl vs : Value} {mt : Int} {lo st : List Int} {M : List Rc} {U U' : Nat → Prop} (q : CodM h p m vl vs mt dim lo st M U) (hf : Fresh h c) (k : ∀ b, U b → U' b) : CodM h p m vl vs mt dim lo st M U' := by
 obtain ⟨es, n, h1, h2, h3⟩ := q.ex
 exact ⟨q.ptr, q.book.keep hf (fun b hb => ⟨k b hb.1, hb.2⟩) (fun b hb hc => rfl), ⟨es, n, h1, h2, fun x => (h3 x).keep hf k fun b hb hc _ _ => rfl⟩, k _ q.pU, k _ q.mU, q.ne, q.rises, q.ok⟩
theorem CodM.lt {h : T AObj} {c p m dim : Nat} {vl vs : Value} {mt : Int} {lo st : List Int} {M : List Rc} {U : Nat → Prop} (q : CodM h p m vl vs mt dim lo st M U) (hf : Fresh h c) : p < c ∧ m < c := by
 obtain ⟨es, n, h1, h2, h3⟩ := q.ex
 exact ⟨q.ptr.lt hf, h1.lt hf⟩
theorem CodM.hm {h : T AObj} {p m dim : Nat} {vl vs : Value} {mt : Int} {lo st : List Int} {M : List Rc} {U : Nat → Prop} (q : CodM h p m vl vs mt dim lo st M U) : ∃ es n, Has h m (.map es n) := by
 obtain ⟨es, n, h1, _⟩ := q.ex
 exact ⟨es, n, h1⟩
def lowL (dim : Nat) (vs : List (List Int)) : List Int := (List.range dim).map fun i => lowZ i vs
def stepL (dim : Nat) (vs : List (List Int)) : List Int := (List.range dim).map fun i => stepZ i vs
theorem rangeD {f : Nat → Int} {dim i : Nat} : ((List.range dim).map f).getD i 0 = if i < dim then f i else 0 := by
 rw [List.getD_eq_getElem?_getD, List.getElem?_map]
 by_cases h : i < dim
 ·rw [List.getElem?_eq_getElem (by simpa using h), List.getElem_range, if_pos h]; rfl
 ·rw [List.getElem?_eq_none (by simpa using h), if_neg h]; rfl
set_option maxHeartbeats 8000000 in
theorem cnew_spec {h : T AObj} {c : Nat} {rl wl : List Nat} (hf : Fresh h c) {mt : Int} (hmt : mt = 1 ∨ mt = 2) {v : Value} {dim : Nat} {vs : List (List Int)} {U0 : Nat → Prop} (hm0 : MRow h v dim vs U0) (hn : vs.length ≤ 1000) (hd1 : 1 ≤ dim) (hd : dim ≤ 8) (R : Nat → Prop) (hUR0 : ∀ b, U0 b → R b) :
  ∃ r s', FnTo (Cs smQ) eg 29 [.int .i64 mt, .int .i64 (dim : Int), v] ⟨h, c, rl, wl⟩ r s' ∧ (∃ p m vl vs', r = .pointer (some ⟨p, 0, none⟩) ∧ CodM s'.h p m vl vs' mt dim (lowL dim vs) (stepL dim vs) [] (fun b => c ≤ b ∧ b < s'.c)) ∧ Ext ⟨h, c, rl, wl⟩ s' R (fun _ => False) := by
 have hvb : ∀ v ∈ vs, Bnd v := fun v hv => (hm0.vok v hv).2
 obtain ⟨oa, cap, rfl⟩ := hm0.val
 refine Fn.go (stdQ 29 rfl) ex29 fn29 km29 rfl rfl ?_
 refine Zev ?_
 refine Zgo ?_
 refine Wseq.call rfl rfl (make_spec Zfr hm0 hn hd1 hd R hUR0) ?_
 rintro v1 h1 c1 r1 w1 ⟨⟨bl, bs, rfl, hbl, hbs, hne, gl, gs⟩, hext⟩
 have fr1 := hext.fresh
 have le1 := hext.c
 simp only at fr1 le1 gl gs
 have kp := Kp.ext (W := fun _ => False) (h := h) (c := c) Zkp hext (by omega) (fun _ _ q => q)
 have lr := Lg.extR (R := R) (c := c) Zlg hext (fun _ _ q => q)
 have lw := Lg.extW (W := fun _ => False) (c := c) Zlg hext (fun _ _ q => q)
 refine Zgo ?_
 have of_ : ∃ r s', FnTo (Cs smQ) eg 86 [.int .i64 mt, .agg ⟨[.slice (some ⟨bl, 0, none⟩) dim dim, .slice (some ⟨bs, 0, none⟩) dim dim]⟩] ⟨h1, c1, r1, w1⟩ r s' ∧ (∃ p m vl vs', r = .pointer (some ⟨p, 0, none⟩) ∧ CodM s'.h p m vl vs' mt dim (lowL dim vs) (stepL dim vs) [] (fun b => c1 ≤ b ∧ b < s'.c)) ∧ Ext ⟨h1, c1, r1, w1⟩ s' (fun b => c ≤ b) (fun _ => False) := by
  have lbl := gl.lt fr1
  have lbs := gs.lt fr1
  refine Fn.go (stdQ 86 rfl) ex86 fn86 km86 rfl rfl ?_
  refine Zev ?_
  refine Zgo ?_
  refine Wseq.call rfl rfl (known_spec stdQ Zfr mt hmt) ?_
  rintro v2 h2 c2 r2 w2 ⟨rfl, e2⟩
  cases e2
  refine Zgo ?_
  refine Wseq.call rfl rfl (copied_spec Zfr (gl.other (by omega)) (gs.other (by omega)) (mixK_len _ _ _ _ _) (mixK_len _ _ _ _ _) hd1 (by omega) (fun b => c ≤ b) hbl hbs) ?_
  rintro v3 h3 c3 r3 w3 ⟨⟨b1, b2, rfl, k1, k2, k3, k4, k5⟩, hext3⟩
  have fr3 := hext3.fresh
  have le3 := hext3.c
  simp only at fr3 le3 k4 k5
  have kp3 := Kp.ext (W := fun _ => False) (h := h1) (c := c1) Zkp hext3 (by omega) (fun _ _ q => q)
  have lr3 := Lg.extR (R := fun b => c ≤ b) (c := c1) Zlg hext3 (fun _ _ q => q)
  have lw3 := Lg.extW (W := fun _ => False) (c := c1) Zlg hext3 (fun _ _ q => q)
  have l4 := k4.lt fr3
  have l5 := k5.lt fr3
  refine Zgo ?_
  refine ⟨.inr rfl, Wres.one rfl ⟨⟨c3 + 1, c3, .slice (some ⟨b1, 0, some 1⟩) dim dim, .slice (some ⟨b2, 0, some 1⟩) dim dim, rfl, ?_⟩, ?_⟩⟩
  ·refine ⟨Has.same, ⟨⟨_, _, _, _, rfl, .inr ⟨b1, 0, some 1, dim, _, rfl, Has.cel (Has.other (by omega) (Has.other (by omega) k4)), ?_⟩, .inr ⟨b2, 0, some 1, dim, _, rfl, Has.cel (Has.other (by omega) (Has.other (by omega) k5)), ?_⟩, ?_, ?_⟩, by simp [lowL], by simp [stepL], fun i => ?_, fun i hi => ?_⟩, ⟨[], 0, Has.other (by omega) Has.same, ⟨[], .nil 0⟩, fun x => .inl ⟨rfl, rfl⟩⟩, ⟨by omega, by dsimp only; omega⟩, ⟨by omega, by dsimp only; omega⟩, by omega, Rises.nil, fun r hr => by cases hr⟩
   ·rw [mixK_all]; exact subN_all _ _ (by simp [lowL])
   ·rw [mixK_all]; exact subN_all _ _ (by simp [stepL])
   ·intro b hb
    have e : b1 = b := by simpa [blkOf] using hb
    subst e
    exact ⟨⟨by omega, by dsimp only; omega⟩, by omega, by omega⟩
   ·intro b hb
    have e : b2 = b := by simpa [blkOf] using hb
    subst e
    exact ⟨⟨by omega, by dsimp only; omega⟩, by omega, by omega⟩
   ·unfold lowL
    rw [rangeD]
    split
    ·have := lohi_bnd (i := i) hvb vs.length (Nat.le_refl _)
     rw [List.take_length] at this
     omega
    ·omega
   ·unfold stepL
    rw [rangeD, if_pos hi]
    exact stepZ_rng hvb
  ·exact Zex
 refine Wseq.call rfl rfl of_ ?_
 rintro v2 h2 c2 r2 w2 ⟨⟨p, m, vl, vs', rfl, hC⟩, hext2⟩
 have fr2 := hext2.fresh
 have le2 := hext2.c
 simp only at fr2 le2 hC
 have kp2 := Kp.ext (W := fun _ => False) (h := h) (c := c) kp hext2 (by omega) (fun _ _ q => q)
 have lr2 := Lg.extR (R := R) (c := c) Zlg hext2 (fun b hb q => by omega)
 have lw2 := Lg.extW (W := fun _ => False) (c := c) Zlg hext2 (fun _ _ q => q)
 refine Zgo ?_
 refine ⟨.inr rfl, Wres.one rfl ⟨⟨p, m, vl, vs', rfl, hC.wide fr2 fun b hb => ⟨by omega, hb.2⟩⟩, ?_⟩⟩
 exact Zex
end Go.Ab.Seat
end
