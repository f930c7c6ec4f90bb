import Derived.Test.YtofikbfljjjgeaaGreatDoorDY5
import Derived.Test.YtofikbfljjjgeaaGreatDoorDWA
import Derived.Test.YtofikbfljjjgeaaGreatDoorDR1
set_option linter.unusedVariables false
set_option linter.unusedSimpArgs false
section
/- A code's vector; a book's copy; an empty index of codes (the abstract machine). -/
namespace Go.Ab.Seat
open Go.Extern Go.Proofs
set_option maxRecDepth 4000
def K88 : List Nat := [0, 1, 2, 4, 5, 6, 7, 10, 16, 17, 18, 29]
set_option maxHeartbeats 8000000 in
theorem qback_spec {h : T AObj} {c : Nat} {rl wl : List Nat} (hf : Fresh h c) {bk : Value} {dim : Nat} {lo st : List Int} {U : Nat → Prop} (q : BkAt h bk dim lo st U) (hd : dim ≤ 8) {a : Option Addr} {k : Nat} {co : List Int} (hn : co.length = dim) (hx : Row h (.slice a dim k) dim 1 (co.map (Value.int .u8))) (hb : ∀ i, 0 ≤ co.getD i 0 ∧ co.getD i 0 ≤ 255) (R : Nat → Prop) (hUR : ∀ b, U b → R b) (hR : ∀ x, blkOf (.slice a dim k) = some x → R x) :
  ∃ r s', FnTo (Cs smQ) eg 88 [bk, .slice a dim k] ⟨h, c, rl, wl⟩ r s' ∧ (∃ b, r = .slice (some ⟨b, 0, none⟩) dim dim ∧ c ≤ b ∧ Has s'.h b (.cells ((backZ lo st co).map (Value.int .i32)))) ∧ Ext ⟨h, c, rl, wl⟩ s' R (fun _ => False) := by
 have q0 := q
 obtain ⟨⟨al, kl, at_, ks, rfl, h2, h3, h4, h5⟩, h6, h7, h8, h9⟩ := q
 have hbg : big = 1048576 := rfl
 refine Fn.go (stdQ 88 rfl) ex88 fn88 km88 rfl rfl ?_
 refine Zev ?_
 refine Zgo ?_
 refine Wseq.call rfl rfl (right_spec Zfr (q0.keep hf (fun _ q => q) (fun b _ hb => get_other (by omega))) (by omega) R hUR) ?_
 rintro v1 h1 c1 r1 w1 ⟨rfl, hext⟩
 have fr1 := hext.fresh
 have le1 := hext.c
 simp only at fr1 le1
 have kp := Kp.ext (W := fun _ => False) (h := h) (c := c) Zkp hext (by omega) (fun _ _ q => q)
 have lr := Lg.extR (R := R) (c := c) Zlg hext (fun _ _ q => q)
 have lw := Lg.extW (W := fun _ => False) (c := c) Zlg hext (fun _ _ q => q)
 have gb := hext.hs (b := c) Has.same (by omega) (fun q => q)
 refine Zgo ?_
 refine Zu (to_makeSlice (a := dim) (b := dim) ro25 rfl rfl rfl rfl (by omega) (by omega) Zfr) ?_
 refine Zgo ?_
 refine Wx.loopF (fun k1 e s => ∃ (g : Nat → Value) (i : Nat) (z : Int) (h' : T AObj) (rl' wl' : List Nat), e = fr g [(1, .slice a dim k), (2, .pointer (some ⟨c, 0, none⟩)), (5, .slice (some ⟨c1, 0, none⟩) dim dim), (16, .int .i64 (dim : Int)), (17, .int .i64 z)] K88 ∧ z = i ∧ s = ⟨h', c1 + 1, rl', wl'⟩ ∧ Fresh h' (c1 + 1) ∧ Kp h1 h' c1 (fun _ => False) ∧ Has h' c1 (.cells (mixK .i32 (backI lo st co) (fun _ => 0) dim i)) ∧ Lg c R rl' ∧ Lg c (fun _ => False) wl' ∧ i ≤ dim ∧ k1 = dim - i) dim K88 [(1, _), (2, _), (5, _), (16, _), (17, .int .i64 0)] ⟨_, 0, 0, _, _, _, rfl, rfl, rfl, Zfr, Zkp, by rw [← mixK_rep]; exact Has.same, Zlg, Zlg, by omega, rfl⟩ ?_
 rintro k1 e s ⟨g, i, z, h', rl', wl', rfl, hz, rfl, hf', hkp, hC, hlr, hlw, hid, rfl⟩
 (refine Wx.sw (by simp only [K88, frN, frC, updN, updC, Nat.reduceEqDiff, ↓reduceIte]; rfl) ?_)
 have kph : Kp h h' c (fun _ => False) := fun b hb _ => (hkp b (by omega) (fun q => q)).trans (kp b hb (fun q => q))
 by_cases hi : i < dim
 ·have gb' : Has h' c _ := (hkp c (by omega) (fun q => q)).trans gb
  obtain ⟨b1, o1, sp1, cs1, rfl, hc1, hn1⟩ := rowCell (Row.keepF hx hf (fun b hb => kph b hb (fun q => q))) (j := i * 1) (by omega) (kvec_nth (by omega))
  obtain ⟨b2, o2, sp2, cs2, rfl, hc2, hn2⟩ := rowCell (Row.keepF h2 hf (fun b hb => kph b hb (fun q => q))) (j := i * 1) (by omega) (kvec_nth (by omega))
  obtain ⟨b3, o3, sp3, cs3, rfl, hc3, hn3⟩ := rowCell (Row.keepF h3 hf (fun b hb => kph b hb (fun q => q))) (j := i * 1) (by omega) (kvec_nth (by omega))
  have l1 := hc1.lt hf'
  have l2 := hc2.lt hf'
  have l3 := hc3.lt hf'
  have r1 := hR b1 rfl
  have r2 := hUR b2 (h4 b2 rfl)
  have r3 := hUR b3 (h5 b3 rfl)
  have q1 := hb i
  have q2 := h8 i
  have q3 := h9 i hi
  have q4 : 0 ≤ st.getD i 0 * co.getD i 0 ∧ st.getD i 0 * co.getD i 0 ≤ 8226 * 255 := ⟨Int.mul_nonneg (by omega) q1.1, (Int.mul_le_mul q3.2 q1.2 q1.1 (by omega))⟩
  have hstp := mixK_step .i32 (backI lo st co) (fun _ => 0) dim i hi
  have hce : backI lo st co i = min (max (lo.getD i 0 + st.getD i 0 * co.getD i 0) (-1048576)) 1048576 := rfl
  have hcr : -1048576 ≤ backI lo st co i ∧ backI lo st co i ≤ 1048576 := by unfold backI; omega
  refine Zgo ?_
  refine Zu (to_indexAddr (k := i) el24 rfl rfl hz hi) ?_
  refine Zu (to_load (pl_ rfl) rfl hc2 (by omega) hn2) ?_
  refine Zgo ?_
  simp only [wrapA_i64 (show (-9223372036854775808 : Int) ≤ lo.getD i 0 by omega) (by omega)]
  refine Zgo ?_
  refine Zq (to_indexAddr (k := i) el24 rfl rfl hz hi) ?_
  refine Zd (to_load (pl_ rfl) rfl hc3 (by omega) hn3) ?_
  refine Zgo ?_
  refine Zq (to_indexAddr (k := i) el77 rfl rfl hz hi) ?_
  refine Zd (to_load (pl_ rfl) rfl hc1 (by omega) hn1) ?_
  refine Zgo ?_
  simp only [wrapA_i64 (show (-9223372036854775808 : Int) ≤ st.getD i 0 by omega) (by omega), wrapA_i64 (show (-9223372036854775808 : Int) ≤ co.getD i 0 by omega) (by omega)]
  refine Zgo ?_
  rw [← hce]
  simp only [wrapA_i32 (show (-2147483648 : Int) ≤ backI lo st co i by omega) (by omega)]
  refine Zu (to_indexAddr (k := i) el25 rfl rfl hz hi) ?_
  ((with_reducible apply Wseq.so); rfl; exact (sz_ rfl); rfl; exact hC; omega; refine Znv ?_; refine ⟨_, _, (by (first | exact cellsA_agg _ | rfl)), rfl, hstp, ?_⟩)
  refine Zgo ?_
  exact RoundE.goF (dim - (i + 1)) K88 [(1, _), (2, _), (5, _), (16, _), (17, .int .i64 (z + 1))] (by omega) ⟨_, i + 1, z + 1, _, _, _, rfl, by omega, rfl, Zfr, Zkp, Has.same, Zlg, Zlg, by omega, rfl⟩
 ·refine Zgo ?_
  obtain rfl : i = dim := by omega
  refine ⟨.inr rfl, Wres.one rfl ⟨⟨c1, rfl, by omega, ?_⟩, ?_⟩⟩
  ·unfold backZ
   rw [hn, ← mixK_all .i32 (backI lo st co) (fun _ => 0) i]
   exact hC
  ·exact Zex
theorem clone161_spec {h : T AObj} {c : Nat} {rl wl : List Nat} (hf : Fresh h c) {b dim k : Nat} {sp : Option Nat} {xs : List Value} (hb : Has h b (.cells xs)) (hl : xs.length = dim) (hd1 : 1 ≤ dim) (hd : dim ≤ 1000) (R : Nat → Prop) (hR : R b) :
  ∃ r s', FnTo (Cs smQ) eg 161 [.slice (some ⟨b, 0, sp⟩) dim k] ⟨h, c, rl, wl⟩ r s' ∧ (r = .slice (some ⟨c + 1, 0, some 1⟩) dim dim ∧ s'.c = c + 2 ∧ Has s'.h (c + 1) (.cells xs)) ∧ Ext ⟨h, c, rl, wl⟩ s' R (fun _ => False) := by
 obtain ⟨n, rfl⟩ : ∃ n, dim = n + 1 := ⟨dim - 1, by omega⟩
 have hbg : big = 1048576 := rfl
 have lb := hb.lt hf
 refine Fn.go (stdQ 161 rfl) ex161 fn161 km161 rfl rfl ?_
 refine Zev ?_
 refine Zgo ?_
 refine Zu (to_appEx ro24 sl24 rfl rfl (hb.other (by omega)).cel (by omega) (subN_all _ _ (by omega)) (by omega) Zfr) ?_
 refine Zgo ?_
 refine ⟨.inr rfl, Wres.one rfl ⟨⟨rfl, rfl, Has.same⟩, ?_⟩⟩
 exact Zex
end Go.Ab.Seat
end
section
/- An index of codes: its members as a rising list; an empty one (the abstract machine). -/
namespace Go.Ab.Seat
open Go.Extern Go.Proofs
set_option maxRecDepth 4000
theorem copied_spec {h : T AObj} {c : Nat} {rl wl : List Nat} (hf : Fresh h c) {bl bs dim kl ks : Nat} {sl ss : Option Nat} {xs ys : List Value} (hl : Has h bl (.cells xs)) (hs : Has h bs (.cells ys)) (hxl : xs.length = dim) (hyl : ys.length = dim) (hd1 : 1 ≤ dim) (hd : dim ≤ 1000) (R : Nat → Prop) (hRl : R bl) (hRs : R bs) :
  ∃ r s', FnTo (Cs smQ) eg 92 [.agg ⟨[.slice (some ⟨bl, 0, sl⟩) dim kl, .slice (some ⟨bs, 0, ss⟩) dim ks]⟩] ⟨h, c, rl, wl⟩ r s' ∧ (∃ b1 b2, r = .agg ⟨[.slice (some ⟨b1, 0, some 1⟩) dim dim, .slice (some ⟨b2, 0, some 1⟩) dim dim]⟩ ∧ c ≤ b1 ∧ c ≤ b2 ∧ b1 ≠ b2 ∧ Has s'.h b1 (.cells xs) ∧ Has s'.h b2 (.cells ys)) ∧ Ext ⟨h, c, rl, wl⟩ s' R (fun _ => False) := by
 have lbl := hl.lt hf
 have lbs := hs.lt hf
 refine Fn.go (stdQ 92 rfl) ex92 fn92 km92 rfl rfl ?_
 refine Zev ?_
 refine Zgo ?_
 refine Wtr.call rfl rfl (clone161_spec Zfr (hl.other (by omega) |>.other (by omega)) hxl hd1 hd R hRl) ?_
 rintro v1 h1 c1 r1 w1 ⟨⟨rfl, e1, g1⟩, hext⟩
 have fr1 := hext.fresh
 simp only at fr1 e1 g1
 subst e1
 have hqt := hext.quiet (fun _ _ q => q)
 have kp := Kp.ext (W := fun _ => False) (h := h) (c := c) Zkp hext (by omega) (fun _ _ q => q)
 have lr := Lg.extR (R := R) (c := c) Zlg hext (fun _ _ q => q)
 have lw := Lg.extW (W := fun _ => False) (c := c) Zlg hext (fun _ _ q => q)
 have gb := hext.hs (b := c) (Has.other (by omega) Has.same) (by omega) (fun q => q)
 have gr := hext.hs (b := c + 1) Has.same (by omega) (fun q => q)
 have hap : ApartP ⟨r1, w1, c + 1 + 1, c + 1 + 1 + 2⟩ ⟨[c], [], c + 1 + 1 + 2, c + 1 + 1 + 2⟩ := ApartP.wr (fun y hy => (hqt y hy).elim) (by omega)
 refine ⟨Zap, ?_⟩
 have hs1 := hext.hs (b := bs) (hs.other (by omega) |>.other (by omega)) (by omega) (fun q => q)
 refine Zgo ?_
 refine Wtr.call rfl rfl (clone161_spec Zfr hs1 hyl hd1 hd R hRs) ?_
 rintro v2 h2 c2 r2 w2 ⟨⟨rfl, e2, g2⟩, hext2⟩
 have fr2 := hext2.fresh
 simp only at fr2 e2 g2
 subst e2
 have hqt2 := hext2.quiet (fun _ _ q => q)
 have kp2 := Kp.ext (W := fun _ => False) (h := h) (c := c) kp hext2 (by omega) (fun _ _ q => q)
 have lr2 := Lg.extR (R := R) (c := c) Zlg hext2 (fun _ _ q => q)
 have lw2 := Lg.extW (W := fun _ => False) (c := c) Zlg hext2 (fun _ _ q => q)
 have gr2 := hext2.hs (b := c + 1) gr (by omega) (fun q => q)
 have g12 := hext2.hs g1 (by omega) (fun q => q)
 refine ⟨Zap, ?_⟩
 refine Zgo ?_
 refine ⟨.inr rfl, Wres.cell rfl (ag_ rfl) Has.same.cel (by omega) (by rfl) ⟨⟨_, _, rfl, by omega, by omega, by omega, Has.other (by omega) g12, Has.other (by omega) g2⟩, ?_⟩⟩
 exact Zex
def CRep (h : T AObj) (p m : Nat) (U : Nat → Prop) (lo st : List Int) (r : Rc) (v : Value) : Prop := ∃ w cw, v = .agg ⟨[w, cw]⟩ ∧ Own h 0 w r.xs.length r.xs ∧ Own h 0 cw r.xs.length ((codeZ lo st (intsV r.xs)).map (Value.int .u8)) ∧ (∀ b, blkOf w = some b → U b ∧ b ≠ p ∧ b ≠ m) ∧ ∀ b, blkOf cw = some b → U b ∧ b ≠ p ∧ b ≠ m
def CFits (h : T AObj) (p m : Nat) (U : Nat → Prop) (lo st : List Int) (o : Option Rc) (w : Option Value) : Prop := (o = none ∧ w = none) ∨ ∃ r v, o = some r ∧ w = some v ∧ CRep h p m U lo st r v
structure CodM (h : T AObj) (p m : Nat) (vl vs : Value) (mt : Int) (dim : Nat) (lo st : List Int) (M : List Rc) (U : Nat → Prop) : Prop where
 ptr : Has h p (.cells [.int .i64 mt, vl, vs, .map (some m)])
 book : BkAt h (.agg ⟨[vl, vs]⟩) dim lo st (fun b => U b ∧ b ≠ p ∧ b ≠ m)
 ex : ∃ es n, Has h m (.map es n) ∧ (∃ ids, Keyed es n ids) ∧ ∀ x, CFits h p m U lo st (getM x M) (valI x es)
 pU : U p
 mU : U m
 ne : p ≠ m
 rises : Rises M
 ok : ∀ r ∈ M, ∃ zs : List Int, r = mbR r.id zs ∧ zs.length = dim ∧ Bnd zs
theorem CRep.keep {h h' : T AObj} {p m c : Nat} {U U' : Nat → Prop} {lo st : List Int} {r : Rc} {v : Value} (x : CRep h p m U lo st r v) (hf : Fresh h c) (hU : ∀ b, U b → U' b) (k : ∀ b, U b → b < c → b ≠ p → b ≠ m → h'.get b = h.get b) : CRep h' p m U' lo st r v := by
 obtain ⟨w, cw, e, x1, x2, x3, x4⟩ := x
 exact ⟨w, cw, e, x1.keep fun b hb => k b (x3 b hb).1 ((x1.blk hb).2.lt hf) (x3 b hb).2.1 (x3 b hb).2.2, x2.keep fun b hb => k b (x4 b hb).1 ((x2.blk hb).2.lt hf) (x4 b hb).2.1 (x4 b hb).2.2, fun b hb => ⟨hU b (x3 b hb).1, (x3 b hb).2⟩, fun b hb => ⟨hU b (x4 b hb).1, (x4 b hb).2⟩⟩
theorem CFits.keep {h h' : T AObj} {p m c : Nat} {U U' : Nat → Prop} {lo st : List Int} {o : Option Rc} {w : Option Value} (x : CFits h p m U lo st o w) (hf : Fresh h c) (hU : ∀ b, U b → U' b) (k : ∀ b, U b → b < c → b ≠ p → b ≠ m → h'.get b = h.get b) : CFits h' p m U' lo st o w := by
 rcases x with x | ⟨r, v, h1, h2, h3⟩
 ·exact .inl x
 ·exact .inr ⟨r, v, h1, h2, h3.keep hf hU k⟩
theorem CodM.keep {h h' : T AObj} {c p m dim : Nat} {vl vs : Value} {mt : Int} {lo st : List Int} {M : List Rc} {U : Nat → Prop} (q : CodM h p m vl vs mt dim lo st M U) (hf : Fresh h c) (k : ∀ b, U b → b < c → h'.get b = h.get b) : CodM h' p m vl vs mt dim lo st M U := by
 obtain ⟨es, n, h1, h2, h3⟩ := q.ex
 exact ⟨(k p q.pU (q.ptr.lt hf)).trans q.ptr, q.book.keep hf (fun _ q => q) (fun b hb hc => k b hb.1 hc), ⟨es, n, (k m q.mU (h1.lt hf)).trans h1, h2, fun x => (h3 x).keep hf (fun _ q => q) fun b hb hc _ _ => k b hb hc⟩, q.pU, q.mU, q.ne, q.rises, q.ok⟩
theorem CodM.wide {h : T AObj} {c p m dim : Nat} {vl vs : Value} {mt : Int} {lo st : List Int} {M : List Rc} {U U' : Nat → Prop} (q : CodM h p m vl vs mt dim lo st M U) (hf : Fresh h c) (k : ∀ b, U b → U' b) : CodM h p m vl vs mt dim lo st M U' := by
 obtain ⟨es, n, h1, h2, h3⟩ := q.ex
 exact ⟨q.ptr, q.book.keep hf (fun b hb => ⟨k b hb.1, hb.2⟩) (fun b hb hc => rfl), ⟨es, n, h1, h2, fun x => (h3 x).keep hf k fun b hb hc _ _ => rfl⟩, k _ q.pU, k _ q.mU, q.ne, q.rises, q.ok⟩
theorem CodM.lt {h : T AObj} {c p m dim : Nat} {vl vs : Value} {mt : Int} {lo st : List Int} {M : List Rc} {U : Nat → Prop} (q : CodM h p m vl vs mt dim lo st M U) (hf : Fresh h c) : p < c ∧ m < c := by
 obtain ⟨es, n, h1, h2, h3⟩ := q.ex
 exact ⟨q.ptr.lt hf, h1.lt hf⟩
theorem CodM.hm {h : T AObj} {p m dim : Nat} {vl vs : Value} {mt : Int} {lo st : List Int} {M : List Rc} {U : Nat → Prop} (q : CodM h p m vl vs mt dim lo st M U) : ∃ es n, Has h m (.map es n) := by
 obtain ⟨es, n, h1, _⟩ := q.ex
 exact ⟨es, n, h1⟩
def lowL (dim : Nat) (vs : List (List Int)) : List Int := (List.range dim).map fun i => lowZ i vs
def stepL (dim : Nat) (vs : List (List Int)) : List Int := (List.range dim).map fun i => stepZ i vs
theorem rangeD {f : Nat → Int} {dim i : Nat} : ((List.range dim).map f).getD i 0 = if i < dim then f i else 0 := by
 rw [List.getD_eq_getElem?_getD, List.getElem?_map]
 by_cases h : i < dim
 ·rw [List.getElem?_eq_getElem (by simpa using h), List.getElem_range, if_pos h]; rfl
 ·rw [List.getElem?_eq_none (by simpa using h), if_neg h]; rfl
set_option maxHeartbeats 8000000 in
theorem cnew_spec {h : T AObj} {c : Nat} {rl wl : List Nat} (hf : Fresh h c) {mt : Int} (hmt : mt = 1 ∨ mt = 2) {v : Value} {dim : Nat} {vs : List (List Int)} {U0 : Nat → Prop} (hm0 : MRow h v dim vs U0) (hn : vs.length ≤ 1000) (hd1 : 1 ≤ dim) (hd : dim ≤ 8) (R : Nat → Prop) (hUR0 : ∀ b, U0 b → R b) :
  ∃ r s', FnTo (Cs smQ) eg 29 [.int .i64 mt, .int .i64 (dim : Int), v] ⟨h, c, rl, wl⟩ r s' ∧ (∃ p m vl vs', r = .pointer (some ⟨p, 0, none⟩) ∧ CodM s'.h p m vl vs' mt dim (lowL dim vs) (stepL dim vs) [] (fun b => c ≤ b ∧ b < s'.c)) ∧ Ext ⟨h, c, rl, wl⟩ s' R (fun _ => False) := by
 have hvb : ∀ v ∈ vs, Bnd v := fun v hv => (hm0.vok v hv).2
 obtain ⟨oa, cap, rfl⟩ := hm0.val
 refine Fn.go (stdQ 29 rfl) ex29 fn29 km29 rfl rfl ?_
 refine Zev ?_
 refine Zgo ?_
 refine Wseq.call rfl rfl (make_spec Zfr hm0 hn hd1 hd R hUR0) ?_
 rintro v1 h1 c1 r1 w1 ⟨⟨bl, bs, rfl, hbl, hbs, hne, gl, gs⟩, hext⟩
 have fr1 := hext.fresh
 have le1 := hext.c
 simp only at fr1 le1 gl gs
 have kp := Kp.ext (W := fun _ => False) (h := h) (c := c) Zkp hext (by omega) (fun _ _ q => q)
 have lr := Lg.extR (R := R) (c := c) Zlg hext (fun _ _ q => q)
 have lw := Lg.extW (W := fun _ => False) (c := c) Zlg hext (fun _ _ q => q)
 refine Zgo ?_
 have of_ : ∃ r s', FnTo (Cs smQ) eg 86 [.int .i64 mt, .agg ⟨[.slice (some ⟨bl, 0, none⟩) dim dim, .slice (some ⟨bs, 0, none⟩) dim dim]⟩] ⟨h1, c1, r1, w1⟩ r s' ∧ (∃ p m vl vs', r = .pointer (some ⟨p, 0, none⟩) ∧ CodM s'.h p m vl vs' mt dim (lowL dim vs) (stepL dim vs) [] (fun b => c1 ≤ b ∧ b < s'.c)) ∧ Ext ⟨h1, c1, r1, w1⟩ s' (fun b => c ≤ b) (fun _ => False) := by
  have lbl := gl.lt fr1
  have lbs := gs.lt fr1
  refine Fn.go (stdQ 86 rfl) ex86 fn86 km86 rfl rfl ?_
  refine Zev ?_
  refine Zgo ?_
  refine Wseq.call rfl rfl (known_spec stdQ Zfr mt hmt) ?_
  rintro v2 h2 c2 r2 w2 ⟨rfl, e2⟩
  cases e2
  refine Zgo ?_
  refine Wseq.call rfl rfl (copied_spec Zfr (gl.other (by omega)) (gs.other (by omega)) (mixK_len _ _ _ _ _) (mixK_len _ _ _ _ _) hd1 (by omega) (fun b => c ≤ b) hbl hbs) ?_
  rintro v3 h3 c3 r3 w3 ⟨⟨b1, b2, rfl, k1, k2, k3, k4, k5⟩, hext3⟩
  have fr3 := hext3.fresh
  have le3 := hext3.c
  simp only at fr3 le3 k4 k5
  have kp3 := Kp.ext (W := fun _ => False) (h := h1) (c := c1) Zkp hext3 (by omega) (fun _ _ q => q)
  have lr3 := Lg.extR (R := fun b => c ≤ b) (c := c1) Zlg hext3 (fun _ _ q => q)
  have lw3 := Lg.extW (W := fun _ => False) (c := c1) Zlg hext3 (fun _ _ q => q)
  have l4 := k4.lt fr3
  have l5 := k5.lt fr3
  refine Zgo ?_
  refine ⟨.inr rfl, Wres.one rfl ⟨⟨c3 + 1, c3, .slice (some ⟨b1, 0, some 1⟩) dim dim, .slice (some ⟨b2, 0, some 1⟩) dim dim, rfl, ?_⟩, ?_⟩⟩
  ·refine ⟨Has.same, ⟨⟨_, _, _, _, rfl, .inr ⟨b1, 0, some 1, dim, _, rfl, Has.cel (Has.other (by omega) (Has.other (by omega) k4)), ?_⟩, .inr ⟨b2, 0, some 1, dim, _, rfl, Has.cel (Has.other (by omega) (Has.other (by omega) k5)), ?_⟩, ?_, ?_⟩, by simp [lowL], by simp [stepL], fun i => ?_, fun i hi => ?_⟩, ⟨[], 0, Has.other (by omega) Has.same, ⟨[], .nil 0⟩, fun x => .inl ⟨rfl, rfl⟩⟩, ⟨by omega, by dsimp only; omega⟩, ⟨by omega, by dsimp only; omega⟩, by omega, Rises.nil, fun r hr => by cases hr⟩
   ·rw [mixK_all]; exact subN_all _ _ (by simp [lowL])
   ·rw [mixK_all]; exact subN_all _ _ (by simp [stepL])
   ·intro b hb
    have e : b1 = b := by simpa [blkOf] using hb
    subst e
    exact ⟨⟨by omega, by dsimp only; omega⟩, by omega, by omega⟩
   ·intro b hb
    have e : b2 = b := by simpa [blkOf] using hb
    subst e
    exact ⟨⟨by omega, by dsimp only; omega⟩, by omega, by omega⟩
   ·unfold lowL
    rw [rangeD]
    split
    ·have := lohi_bnd (i := i) hvb vs.length (Nat.le_refl _)
     rw [List.take_length] at this
     omega
    ·omega
   ·unfold stepL
    rw [rangeD, if_pos hi]
    exact stepZ_rng hvb
  ·exact Zex
 refine Wseq.call rfl rfl of_ ?_
 rintro v2 h2 c2 r2 w2 ⟨⟨p, m, vl, vs', rfl, hC⟩, hext2⟩
 have fr2 := hext2.fresh
 have le2 := hext2.c
 simp only at fr2 le2 hC
 have kp2 := Kp.ext (W := fun _ => False) (h := h) (c := c) kp hext2 (by omega) (fun _ _ q => q)
 have lr2 := Lg.extR (R := R) (c := c) Zlg hext2 (fun b hb q => by omega)
 have lw2 := Lg.extW (W := fun _ => False) (c := c) Zlg hext2 (fun _ _ q => q)
 refine Zgo ?_
 refine ⟨.inr rfl, Wres.one rfl ⟨⟨p, m, vl, vs', rfl, hC.wide fr2 fun b hb => ⟨by omega, hb.2⟩⟩, ?_⟩⟩
 exact Zex
end Go.Ab.Seat
end
section
/- A map's keys, in order (the abstract machine). -/
namespace Go.Ab.Seat
open Go.Extern Go.Proofs
set_option maxRecDepth 4000
variable {sm : Nat → Option (List Value → M Value)}
theorem sortedC_none {h : T AObj} {c b m n : Nat} {rl wl : List Nat} {es : List (Value × Value × Nat)} (hf : Fresh h c) (hb : Has h b (.cells [.map (some m)])) (hm : Has h m (.map es n)) (hk : keyInts es n = some []) :
  ∃ v s', FnTo (Cs smQ) eg 84 [.func (.func 164) #[] ⟨[.pointer (some ⟨b, 0, none⟩)]⟩] ⟨h, c, rl, wl⟩ v s' ∧ (v = .slice none 0 0 ∧ s' = ⟨h, c, m :: b :: rl, wl⟩) := by
 refine ⟨_, _, ⟨0, ?_⟩, rfl, rfl⟩
 have hs : (Cs smQ).sm 84 = some (sumSorted kindOf) := rfl
 unfold callF
 rw [hs]
 show sumSorted kindOf _ _ = _
 unfold sumSorted
 have e1 : iterOf kindOf [.func (.func 164) #[] ⟨[.pointer (some ⟨b, 0, none⟩)]⟩] = some (164, true, b, 0) := rfl
 rw [e1, bind_run (lift_run (a := (164, true, b, 0)) rfl)]
 dsimp only
 rw [bind_run (getCells_run hb.cel (hb.lt hf))]
 have e2 : nth [Value.map (some m)] 0 = some (.map (some m)) := rfl
 rw [e2, bind_run (lift_run (a := Value.map (some m)) rfl)]
 unfold seqInts
 dsimp only
 rw [bind_run (show ((M.lift (mapAt (Value.map (some m)))).bind mapInts) _ = some ([], ⟨h, c, m :: b :: rl, wl⟩) from by
  have e3 : mapAt (Value.map (some m)) = some (some m) := rfl
  rw [e3, bind_run (lift_run (a := some m) rfl)]
  unfold mapInts
  dsimp only
  rw [bind_run (getMap_run hm (hm.lt hf))]
  exact lift_run hk)]
 rfl
theorem sortedC_some {h : T AObj} {c b m n : Nat} {rl wl : List Nat} {es : List (Value × Value × Nat)} {x : Int} {xs : List Int} (hf : Fresh h c) (hb : Has h b (.cells [.map (some m)])) (hm : Has h m (.map es n)) (hk : keyInts es n = some (x :: xs)) (hl : (x :: xs).length ≤ 1000000) :
  ∃ v s', FnTo (Cs smQ) eg 84 [.func (.func 164) #[] ⟨[.pointer (some ⟨b, 0, none⟩)]⟩] ⟨h, c, rl, wl⟩ v s' ∧ (v = .slice (some ⟨c, 0, some 1⟩) (x :: xs).length (x :: xs).length ∧ s' = ⟨h.set c (some (.cells ((sortI (x :: xs)).map fun n => Value.int .i64 n))), c + 1, m :: b :: rl, wl⟩) := by
 refine ⟨_, _, ⟨0, ?_⟩, rfl, rfl⟩
 have hs : (Cs smQ).sm 84 = some (sumSorted kindOf) := rfl
 unfold callF
 rw [hs]
 show sumSorted kindOf _ _ = _
 unfold sumSorted
 have e1 : iterOf kindOf [.func (.func 164) #[] ⟨[.pointer (some ⟨b, 0, none⟩)]⟩] = some (164, true, b, 0) := rfl
 rw [e1, bind_run (lift_run (a := (164, true, b, 0)) rfl)]
 dsimp only
 rw [bind_run (getCells_run hb.cel (hb.lt hf))]
 have e2 : nth [Value.map (some m)] 0 = some (.map (some m)) := rfl
 rw [e2, bind_run (lift_run (a := Value.map (some m)) rfl)]
 unfold seqInts
 dsimp only
 rw [bind_run (show ((M.lift (mapAt (Value.map (some m)))).bind mapInts) _ = some (x :: xs, ⟨h, c, m :: b :: rl, wl⟩) from by
  have e3 : mapAt (Value.map (some m)) = some (some m) := rfl
  rw [e3, bind_run (lift_run (a := some m) rfl)]
  unfold mapInts
  dsimp only
  rw [bind_run (getMap_run hm (hm.lt hf))]
  exact lift_run hk)]
 unfold giveInts
 dsimp only
 rw [show Nat.ble (len (x :: xs)) 1000000 = true from by rw [len_eq]; rw [Nat.ble_eq]; exact hl]
 dsimp only
 rw [bind_run (newCells_run hf), mapA_eq, len_eq]
 rfl
theorem keysC_spec (H : Std sm) {h : T AObj} {c m : Nat} {rl wl : List Nat} (hf : Fresh h c) :
  ∃ v s', FnTo (Cs sm) eg 97 [.map (some m)] ⟨h, c, rl, wl⟩ v s' ∧ (v = .func (.func 164) #[] ⟨[.pointer (some ⟨c, 0, none⟩)]⟩ ∧ s' = ⟨h.set c (some (.cells [.map (some m)])), c + 1, rl, wl⟩) := by
 refine Fn.go (H 97 rfl) ex97 fn97 km97 rfl rfl ?_
 refine Zev ?_
 refine Zgo ?_
 exact ⟨.inr rfl, Wres.one rfl ⟨rfl, rfl⟩⟩
end Go.Ab.Seat
end
section
/- An index of codes: one is put; the ids (the abstract machine). -/
namespace Go.Ab.Seat
open Go.Extern Go.Proofs
set_option maxRecDepth 4000
theorem CodM.ids {h : T AObj} {p m : Nat} {U : Nat → Prop} {lo st : List Int} {M : List Rc} {n : Nat} {es : List (Value × Value × Nat)} {ids : List Int} (hk : Keyed es n ids) (hr : Rises M) (hv : ∀ x, CFits h p m U lo st (getM x M) (valI x es)) : sortI ids = M.map Rc.id := by
 refine rises_ext (sortI_rises hk.nodup) hr.ids fun x => ?_
 rw [(sortI_perm ids).mem_iff]
 constructor
 ·intro hx
  rcases hv x with ⟨_, h4⟩ | ⟨r, v, h4, _, _⟩
  ·exact absurd hx ((findI_none_iff hk.keys).1 (valI_none.1 h4))
  ·obtain ⟨h5, h6⟩ := getM_mem h4
   exact List.mem_map.2 ⟨r, h5, h6⟩
 ·intro hx
  obtain ⟨r, h5, rfl⟩ := List.mem_map.1 hx
  refine Classical.byContradiction fun hn => ?_
  rcases hv r.id with ⟨h4, _⟩ | ⟨r', v, _, h4, _⟩
  ·exact absurd rfl (getM_none.1 h4 r h5)
  ·rw [valI_none.2 ((findI_none_iff hk.keys).2 hn)] at h4
   cases h4
theorem cids_spec {h : T AObj} {c : Nat} {rl wl : List Nat} (hf : Fresh h c) {p m dim : Nat} {vl vs : Value} {mt : Int} {lo st : List Int} {M : List Rc} {U : Nat → Prop} (q : CodM h p m vl vs mt dim lo st M U) (hn : M.length ≤ 1000) :
  ∃ r s', FnTo (Cs smQ) eg 43 [.pointer (some ⟨p, 0, none⟩)] ⟨h, c, rl, wl⟩ r s' ∧ Own s'.h c r M.length ((M.map Rc.id).map (Value.int .i64)) ∧ Ext ⟨h, c, rl, wl⟩ s' U (fun _ => False) := by
 obtain ⟨es, n, hm, ⟨ids, h2⟩, h3⟩ := q.ex
 have hp := q.ptr
 obtain ⟨lp, lm⟩ := q.lt hf
 have hpU := q.pU
 have hmU := q.mU
 have hs := CodM.ids h2 q.rises h3
 have hlen : ids.length = M.length := by
  have := congrArg List.length hs
  rw [(sortI_perm ids).length_eq, List.length_map] at this
  exact this
 have hk := h2.keyInts
 refine Fn.go (stdQ 43 rfl) ex43 fn43 km43 rfl rfl ?_
 refine Zev ?_
 refine Zgo ?_
 refine Wseq.call rfl rfl (keysC_spec stdQ Zfr) ?_
 rintro v1 h1 c1 r1 w1 ⟨rfl, e1⟩
 cases e1
 cases ids with
 | nil =>
  obtain rfl : M = [] := by cases M with | nil => rfl | cons _ _ => simp at hlen
  refine Wseq.call rfl rfl (sortedC_none Zfr Zhs Zhs hk) ?_
  rintro v1 h1 c1 r1 w1 ⟨rfl, e1⟩
  cases e1
  refine Zgo ?_
  refine ⟨.inr rfl, Wres.one rfl ⟨.inl ⟨rfl, rfl, rfl⟩, ?_⟩⟩
  exact Zex
 | cons x0 xs0 =>
  refine Wseq.call rfl rfl (sortedC_some Zfr Zhs Zhs hk (by omega)) ?_
  rintro v1 h1 c1 r1 w1 ⟨rfl, e1⟩
  cases e1
  rw [hs, hlen]
  refine Zgo ?_
  refine ⟨.inr rfl, Wres.one rfl ⟨.inr ⟨c + 1, _, _, rfl, Nat.le_refl _, by omega, Has.same⟩, ?_⟩⟩
  exact Zex
set_option maxHeartbeats 4000000 in
theorem cput_spec {h : T AObj} {c : Nat} {rl wl : List Nat} (hf : Fresh h c) {p m dim : Nat} {vl vs : Value} {mt : Int} {lo st : List Int} {M : List Rc} {U : Nat → Prop} (q : CodM h p m vl vs mt dim lo st M U) (id : Int) (hid : -9223372036854775808 ≤ id ∧ id ≤ 9223372036854775807)
  {a : Option Addr} {cap : Nat} {zs : List Int} (hv : Row h (.slice a dim cap) dim 1 (zs.map (Value.int .i32))) (hx : zs.length = dim) (hb : Bnd zs) (hd : 1 ≤ dim) (hd' : dim ≤ 8) (bs : Nat → Prop) (hbs : ∀ b, blkOf (.slice a dim cap) = some b → bs b) (hbm : ¬bs m) :
  ∃ r s', FnTo (Cs smQ) eg 30 [.pointer (some ⟨p, 0, none⟩), .int .i64 id, .slice a dim cap] ⟨h, c, rl, wl⟩ r s' ∧ CodM s'.h p m vl vs mt dim lo st (putM (mbR id zs) M) (fun b => U b ∨ c ≤ b ∧ b < s'.c) ∧ Ext ⟨h, c, rl, wl⟩ s' (fun b => U b ∨ bs b) (fun b => b = m) := by
 obtain ⟨es, n, hm, ⟨ids, h2⟩, h3⟩ := q.ex
 have hp := q.ptr
 obtain ⟨lp, lm⟩ := q.lt hf
 have hpU := q.pU
 have hmU := q.mU
 have hbk := q.book
 obtain ⟨⟨al, kl, at_, ks, ebk, _⟩, _⟩ := _root_.id hbk
 simp only [Value.agg.injEq, Array.mk.injEq, List.cons.injEq, and_true] at ebk
 obtain ⟨rfl, rfl⟩ := ebk
 refine Fn.go (stdQ 30 rfl) ex30 fn30 km30 rfl rfl ?_
 refine Zev ?_
 refine Zgo ?_
 refine Wtr.call rfl rfl (copy_spec stdQ Zfr hv (by unfold bigV; omega) (fun e => by omega) bs (fun b o sp n' cap e => hbs b (by rw [e]; rfl))) ?_
 rintro v h1 c1 r1 w1 ⟨hown, hext⟩
 have hq := hext.quiet (fun _ _ q => q)
 have kp := Kp.ext (W := fun b => b = m) (h := h) (c := c) Zkp hext (by omega) (fun _ _ q => q.elim)
 have lr := Lg.extR (R := fun b => U b ∨ bs b) (c := c) Zlg hext (fun b _ hb => .inr hb)
 have lw := Lg.extW (W := fun b => b = m) (c := c) Zlg hext (fun b _ hb => hb.elim)
 have fr1 := hext.fresh
 have le1 := hext.c
 simp only at le1 fr1
 have hm1 : Has h1 m (.map es n) := hext.hs hm lm (fun q => q)
 have hp1 := hext.hs hp lp (fun q => q)
 have hrm : ∀ b ∈ r1, b ≠ m := fun b hb => by
  rcases hext.rl b hb with u | u
  ·exact absurd u List.not_mem_nil
  ·exact fun e => hbm (e ▸ u.2)
 refine ⟨Zap, ?_⟩
 have hv1 : Row h1 (.slice a dim cap) dim 1 (zs.map (Value.int .i32)) := Row.keepF hv hf (fun b hb => hext.get hb (fun q => q))
 have hbk1 := hbk.keep (U' := fun b => U b ∧ b ≠ p ∧ b ≠ m) hf (fun _ q => q) (fun b _ hb => hext.get hb (fun q => q))
 have hap : ApartP ⟨r1, w1, c, c1⟩ ⟨[p], [], c1, c1⟩ := ApartP.wr (fun y hy => (hq y hy).elim) lp
 refine Zgo ?_
 refine Wtr.call rfl rfl (qcode_spec Zfr hbk1 hd' hx hv1 hb (fun b => (U b ∧ b ≠ m) ∨ bs b) (fun b u => .inl ⟨u.1, u.2.2⟩) (fun b hb => .inr (hbs b hb))) ?_
 rintro v2 h2' c2 r2 w2 ⟨⟨cb, rfl, hcb, hcc⟩, hext2⟩
 have hq2 := hext2.quiet (fun _ _ q => q)
 have kp2 := Kp.ext (W := fun b => b = m) (h := h) (c := c) kp hext2 (by omega) (fun _ _ q => q.elim)
 have lr2 := Lg.extR (R := fun b => U b ∨ bs b) (c := c) Zlg hext2 (fun b _ hb => hb.imp (fun u => u.1) (fun u => u))
 have lw2 := Lg.extW (W := fun b => b = m) (c := c) Zlg hext2 (fun b _ hb => hb.elim)
 have fr2 := hext2.fresh
 have le2 := hext2.c
 simp only at le2 fr2 hcc
 have lcb := hcc.lt fr2
 have hm2 : Has h2' m (.map es n) := hext2.hs hm1 (by omega) (fun q => q)
 have hp2 := hext2.hs hp1 (by omega) (fun q => q)
 have hown2 := hown.keep (h' := h2') (fun b hb => hext2.get ((hown.blk hb).2.lt fr1) (fun q => q))
 have hrm2 : ∀ b ∈ r2, b ≠ m := fun b hb => by
  rcases hext2.rl b hb with u | u
  ·exact absurd u List.not_mem_nil
  ·exact fun e => u.2.elim (fun u => u.2 e) (fun u => hbm (e ▸ u))
 refine ⟨Zap, ?_⟩
 obtain ⟨va, vk, rfl⟩ := hown2.val
 refine Zgo ?_
 refine Wtr.op (s1 := ⟨h2'.set m (some (.map (putI .i64 id (.agg ⟨[.slice va dim vk, .slice (some ⟨cb, 0, none⟩) dim dim]⟩) n es).1 (putI .i64 id (.agg ⟨[.slice va dim vk, .slice (some ⟨cb, 0, none⟩) dim dim]⟩) n es).2)), c2, [m], [m]⟩) rfl (to_mapUpdate (mi_ rfl) rfl rfl rfl hm2 (hm2.lt fr2) h2.ks) ?_ ?_
 ·exact Zap
 dsimp only [put]
 refine Zgo ?_
 refine ⟨.inl rfl, Wres.nil ⟨?_, ?_⟩⟩
 ·refine ⟨Has.other (fun e => q.ne e) hp2, hbk1.keep fr1 (fun b hb => ⟨.inl hb.1, hb.2⟩) (fun b hb hc => (get_other hb.2.2).trans (hext2.get hc (fun q => q))), ⟨_, _, Has.same, ⟨_, h2.put (by unfold wfI; rw [decide_eq_true hid.1, decide_eq_true hid.2]; rfl) _⟩, fun x => ?_⟩, .inl hpU, .inl hmU, q.ne, q.rises.put _, fun r hr => ?_⟩
  ·rw [getM_put, valI_put h2]
   by_cases hxi : id = x
   ·rw [if_pos hxi, if_pos hxi.symm]
    refine .inr ⟨_, _, rfl, rfl, _, _, rfl, ?_, ?_, fun b hb => ?_, fun b hb => ?_⟩
    ·show Own _ 0 _ (zs.map (Value.int .i32)).length _
     rw [List.length_map, hx]
     exact (hown2.low (Nat.zero_le _)).keep fun b hb => get_other (by have := (hown2.blk hb).1; omega)
    ·show Own _ 0 _ (zs.map (Value.int .i32)).length ((codeZ lo st (intsV (zs.map (Value.int .i32)))).map (Value.int .u8))
     rw [List.length_map, hx, intsV_ints]
     exact .inr ⟨cb, none, dim, rfl, Nat.le_refl _, Nat.zero_le _, Has.other (by omega) hcc⟩
    ·obtain ⟨u1, u2⟩ := hown2.blk hb
     have := u2.lt fr2
     exact ⟨.inr ⟨u1, this⟩, by omega, by omega⟩
    ·have e : cb = b := by simpa [blkOf] using hb
     subst e
     exact ⟨.inr ⟨by omega, lcb⟩, by omega, by omega⟩
   ·rw [if_neg hxi, if_neg fun e => hxi e.symm]
    exact (h3 x).keep hf (fun b hb => .inl hb) fun b _ hc _ hm => (get_other hm).trans (kp2 b hc hm)
  ·rcases mem_putM hr with rfl | hr
   ·exact ⟨zs, rfl, hx, hb⟩
   ·exact q.ok r hr
 ·exact Zex
end Go.Ab.Seat
end
