/- A book is made of vectors (the abstract machine). -/
import Derived.Test.YtofikbfljjjgeaaGreatDoorDY2
set_option linter.unusedVariables false
set_option linter.unusedSimpArgs false
namespace Go.Ab.Seat
open Go.Extern Go.Proofs
set_option maxRecDepth 4000
section
variable {C : Ctx} {eg : TypeId → Bool} {e : Env} {s : St} {d : Option Nat} {ty : TypeId} {ps : String} {af : Array Edge} {g : Option (Nat × Bool)} {t t2 : TypeId} {x y : Operand} {a b : Int}
theorem to_add32 (hx : evalA e x = .int .i32 a) (hy : evalA e y = .int .i32 b) (h0 : -2147483648 ≤ a + b) (h1 : a + b ≤ 2147483647) : OpTo C eg e ⟨d, .binOp .add t x y t2, ty, ps, af, g⟩ s (.int .i32 (a + b)) s :=
 to_bin hx hy (by rw [opBin_int (by decide) (by decide)]; show some (Value.int .i32 (wrapA .i32 (a + b))) = _; rw [wrapA_i32 h0 h1])
theorem to_sub32 (hx : evalA e x = .int .i32 a) (hy : evalA e y = .int .i32 b) (h0 : -2147483648 ≤ a - b) (h1 : a - b ≤ 2147483647) : OpTo C eg e ⟨d, .binOp .sub t x y t2, ty, ps, af, g⟩ s (.int .i32 (a - b)) s :=
 to_bin hx hy (by rw [opBin_int (by decide) (by decide)]; show some (Value.int .i32 (wrapA .i32 (a - b))) = _; rw [wrapA_i32 h0 h1])
theorem to_quo32 (hx : evalA e x = .int .i32 a) (hy : evalA e y = .int .i32 b) (hb : b ≠ 0) (h0 : -2147483648 ≤ a.tdiv b) (h1 : a.tdiv b ≤ 2147483647) : OpTo C eg e ⟨d, .binOp .quo t x y t2, ty, ps, af, g⟩ s (.int .i32 (a.tdiv b)) s :=
 to_bin hx hy (by rw [opBin_int (by decide) (by decide)]; show (match decide (b = 0) with | true => none | false => some (Value.int .i32 (wrapA .i32 (a.tdiv b)))) = _; rw [decide_eq_false hb, wrapA_i32 h0 h1])
end
def K87 : List Nat := [0, 1, 2, 4, 5, 6, 7, 8, 9, 10, 16, 27, 28, 29, 31, 32, 33, 34, 39]
set_option maxHeartbeats 16000000 in
theorem make_spec {h : T AObj} {c : Nat} {rl wl : List Nat} (hf : Fresh h c) {v : Value} {dim : Nat} {vs : List (List Int)} {U0 : Nat → Prop} (hm0 : MRow h v dim vs U0) (hn : vs.length ≤ 1000) (hd1 : 1 ≤ dim) (hd : dim ≤ 8) (R : Nat → Prop) (hUR0 : ∀ b, U0 b → R b) :
  ∃ r s', FnTo (Cs smQ) eg 87 [.int .i64 (dim : Int), v] ⟨h, c, rl, wl⟩ r s' ∧ (∃ bl bs, r = .agg ⟨[.slice (some ⟨bl, 0, none⟩) dim dim, .slice (some ⟨bs, 0, none⟩) dim dim]⟩ ∧ c ≤ bl ∧ c ≤ bs ∧ bl ≠ bs ∧ Has s'.h bl (.cells (mixK .i32 (fun i => lowZ i vs) (fun _ => 0) dim dim)) ∧ Has s'.h bs (.cells (mixK .i32 (fun i => stepZ i vs) (fun _ => 0) dim dim))) ∧ Ext ⟨h, c, rl, wl⟩ s' R (fun _ => False) := by
 have hm := hm0.bound hf hd1
 have hvok := hm0.vok
 generalize hU : (fun b => U0 b ∧ b < c) = U at hm
 have hUR : ∀ b, U b → R b := fun b hb => by subst hU; exact hUR0 b hb.1
 have hUc : ∀ b, U b → b < c := fun b hb => by subst hU; exact hb.2
 clear hU hm0 hUR0
 obtain ⟨oa, cap, rfl⟩ := hm.val
 have hbg : big = 1048576 := rfl
 refine Fn.go (stdQ 87 rfl) ex87 fn87 km87 rfl rfl ?_
 refine Zev ?_
 refine Zgo ?_
 have hmA := hm.keep (h' := (h.set c (some (.cells [.int .i64 (dim : Int)]))).set (c + 1) (some (.cells [.slice none 0 0, .slice none 0 0]))) hf (fun _ q => q) (fun b hb _ _ => by have := hUc b hb; rw [get_other (by omega), get_other (by omega)])
 refine Wseq.call rfl rfl (clone156_spec Zfr hmA (fun b hb => by have := hUc b hb; omega) hn R hUR) ?_
 rintro v1 h1 c1 r1 w1 ⟨hm1, hext1⟩
 have fr1 := hext1.fresh
 have le1 := hext1.c
 simp only at le1 fr1 hm1
 have kp1 := Kp.ext (W := fun _ => False) (h := h) (c := c) Zkp hext1 (by omega) (fun _ _ q => q)
 have lr1 := Lg.extR (R := R) (c := c) Zlg hext1 (fun _ _ q => q)
 have lw1 := Lg.extW (W := fun _ => False) (c := c) Zlg hext1 (fun _ _ q => q)
 have gb1 := hext1.hs (b := c) (Has.other (by omega) Has.same) (by omega) (fun q => q)
 have gr1 := hext1.hs (b := c + 1) Has.same (by omega) (fun q => q)
 refine Zgo ?_
 refine Wseq.call rfl rfl (del155_spec Zfr hm1 hn hd1 hd gb1 (fun b => R b ∨ c ≤ b) (fun b q => q.elim (fun q => .inl (hUR b q)) (fun q => .inr (by omega))) (.inr (Nat.le_refl _))) ?_
 rintro v2 h2 c2 r2 w2 ⟨⟨rfl, e1, e2⟩, hext2⟩
 simp only at e1 e2
 have lr2 := Lg.extR (R := R) (c := c) Zlg hext2 (fun b hb q => q.elim (fun q => q) (fun q => by omega))
 have lw2 := Lg.extW (W := fun _ => False) (c := c) Zlg hext2 (fun _ _ q => q)
 subst e1 e2
 obtain ⟨ob, capb, rfl⟩ := hm1.val
 refine Zgo ?_
 refine Zd (to_makeSlice (a := dim) (b := dim) ro24 rfl rfl rfl rfl (by omega) (by omega) Zfr) ?_
 refine Zgo ?_
 refine Zd (to_makeSlice (a := dim) (b := dim) ro24 rfl rfl rfl rfl (by omega) (by omega) Zfr) ?_
 refine Zgo ?_
 have lr9 : Lg c (fun x => R x ∨ c ≤ x) r2 := fun b hb => (lr2 b hb).imp (fun q => q) .inl
 have hbnd := fun j k hk => lohi_bnd (i := j) (fun v hv => (hvok v hv).2) k hk
 refine Wx.cutO (fun e s => ∃ (g : Nat → Value) (h' : T AObj) (rl' wl' : List Nat), e = fr g [(4, .pointer (some ⟨c + 1, 0, none⟩)), (5, .pointer (some ⟨c2 + 1 + 1, 0, none⟩))] K87 ∧ s = ⟨h', c2 + 1 + 1 + 1, rl', wl'⟩ ∧ Fresh h' (c2 + 1 + 1 + 1) ∧ Kp h2 h' c2 (fun _ => False) ∧ Has h' c2 (.cells (mixK .i32 (fun i => lowZ i vs) (fun _ => 0) dim dim)) ∧ Has h' (c2 + 1) (.cells (mixK .i32 (fun i => stepZ i vs) (fun _ => 0) dim dim)) ∧ Has h' (c2 + 1 + 1) (.cells [.slice (some ⟨c2, 0, none⟩) dim dim, .slice (some ⟨c2 + 1, 0, none⟩) dim dim]) ∧ Lg c (fun x => R x ∨ c ≤ x) rl' ∧ Lg c (fun _ => False) wl') Zrs ?_ ?_
 ·refine Wx.loopF (fun k1 e s => ∃ (g : Nat → Value) (i : Nat) (z : Int) (h' : T AObj) (rl' wl' : List Nat), e = fr g [(1, .slice ob vs.length capb), (2, .pointer (some ⟨c, 0, none⟩)), (4, .pointer (some ⟨c + 1, 0, none⟩)), (5, .pointer (some ⟨c2 + 1 + 1, 0, none⟩)), (27, .int .i64 (dim : Int)), (28, .int .i64 z)] K87 ∧ z = i ∧ s = ⟨h', c2 + 1 + 1 + 1, rl', wl'⟩ ∧ Fresh h' (c2 + 1 + 1 + 1) ∧ Kp h2 h' c2 (fun _ => False) ∧ Has h' c2 (.cells (mixK .i32 (fun i => lowZ i vs) (fun _ => 0) dim i)) ∧ Has h' (c2 + 1) (.cells (mixK .i32 (fun i => stepZ i vs) (fun _ => 0) dim i)) ∧ Has h' (c2 + 1 + 1) (.cells [.slice (some ⟨c2, 0, none⟩) dim dim, .slice (some ⟨c2 + 1, 0, none⟩) dim dim]) ∧ Lg c (fun x => R x ∨ c ≤ x) rl' ∧ Lg c (fun _ => False) wl' ∧ i ≤ dim ∧ k1 = dim - i) dim K87 [(1, _), (2, _), (4, _), (5, _), (27, _), (28, .int .i64 0)] ⟨_, 0, 0, _, _, _, rfl, rfl, rfl, Zfr, Zkp, by rw [← mixK_rep]; exact Zhs, by rw [← mixK_rep]; exact Zhs, Has.same, Zlg, Zlg, by omega, rfl⟩ ?_
  rintro k1 e s ⟨g, i, z, h', rl', wl', rfl, hz, rfl, hf', hkp, hL, hS, hB, hlr, hlw, hid, rfl⟩
  (refine Wx.sw (by simp only [K87, frN, frC, updN, updC, Nat.reduceEqDiff, ↓reduceIte]; rfl) ?_)
  by_cases hi : i < dim
  rotate_left
  ·refine Zgo ?_
   obtain rfl : i = dim := by omega
   exact CutQ.goF K87 [(4, _), (5, _)] ⟨_, _, _, _, rfl, rfl, hf', hkp, hL, hS, hB, hlr, hlw⟩
  have hm' := hm1.keep fr1 (fun _ q => q) (fun b _ hb _ => hkp b hb (fun q => q))
  refine Zgo ?_
  refine Wx.cutO (fun e s => ∃ (g : Nat → Value) (rl' wl' : List Nat), e = fr g [(1, .slice ob vs.length capb), (2, .pointer (some ⟨c, 0, none⟩)), (4, .pointer (some ⟨c + 1, 0, none⟩)), (5, .pointer (some ⟨c2 + 1 + 1, 0, none⟩)), (27, .int .i64 (dim : Int)), (28, .int .i64 z), (6, .int .i64 z), (7, .int .i32 (lowZ i vs)), (8, .int .i32 (highZ i vs))] K87 ∧ s = ⟨h', c2 + 1 + 1 + 1, rl', wl'⟩ ∧ Lg c (fun x => R x ∨ c ≤ x) rl' ∧ Lg c (fun _ => False) wl') Zrs ?_ ?_
  ·refine Wx.loopF (fun k1 e s => ∃ (g : Nat → Value) (k : Nat) (z2 : Int) (rl' wl' : List Nat), e = fr g [(1, .slice ob vs.length capb), (2, .pointer (some ⟨c, 0, none⟩)), (4, .pointer (some ⟨c + 1, 0, none⟩)), (5, .pointer (some ⟨c2 + 1 + 1, 0, none⟩)), (27, .int .i64 (dim : Int)), (28, .int .i64 z), (6, .int .i64 z), (7, .int .i32 (lowZ i (vs.take k))), (8, .int .i32 (highZ i (vs.take k))), (31, .slice ob vs.length capb), (32, .int .i64 (vs.length : Int)), (33, .int .i64 z2)] K87 ∧ z2 = k ∧ s = ⟨h', c2 + 1 + 1 + 1, rl', wl'⟩ ∧ Lg c (fun x => R x ∨ c ≤ x) rl' ∧ Lg c (fun _ => False) wl' ∧ k ≤ vs.length ∧ k1 = vs.length - k) vs.length K87 [(1, _), (2, _), (4, _), (5, _), (27, _), (28, _), (6, _), (7, .int .i32 0), (8, .int .i32 0), (31, _), (32, _), (33, .int .i64 0)] ⟨_, 0, 0, _, _, rfl, rfl, rfl, Zlg, Zlg, by omega, rfl⟩ ?_
   rintro k1 e s ⟨g, k, z2, rl2, wl2, rfl, hz2, rfl, hlr2, hlw2, hkd, rfl⟩
   (refine Wx.sw (by simp only [K87, frN, frC, updN, updC, Nat.reduceEqDiff, ↓reduceIte]; rfl) ?_)
   by_cases hk : k < vs.length
   rotate_left
   ·refine Zgo ?_
    have e9 : vs.take k = vs := List.take_of_length_le (by omega)
    rw [e9]
    exact CutQ.goF K87 [(1, _), (2, _), (4, _), (5, _), (27, _), (28, _), (6, _), (7, _), (8, _)] ⟨_, _, _, rfl, rfl, Zlg, Zlg⟩
   obtain ⟨g1, g2, b, sp, vals, a, kk, rfl, g4, g5, g6, g7, g8⟩ := hm'.at (List.getElem?_eq_getElem hk)
   have lb := g5.lt hf'
   have rb : R b ∨ c ≤ b := g4.elim (fun q => .inl (hUR b q)) (fun q => .inr (by omega))
   obtain ⟨b1, o1, sp1, cs1, rfl, hc1, hn1⟩ := rowCell g7 (j := i * 1) (by omega) (vec_nth (by omega))
   have rb1 : R b1 ∨ c ≤ b1 := (g8 b1 rfl).elim (fun q => .inl (hUR b1 q)) (fun q => .inr (by omega))
   have l1 := hc1.lt hf'
   have hlow := lowZ_snoc i vs[k] (vs.take k)
   have hhigh := highZ_snoc i vs[k] (vs.take k)
   rw [← List.take_succ_eq_append_getElem hk] at hlow hhigh
   have hlt : (vs.take k).length = k := by rw [List.length_take]; omega
   rw [hlt] at hlow hhigh
   by_cases hk0 : k = 0
   ·rw [if_pos hk0] at hlow hhigh
    refine Zgo ?_
    refine Zu (to_indexAddr (k := k) el22 rfl rfl hz2 hk) ?_
    refine Zu (to_load (pl_ rfl) rfl g5.cel (by omega) g6) ?_
    refine Zgo ?_
    refine Zq (to_indexAddr (k := i) el25 rfl rfl hz hi) ?_
    refine Zd (to_load (pl_ rfl) rfl hc1 (by omega) hn1) ?_
    refine Zgo ?_
    refine Zq (to_indexAddr (k := i) el25 rfl rfl hz hi) ?_
    refine Zd (to_load (pl_ rfl) rfl hc1 (by omega) hn1) ?_
    refine Zgo ?_
    refine Zq (to_indexAddr (k := i) el25 rfl rfl hz hi) ?_
    refine Zd (to_load (pl_ rfl) rfl hc1 (by omega) hn1) ?_
    refine Zgo ?_
    refine Zq (to_indexAddr (k := i) el25 rfl rfl hz hi) ?_
    refine Zd (to_load (pl_ rfl) rfl hc1 (by omega) hn1) ?_
    refine Zgo ?_
    rw [show min (vs[k].getD i 0) (vs[k].getD i 0) = lowZ i (vs.take (k + 1)) by rw [hlow]; omega, show max (vs[k].getD i 0) (vs[k].getD i 0) = highZ i (vs.take (k + 1)) by rw [hhigh]; omega]
    exact RoundE.goF (vs.length - (k + 1)) K87 [(1, _), (2, _), (4, _), (5, _), (27, _), (28, _), (6, _), (7, _), (8, _), (31, _), (32, _), (33, .int .i64 (z2 + 1))] (by omega) ⟨_, k + 1, z2 + 1, _, _, rfl, by omega, rfl, Zlg, Zlg, by omega, rfl⟩
   ·rw [if_neg hk0] at hlow hhigh
    refine Zgo ?_
    refine Zu (to_indexAddr (k := k) el22 rfl rfl hz2 hk) ?_
    refine Zu (to_load (pl_ rfl) rfl g5.cel (by omega) g6) ?_
    refine Zgo ?_
    refine Zq (to_indexAddr (k := i) el25 rfl rfl hz hi) ?_
    refine Zd (to_load (pl_ rfl) rfl hc1 (by omega) hn1) ?_
    refine Zgo ?_
    refine Zq (to_indexAddr (k := i) el25 rfl rfl hz hi) ?_
    refine Zd (to_load (pl_ rfl) rfl hc1 (by omega) hn1) ?_
    refine Zgo ?_
    rw [← hlow, ← hhigh]
    exact RoundE.goF (vs.length - (k + 1)) K87 [(1, _), (2, _), (4, _), (5, _), (27, _), (28, _), (6, _), (7, _), (8, _), (31, _), (32, _), (33, .int .i64 (z2 + 1))] (by omega) ⟨_, k + 1, z2 + 1, _, _, rfl, by omega, rfl, Zlg, Zlg, by omega, rfl⟩
  ·rintro e s ⟨g, rl2, wl2, rfl, rfl, hlr2, hlw2⟩
   (refine Wx.sw (by simp only [K87, frN, frC, updN, updC, Nat.reduceEqDiff, ↓reduceIte]; rfl) ?_)
   have hb0 := hbnd i vs.length (Nat.le_refl _)
   rw [List.take_length] at hb0
   have hq : -2147483648 ≤ (highZ i vs - lowZ i vs + 255 - 1).tdiv 255 ∧ (highZ i vs - lowZ i vs + 255 - 1).tdiv 255 ≤ 2147483647 := by
    rw [Int.tdiv_eq_ediv_of_nonneg (by omega)]; omega
   have hst1 := mixK_step .i32 (fun i => lowZ i vs) (fun _ => 0) dim i hi
   have hst2 := mixK_step .i32 (fun i => stepZ i vs) (fun _ => 0) dim i hi
   have e7 : max ((highZ i vs - lowZ i vs + 255 - 1).tdiv 255) 1 = stepZ i vs := by
    unfold stepZ; rw [show highZ i vs - lowZ i vs + 255 - 1 = highZ i vs - lowZ i vs + 254 by omega]
   refine Zgo ?_
   refine Zq (to_sub32 rfl rfl (by omega) (by omega)) ?_
   refine Zq (to_add32 rfl rfl (by omega) (by omega)) ?_
   refine Zq (to_sub32 rfl rfl (by omega) (by omega)) ?_
   refine Zq (to_quo32 rfl rfl (by omega) hq.1 hq.2) ?_
   refine Zgo ?_
   rw [e7]
   refine Zq (to_indexAddr (k := i) el24 rfl rfl hz hi) ?_
   ((with_reducible apply Wtr.so); rfl; exact (sz_ rfl); rfl; exact hL; omega; exact Zap; refine Znv ?_; refine ⟨_, _, (by (first | exact cellsA_agg _ | rfl)), rfl, hst1, ?_⟩)
   refine Zq (to_indexAddr (k := i) el24 rfl rfl hz hi) ?_
   ((with_reducible apply Wtr.so); rfl; exact (sz_ rfl); rfl; exact Zhs; omega; exact Zap; refine Znv ?_; refine ⟨_, _, (by (first | exact cellsA_agg _ | rfl)), rfl, hst2, ?_⟩)
   refine Zgo ?_
   exact RoundE.goF (dim - (i + 1)) K87 [(1, _), (2, _), (4, _), (5, _), (27, _), (28, .int .i64 (z + 1))] (by omega) ⟨_, i + 1, z + 1, _, _, _, rfl, by omega, rfl, Zfr, Zkp, Zhs, Has.same, Zhs, Zlg, Zlg, by omega, rfl⟩
 ·rintro e s ⟨g, h', rl', wl', rfl, rfl, hf', hkp, hL, hS, hB, hlr, hlw⟩
  (refine Wx.sw (by simp only [K87, frN, frC, updN, updC, Nat.reduceEqDiff, ↓reduceIte]; rfl) ?_)
  have hlr : Lg c R rl' := fun b hb => (hlr b hb).elim .inl (fun q => q.elim .inr .inl)
  have kph : Kp h h' c (fun _ => False) := fun b hb _ => (hkp b (by omega) (fun q => q)).trans (kp1 b hb (fun q => q))
  have gr' : Has h' (c + 1) _ := (hkp (c + 1) (by omega) (fun q => q)).trans gr1
  refine Zgo ?_
  refine ⟨.inr rfl, Wres.cell rfl (ag_ rfl) Has.same.cel (by omega) (by rfl) ⟨⟨c2, c2 + 1, rfl, by omega, by omega, by omega, Zhs, Zhs⟩, ?_⟩⟩
  exact Zex
end Go.Ab.Seat
