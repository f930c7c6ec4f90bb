import Derived.Test.YtofikbfljjjgeaaGreatDoorDK4
import Derived.Test.YtofikbfljjjgeaaGreatDoorDK3
set_option linter.unusedVariables false
set_option linter.unusedSimpArgs false
section
/- A graph is searched (the abstract machine). -/
namespace Go.Ab.Seat
open Go.Extern Go.Proofs
set_option maxRecDepth 4000
theorem lookH_hits {mt : Int} {G : Gr} {q : List Int} {l n : Nat} {fs : List Int} (hm : ∀ x y, y ∈ G.L x l → ∃ r, getM y G.M = some r) (hf : ∀ y ∈ fs, ∃ r, getM y G.M = some r) : (lookG mt G q l fs n).map (hitG mt G.M q) = lookH mt G q l fs n := by
 obtain ⟨s, g⟩ := lookH_good (mt := mt) (q := q) (n := n) hm hf
 unfold lookG
 rw [List.map_map]
 conv => rhs; rw [← List.map_id (lookH mt G q l fs n)]
 refine List.map_congr_left fun x hx => ?_
 exact (g.hit x hx).symm
def K23 : List Nat := [0, 1, 2, 6, 7, 8, 9, 10, 11, 13, 24, 29, 42, 43, 44, 45]
section
variable {h : T AObj} {c : Nat} {rl wl : List Nat} {p m dim : Nat} {mt : Int} {G : Gr} {U : Nat → Prop}
set_option maxHeartbeats 32000000 in
theorem gsearch_spec (hf : Fresh h c) (qm : GrM h p m mt dim G U) (w : GWf G) (hmt : mt = 1 ∨ mt = 2) (hd1 : 1 ≤ dim) (hd : dim ≤ 1000) (hml : G.M.length ≤ 800) {qa : Option Addr} {qc : Nat} {qs : List Int} (hq : Row h (.slice qa dim qc) dim 1 (qs.map (Value.int .i32))) (hqn : qs.length = dim) (hqb : Bnd qs) (k : Int) {kk : Nat} (hk : max k 0 = (kk : Int)) (hkk : kk ≤ 700) (R : Nat → Prop) (hUR : ∀ b, U b → R b) (hqR : ∀ b, blkOf (.slice qa dim qc) = some b → R b) :
  ∃ r s', FnTo (Cs smQ) eg 23 [.pointer (some ⟨p, 0, none⟩), .slice qa dim qc, .int .i64 k] ⟨h, c, rl, wl⟩ r s' ∧ (Best s'.h r (searchG mt G qs kk).length (flatH (searchG mt G qs kk)) ∧ ∀ b, blkOf r = some b → c ≤ b) ∧ Ext ⟨h, c, rl, wl⟩ s' R (fun _ => False) := by
 have hbg : big = 1048576 := rfl
 have lq : ∀ b, blkOf (.slice qa dim qc) = some b → b < c := by
  rcases hq with ⟨e0, _⟩ | ⟨b, o, sp, cap', cs, e1, e2, e3⟩
  ·omega
  ·intro b' hb'; rw [e1] at hb'; cases hb'; exact e2.lt hf
 refine Fn.go (stdQ 23 rfl) ex23 fn23 km23 rfl rfl ?_
 refine Zev ?_
 refine Zgo ?_
 refine Wseq.call rfl rfl (gentry_spec Zfr qm (by omega)) ?_
 rintro v2 h2 c2 r2 w2 ⟨rfl, hext2⟩
 have fr2 := hext2.fresh
 have le2 := hext2.c
 simp only at fr2 le2
 have kp2 := Kp.ext (W := fun _ => False) (h := h) (c := c) Zkp hext2 (by omega) (fun b hb q => q)
 have lr2 := Lg.extR (R := R) (c := c) Zlg hext2 (fun b hb q => hUR b q)
 have lw2 := Lg.extW (W := fun _ => False) (c := c) Zlg hext2 (fun b hb q => q)
 obtain ⟨hrng1, hrng2⟩ := entry_rng w
 have hent : 0 ≤ (entryG G.M).2 → ∃ r, getM (entryG G.M).1 G.M = some r := fun hu => by
  obtain ⟨r, hr, _⟩ := entry_at w hu
  exact ⟨r, hr⟩
 unfold searchG
 generalize entryG G.M = en at hent hrng1 hrng2 ⊢
 obtain ⟨ent, up⟩ := en
 simp only at hent hrng1 hrng2
 by_cases hup : up < 0
 ·refine Zgo ?_
  refine ⟨.inr rfl, Wres.one rfl ⟨⟨?_, fun b hb => by cases hb⟩, Zex⟩⟩
  show Best h2 (.slice none 0 0) (if up < 0 then ([] : List Ht) else _).length (flatH (if up < 0 then ([] : List Ht) else _))
  rw [if_pos hup]
  exact .inl ⟨rfl, rfl, rfl⟩
 obtain ⟨upn, rfl⟩ : ∃ n : Nat, up = (n : Int) := ⟨up.toNat, by omega⟩
 have hent' := hent (by omega)
 have hmem2 : ∀ x l y, y ∈ G.L x l → ∃ r, getM y G.M = some r := by obtain ⟨_, q⟩ := qm; exact q.mem
 by_cases hk0 : k ≤ 0
 ·obtain rfl : kk = 0 := by omega
  refine Zgo ?_
  refine ⟨.inr rfl, Wres.one rfl ⟨⟨?_, fun b hb => by cases hb⟩, Zex⟩⟩
  show Best h2 (.slice none 0 0) (if (upn : Int) < 0 then ([] : List Ht) else _).length (flatH (if (upn : Int) < 0 then ([] : List Ht) else _))
  rw [if_neg (by omega), List.take_zero]
  exact .inl ⟨rfl, rfl, rfl⟩
 obtain rfl : k = (kk : Int) := by omega
 have rowk : ∀ {hh : T AObj}, Kp h hh c (fun _ => False) → Row hh (.slice qa dim qc) dim 1 (qs.map (Value.int .i32)) := fun kp => Row.keepF hq hf fun b hb => kp b hb (fun q => q)
 refine Zgo ?_
 refine Wx.cutO (fun e s => ∃ (g : Nat → Value) (h' : T AObj) (c' : Nat) (rl' wl' : List Nat) (av : Value) (al : List Int), e = fr g [(0, .pointer (some ⟨p, 0, none⟩)), (1, .slice qa dim qc), (2, .int .i64 (kk : Int)), (9, av)] K23 ∧ s = ⟨h', c', rl', wl'⟩ ∧ c ≤ c' ∧ Fresh h' c' ∧ Kp h h' c (fun _ => False) ∧ ARow h' av al c c' ∧ al = downG mt G qs 0 upn [ent] ∧ (∀ y ∈ al, ∃ r, getM y G.M = some r) ∧ al.length ≤ 8 ∧ Lg c R rl' ∧ Lg c (fun _ => False) wl') Zrs ?_ ?_
 ·refine Wx.loopF (fun k1 e s => ∃ (g : Nat → Value) (j : Nat) (z : Int) (h' : T AObj) (c' : Nat) (rl' wl' : List Nat) (av : Value) (al : List Int), e = fr g [(0, .pointer (some ⟨p, 0, none⟩)), (1, .slice qa dim qc), (2, .int .i64 (kk : Int)), (9, av), (10, .int .i64 z)] K23 ∧ z = j ∧ s = ⟨h', c', rl', wl'⟩ ∧ c ≤ c' ∧ Fresh h' c' ∧ Kp h h' c (fun _ => False) ∧ ARow h' av al c c' ∧ downG mt G qs 0 j al = downG mt G qs 0 upn [ent] ∧ (∀ y ∈ al, ∃ r, getM y G.M = some r) ∧ al.length ≤ 8 ∧ Lg c R rl' ∧ Lg c (fun _ => False) wl' ∧ j ≤ 4 ∧ j = k1) upn K23 [(0, _), (1, _), (2, _), (9, _), (10, _)] ⟨_, upn, _, _, _, _, _, _, [ent], rfl, rfl, rfl, by omega, Zfr, Zkp, ⟨_, _, rfl, Nat.le_refl _, .inr ⟨c2, 0, none, 1, _, rfl, Has.same.cel, rfl⟩, (fun b hb => by cases hb; exact ⟨le2, Nat.lt_succ_self _⟩), fun q hq => by cases hq; exact .inl rfl⟩, rfl, (fun y hy => by rw [List.mem_singleton.1 hy]; exact hent'), by simp, Zlg, Zlg, by omega, rfl⟩ ?_
  rintro k1 e s ⟨g, j, z, h', c', rl', wl', av, al, rfl, hz1, rfl, hcc, hf', hkp, hA, hdn, hal, hal8, hlr, hlw, hk4, rfl⟩
  subst hz1
  (refine Wx.sw (by simp only [K23, frN, frC, updN, updC, Nat.reduceEqDiff, ↓reduceIte]; rfl) ?_)
  cases j with
  | zero =>
   refine Zgo ?_
   exact CutQ.goF K23 [(0, _), (1, _), (2, _), (9, _)] ⟨_, _, _, _, _, av, al, rfl, rfl, hcc, hf', hkp, hA, hdn, hal, hal8, Zlg, Zlg⟩
  | succ j =>
  obtain ⟨oa, ca, rfl, _, hrA, hAb, _⟩ := hA
  obtain ⟨hlm, hll⟩ := look_mem (mt := mt) (q := qs) (l := j + 1) (n := 1) (fun x y => hmem2 x (j + 1) y) hal
  refine Zgo ?_
  refine Wseq.call rfl rfl (look_spec Zfr (qm.keep hf (fun b _ hb => hkp b hb (fun q => q))) hmt (rowk hkp) hqn hqb hd (l := j + 1) hk4 hrA hal (by omega) (n := 1) (by omega) hml (fun b => c ≤ b ∨ R b) (fun b hb => .inr (hUR b hb)) (fun b hb => .inr (hqR b hb)) (fun b hb => .inl (hAb b hb).1)) ?_
  rintro v6 h6 c6 r6 w6 ⟨hI, hext6⟩
  have fr6 := hext6.fresh
  have le6 := hext6.c
  simp only at fr6 le6 hI
  have kp6 := Kp.ext (W := fun _ => False) (h := h) (c := c) hkp hext6 (by omega) (fun b hb q => q)
  have lr6 := Lg.extR (R := R) (c := c) Zlg hext6 (fun b hb q => q.elim (fun q => by omega) (fun q => q))
  have lw6 := Lg.extW (W := fun _ => False) (c := c) Zlg hext6 (fun b hb q => q)
  refine Zgo ?_
  exact RoundE.goF j K23 [(0, _), (1, _), (2, _), (9, _), (10, .int .i64 (((j + 1 : Nat) : Int) - 1))] (by omega) ⟨_, j, _, _, _, _, _, _, lookG mt G qs (j + 1) al 1, rfl, by omega, rfl, by omega, fr6, kp6, (hI.arow fr6).lo hcc, by rw [← downG_step (Nat.succ_pos j)]; exact hdn, hlm, by omega, lr6, lw6, by omega, rfl⟩
 rintro e s ⟨g, h', c', rl', wl', av, al, rfl, rfl, hcc, hf', hkp, hA, hal0, hal, hal8, hlr, hlw⟩
 (refine Wx.sw (by simp only [K23, frN, frC, updN, updC, Nat.reduceEqDiff, ↓reduceIte]; rfl) ?_)
 obtain ⟨oa, ca, rfl, _, hrA, hAb, _⟩ := hA
 obtain ⟨hlm, hll⟩ := look_mem (mt := mt) (q := qs) (l := 0) (n := max 8 kk) (fun x y => hmem2 x 0 y) hal
 have hhit := lookH_hits (mt := mt) (q := qs) (l := 0) (n := max 8 kk) (fun x y => hmem2 x 0 y) hal
 have hfin : (if (upn : Int) < 0 then ([] : List Ht) else (lookH mt G qs 0 (downG mt G qs 0 (upn : Int).toNat [ent]) (max 8 kk)).take kk) = (lookH mt G qs 0 al (max 8 kk)).take kk := by
  rw [if_neg (by omega), hal0]; rfl
 rw [← hhit] at hfin
 have hmax : max (8 : Int) (kk : Int) = ((max 8 kk : Nat) : Int) := by omega
 refine Zgo ?_
 rw [hmax]
 refine Wseq.call rfl rfl (look_spec Zfr (qm.keep hf (fun b _ hb => hkp b hb (fun q => q))) hmt (rowk hkp) hqn hqb hd (l := 0) (by omega) hrA hal (by omega) (n := max 8 kk) (by omega) hml (fun b => c ≤ b ∨ R b) (fun b hb => .inr (hUR b hb)) (fun b hb => .inr (hqR b hb)) (fun b hb => .inl (hAb b hb).1)) ?_
 rintro v6 h6 c6 r6 w6 ⟨hI, hext6⟩
 have fr6 := hext6.fresh
 have le6 := hext6.c
 simp only at fr6 le6 hI
 have kp6 := Kp.ext (W := fun _ => False) (h := h) (c := c) hkp hext6 (by omega) (fun b hb q => q)
 have lr6 := Lg.extR (R := R) (c := c) Zlg hext6 (fun b hb q => q.elim (fun q => by omega) (fun q => q))
 have lw6 := Lg.extW (W := fun _ => False) (c := c) Zlg hext6 (fun b hb q => q)
 generalize lookG mt G qs 0 al (max 8 kk) = LL at hI hlm hll hfin
 obtain ⟨oi, rfl, hir, hib⟩ := hI.val
 have hhl : (LL.map (hitG mt G.M qs)).length = LL.length := List.length_map _
 refine Zgo ?_
 refine Wx.loopF (fun k1 e s => ∃ (g : Nat → Value) (i : Nat) (z : Int) (lv : Value) (h' : T AObj) (c' : Nat) (rl' wl' : List Nat), e = fr g [(0, .pointer (some ⟨p, 0, none⟩)), (1, .slice qa dim qc), (2, .int .i64 (kk : Int)), (11, lv), (42, .slice oi LL.length LL.length), (43, .int .i64 (LL.length : Int)), (44, .int .i64 z)] K23 ∧ z = i ∧ s = ⟨h', c', rl', wl'⟩ ∧ c6 ≤ c' ∧ Fresh h' c' ∧ Kp h6 h' c6 (fun _ => False) ∧ HL h' c6 lv ((LL.map (hitG mt G.M qs)).take i) ∧ Lg c R rl' ∧ Lg c (fun _ => False) wl' ∧ i ≤ LL.length ∧ k1 = LL.length - i) LL.length K23 [(0, _), (1, _), (2, _), (11, .slice none 0 0), (42, _), (43, _), (44, .int .i64 0)] ⟨_, 0, 0, _, _, _, _, _, rfl, rfl, rfl, Nat.le_refl _, Zfr, Zkp, .inl ⟨rfl, rfl⟩, Zlg, Zlg, by omega, rfl⟩ ?_
 rintro k1 e s ⟨g, i, z, lv, h7, c7, rl7, wl7, rfl, hz, rfl, hc7, hf7, hkp7, hL, hlr7, hlw7, hid, rfl⟩
 (refine Wx.sw (by simp only [K23, frN, frC, updN, updC, Nat.reduceEqDiff, ↓reduceIte]; rfl) ?_)
 have kph : Kp h h7 c (fun _ => False) := fun b hb _ => (hkp7 b (by omega) (fun q => q)).trans (kp6 b hb (fun q => q))
 by_cases hi : i < LL.length
 rotate_left
 ·obtain rfl : i = LL.length := by omega
  rw [List.take_of_length_le (by omega)] at hL
  have hmin : ((LL.map (hitG mt G.M qs)).take kk).length = min kk LL.length := by rw [List.length_take, hhl]
  have hgoal : ∀ (vv : Value), Best h7 vv ((LL.map (hitG mt G.M qs)).take kk).length (flatH ((LL.map (hitG mt G.M qs)).take kk)) → Best h7 vv (if (upn : Int) < 0 then ([] : List Ht) else (lookH mt G qs 0 (downG mt G qs 0 (upn : Int).toNat [ent]) (max 8 kk)).take kk).length (flatH (if (upn : Int) < 0 then ([] : List Ht) else (lookH mt G qs 0 (downG mt G qs 0 (upn : Int).toNat [ent]) (max 8 kk)).take kk)) := fun vv hb => by rw [hfin]; exact hb
  rcases hL with ⟨rfl, e0⟩ | ⟨bl, rfl, hne, hbl, hB⟩
  ·refine Zgo ?_
   refine Zu (to_sliceHi (k := 0) el37 rfl rfl (by omega) (by omega) (fun q hq => by cases hq)) ?_
   refine Zgo ?_
   refine ⟨.inr rfl, Wres.one rfl ⟨⟨hgoal _ ?_, fun b hb => by cases hb⟩, Zex⟩⟩
   rw [e0, List.take_nil]
   exact .inl ⟨rfl, rfl, rfl⟩
  ·have hl0 : LL.length ≠ 0 := fun e => hne (List.eq_nil_of_length_eq_zero (by rw [hhl]; exact e))
   refine Zgo ?_
   refine Zu (to_sliceHi (k := min kk LL.length) el37 rfl rfl (by rw [hhl]; omega) (by rw [hhl]; omega) (fun q hq => by cases hq; exact .inr rfl)) ?_
   refine Zgo ?_
   refine ⟨.inr rfl, Wres.one rfl ⟨⟨hgoal _ ?_, fun b hb => by cases hb; show c ≤ bl; omega⟩, Zex⟩⟩
   have hbest : Best h7 (.slice (some ⟨bl, 0, some 2⟩) (LL.map (hitG mt G.M qs)).length (LL.map (hitG mt G.M qs)).length) (LL.map (hitG mt G.M qs)).length (flatH (LL.map (hitG mt G.M qs))) := .inr ⟨bl, _, _, rfl, by rw [hhl]; omega, Nat.le_refl _, hB, subN_all _ _ (flatH_len _).symm⟩
   have := hbest.take (m := min kk LL.length) rfl (by omega) (by rw [hhl]; omega)
   rw [hmin]
   have e3 : (LL.map (hitG mt G.M qs)).take kk = (LL.map (hitG mt G.M qs)).take (min kk LL.length) := by
    rcases Nat.le_total kk LL.length with q | q
    ·rw [Nat.min_eq_left q]
    ·rw [Nat.min_eq_right q, List.take_of_length_le (by omega), List.take_of_length_le (by omega)]
   rw [e3]
   exact this
 obtain ⟨rx, hrx⟩ := hlm _ (List.getElem_mem hi)
 obtain ⟨b1, o1, sp1, cs1, rfl, hc1, hn1⟩ := rowCell (Row.keepF hir fr6 (fun b hb => hkp7 b hb (fun q => q))) (j := i * 1) (by omega) (int_nth (List.getElem?_eq_getElem hi))
 have hb1 := hib b1 rfl
 have l1 := hc1.lt hf7
 have hlen : ((LL.map (hitG mt G.M qs)).take i).length = i := by rw [List.length_take, hhl]; omega
 have hstep : (LL.map (hitG mt G.M qs)).take (i + 1) = (LL.map (hitG mt G.M qs)).take i ++ [hitG mt G.M qs LL[i]] := by rw [List.take_succ_eq_append_getElem (by omega), List.getElem_map]
 refine Zgo ?_
 refine Zu (to_indexAddr (k := i) el45 rfl rfl hz (by omega)) ?_
 refine Zu (to_load (pl_ rfl) rfl hc1 (by omega) hn1) ?_
 refine Zgo ?_
 refine Wseq.call rfl rfl (ghit_spec Zfr (qm.keep hf (fun b _ hb => kph b hb (fun q => q))) hmt (rowk kph) hqn hqb hd hrx R hUR hqR) ?_
 rintro v8 h8 c8 r8 w8 ⟨rfl, hext8⟩
 have fr8 := hext8.fresh
 have le8 := hext8.c
 simp only at fr8 le8
 have kp8 := Kp.ext (W := fun _ => False) (h := h6) (c := c6) hkp7 hext8 (by omega) (fun _ _ q => q)
 have lr8 := Lg.extR (R := R) (c := c) Zlg hext8 (fun _ _ q => q)
 have lw8 := Lg.extW (W := fun _ => False) (c := c) Zlg hext8 (fun _ _ q => q)
 have hfl : flatH ((LL.map (hitG mt G.M qs)).take (i + 1)) = flatH ((LL.map (hitG mt G.M qs)).take i) ++ (hitG mt G.M qs LL[i]).cells := by rw [hstep, flatH_app]; unfold flatH; simp
 refine Zgo ?_
 rcases hL with ⟨rfl, e0⟩ | ⟨bl, rfl, hne, hbl, hB⟩
 ·refine Zu (to_appNil ro37 sl37 rfl rfl (k := 0) Has.same.cel (by omega) (subN_all _ _ rfl) (by omega) Zfr) ?_
  refine Zgo ?_
  have hi0 : i = 0 := by rw [e0] at hlen; exact hlen.symm
  exact RoundE.goF (LL.length - (i + 1)) K23 [(0, _), (1, _), (2, _), (11, _), (42, _), (43, _), (44, .int .i64 (z + 1))] (by omega) ⟨_, i + 1, z + 1, _, _, _, _, _, rfl, by omega, rfl, by omega, Zfr, Zkp, .of (by rw [hfl, e0]; exact Has.same) (by omega) (by rw [hstep, e0]; rfl) (n := 1) (by decide), Zlg, Zlg, by omega, rfl⟩
 ·have lb := hB.lt hf7
  have hB2 : Has h8 bl _ := hext8.hs hB (by omega) (fun q => q)
  refine Zu (to_appOwn ro37 sl37 rfl rfl (k := 0) Has.same.cel (by omega) (subN_all _ _ rfl) (by omega) (by omega) (hB2.other (by omega)) (by omega) (subN_all _ _ (flatH_len _).symm) (all_cons rfl (all_cons rfl all_nil)) Zfr) ?_
  refine Zgo ?_
  exact RoundE.goF (LL.length - (i + 1)) K23 [(0, _), (1, _), (2, _), (11, _), (42, _), (43, _), (44, .int .i64 (z + 1))] (by omega) ⟨_, i + 1, z + 1, _, _, _, _, _, rfl, by omega, rfl, by omega, Zfr, Zkp, .of (by rw [hfl]; exact Has.same) (by omega) (by rw [hstep, List.length_append]; rfl) (Nat.succ_ne_zero _), Zlg, Zlg, by omega, rfl⟩
end
end Go.Ab.Seat
end
section
/- A graph's links are kept well by what is put (plain lists). -/
namespace Go.Ab.Seat
open Go.Extern Go.Proofs
theorem look_all {mt : Int} {G : Gr} {q : List Int} {l n : Nat} {fs : List Int} {P : Int → Prop} (hf : ∀ y ∈ fs, P y) (hl : ∀ x y, y ∈ G.L x l → P y) : ∀ y ∈ lookG mt G q l fs n, P y := by
 have froms : ∀ (ys : List Int) (st : List Ht × List Int), (∀ y ∈ ys, P y) → (∀ x ∈ st.1, P x.id) → ∀ x ∈ (ys.foldl (fromG mt G.M q n) st).1, P x.id := by
  intro ys
  induction ys with
  | nil => intro st _ h; exact h
  | cons y ys ih =>
   intro st h1 h2
   refine ih _ (fun z hz => h1 z (List.mem_cons_of_mem _ hz)) fun x hx => ?_
   rcases mem_putB hx with rfl | hx
   ·exact h1 y (List.mem_cons_self ..)
   ·exact h2 x hx
 have sees : ∀ (ys : List Int) (st : List Ht × List Int), (∀ y ∈ ys, P y) → (∀ x ∈ st.1, P x.id) → ∀ x ∈ (ys.foldl (seeG mt G.M q n) st).1, P x.id := by
  intro ys
  induction ys with
  | nil => intro st _ h; exact h
  | cons y ys ih =>
   intro st h1 h2
   refine ih _ (fun z hz => h1 z (List.mem_cons_of_mem _ hz)) fun x hx => ?_
   unfold seeG at hx
   split at hx
   ·exact h2 x hx
   ·rcases mem_putB hx with rfl | hx
    ·exact h1 y (List.mem_cons_self ..)
    ·exact h2 x hx
 have main : ∀ (k : Nat) (st : LS), (∀ x ∈ st.f, P x.id) → ∀ x ∈ lookN mt G q l n k st, P x.id := by
  intro k
  induction k with
  | zero => intro st h; exact h
  | succ k ih =>
   intro st h
   unfold lookN
   cases hx : nextG st with
   | none => exact h
   | some x => exact ih _ (sees _ _ (hl x.id) h)
 intro y hy
 unfold lookG at hy
 obtain ⟨x, hx, rfl⟩ := List.mem_map.1 hy
 exact main _ _ (froms fs _ hf fun x hx => by cases hx) x hx
section
variable {mt : Int} {M : List Rc} {L : Lk} {l : Nat}
theorem rank_perm {id : Int} {xs : List Int} (h : xs.Nodup) : (rankG mt M id xs).Perm xs := by
 have e : (xs.map (hitG mt M (zsM M id))).map Ht.id = xs := by rw [List.map_map]; exact List.map_id xs
 have hd : ((xs.map (hitG mt M (zsM M id))).map Ht.id).Nodup := by rw [e]; exact h
 have hl : (xs.map (hitG mt M (zsM M id))).length = xs.length := List.length_map _
 obtain ⟨p, _⟩ := bestOf_ord (k := xs.length) hd xs.length (by omega) (Nat.le_refl _)
 rw [List.take_of_length_le (by omega)] at p
 unfold rankG
 have := p.map Ht.id
 rwa [e] at this
theorem mem_prune {id x y : Int} {k : Nat} (h : y ∈ pruneL mt M l L id x k) : y ∈ L x k := (mem_parts.1 h).1
theorem LW.prune {id : Int} (w : LW M L) : LW M (pruneL mt M l L id) := w.parts
theorem prune_len {id : Int} (w : LW M L) : (pruneL mt M l L id id l).length ≤ mostG l := by
 have hp := rank_perm (mt := mt) (M := M) (id := id) (w.up id l).nodup
 refine Nat.le_trans (sub_len (q := (rankG mt M id (L id l)).take (mostG l)) ((LW.prune w).up id l) fun y hy => ?_) (by rw [List.length_take]; omega)
 obtain ⟨h1, h2⟩ := mem_parts.1 hy
 have h3 : y ∈ rankG mt M id (L id l) := hp.mem_iff.2 h1
 rw [← List.take_append_drop (mostG l) (rankG mt M id (L id l))] at h3
 rcases List.mem_append.1 h3 with h3 | h3
 ·exact h3
 ·exact absurd ⟨rfl, .inl ⟨rfl, h3⟩⟩ h2
theorem prunes {near : List Int} : ∀ {L : Lk}, LW M L → (∀ x k, (L x k).length ≤ mostG k ∨ (k = l ∧ x ∈ near)) → LW M (near.foldl (pruneL mt M l) L) ∧ (∀ x k, (near.foldl (pruneL mt M l) L x k).length ≤ mostG k) ∧ ∀ x k y, y ∈ near.foldl (pruneL mt M l) L x k → y ∈ L x k := by
 induction near with
 | nil => intro L w h; exact ⟨w, fun x k => (h x k).elim (fun e => e) (fun e => by cases e.2), fun x k y hy => hy⟩
 | cons z near ih =>
  intro L w h
  obtain ⟨g1, g2, g3⟩ := ih (L := pruneL mt M l L z) w.prune fun x k => by
   rcases h x k with e | ⟨e1, e2⟩
   ·exact .inl (Nat.le_trans (sub_len ((LW.prune w).up x k) fun y hy => mem_prune hy) e)
   ·subst e1
    rcases List.mem_cons.1 e2 with rfl | e2
    ·exact .inl (prune_len w)
    ·exact .inr ⟨rfl, e2⟩
  exact ⟨g1, g2, fun x k y hy => mem_prune (g3 x k y hy)⟩
theorem mem_links {id x y : Int} {k : Nat} : ∀ {near : List Int} {L : Lk}, y ∈ near.foldl (fun L y => linkL l L id y) L x k ↔ y ∈ L x k ∨ (k = l ∧ ((x = id ∧ y ∈ near) ∨ (y = id ∧ x ∈ near)))
 | [], L => by simp
 | z :: near, L => by
  rw [List.foldl_cons, mem_links (near := near), mem_link]
  constructor
  ·rintro ((e | ⟨e, ⟨f, g⟩ | ⟨f, g⟩⟩) | ⟨e, ⟨f, g⟩ | ⟨f, g⟩⟩)
   ·exact .inl e
   ·exact .inr ⟨e, .inl ⟨f, by rw [g]; exact List.mem_cons_self ..⟩⟩
   ·exact .inr ⟨e, .inr ⟨g, by rw [f]; exact List.mem_cons_self ..⟩⟩
   ·exact .inr ⟨e, .inl ⟨f, List.mem_cons_of_mem _ g⟩⟩
   ·exact .inr ⟨e, .inr ⟨f, List.mem_cons_of_mem _ g⟩⟩
  ·rintro (e | ⟨e, ⟨f, g⟩ | ⟨f, g⟩⟩)
   ·exact .inl (.inl e)
   ·rcases List.mem_cons.1 g with g | g
    ·exact .inl (.inr ⟨e, .inl ⟨f, g⟩⟩)
    ·exact .inr ⟨e, .inl ⟨f, g⟩⟩
   ·rcases List.mem_cons.1 g with g | g
    ·exact .inl (.inr ⟨e, .inr ⟨g, f⟩⟩)
    ·exact .inr ⟨e, .inr ⟨f, g⟩⟩
theorem LW.links {id : Int} : ∀ {near : List Int} {L : Lk}, LW M L → (∃ r, getM id M = some r ∧ (l : Int) ≤ r.seq) → (∀ y ∈ near, y ≠ id ∧ ∃ r, getM y M = some r ∧ (l : Int) ≤ r.seq) → LW M (near.foldl (fun L y => linkL l L id y) L)
 | [], _, w, _, _ => w
 | z :: near, L, w, h1, h2 => LW.links (near := near) (L := linkL l L id z) (w.link (Ne.symm (h2 z (List.mem_cons_self ..)).1) h1 (h2 z (List.mem_cons_self ..)).2) h1 fun y hy => h2 y (List.mem_cons_of_mem _ hy)
theorem join_good {id : Int} {near : List Int} (w : LC M L) (hid : ∃ r, getM id M = some r ∧ (l : Int) ≤ r.seq) (hn : ∀ y ∈ near, y ≠ id ∧ ∃ r, getM y M = some r ∧ (l : Int) ≤ r.seq) (h4 : near.length ≤ 4) (h0 : L id l = []) : LC M (joinL mt M l L id near) ∧ ∀ x k, k ≠ l → ∀ y, y ∈ joinL mt M l L id near x k → y ∈ L x k := by
 have w1 := LW.links (near := near) w.lw hid hn
 have hm4 : 4 ≤ mostG l := by unfold mostG; split <;> omega
 obtain ⟨g1, g2, g3⟩ := prunes (mt := mt) (l := l) (near := near) w1 fun x k => by
  by_cases hk : k = l
  ·subst hk
   by_cases hx : x ∈ near
   ·exact .inr ⟨rfl, hx⟩
   ·refine .inl ?_
    by_cases hxi : x = id
    ·subst hxi
     refine Nat.le_trans (sub_len (q := near) (w1.up x k) fun y hy => ?_) (by omega)
     rcases mem_links.1 hy with e | ⟨_, e | e⟩
     ·rw [h0] at e; cases e
     ·exact e.2
     ·exact absurd e.2 hx
    ·refine Nat.le_trans (sub_len (w1.up x k) fun y hy => ?_) (w.cap x k)
     rcases mem_links.1 hy with e | ⟨_, e | e⟩
     ·exact e
     ·exact absurd e.1 hxi
     ·exact absurd e.2 hx
  ·refine .inl (Nat.le_trans (sub_len (w1.up x k) fun y hy => ?_) (w.cap x k))
   rcases mem_links.1 hy with e | e
   ·exact e
   ·exact absurd e.1 hk
 refine ⟨⟨g1, g2⟩, fun x k hk y hy => ?_⟩
 rcases mem_links.1 (g3 x k y hy) with e | e
 ·exact e
 ·exact absurd e.1 hk
end
theorem grow_good {mt id : Int} {q : List Int} : ∀ (l : Nat) {G : Gr} {at_ : List Int}, LC G.M G.L → (∃ r, getM id G.M = some r ∧ (l : Int) ≤ r.seq) → (∀ k, k ≤ l → G.L id k = []) → (∀ y ∈ at_, y ≠ id ∧ ∃ r, getM y G.M = some r ∧ (l : Int) ≤ r.seq) → (growG mt id q l G at_).M = G.M ∧ LC G.M (growG mt id q l G at_).L := by
 have one : ∀ (l : Nat) {G : Gr} {at_ : List Int}, LC G.M G.L → (∃ r, getM id G.M = some r ∧ (l : Int) ≤ r.seq) → (∀ k, k ≤ l → G.L id k = []) → (∀ y ∈ at_, y ≠ id ∧ ∃ r, getM y G.M = some r ∧ (l : Int) ≤ r.seq) → (∀ y ∈ lookG mt G q l at_ 8, y ≠ id ∧ ∃ r, getM y G.M = some r ∧ (l : Int) ≤ r.seq) ∧ LC G.M (joinL mt G.M l G.L id ((lookG mt G q l at_ 8).take 4)) ∧ ∀ k, k < l → joinL mt G.M l G.L id ((lookG mt G q l at_ 8).take 4) id k = [] := by
  intro l G at_ w hid h0 hat
  have hP : ∀ y ∈ lookG mt G q l at_ 8, y ≠ id ∧ ∃ r, getM y G.M = some r ∧ (l : Int) ≤ r.seq := look_all hat fun x y hy => ⟨(fun e => by
   have := w.lw.sym x l y hy
   rw [e, h0 l (Nat.le_refl l)] at this
   cases this), w.lw.mem x l y hy⟩
  obtain ⟨g1, g2⟩ := join_good (mt := mt) w hid (near := (lookG mt G q l at_ 8).take 4) (fun y hy => hP y (List.mem_of_mem_take hy)) (by rw [List.length_take]; omega) (h0 l (Nat.le_refl l))
  refine ⟨hP, g1, fun k hk => ?_⟩
  cases hl : joinL mt G.M l G.L id ((lookG mt G q l at_ 8).take 4) id k with
  | nil => rfl
  | cons y ys =>
   have := g2 id k (by omega) y (by rw [hl]; exact List.mem_cons_self ..)
   rw [h0 k (by omega)] at this
   cases this
 intro l
 induction l with
 | zero =>
  intro G at_ w hid h0 hat
  obtain ⟨_, g, _⟩ := one 0 w hid h0 hat
  exact ⟨rfl, g⟩
 | succ l ih =>
  intro G at_ w hid h0 hat
  obtain ⟨g1, g2, g3⟩ := one (l + 1) w hid h0 hat
  exact ih (G := ⟨G.M, joinL mt G.M (l + 1) G.L id ((lookG mt G q (l + 1) at_ 8).take 4)⟩) g2 (by obtain ⟨r, h1, h2⟩ := hid; exact ⟨r, h1, by omega⟩) (fun k hk => g3 k (by omega)) fun y hy => by
   obtain ⟨h1, r, h2, h3⟩ := g1 y hy
   exact ⟨h1, r, h2, by omega⟩
theorem down_good {mt id : Int} {q : List Int} {G : Gr} {l : Nat} (w : LW G.M G.L) (h0 : ∀ k, G.L id k = []) : ∀ (u : Nat) {at_ : List Int}, (∀ y ∈ at_, y ≠ id ∧ ∃ r, getM y G.M = some r ∧ (u : Int) ≤ r.seq) → ∀ y ∈ downG mt G q l u at_, y ≠ id ∧ ∃ r, getM y G.M = some r ∧ ((min l u : Nat) : Int) ≤ r.seq := by
 intro u
 induction u with
 | zero =>
  intro at_ h y hy
  obtain ⟨h1, r, h2, h3⟩ := h y hy
  exact ⟨h1, r, h2, by omega⟩
 | succ u ih =>
  intro at_ h
  by_cases hl : l < u + 1
  ·rw [downG_step hl]
   have hP : ∀ y ∈ lookG mt G q (u + 1) at_ 1, y ≠ id ∧ ∃ r, getM y G.M = some r ∧ ((u + 1 : Nat) : Int) ≤ r.seq := look_all h fun x y hy => ⟨(fun e => by
    have := w.sym x (u + 1) y hy
    rw [e, h0] at this
    cases this), w.mem x (u + 1) y hy⟩
   intro y hy
   obtain ⟨h1, r, h2, h3⟩ := ih (fun y hy => by
    obtain ⟨h1, r, h2, h3⟩ := hP y hy
    exact ⟨h1, r, h2, by omega⟩) y hy
   exact ⟨h1, r, h2, by omega⟩
  ·rw [downG_stop (by omega)]
   intro y hy
   obtain ⟨h1, r, h2, h3⟩ := h y hy
   exact ⟨h1, r, h2, by omega⟩
theorem del_none {mt : Int} {G : Gr} {id : Int} : getM id (delG mt G id).M = none := by
 unfold delG
 cases hr : getM id G.M with
 | none => exact hr
 | some r => show getM id (delM id G.M) = none; rw [getM_del, if_pos rfl]
theorem put_base {G : Gr} (w : GWf G) {id : Int} (hn : getM id G.M = none) (zs : List Int) {lv : Int} (hl : 0 ≤ lv ∧ lv ≤ 4) : GWf ⟨putM (mbG id zs lv) G.M, G.L⟩ := by
 refine ⟨w.rises.put _, fun r hr => ?_, ⟨w.lw.up, fun x l y hy => ?_, w.lw.sym, w.lw.irr⟩, w.cap⟩
 ·rcases mem_putM hr with rfl | hr
  ·exact hl
  ·exact w.lev r hr
 ·obtain ⟨r, h1, h2⟩ := w.lw.mem x l y hy
  refine ⟨r, ?_, h2⟩
  show getM y (putM (mbG id zs lv) G.M) = some r
  rw [getM_put, if_neg fun e => ?_]
  ·exact h1
  ·have e : id = y := e
   rw [← e, hn] at h1; cases h1
theorem putG_M {mt : Int} {G : Gr} (w : GWf G) (id : Int) (zs : List Int) (dw : Int) : (putG mt G id zs dw).M = putM (mbG id zs (levelG dw : Int)) (delG mt G id).M ∧ GWf (putG mt G id zs dw) := by
 have w1 := w.del (mt := mt) id
 have hn := del_none (mt := mt) (G := G) (id := id)
 have hlv := levelG_le dw
 have w2 := put_base w1 hn zs (lv := (levelG dw : Int)) ⟨by omega, by omega⟩
 unfold putG
 generalize delG mt G id = G1 at w1 hn w2
 by_cases hu : (entryG G1.M).2 < 0
 ·rw [if_pos hu]
  exact ⟨rfl, w2⟩
 ·rw [if_neg hu]
  obtain ⟨r, hr, hrs⟩ := entry_at w1 (by omega)
  have hne : (entryG G1.M).1 ≠ id := fun e => by rw [e, hn] at hr; cases hr
  have hout := w1.lw.out hn
  have hid : getM id (putM (mbG id zs (levelG dw : Int)) G1.M) = some (mbG id zs (levelG dw : Int)) := by rw [getM_put]; exact if_pos rfl
  have hd := down_good (mt := mt) (id := id) (q := zs) (l := levelG dw) (G := ⟨putM (mbG id zs (levelG dw : Int)) G1.M, G1.L⟩) w2.lw hout (entryG G1.M).2.toNat (at_ := [(entryG G1.M).1]) fun y hy => by
   rw [List.mem_singleton.1 hy]
   refine ⟨hne, r, ?_, by omega⟩
   show getM _ (putM (mbG id zs (levelG dw : Int)) G1.M) = some r
   rw [getM_put, if_neg fun e => hne e.symm]
   exact hr
  obtain ⟨g1, g2⟩ := grow_good (mt := mt) (id := id) (q := zs) (min (levelG dw) (entryG G1.M).2.toNat) (G := ⟨putM (mbG id zs (levelG dw : Int)) G1.M, G1.L⟩) ⟨w2.lw, w2.cap⟩ ⟨_, hid, by show ((min (levelG dw) (entryG G1.M).2.toNat : Nat) : Int) ≤ (levelG dw : Int); omega⟩ (fun k _ => hout k) hd
  refine ⟨g1, ?_⟩
  have e : ∀ G : Gr, G.M = putM (mbG id zs (levelG dw : Int)) G1.M → LC (putM (mbG id zs (levelG dw : Int)) G1.M) G.L → GWf G := fun G e1 e2 => ⟨by rw [e1]; exact w2.rises, by rw [e1]; exact w2.lev, by rw [e1]; exact e2.lw, e2.cap⟩
  exact e _ g1 g2
theorem GWf.put {mt : Int} {G : Gr} (w : GWf G) (id : Int) (zs : List Int) (dw : Int) : GWf (putG mt G id zs dw) := (putG_M w id zs dw).2
end Go.Ab.Seat
end
