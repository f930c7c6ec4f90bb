import Derived.Test.YtofikbfljjjgeaaGreatDoorDJG
import Derived.Test.YtofikbfljjjgeaaGreatDoorDW2
set_option linter.unusedVariables false
set_option linter.unusedSimpArgs false
section
/- Those that a member had links to are linked (the abstract machine). -/
namespace Go.Ab.Seat
open Go.Extern Go.Proofs
set_option maxRecDepth 4000
theorem putB_ne {k : Nat} (hk : 1 ≤ k) {l : List Ht} {x : Ht} : l ≠ [] ∨ True → putB k l x ≠ [] := by
 intro _ h
 unfold putB at h
 split at h
 ·rename_i ha
  rw [h] at ha
  simp at ha
 ·split at h
  ·rename_i hle
   rw [h] at hle
   simp [iH] at hle
   omega
  ·have := congrArg List.length h
   rw [List.length_take, List.length_append, List.length_cons] at this
   simp at this
   omega
theorem bestOf_ne {k : Nat} (hk : 1 ≤ k) {l : List Ht} (h : l ≠ []) : bestOf k l ≠ [] := by
 obtain ⟨i, x, rfl⟩ : ∃ i x, l = i ++ [x] := ⟨l.dropLast, l.getLast h, (List.dropLast_concat_getLast h).symm⟩
 unfold bestOf
 rw [List.foldl_append]
 exact putB_ne hk (.inr trivial)
theorem rankG_ne {mt : Int} {M : List Rc} {id : Int} {l : List Int} (h : l ≠ []) : rankG mt M id l ≠ [] := by
 unfold rankG
 intro e
 rw [List.map_eq_nil_iff] at e
 refine bestOf_ne ?_ ?_ e
 ·have : l.length ≠ 0 := fun q => h (List.length_eq_zero_iff.1 q)
  omega
 ·exact fun q => h (List.map_eq_nil_iff.1 q)
def K83 : List Nat := [0, 1, 2, 3, 5, 6, 8, 9, 11, 12, 13, 14, 28]
set_option maxHeartbeats 16000000 in
theorem mend_spec {h : T AObj} {c : Nat} {rl wl : List Nat} (hf : Fresh h c) {p m dim : Nat} {mt : Int} {G : Gr} {U : Nat → Prop} (qm : GrM h p m mt dim G U) (hmt : mt = 1 ∨ mt = 2) (hd : dim ≤ 1000) (hml : G.M.length ≤ 800) {l : Nat} (hl : l < 5) {oa : Option Addr} {cap : Nat} {xs : List Int} (hx : Row h (.slice oa xs.length cap) xs.length 1 (xs.map (Value.int .i64))) (hz : oa = none → cap = 0 ∧ xs = []) (hxm : ∀ x ∈ xs, ∃ r, getM x G.M = some r) (hxn : xs.length ≤ 800) (hxU : xs ≠ [] → ∀ b, blkOf (.slice oa xs.length cap) = some b → ¬U b) (R : Nat → Prop) (hUR : ∀ b, U b → R b) (hR : ∀ b, blkOf (.slice oa xs.length cap) = some b → R b) :
  ∃ r s', FnTo (Cs smQ) eg 83 [.pointer (some ⟨p, 0, none⟩), .slice oa xs.length cap, .int .i64 (l : Int)] ⟨h, c, rl, wl⟩ r s' ∧ GrM s'.h p m mt dim ⟨G.M, mendL mt G.M l G.L xs⟩ (fun b => U b ∨ c ≤ b ∧ b < s'.c) ∧ Ext ⟨h, c, rl, wl⟩ s' R U := by
 have hbg : big = 1048576 := rfl
 refine Fn.go (stdQ 83 rfl) ex83 fn83 km83 rfl rfl ?_
 refine Zev ?_
 refine Zgo ?_
 refine Wx.loopF (fun k1 e s => ∃ (g : Nat → Value) (i : Nat) (z : Int) (h' : T AObj) (c' : Nat) (rl' wl' : List Nat), e = fr g [(1, .slice oa xs.length cap), (3, .pointer (some ⟨c, 0, none⟩)), (5, .pointer (some ⟨c + 1, 0, none⟩)), (6, .pointer (some ⟨c + 2, 0, none⟩)), (11, .slice oa xs.length cap), (12, .int .i64 (xs.length : Int)), (13, .int .i64 z)] K83 ∧ z = i ∧ s = ⟨h', c', rl', wl'⟩ ∧ c + 3 ≤ c' ∧ Fresh h' c' ∧ Kp h h' c U ∧ Has h' c (.cells [.pointer (some ⟨p, 0, none⟩)]) ∧ Has h' (c + 1) (.cells [.int .i64 (l : Int)]) ∧ Has h' (c + 2) (.cells [.func (.func 149) ⟨[]⟩ ⟨[.pointer (some ⟨c, 0, none⟩), .pointer (some ⟨c + 1, 0, none⟩)]⟩]) ∧ GrM h' p m mt dim ⟨G.M, (xs.take i).foldl (mend1 mt G.M l xs) G.L⟩ (fun b => (U b ∧ b < c) ∨ c + 3 ≤ b ∧ b < c') ∧ Lg c R rl' ∧ Lg c U wl' ∧ i ≤ xs.length ∧ k1 = xs.length - i) xs.length K83 [(1, _), (3, _), (5, _), (6, _), (11, _), (12, _), (13, .int .i64 0)] ⟨_, 0, 0, _, _, _, _, rfl, rfl, rfl, by omega, Zfr, Zkp, Zhs, Zhs, Has.same, ((qm.low hf).wide hf (fun b hb => .inl hb)).keep hf (fun b hb hc => by rw [get_other (by omega), get_other (by omega), get_other (by omega), get_other (by omega)]), Zlg, Zlg, by omega, rfl⟩ ?_
 rintro k1 e s ⟨g, i, z, h', c', rl', wl', rfl, hz1, rfl, hcc, hf', hkp, hA, hB, hC, qm', hlr, hlw, hid, rfl⟩
 (refine Wx.sw (by simp only [K83, frN, frC, updN, updC, Nat.reduceEqDiff, ↓reduceIte]; rfl) ?_)
 by_cases hi : i < xs.length
 rotate_left
 ·refine Zgo ?_
  obtain rfl : i = xs.length := by omega
  rw [List.take_length] at qm'
  exact ⟨.inl rfl, Wres.nil ⟨qm'.wide hf' (fun b hb => hb.imp (fun q => q.1) (fun q => ⟨by omega, q.2⟩)), Zex⟩⟩
 have hst := foldl_take (mend1 mt G.M l xs) G.L hi
 have hxsm := hxm _ (List.getElem_mem hi)
 generalize hLi : (xs.take i).foldl (mend1 mt G.M l xs) G.L = Li at qm' hst
 have lc := hA.lt hf'
 have lc1 := hB.lt hf'
 have lc2 := hC.lt hf'
 have hrow' : Row h' (.slice oa xs.length cap) xs.length 1 (xs.map (Value.int .i64)) := by
  rcases hx with hx | ⟨b, o, sp, cap', cs, e1, e2, e3⟩
  ·exact .inl hx
  ·refine .inr ⟨b, o, sp, cap', cs, e1, ?_, e3⟩
   have hb := hxU (fun q => by rw [q] at hi; cases hi) b (by rw [e1]; rfl)
   have lb := e2.lt hf
   exact e2.imp (hkp b lb hb).trans (Or.imp (hkp b lb hb).trans (hkp b lb hb).trans)
 obtain ⟨b1, o1, sp1, cs1, rfl, hc1, hn1⟩ := rowCell hrow' (j := i * 1) (by omega) (int_nth (List.getElem?_eq_getElem hi))
 have l1 := hc1.lt hf'
 have r1 := hR b1 rfl
 have lb1 : b1 < c := by
  rcases hx with ⟨e0, _⟩ | ⟨b, o, sp, cap', cs, e1, e2, e3⟩
  ·omega
  ·simp only [Value.slice.injEq, Option.some.injEq, Addr.mk.injEq] at e1
   rw [e1.1.1]; exact e2.lt hf
 refine Zgo ?_
 refine Zu (to_indexAddr (k := i) el45 rfl rfl hz1 (by omega)) ?_
 refine Zu (to_load (pl_ rfl) rfl hc1 (by omega) hn1) ?_
 refine Zgo ?_
 have kA : ∀ b, b < c' → ((h'.set c' (some (.cells [.int .i64 0]))).set c' (some (.cells [.int .i64 xs[i]]))).get b = h'.get b := fun b hb => (get_other (by omega)).trans (get_other (by omega))
 refine Wseq.call rfl rfl (cloneI_spec Zfr (Row.keepF hrow' hf' (fun b hb => kA b hb)) (fun e => by cases e) (by omega) R hR) ?_
 rintro v2 h2 c2 r2 w2 ⟨hcr, hext2⟩
 have fr2 := hext2.fresh
 have le2 := hext2.c
 simp only at fr2 le2
 have kp2 := Kp.ext (W := U) (h := h) (c := c) Zkp hext2 (by omega) (fun b hb q => q.elim)
 have lr2 := Lg.extR (R := R) (c := c) Zlg hext2 (fun b hb q => q)
 have lw2 := Lg.extW (W := U) (c := c) Zlg hext2 (fun b hb q => q.elim)
 have kB : ∀ b, b < c' → h2.get b = h'.get b := fun b hb => (hext2.h b (by show b < c' + 1; omega) (fun q => q)).trans (kA b hb)
 have hI2 : Has h2 c' (.cells [.int .i64 xs[i]]) := hext2.hs Has.same (by omega) (fun q => q)
 have hA2 : Has h2 c _ := (kB c lc).trans hA
 have hB2 : Has h2 (c + 1) _ := (kB _ lc1).trans hB
 have hC2 : Has h2 (c + 2) _ := (kB _ lc2).trans hC
 have q2 : GrM h2 p m mt dim ⟨G.M, Li⟩ (fun b => (U b ∧ b < c) ∨ c + 3 ≤ b ∧ b < c') := qm'.keep hf' (fun b _ hb => kB b hb)
 refine Zgo ?_
 have hUR' : ∀ b, ((U b ∧ b < c) ∨ c + 3 ≤ b ∧ b < c') → c ≤ b ∨ R b := fun b q => q.elim (fun q => .inr (hUR b q.1)) (fun q => .inl (by omega))
 refine Wseq.call rfl rfl (delf_spec Zfr (delG1 l Li xs[i]) hcr (by omega) (fun b => c ≤ b ∨ R b) (fun b hb => .inl (by obtain ⟨_, _, _, g⟩ := hcr.val; have := g b hb; omega)) (fun h' c'' rl' wl' f' hc' k' x hx => by
  have kk : ∀ b, b < c' + 1 → h'.get b = h2.get b := fun b hb => k' b (by omega) (fun q => by obtain ⟨_, _, _, g⟩ := hcr.val; have := g b q; omega)
  exact del1_spec f' (q2.keep (hf'.up (Nat.le_succ c') |> fun _ => fr2) (fun b hu _ => kk b (by rcases hu with u | u <;> omega))) hml hl ((kk _ (by omega)).trans hI2) ((kk _ (by omega)).trans hC2) ((kk _ (by omega)).trans hA2) ((kk _ (by omega)).trans hB2) hxsm (hxm x hx) (fun b => c ≤ b ∨ R b) hUR' (.inl (by omega)) (.inl (by omega)) (.inl (by omega)) (.inl (by omega)))) ?_
 have hclb : ∀ b, blkOf v2 = some b → c' + 1 ≤ b := fun b hb => by obtain ⟨_, _, _, g⟩ := hcr.val; exact g b hb
 rintro v3 h3 c3 r3 w3 ⟨⟨⟨o3, k3, rfl, hk3⟩, hrw3, hb3⟩, hext3⟩
 have fr3 := hext3.fresh
 have le3 := hext3.c
 simp only at fr3 le3 hrw3
 have kp3 := Kp.ext (W := U) (h := h) (c := c) kp2 hext3 (by omega) (fun b hb q => by have := hclb b q; omega)
 have lr3 := Lg.extR (R := R) (c := c) Zlg hext3 (fun b hb q => q.elim (fun q => by omega) (fun q => q))
 have lw3 := Lg.extW (W := U) (c := c) Zlg hext3 (fun b hb q => by have := hclb b q; omega)
 have kC : ∀ b, b < c' + 1 → h3.get b = h2.get b := fun b hb => hext3.h b (by show b < c2; omega) (fun q => by have := hclb b q; omega)
 have hI3 : Has h3 c' _ := (kC c' (by omega)).trans hI2
 have hA3 : Has h3 c _ := (kC c (by omega)).trans hA2
 have hB3 : Has h3 (c + 1) _ := (kC _ (by omega)).trans hB2
 have hC3 : Has h3 (c + 2) _ := (kC _ (by omega)).trans hC2
 have q3 : GrM h3 p m mt dim ⟨G.M, Li⟩ (fun b => (U b ∧ b < c) ∨ c + 3 ≤ b ∧ b < c') := q2.keep fr2 (fun b hu hb => kC b (by rcases hu with u | u <;> omega))
 have hoth : xs.filter (fun x => !delG1 l Li xs[i] x) = othersG l Li xs xs[i] := rfl
 rw [hoth] at hrw3 hk3 ⊢
 have hom : ∀ x ∈ othersG l Li xs xs[i], ∃ r, getM x G.M = some r := fun x hx => hxm x (List.mem_filter.1 hx).1
 have hol : (othersG l Li xs xs[i]).length ≤ xs.length := List.length_filter_le _ _
 refine Zgo ?_
 refine Wseq.callV rfl rfl rfl (gmay_spec Zfr q3 hl hA3 hB3 hxsm (fun b => c ≤ b ∨ R b) hUR' (.inl (by omega)) (.inl (by omega))) ?_
 rintro v4 h4 c4 r4 w4 ⟨rfl, hext4⟩
 have fr4 := hext4.fresh
 have le4 := hext4.c
 simp only at fr4 le4
 have kp4 := Kp.ext (W := U) (h := h) (c := c) kp3 hext4 (by omega) (fun b hb q => q.elim)
 have lr4 := Lg.extR (R := R) (c := c) Zlg hext4 (fun b hb q => q.elim (fun q => by omega) (fun q => q))
 have lw4 := Lg.extW (W := U) (c := c) Zlg hext4 (fun b hb q => q.elim)
 have kD : ∀ b, b < c3 → h4.get b = h3.get b := fun b hb => hext4.h b hb (fun q => q)
 have hI4 : Has h4 c' _ := (kD c' (by omega)).trans hI3
 have hA4 : Has h4 c _ := (kD c (by omega)).trans hA3
 have hB4 : Has h4 (c + 1) _ := (kD _ (by omega)).trans hB3
 have hC4 : Has h4 (c + 2) _ := (kD _ (by omega)).trans hC3
 have q4 : GrM h4 p m mt dim ⟨G.M, Li⟩ (fun b => (U b ∧ b < c) ∨ c + 3 ≤ b ∧ b < c') := q3.keep fr3 (fun b hu hb => kD b hb)
 have hrw4 := Row.keepF hrw3 fr3 (fun b hb => kD b hb)
 -- nothing is linked
 have stay : ∀ g' : Nat → Value, mend1 mt G.M l xs Li xs[i] = Li → GrM h4 p m mt dim ⟨G.M, (xs.take (i + 1)).foldl (mend1 mt G.M l xs) G.L⟩ (fun b => (U b ∧ b < c) ∨ c + 3 ≤ b ∧ b < c4) := fun _ e => by
  rw [hst, e]
  exact q4.wide fr4 (fun b hb => hb.imp (fun q => q) (fun q => ⟨q.1, by omega⟩))
 cases hmay : mayG l Li xs[i]
 ·refine Zgo ?_
  exact RoundE.goF (xs.length - (i + 1)) K83 [(1, _), (3, _), (5, _), (6, _), (11, _), (12, _), (13, .int .i64 (z + 1))] (by omega) ⟨_, i + 1, z + 1, _, _, _, _, rfl, by omega, rfl, by omega, fr4, kp4, hA4, hB4, hC4, stay (fun _ => top) (by unfold mend1; rw [hmay, if_neg (by decide)]), lr4, lw4, by omega, rfl⟩
 refine Zgo ?_
 by_cases ho : othersG l Li xs xs[i] = []
 ·rw [decide_eq_false (show ¬((0 : Int) < ((othersG l Li xs xs[i]).length : Int)) by rw [ho]; simp)]
  refine Zgo ?_
  exact RoundE.goF (xs.length - (i + 1)) K83 [(1, _), (3, _), (5, _), (6, _), (11, _), (12, _), (13, .int .i64 (z + 1))] (by omega) ⟨_, i + 1, z + 1, _, _, _, _, rfl, by omega, rfl, by omega, fr4, kp4, hA4, hB4, hC4, stay (fun _ => top) (by unfold mend1; rw [hmay, if_pos rfl, ho]; rfl), Zlg, Zlg, by omega, rfl⟩
 have hol0 : (othersG l Li xs xs[i]).length ≠ 0 := fun e => ho (List.length_eq_zero_iff.1 e)
 rw [decide_eq_true (show ((0 : Int) < ((othersG l Li xs xs[i]).length : Int)) by omega)]
 refine Zgo ?_
 refine Wtr.call rfl rfl (ranked_spec Zfr q4 hmt hd hxsm hrw4 hom (by omega) (fun b => c ≤ b ∨ R b) hUR' (fun b hb => .inl (by have := hclb b (hb3 b hb); omega))) ?_
 rintro v5 h5 c5 r5 w5 ⟨hI, hext5⟩
 have fr5 := hext5.fresh
 have le5 := hext5.c
 simp only at fr5 le5 hI
 have hq5 := hext5.quiet (fun _ _ q => q)
 have kp5 := Kp.ext (W := U) (h := h) (c := c) kp4 hext5 (by omega) (fun b hb q => q.elim)
 have lr5 := Lg.extR (R := R) (c := c) Zlg hext5 (fun b hb q => q.elim (fun q => by omega) (fun q => q))
 have lw5 := Lg.extW (W := U) (c := c) Zlg hext5 (fun b hb q => q.elim)
 have kE : ∀ b, b < c4 → h5.get b = h4.get b := fun b hb => hext5.h b hb (fun q => q)
 have hA5 : Has h5 c _ := (kE c (by omega)).trans hA4
 have hB5 : Has h5 (c + 1) _ := (kE _ (by omega)).trans hB4
 have hC5 : Has h5 (c + 2) _ := (kE _ (by omega)).trans hC4
 have q5 : GrM h5 p m mt dim ⟨G.M, Li⟩ (fun b => (U b ∧ b < c) ∨ c + 3 ≤ b ∧ b < c') := q4.keep fr4 (fun b hu hb => kE b hb)
 refine ⟨Zap, ?_⟩
 obtain ⟨y, ys, hys⟩ : ∃ y ys, rankG mt G.M xs[i] (othersG l Li xs xs[i]) = y :: ys := by
  cases hr : rankG mt G.M xs[i] (othersG l Li xs xs[i]) with
  | nil => exact absurd hr (rankG_ne ho)
  | cons a b => exact ⟨a, b, rfl⟩
 have hym : ∃ r, getM y G.M = some r := hom y (rankG_mem (by rw [hys]; exact List.mem_cons_self ..))
 change IRow h5 c4 v5 (rankG mt G.M xs[i] (othersG l Li xs xs[i])) at hI
 rw [hys] at hI
 rcases hI with ⟨_, e⟩ | ⟨b5, rfl, _, hb5, hB5r⟩
 ·cases e
 have l5 := hB5r.lt fr5
 have hx5 : ApartP ⟨r5, w5, c4, c5⟩ ⟨[c + 1], [], c5, c5⟩ := ApartP.wr (fun y hy => (hq5 y hy).elim) (by omega)
 refine Zgo ?_
 refine Zq (to_indexAddr (k := 0) el45 rfl rfl rfl (by simp)) ?_
 refine Zd (to_load (pl_ rfl) rfl hB5r.cel (by omega) rfl) ?_
 refine Zgo ?_
 refine Wtr.call rfl rfl (link_spec Zfr q5 hml hl hxsm hym (fun b => c ≤ b ∨ R b) hUR') ?_
 rintro v6 h6 c6 r6 w6 ⟨q6, hext6⟩
 have fr6 := hext6.fresh
 have le6 := hext6.c
 simp only at fr6 le6 q6
 have kp6 := Kp.ext (W := U) (h := h) (c := c) kp5 hext6 (by omega) (fun b hb q => q.elim (fun q => q.1) (fun q => by omega))
 have lr6 := Lg.extR (R := R) (c := c) Zlg hext6 (fun b hb q => q.elim (fun q => by omega) (fun q => q))
 have lw6 := Lg.extW (W := U) (c := c) Zlg hext6 (fun b hb q => q.elim (fun q => q.1) (fun q => by omega))
 have kF : ∀ b, c ≤ b → b < c + 3 → h6.get b = h5.get b := fun b h1 h2 => hext6.h b (by show b < c5; omega) (fun q => by rcases q with q | q <;> omega)
 refine ⟨Zap, ?_⟩
 refine Zgo ?_
 refine RoundE.goF (xs.length - (i + 1)) K83 [(1, _), (3, _), (5, _), (6, _), (11, _), (12, _), (13, .int .i64 (z + 1))] (by omega) ⟨_, i + 1, z + 1, _, _, _, _, rfl, by omega, rfl, by omega, fr6, kp6, (kF c (by omega) (by omega)).trans hA5, (kF _ (by omega) (by omega)).trans hB5, (kF _ (by omega) (by omega)).trans hC5, ?_, Zlg, Zlg, by omega, rfl⟩
 rw [hst, show mend1 mt G.M l xs Li xs[i] = linkL l Li xs[i] y by unfold mend1; rw [hmay, if_pos rfl, hys]]
 exact q6.wide fr6 (fun b hb => hb.elim (fun e => e.imp (fun e => e) (fun e => ⟨e.1, by omega⟩)) (fun e => .inr ⟨by omega, e.2⟩))
end Go.Ab.Seat
end
section
/- A graph's links go both ways, to members, not too many: kept by what is put and let go (plain lists). -/
namespace Go.Ab.Seat
open Go.Extern Go.Proofs
structure LW (M : List Rc) (L : Lk) : Prop where
 up : ∀ x l, Up (L x l)
 mem : ∀ x l y, y ∈ L x l → ∃ r, getM y M = some r ∧ (l : Int) ≤ r.seq
 sym : ∀ x l y, y ∈ L x l → x ∈ L y l
 irr : ∀ x l, x ∉ L x l
structure GWf (G : Gr) : Prop where
 rises : Rises G.M
 lev : ∀ r ∈ G.M, 0 ≤ r.seq ∧ r.seq ≤ 4
 lw : LW G.M G.L
 cap : ∀ x l, (G.L x l).length ≤ mostG l
theorem GWf.nil : GWf ⟨[], fun _ _ => []⟩ := ⟨Rises.nil, (fun r hr => by cases hr), ⟨fun _ _ => List.Pairwise.nil, (fun x l y h => by cases h), (fun x l y h => by cases h), fun x l h => by cases h⟩, fun _ _ => Nat.zero_le _⟩
theorem Up.nodup {l : List Int} (h : Up l) : l.Nodup := h.imp fun h => by omega
theorem LW.out {M : List Rc} {L : Lk} (w : LW M L) {x : Int} (h : getM x M = none) (l : Nat) : L x l = [] := by
 cases hl : L x l with
 | nil => rfl
 | cons y ys =>
  obtain ⟨r, hr, _⟩ := w.mem y l x (w.sym x l y (by rw [hl]; exact List.mem_cons_self ..))
  rw [h] at hr; cases hr
theorem GWf.high {G : Gr} (w : GWf G) {x y : Int} {l : Nat} (h : y ∈ G.L x l) : l < 5 := by
 obtain ⟨r, hr, h1⟩ := w.lw.mem x l y h
 have := (w.lev r (getM_mem hr).1).2
 omega
section
variable {M : List Rc} {L : Lk} {a b x y : Int} {l k : Nat}
theorem mem_ins : y ∈ insL l L a b x k ↔ y ∈ L x k ∨ (k = l ∧ x = a ∧ y = b) := by
 unfold insL
 by_cases h : x = a ∧ k = l
 ·rw [h.1, h.2, updL_at, insS_mem]
  constructor
  ·rintro (e | e)
   ·exact .inr ⟨rfl, rfl, e⟩
   ·exact .inl e
  ·rintro (e | ⟨_, _, e⟩)
   ·exact .inr e
   ·exact .inl e
 ·rw [updL_ne h]
  exact ⟨.inl, fun e => e.elim (fun e => e) fun e => absurd ⟨e.2.1, e.1⟩ h⟩
theorem mem_rem : y ∈ remL l L a b x k ↔ y ∈ L x k ∧ ¬(k = l ∧ x = a ∧ y = b) := by
 unfold remL
 by_cases h : x = a ∧ k = l
 ·rw [h.1, h.2, updL_at, remS_mem]
  exact ⟨fun e => ⟨e.1, fun q => e.2 q.2.2⟩, fun e => ⟨e.1, fun q => e.2 ⟨rfl, rfl, q⟩⟩⟩
 ·rw [updL_ne h]
  exact ⟨fun e => ⟨e, fun q => h ⟨q.2.1, q.1⟩⟩, fun e => e.1⟩
theorem mem_link : y ∈ linkL l L a b x k ↔ y ∈ L x k ∨ (k = l ∧ ((x = a ∧ y = b) ∨ (x = b ∧ y = a))) := by
 unfold linkL
 rw [mem_ins, mem_ins]
 constructor
 ·rintro ((e | e) | e)
  ·exact .inl e
  ·exact .inr ⟨e.1, .inl e.2⟩
  ·exact .inr ⟨e.1, .inr e.2⟩
 ·rintro (e | ⟨e, f | f⟩)
  ·exact .inl (.inl e)
  ·exact .inl (.inr ⟨e, f⟩)
  ·exact .inr ⟨e, f⟩
theorem mem_part : y ∈ partL l L a b x k ↔ y ∈ L x k ∧ ¬(k = l ∧ ((x = a ∧ y = b) ∨ (x = b ∧ y = a))) := by
 unfold partL
 rw [mem_rem, mem_rem]
 constructor
 ·rintro ⟨⟨e, f⟩, g⟩
  exact ⟨e, fun q => q.2.elim (fun r => f ⟨q.1, r⟩) (fun r => g ⟨q.1, r⟩)⟩
 ·rintro ⟨e, f⟩
  exact ⟨⟨e, fun q => f ⟨q.1, .inl q.2⟩⟩, fun q => f ⟨q.1, .inr q.2⟩⟩
theorem up_upd {xs : List Int} (h : ∀ x l, Up (L x l)) (hx : Up xs) (u : Int) (l : Nat) (x : Int) (k : Nat) : Up (updL L u l xs x k) := by
 by_cases e : x = u ∧ k = l
 ·rw [e.1, e.2, updL_at]; exact hx
 ·rw [updL_ne e]; exact h x k
theorem up_link (h : ∀ x l, Up (L x l)) (x : Int) (k : Nat) : Up (linkL l L a b x k) := by
 unfold linkL insL
 have h1 := up_upd h (insS_up (v := b) (h a l)) a l
 exact up_upd h1 (insS_up (h1 b l)) b l x k
theorem up_part (h : ∀ x l, Up (L x l)) (x : Int) (k : Nat) : Up (partL l L a b x k) := by
 unfold partL remL
 have h1 := up_upd h (remS_up (v := b) (h a l)) a l
 exact up_upd h1 (remS_up (h1 b l)) b l x k
theorem LW.link (w : LW M L) (hab : a ≠ b) (ha : ∃ r, getM a M = some r ∧ (l : Int) ≤ r.seq) (hb : ∃ r, getM b M = some r ∧ (l : Int) ≤ r.seq) : LW M (linkL l L a b) := by
 refine ⟨up_link w.up, fun x k y hy => ?_, fun x k y hy => ?_, fun x k hy => ?_⟩
 ·rcases mem_link.1 hy with e | ⟨rfl, ⟨_, rfl⟩ | ⟨_, rfl⟩⟩
  ·exact w.mem x k y e
  ·exact hb
  ·exact ha
 ·rw [mem_link] at hy ⊢
  rcases hy with e | ⟨e, ⟨f, g⟩ | ⟨f, g⟩⟩
  ·exact .inl (w.sym x k y e)
  ·exact .inr ⟨e, .inr ⟨g, f⟩⟩
  ·exact .inr ⟨e, .inl ⟨g, f⟩⟩
 ·rcases mem_link.1 hy with e | ⟨e, ⟨f, g⟩ | ⟨f, g⟩⟩
  ·exact w.irr x k e
  ·exact hab (f.symm.trans g)
  ·exact hab (g.symm.trans f)
theorem LW.part (w : LW M L) : LW M (partL l L a b) := by
 refine ⟨up_part w.up, fun x k y hy => w.mem x k y (mem_part.1 hy).1, fun x k y hy => ?_, fun x k hy => w.irr x k (mem_part.1 hy).1⟩
 rw [mem_part] at hy ⊢
 exact ⟨w.sym x k y hy.1, fun q => hy.2 ⟨q.1, q.2.elim (fun e => .inr ⟨e.2, e.1⟩) (fun e => .inl ⟨e.2, e.1⟩)⟩⟩
theorem sub_len {p q : List Int} (h : Up p) (k : ∀ x ∈ p, x ∈ q) : p.length ≤ q.length := nodup_len h.nodup k
theorem mem_parts : ∀ {ys : List Int} {L : Lk}, y ∈ ys.foldl (fun L y => partL l L a y) L x k ↔ y ∈ L x k ∧ ¬(k = l ∧ ((x = a ∧ y ∈ ys) ∨ (y = a ∧ x ∈ ys)))
 | [], L => by simp
 | z :: ys, L => by
  rw [List.foldl_cons, mem_parts (ys := ys), mem_part]
  constructor
  ·rintro ⟨⟨e, f⟩, g⟩
   refine ⟨e, ?_⟩
   rintro ⟨e1, ⟨e2, e3⟩ | ⟨e2, e3⟩⟩
   ·rcases List.mem_cons.1 e3 with e3 | e3
    ·exact f ⟨e1, .inl ⟨e2, e3⟩⟩
    ·exact g ⟨e1, .inl ⟨e2, e3⟩⟩
   ·rcases List.mem_cons.1 e3 with e3 | e3
    ·exact f ⟨e1, .inr ⟨e3, e2⟩⟩
    ·exact g ⟨e1, .inr ⟨e2, e3⟩⟩
  ·rintro ⟨e, f⟩
   refine ⟨⟨e, ?_⟩, ?_⟩
   ·rintro ⟨e1, ⟨e2, e3⟩ | ⟨e2, e3⟩⟩
    ·exact f ⟨e1, .inl ⟨e2, by rw [e3]; exact List.mem_cons_self ..⟩⟩
    ·exact f ⟨e1, .inr ⟨e3, by rw [e2]; exact List.mem_cons_self ..⟩⟩
   ·rintro ⟨e1, ⟨e2, e3⟩ | ⟨e2, e3⟩⟩
    ·exact f ⟨e1, .inl ⟨e2, List.mem_cons_of_mem _ e3⟩⟩
    ·exact f ⟨e1, .inr ⟨e2, List.mem_cons_of_mem _ e3⟩⟩
theorem LW.parts : ∀ {ys : List Int} {L : Lk}, LW M L → LW M (ys.foldl (fun L y => partL l L a y) L)
 | [], _, w => w
 | z :: ys, L, w => LW.parts (ys := ys) (L := partL l L a z) w.part
end
theorem mem_cut {G : Gr} {id x y : Int} {k : Nat} : ∀ (n : Nat), y ∈ cutL G id n x k ↔ y ∈ G.L x k ∧ ¬(k < n ∧ ((x = id ∧ y ∈ G.L id k) ∨ (y = id ∧ x ∈ G.L id k)))
 | 0 => by unfold cutL; simp
 | n + 1 => by
  have h := mem_cut (G := G) (id := id) (x := x) (y := y) (k := k) n
  unfold cutL at h ⊢
  rw [List.range_succ, List.foldl_append, List.foldl_cons, List.foldl_nil, mem_parts, h]
  constructor
  ·rintro ⟨⟨e, f⟩, g⟩
   refine ⟨e, fun q => ?_⟩
   rcases Nat.lt_or_ge k n with h1 | h1
   ·exact f ⟨h1, q.2⟩
   ·obtain rfl : k = n := by omega
    exact g ⟨rfl, q.2⟩
  ·rintro ⟨e, f⟩
   exact ⟨⟨e, fun q => f ⟨by omega, q.2⟩⟩, fun q => f ⟨by omega, by rw [q.1]; exact q.1 ▸ q.2⟩⟩
theorem LW.cut {G : Gr} {id : Int} (w : LW G.M G.L) : ∀ n, LW G.M (cutL G id n)
 | 0 => w
 | n + 1 => by
  have h := LW.cut (id := id) w n
  unfold cutL at h ⊢
  rw [List.range_succ, List.foldl_append]
  exact h.parts
theorem cut_id {G : Gr} {id x : Int} {k : Nat} (w : GWf G) : id ∉ cutL G id 5 x k := fun h => by
 obtain ⟨h1, h2⟩ := (mem_cut 5).1 h
 exact h2 ⟨w.high h1, .inr ⟨rfl, w.lw.sym x k id h1⟩⟩
theorem cut_del {G : Gr} {id : Int} (w : GWf G) : LW (delM id G.M) (cutL G id 5) := by
 have h := w.lw.cut (id := id) 5
 refine ⟨h.up, fun x l y hy => ?_, h.sym, h.irr⟩
 have hne : y ≠ id := fun e => cut_id w (e ▸ hy)
 rw [getM_del, if_neg hne]
 exact h.mem x l y hy
theorem cut_cap {G : Gr} {id x : Int} {l : Nat} (w : GWf G) : (cutL G id 5 x l).length ≤ mostG l :=
 Nat.le_trans (sub_len ((w.lw.cut 5).up x l) fun y hy => ((mem_cut 5).1 hy).1) (w.cap x l)
structure LC (M : List Rc) (L : Lk) : Prop where
 lw : LW M L
 cap : ∀ x l, (L x l).length ≤ mostG l
section
variable {mt : Int} {M : List Rc} {L : Lk} {l : Nat} {xs : List Int}
theorem LC.link {a b : Int} (w : LC M L) (hab : a ≠ b) (ha : ∃ r, getM a M = some r ∧ (l : Int) ≤ r.seq) (hb : ∃ r, getM b M = some r ∧ (l : Int) ≤ r.seq) (h1 : (L a l).length < mostG l) (h2 : (L b l).length < mostG l) : LC M (linkL l L a b) := by
 refine ⟨w.lw.link hab ha hb, fun x k => ?_⟩
 by_cases hk : k = l
 ·subst hk
  by_cases hxa : x = a
  ·subst hxa
   refine Nat.le_trans (sub_len (q := b :: L x k) (up_link w.lw.up x k) fun y hy => ?_) (by rw [List.length_cons]; omega)
   rcases mem_link.1 hy with e | ⟨_, e | e⟩
   ·exact List.mem_cons_of_mem _ e
   ·rw [e.2]; exact List.mem_cons_self ..
   ·exact absurd e.1 hab
  ·by_cases hxb : x = b
   ·subst hxb
    refine Nat.le_trans (sub_len (q := a :: L x k) (up_link w.lw.up x k) fun y hy => ?_) (by rw [List.length_cons]; omega)
    rcases mem_link.1 hy with e | ⟨_, e | e⟩
    ·exact List.mem_cons_of_mem _ e
    ·exact absurd e.1 hxa
    ·rw [e.2]; exact List.mem_cons_self ..
   ·refine Nat.le_trans (sub_len (up_link w.lw.up x k) fun y hy => ?_) (w.cap x k)
    rcases mem_link.1 hy with e | ⟨_, e | e⟩
    ·exact e
    ·exact absurd e.1 hxa
    ·exact absurd e.1 hxb
 ·refine Nat.le_trans (sub_len (up_link w.lw.up x k) fun y hy => ?_) (w.cap x k)
  rcases mem_link.1 hy with e | e
  ·exact e
  ·exact absurd e.1 hk
theorem mem_others {id x : Int} (h : x ∈ othersG l L xs id) : x ∈ xs ∧ x ≠ id ∧ (L x l).length < mostG l := by
 obtain ⟨h1, h2⟩ := List.mem_filter.1 h
 refine ⟨h1, fun e => ?_, Classical.byContradiction fun e => ?_⟩
 ·rw [decide_eq_true e] at h2; simp at h2
 ·unfold mayG at h2; rw [decide_eq_false e] at h2; simp at h2
theorem LC.mend1 {id : Int} (w : LC M L) (hid : ∃ r, getM id M = some r ∧ (l : Int) ≤ r.seq) (hxs : ∀ x ∈ xs, ∃ r, getM x M = some r ∧ (l : Int) ≤ r.seq) : LC M (mend1 mt M l xs L id) := by
 unfold Go.Ab.Seat.mend1
 split
 ·rename_i hm
  split
  ·exact w
  ·rename_i y ys hr
   have hy : y ∈ othersG l L xs id := rankG_mem (by rw [hr]; exact List.mem_cons_self ..)
   obtain ⟨h1, h2, h3⟩ := mem_others hy
   exact w.link (Ne.symm h2) hid (hxs y h1) (by unfold mayG at hm; simpa using hm) h3
 ·exact w
theorem LC.mend : ∀ {ys : List Int} {L : Lk}, LC M L → (∀ x ∈ xs, ∃ r, getM x M = some r ∧ (l : Int) ≤ r.seq) → (∀ x ∈ ys, x ∈ xs) → LC M (ys.foldl (Go.Ab.Seat.mend1 mt M l xs) L)
 | [], _, w, _, _ => w
 | y :: ys, L, w, h, hs => LC.mend (ys := ys) (L := Go.Ab.Seat.mend1 mt M l xs L y) (w.mend1 (h y (hs y (List.mem_cons_self ..))) h) h fun x hx => hs x (List.mem_cons_of_mem _ hx)
theorem LC.mendAll {had : Nat → List Int} (w : LC M L) (h : ∀ l x, x ∈ had l → ∃ r, getM x M = some r ∧ (l : Int) ≤ r.seq) : ∀ n, LC M (mendAll mt M had L n)
 | 0 => w
 | n + 1 => by
  have q := LC.mendAll w h n
  unfold Go.Ab.Seat.mendAll at q ⊢
  rw [List.range_succ, List.foldl_append]
  exact LC.mend q (h n) fun _ hx => hx
end
theorem had_mem {G : Gr} {id : Int} (w : GWf G) (l : Nat) (x : Int) (hx : x ∈ G.L id l) : ∃ r, getM x (delM id G.M) = some r ∧ (l : Int) ≤ r.seq := by
 have hne : x ≠ id := fun e => w.lw.irr id l (e ▸ hx)
 rw [getM_del, if_neg hne]
 exact w.lw.mem id l x hx
theorem GWf.del {mt : Int} {G : Gr} (w : GWf G) (id : Int) : GWf (delG mt G id) := by
 unfold delG
 split
 ·exact w
 ·have q := LC.mendAll (mt := mt) ⟨cut_del (id := id) w, fun x l => cut_cap w⟩ (fun l x hx => had_mem w l x hx) 5
  exact ⟨w.rises.filter _, fun r hr => w.lev r (List.mem_filter.1 hr).1, q.lw, q.cap⟩
end Go.Ab.Seat
end
section
/- A map's keys, in order (the abstract machine). -/
namespace Go.Ab.Seat
open Go.Extern Go.Proofs
set_option maxRecDepth 4000
variable {sm : Nat → Option (List Value → M Value)}
theorem sortedG_none {h : T AObj} {c b m n : Nat} {rl wl : List Nat} {es : List (Value × Value × Nat)} (hf : Fresh h c) (hb : Has h b (.cells [.map (some m)])) (hm : Has h m (.map es n)) (hk : keyInts es n = some []) :
  ∃ v s', FnTo (Cs smQ) eg 84 [.func (.func 154) #[] ⟨[.pointer (some ⟨b, 0, none⟩)]⟩] ⟨h, c, rl, wl⟩ v s' ∧ (v = .slice none 0 0 ∧ s' = ⟨h, c, m :: b :: rl, wl⟩) := by
 refine ⟨_, _, ⟨0, ?_⟩, rfl, rfl⟩
 have hs : (Cs smQ).sm 84 = some (sumSorted kindOf) := rfl
 unfold callF
 rw [hs]
 show sumSorted kindOf _ _ = _
 unfold sumSorted
 have e1 : iterOf kindOf [.func (.func 154) #[] ⟨[.pointer (some ⟨b, 0, none⟩)]⟩] = some (154, true, b, 0) := rfl
 rw [e1, bind_run (lift_run (a := (154, true, b, 0)) rfl)]
 dsimp only
 rw [bind_run (getCells_run hb.cel (hb.lt hf))]
 have e2 : nth [Value.map (some m)] 0 = some (.map (some m)) := rfl
 rw [e2, bind_run (lift_run (a := Value.map (some m)) rfl)]
 unfold seqInts
 dsimp only
 rw [bind_run (show ((M.lift (mapAt (Value.map (some m)))).bind mapInts) _ = some ([], ⟨h, c, m :: b :: rl, wl⟩) from by
  have e3 : mapAt (Value.map (some m)) = some (some m) := rfl
  rw [e3, bind_run (lift_run (a := some m) rfl)]
  unfold mapInts
  dsimp only
  rw [bind_run (getMap_run hm (hm.lt hf))]
  exact lift_run hk)]
 rfl
theorem sortedG_some {h : T AObj} {c b m n : Nat} {rl wl : List Nat} {es : List (Value × Value × Nat)} {x : Int} {xs : List Int} (hf : Fresh h c) (hb : Has h b (.cells [.map (some m)])) (hm : Has h m (.map es n)) (hk : keyInts es n = some (x :: xs)) (hl : (x :: xs).length ≤ 1000000) :
  ∃ v s', FnTo (Cs smQ) eg 84 [.func (.func 154) #[] ⟨[.pointer (some ⟨b, 0, none⟩)]⟩] ⟨h, c, rl, wl⟩ v s' ∧ (v = .slice (some ⟨c, 0, some 1⟩) (x :: xs).length (x :: xs).length ∧ s' = ⟨h.set c (some (.cells ((sortI (x :: xs)).map fun n => Value.int .i64 n))), c + 1, m :: b :: rl, wl⟩) := by
 refine ⟨_, _, ⟨0, ?_⟩, rfl, rfl⟩
 have hs : (Cs smQ).sm 84 = some (sumSorted kindOf) := rfl
 unfold callF
 rw [hs]
 show sumSorted kindOf _ _ = _
 unfold sumSorted
 have e1 : iterOf kindOf [.func (.func 154) #[] ⟨[.pointer (some ⟨b, 0, none⟩)]⟩] = some (154, true, b, 0) := rfl
 rw [e1, bind_run (lift_run (a := (154, true, b, 0)) rfl)]
 dsimp only
 rw [bind_run (getCells_run hb.cel (hb.lt hf))]
 have e2 : nth [Value.map (some m)] 0 = some (.map (some m)) := rfl
 rw [e2, bind_run (lift_run (a := Value.map (some m)) rfl)]
 unfold seqInts
 dsimp only
 rw [bind_run (show ((M.lift (mapAt (Value.map (some m)))).bind mapInts) _ = some (x :: xs, ⟨h, c, m :: b :: rl, wl⟩) from by
  have e3 : mapAt (Value.map (some m)) = some (some m) := rfl
  rw [e3, bind_run (lift_run (a := some m) rfl)]
  unfold mapInts
  dsimp only
  rw [bind_run (getMap_run hm (hm.lt hf))]
  exact lift_run hk)]
 unfold giveInts
 dsimp only
 rw [show Nat.ble (len (x :: xs)) 1000000 = true from by rw [len_eq]; rw [Nat.ble_eq]; exact hl]
 dsimp only
 rw [bind_run (newCells_run hf), mapA_eq, len_eq]
 rfl
theorem keysG_spec (H : Std sm) {h : T AObj} {c m : Nat} {rl wl : List Nat} (hf : Fresh h c) :
  ∃ v s', FnTo (Cs sm) eg 85 [.map (some m)] ⟨h, c, rl, wl⟩ v s' ∧ (v = .func (.func 154) #[] ⟨[.pointer (some ⟨c, 0, none⟩)]⟩ ∧ s' = ⟨h.set c (some (.cells [.map (some m)])), c + 1, rl, wl⟩) := by
 refine Fn.go (H 85 rfl) ex85 fn85 km85 rfl rfl ?_
 refine Zev ?_
 refine Zgo ?_
 exact ⟨.inr rfl, Wres.one rfl ⟨rfl, rfl⟩⟩
end Go.Ab.Seat
end
section
/- A graph's ids, its entry (the abstract machine). -/
namespace Go.Ab.Seat
open Go.Extern Go.Proofs
set_option maxRecDepth 4000
section
variable {h : T AObj} {c : Nat} {rl wl : List Nat} {p m dim : Nat} {mt : Int} {G : Gr} {U : Nat → Prop}
theorem GrO.ids {ow : Ow} (q : GrO h p m mt dim G U ow) {es : List (Value × Value × Nat)} {n : Nat} {ids : List Int} (hk : Keyed es n ids) (hv : ∀ x, GFits h ow U dim G.L (getM x G.M) (valI x es)) : sortI ids = G.M.map Rc.id := by
 refine rises_ext (sortI_rises hk.nodup) q.rises.ids fun x => ?_
 rw [(sortI_perm ids).mem_iff]
 constructor
 ·intro hx
  rcases hv x with ⟨_, h4⟩ | ⟨r, v, h4, _, _⟩
  ·exact absurd hx ((findI_none_iff hk.keys).1 (valI_none.1 h4))
  ·obtain ⟨h5, h6⟩ := getM_mem h4
   exact List.mem_map.2 ⟨r, h5, h6⟩
 ·intro hx
  obtain ⟨r, h5, rfl⟩ := List.mem_map.1 hx
  refine Classical.byContradiction fun hn => ?_
  rcases hv r.id with ⟨h4, _⟩ | ⟨r', v, _, h4, _⟩
  ·exact absurd rfl (getM_none.1 h4 r h5)
  ·rw [valI_none.2 ((findI_none_iff hk.keys).2 hn)] at h4
   cases h4
theorem gIds_spec (hf : Fresh h c) (qm : GrM h p m mt dim G U) (hn : G.M.length ≤ 1000) :
  ∃ r s', FnTo (Cs smQ) eg 28 [.pointer (some ⟨p, 0, none⟩)] ⟨h, c, rl, wl⟩ r s' ∧ Own s'.h c r G.M.length ((G.M.map Rc.id).map (Value.int .i64)) ∧ Ext ⟨h, c, rl, wl⟩ s' U (fun _ => False) := by
 obtain ⟨ow, q⟩ := qm
 obtain ⟨es, n, hm, ⟨ids, h2⟩, h3⟩ := q.ex
 have hp := q.ptr
 obtain ⟨lp, lm⟩ := q.lt hf
 have hpU := q.pU
 have hmU := q.mU
 have hs := q.ids h2 h3
 have hlen : ids.length = G.M.length := by
  have := congrArg List.length hs
  rw [(sortI_perm ids).length_eq, List.length_map] at this
  exact this
 have hk := h2.keyInts
 refine Fn.go (stdQ 28 rfl) ex28 fn28 km28 rfl rfl ?_
 refine Zev ?_
 refine Zgo ?_
 refine Wseq.call rfl rfl (keysG_spec stdQ Zfr) ?_
 rintro v1 h1 c1 r1 w1 ⟨rfl, e1⟩
 cases e1
 cases ids with
 | nil =>
  have hM : G.M = [] := by cases hGM : G.M with | nil => rfl | cons _ _ => rw [hGM] at hlen; simp at hlen
  refine Wseq.call rfl rfl (sortedG_none Zfr Zhs Zhs hk) ?_
  rintro v1 h1 c1 r1 w1 ⟨rfl, e1⟩
  cases e1
  refine Zgo ?_
  refine ⟨.inr rfl, Wres.one rfl ⟨.inl ⟨rfl, by rw [hM]; rfl, by rw [hM]; rfl⟩, Zex⟩⟩
 | cons x0 xs0 =>
  refine Wseq.call rfl rfl (sortedG_some Zfr Zhs Zhs hk (by omega)) ?_
  rintro v1 h1 c1 r1 w1 ⟨rfl, e1⟩
  cases e1
  rw [hs, hlen]
  refine Zgo ?_
  refine ⟨.inr rfl, Wres.one rfl ⟨.inr ⟨c + 1, _, _, rfl, Nat.le_refl _, by omega, Has.same⟩, Zex⟩⟩
def K26 : List Nat := [0, 2, 3, 5, 7, 8, 9, 10, 23]
set_option maxHeartbeats 8000000 in
theorem gentry_spec (hf : Fresh h c) (qm : GrM h p m mt dim G U) (hn : G.M.length ≤ 1000) :
  ∃ r s', FnTo (Cs smQ) eg 26 [.pointer (some ⟨p, 0, none⟩)] ⟨h, c, rl, wl⟩ r s' ∧ r = .tuple #[.int .i64 (entryG G.M).1, .int .i64 (entryG G.M).2] ∧ Ext ⟨h, c, rl, wl⟩ s' U (fun _ => False) := by
 refine Fn.go (stdQ 26 rfl) ex26 fn26 km26 rfl rfl ?_
 refine Zev ?_
 refine Zgo ?_
 refine Wseq.call rfl rfl (gIds_spec Zfr qm hn) ?_
 rintro v1 h1 c1 r1 w1 ⟨hids, hext⟩
 have fr1 := hext.fresh
 have le1 := hext.c
 simp only at fr1 le1
 have kp1 := Kp.ext (W := fun _ => False) (h := h) (c := c) Zkp hext (by omega) (fun b hb q => q)
 have lr1 := Lg.extR (R := U) (c := c) Zlg hext (fun b hb q => q)
 have lw1 := Lg.extW (W := fun _ => False) (c := c) Zlg hext (fun b hb q => q)
 have q1 := qm.keep hf (fun b _ hb => kp1 b hb (fun q => q))
 obtain ⟨ow, q⟩ := q1
 have hp := q.ptr
 obtain ⟨lp, lm⟩ := q.lt fr1
 have hpU := q.pU
 have hmU := q.mU
 obtain ⟨oi, ic, rfl⟩ := hids.val
 have hrow1 := hids.row (by rw [List.length_map, List.length_map])
 refine Zgo ?_
 refine Wx.loopF (fun k1 e s => ∃ (g : Nat → Value) (i : Nat) (z : Int) (rl' wl' : List Nat), e = fr g [(0, .pointer (some ⟨p, 0, none⟩)), (2, .int .i64 (entryG (G.M.take i)).1), (3, .int .i64 (entryG (G.M.take i)).2), (7, .slice oi G.M.length ic), (8, .int .i64 (G.M.length : Int)), (9, .int .i64 z)] K26 ∧ z = i ∧ s = ⟨h1, c1, rl', wl'⟩ ∧ Lg c U rl' ∧ Lg c (fun _ => False) wl' ∧ i ≤ G.M.length ∧ k1 = G.M.length - i) G.M.length K26 [(0, _), (2, .int .i64 0), (3, .int .i64 (-1)), (7, _), (8, _), (9, .int .i64 0)] ⟨_, 0, 0, _, _, rfl, rfl, rfl, Zlg, Zlg, by omega, rfl⟩ ?_
 rintro k1 e s ⟨g, i, z, rl', wl', rfl, hz, rfl, hlr, hlw, hid, rfl⟩
 (refine Wx.sw (by simp only [K26, frN, frC, updN, updC, Nat.reduceEqDiff, ↓reduceIte]; rfl) ?_)
 by_cases hi : i < G.M.length
 rotate_left
 ·refine Zgo ?_
  obtain rfl : i = G.M.length := by omega
  rw [List.take_length]
  exact ⟨.inr rfl, Wres.two rfl rfl ⟨rfl, Zex⟩⟩
 have hst : entryG (G.M.take (i + 1)) = if (entryG (G.M.take i)).2 < G.M[i].seq then (G.M[i].id, G.M[i].seq) else entryG (G.M.take i) := foldl_take _ _ hi
 have hr0 : getM G.M[i].id G.M = some G.M[i] := getM_some q.rises (List.getElem_mem hi) rfl
 obtain ⟨es, n, vi, nb, vv, ls, hm, ⟨ids, hk⟩, hfit, hfi, hn0, hid0⟩ := q.at hr0
 have hnb := hn0.at_
 unfold nodeC at hnb
 have lnb := hnb.lt fr1
 have unb := hn0.u
 have hg : ((G.M.map Rc.id).map (Value.int .i64))[i * 1]? = some (.int .i64 G.M[i].id) := by rw [Nat.mul_one, List.getElem?_map, List.getElem?_map, List.getElem?_eq_getElem hi]; rfl
 have hib := fun b hb => (hids.blk (b := b) hb).1
 obtain ⟨b1, o1, sp1, cs1, rfl, hc1, hn1⟩ := rowCell hrow1 (j := i * 1) (by omega) hg
 have hb1 := hib b1 rfl
 have l1 := hc1.lt fr1
 refine Zgo ?_
 refine Zu (to_indexAddr (k := i) el45 rfl rfl hz (by omega)) ?_
 refine Zu (to_load (pl_ rfl) rfl hc1 (by omega) hn1) ?_
 refine Zgo ?_
 refine Zu (to_lookup (mi_ rfl) (ze_ rfl) rfl rfl hm (by omega) hk.ks (by rw [hfi])) ?_
 refine Zgo ?_
 by_cases hlt : (entryG (G.M.take i)).2 < G.M[i].seq
 ·refine Zgo ?_
  refine Zd (to_lookup (mi_ rfl) (ze_ rfl) rfl rfl hm (by omega) hk.ks (by rw [hfi])) ?_
  refine Zgo ?_
  rw [if_pos hlt] at hst
  exact RoundE.goF (G.M.length - (i + 1)) K26 [(0, _), (2, _), (3, _), (7, _), (8, _), (9, .int .i64 (z + 1))] (by omega) ⟨_, i + 1, z + 1, _, _, by rw [hst], by omega, rfl, Zlg, Zlg, by omega, rfl⟩
 ·refine Zgo ?_
  rw [if_neg hlt] at hst
  exact RoundE.goF (G.M.length - (i + 1)) K26 [(0, _), (2, _), (3, _), (7, _), (8, _), (9, .int .i64 (z + 1))] (by omega) ⟨_, i + 1, z + 1, _, _, by rw [hst], by omega, rfl, Zlg, Zlg, by omega, rfl⟩
end
end Go.Ab.Seat
end
