import Derived.Test.YtofikbfljjjgeaaGreatDoorDK1
set_option linter.unusedVariables false
set_option linter.unusedSimpArgs false
section
/- A graph lets a member go (the abstract machine). -/
namespace Go.Ab.Seat
open Go.Extern Go.Proofs
set_option maxRecDepth 4000
def arr5 (hv : Nat → Value) : List Value := [hv 0, hv 1, hv 2, hv 3, hv 4]
theorem arr_nth {hv : Nat → Value} {l : Nat} (h : l < 5) : nth (arr5 hv) l = some (hv l) := by
 rcases l with _ | _ | _ | _ | _ | l
 ·rfl
 ·rfl
 ·rfl
 ·rfl
 ·rfl
 ·omega
theorem arr_nth' {hv : Nat → Value} {l : Nat} (h : l < 5) : nth (arr5 hv) (0 + l * 1) = some (hv l) := by rw [Nat.zero_add, Nat.mul_one]; exact arr_nth h
theorem arr_set {hv : Nat → Value} {x : Value} {l : Nat} (h : l < 5) (ha : atom x = true) : setMany [x] (arr5 hv) (0 + l * 1) = some (arr5 fun i => if i = l then x else hv i) := by
 have hl : (arr5 hv).length = 5 := rfl
 rw [setMany_eq _ _ _ (by rw [hl]; simp; omega) (all_cons ha all_nil)]
 rcases l with _ | _ | _ | _ | _ | l
 ·rfl
 ·rfl
 ·rfl
 ·rfl
 ·rfl
 ·omega
theorem arr_fill {hv : Nat → Value} {zs : List Value} (hz : zs.length = 5) (ha : ∀ i, i < 5 → atom (hv i) = true) : setMany (arr5 hv) zs 0 = some (arr5 hv) := by
 have hl : (arr5 hv).length = 5 := rfl
 have hat : ∀ x ∈ arr5 hv, atom x = true := all_cons (ha 0 (by omega)) (all_cons (ha 1 (by omega)) (all_cons (ha 2 (by omega)) (all_cons (ha 3 (by omega)) (all_cons (ha 4 (by omega)) all_nil))))
 rw [setMany_eq _ _ (arr5 hv) (by rw [hz, hl]; exact Nat.le_refl 5) hat]
 congr 1
 rw [List.take_zero, List.nil_append, List.drop_of_length_le (by rw [hz, hl]; exact Nat.le_refl 5), List.append_nil]
theorem ap110 {sm : Nat → Option (List Value → M Value)} : arrP (Cs sm) 110 = some 5 := by kernel_rfl
section
variable {h : T AObj} {c : Nat} {rl wl : List Nat} {p m dim : Nat} {mt : Int} {G : Gr} {U : Nat → Prop}
theorem LkAt.nil {v : Value} {xs : List Int} (x : LkAt h v xs) : ∀ oa cap, v = .slice oa xs.length cap → oa = none → cap = 0 ∧ xs = [] := by
 rintro oa cap e rfl
 rcases x with ⟨rfl, rfl⟩ | ⟨b, cap', cs, rfl, _⟩
 ·cases e; exact ⟨rfl, rfl⟩
 ·cases e
theorem CRow.nil {c0 : Nat} {v : Value} {xs : List Int} (x : CRow h c0 v xs) : ∀ oa cap, v = .slice oa xs.length cap → oa = none → cap = 0 ∧ xs = [] := by
 rintro oa cap e rfl
 rcases x with ⟨rfl, rfl⟩ | ⟨b, rfl, _⟩ | ⟨b, rfl, _⟩
 ·cases e; exact ⟨rfl, rfl⟩
 ·cases e
 ·cases e
theorem CRow.lt {c0 c' : Nat} {v : Value} {l : List Int} (x : CRow h c0 v l) (hf : Fresh h c') : ∀ b, blkOf v = some b → l ≠ [] → b < c' := by
 rcases x with ⟨rfl, _⟩ | ⟨b, rfl, rfl, _⟩ | ⟨b, rfl, _, _, x3⟩
 ·intro b hb; cases hb
 ·intro b hb hn; exact absurd rfl hn
 ·intro b' hb _; cases hb; exact x3.lt hf
theorem CRow.low' {c0 c1 : Nat} {v : Value} {l : List Int} (x : CRow h c0 v l) (k : c1 ≤ c0) : CRow h c1 v l := by
 rcases x with x | ⟨b, x1, x2, x3⟩ | ⟨b, x1, x2, x3, x4⟩
 ·exact .inl x
 ·exact .inr (.inl ⟨b, x1, x2, by omega⟩)
 ·exact .inr (.inr ⟨b, x1, x2, by omega, x4⟩)
theorem GrO.del {ow : Ow} (q : GrO h p m mt dim G U ow) (hf : Fresh h c) {id : Int} {es : List (Value × Value × Nat)} {n : Nat} {ids : List Int} (hm : Has h m (.map es n)) (hk : Keyed es n ids) (hfit : ∀ x, GFits h ow U dim G.L (getM x G.M) (valI x es)) (hL : ∀ x l y, y ∈ G.L x l → y ≠ id) : GrO (h.set m (some (.map (delI id es) n))) p m mt dim ⟨delM id G.M, G.L⟩ U ow := by
 have hpm : p ≠ m := fun e => by have := q.po; rw [e, q.mo] at this; simp at this
 obtain ⟨ids', hk', _⟩ := hk.del id
 refine ⟨q.ptr.other hpm, ⟨_, _, Has.same, ⟨_, hk'⟩, fun x => ?_⟩, q.pU, q.mU, q.po, q.mo, q.rises.filter _, fun r hr => q.ok r (List.mem_filter.1 hr).1, q.up, fun x l y hy => ?_⟩
 ·rw [getM_del, valI_del hk]
  by_cases hx : x = id
  ·rw [if_pos hx, if_pos hx]; exact .inl ⟨rfl, rfl⟩
  ·rw [if_neg hx, if_neg hx]
   refine (hfit x).keep hf (fun _ q _ => q) (fun _ _ _ => rfl) (fun _ _ => rfl) fun b hb hc h1 h2 => get_other fun e => ?_
   rw [e, q.mo] at h2
   simp at h2
 ·show ∃ r, getM y (delM id G.M) = some r
  rw [getM_del, if_neg (hL x l y hy)]
  exact q.mem x l y hy
def K27 : List Nat := [0, 1, 4, 5, 6, 7, 9, 10, 11, 22, 33, 34, 44, 45, 46, 47, 62, 63, 64]
set_option maxHeartbeats 32000000 in
theorem gdel_spec (hf : Fresh h c) (qm : GrM h p m mt dim G U) (w : GWf G) (hmt : mt = 1 ∨ mt = 2) (hd : dim ≤ 1000) (hml : G.M.length ≤ 800) (id : Int) (R : Nat → Prop) (hUR : ∀ b, U b → R b) :
  ∃ r s', FnTo (Cs smQ) eg 27 [.pointer (some ⟨p, 0, none⟩), .int .i64 id] ⟨h, c, rl, wl⟩ r s' ∧ (r = .bool (getM id G.M).isSome ∧ GrM s'.h p m mt dim (delG mt G id) (fun b => U b ∨ c ≤ b ∧ b < s'.c)) ∧ Ext ⟨h, c, rl, wl⟩ s' R U := by
 have hbg : big = 1048576 := rfl
 have qm0 := qm
 obtain ⟨ow, q⟩ := qm
 have hp := q.ptr
 obtain ⟨lp, lm⟩ := q.lt hf
 have hpR := hUR p q.pU
 have hmR := hUR m q.mU
 refine Fn.go (stdQ 27 rfl) ex27 fn27 km27 rfl rfl ?_
 refine Zev ?_
 cases hr0 : getM id G.M with
 | none =>
  obtain ⟨es, n, hm, ⟨ids, hk⟩, hfit⟩ := q.ex
  have hfi : findI id es = none := by
   rcases hfit id with ⟨_, e2⟩ | ⟨r, v, e1, _⟩
   ·exact valI_none.1 e2
   ·rw [hr0] at e1; cases e1
  refine Zgo ?_
  refine Zu (to_lookup (mi_ rfl) (ze_ rfl) rfl rfl hm lm hk.ks (by rw [hfi])) ?_
  refine Zgo ?_
  refine ⟨.inr rfl, Wres.one rfl ⟨⟨rfl, ?_⟩, Zex⟩⟩
  unfold delG
  rw [hr0]
  exact qm0.wide hf fun b hb => .inl hb
 | some r0 =>
 obtain ⟨es, n, vi, nb, vv, ls, hm, ⟨ids, hk⟩, hfit, hfi, hn0, hid0⟩ := q.at hr0
 have hnb := hn0.at_
 have lnb := hnb.lt hf
 have rnb := hUR nb hn0.u
 have lls : ∀ l, l < 5 → ∀ b, blkOf (ls l) = some b → b < c := fun l hl b hb => (hn0.lk l hl).lt hf b hb
 refine Zgo ?_
 refine Zu (to_lookup (mi_ rfl) (ze_ rfl) rfl rfl hm lm hk.ks (by rw [hfi])) ?_
 refine Zgo ?_
 refine Zu (to_lookup (mi_ rfl) (ze_ rfl) rfl rfl hm lm hk.ks (by rw [hfi])) ?_
 refine Zgo ?_
 ((with_reducible apply Wseq.so); rfl; exact (sz_ rfl); rfl; exact Has.same; omega; refine Znv ?_; refine ⟨_, _, (by (first | exact cellsA_agg _ | rfl)), rfl, arr_fill (hv := ls) rfl (fun i hi => (hn0.lk i hi).atom), ?_⟩)
 refine Zgo ?_
 refine Wx.cutO (fun e s => ∃ (g : Nat → Value) (hv : Nat → Value) (h' : T AObj) (c' : Nat) (rl' wl' : List Nat) (ow' : Ow), e = fr g [(0, .pointer (some ⟨p, 0, none⟩)), (1, .int .i64 id), (6, .pointer (some ⟨c, 0, none⟩))] K27 ∧ s = ⟨h', c', rl', wl'⟩ ∧ c + 1 ≤ c' ∧ Fresh h' c' ∧ Kp h h' c U ∧ Has h' c (.cells (arr5 hv)) ∧ (∀ i, i < 5 → CRow h' (c + 1) (hv i) (G.L id i)) ∧ GrO h' p m mt dim ⟨G.M, cutL G id 5⟩ (fun b => U b ∧ b < c) ow' ∧ Lg c R rl' ∧ Lg c U wl') Zrs ?_ ?_
 ·refine Wx.loopF (fun k1 e s => ∃ (g : Nat → Value) (k : Nat) (z : Int) (hv : Nat → Value) (h' : T AObj) (c' : Nat) (rl' wl' : List Nat) (ow' : Ow), e = fr g [(0, .pointer (some ⟨p, 0, none⟩)), (1, .int .i64 id), (6, .pointer (some ⟨c, 0, none⟩)), (33, .int .i64 z)] K27 ∧ z = k ∧ s = ⟨h', c', rl', wl'⟩ ∧ c + 1 ≤ c' ∧ Fresh h' c' ∧ Kp h h' c (fun b => U b ∧ ((ow b).2 = 0 ∨ (ow b).2 < 2 + k)) ∧ Has h' c (.cells (arr5 hv)) ∧ (∀ i, i < k → CRow h' (c + 1) (hv i) (G.L id i)) ∧ (∀ i, k ≤ i → hv i = ls i) ∧ GrO h' p m mt dim ⟨G.M, cutL G id k⟩ (fun b => U b ∧ b < c) ow' ∧ (∀ b, b < c → ow' b = ow b) ∧ Lg c R rl' ∧ Lg c U wl' ∧ k ≤ 5 ∧ k1 = 5 - k) 5 K27 [(0, _), (1, _), (6, _), (33, .int .i64 0)] ⟨_, 0, 0, ls, _, _, _, _, ow, rfl, rfl, rfl, by omega, Zfr, Zkp, Has.same, (fun i hi => absurd hi (Nat.not_lt_zero i)), (fun i _ => rfl), (q.low hf).keep hf (fun b hb hc => by rw [get_other (by omega), get_other (by omega)]), (fun _ _ => rfl), Zlg, Zlg, by omega, rfl⟩ ?_
  rintro k1 e s ⟨g, k, z, hv, h', c', rl', wl', ow', rfl, hz, rfl, hcc, hf', hkp, hA, hcr, hls, q', hoe, hlr, hlw, hk5, rfl⟩
  subst hz
  (refine Wx.sw (by simp only [K27, frN, frC, updN, updC, Nat.reduceEqDiff, ↓reduceIte]; rfl) ?_)
  by_cases hi : k < 5
  rotate_left
  ·refine Zgo ?_
   obtain rfl : k = 5 := by omega
   exact CutQ.goF K27 [(0, _), (1, _), (6, _)] ⟨_, hv, _, _, _, _, ow', rfl, rfl, hcc, hf', fun b hb hU => hkp b hb (fun q => hU q.1), hA, hcr, q', hlr, hlw⟩
  have lc := hA.lt hf'
  have hlk0 : LkAt h' (ls k) (G.L id k) := by
   have e := hn0.lk k hi
   rw [hid0] at e
   refine e.keep fun b hb => hkp b (lls k hi b hb) fun q => ?_
   obtain ⟨_, q⟩ := q
   rw [(hn0.ol k hi b hb).2] at q
   rcases q with q | q
   ·simp at q
   ·simp at q
  have hnil := hlk0.nil
  have hlen := q.len id k
  have ulk := fun b hb => hUR b (hn0.ol k hi b hb).1
  obtain ⟨ol, cl, hlv⟩ := hlk0.val
  have hnil := hnil ol cl hlv
  rw [hlv] at hlk0 ulk
  refine Zgo ?_
  refine Zu (to_indexAddrA (k := k) ar110 rfl rfl rfl hi) ?_
  refine Zu (to_load (pl_ rfl) rfl hA.cel lc (arr_nth' hi)) ?_
  rw [hls k (Nat.le_refl k), hlv]
  refine Wseq.call rfl rfl (cloneI_spec Zfr hlk0.row hnil (by omega) R ulk) ?_
  rintro v2 h2 c2 r2 w2 ⟨hcr2, hext2⟩
  have fr2 := hext2.fresh
  have le2 := hext2.c
  simp only at fr2 le2
  have kp2 := Kp.ext (W := fun b => U b ∧ ((ow b).2 = 0 ∨ (ow b).2 < 2 + k)) (h := h) (c := c) hkp hext2 (by omega) (fun b hb q => q.elim)
  have lr2 := Lg.extR (R := R) (c := c) Zlg hext2 (fun b hb q => q)
  have lw2 := Lg.extW (W := U) (c := c) Zlg hext2 (fun b hb q => q.elim)
  have kB : ∀ b, b < c' → h2.get b = h'.get b := fun b hb => hext2.h b hb (fun q => q)
  have hA2 : Has h2 c _ := (kB c lc).trans hA
  have hcr2' := hcr2
  obtain ⟨o2, rfl, hrw2, hb2⟩ := hcr2.val
  refine Zgo ?_
  refine Zu (to_indexAddrA (k := k) ar110 rfl rfl rfl hi) ?_
  ((with_reducible apply Wseq.so); rfl; exact (sz_ rfl); rfl; exact hA2; omega; refine Znv ?_; refine ⟨_, _, (by (first | exact cellsA_agg _ | rfl)), rfl, arr_set hi rfl, ?_⟩)
  refine Zgo ?_
  refine Zu (to_indexAddrA (k := k) ar110 rfl rfl rfl hi) ?_
  refine Zu (to_load (pl_ rfl) rfl Has.same.cel (by omega) (arr_nth' hi)) ?_
  simp only [↓reduceIte]
  refine Zgo ?_
  have kC : ∀ b, b < c' → b ≠ c → (h2.set c (some (.cells (arr5 fun i => if i = k then .slice o2 (G.L id k).length (G.L id k).length else hv i)))).get b = h'.get b := fun b hb hne => (get_other hne).trans (kB b hb)
  refine Wx.loopF (fun k2 e s => ∃ (g : Nat → Value) (j : Nat) (zj : Int) (h3 : T AObj) (c3 : Nat) (rl' wl' : List Nat) (ow3 : Ow), e = fr g [(0, .pointer (some ⟨p, 0, none⟩)), (1, .int .i64 id), (6, .pointer (some ⟨c, 0, none⟩)), (7, .int .i64 (k : Int)), (33, .int .i64 (k : Int)), (44, .slice o2 (G.L id k).length (G.L id k).length), (45, .int .i64 ((G.L id k).length : Int)), (46, .int .i64 zj)] K27 ∧ zj = j ∧ s = ⟨h3, c3, rl', wl'⟩ ∧ c2 ≤ c3 ∧ Fresh h3 c3 ∧ Kp h h3 c (fun b => U b ∧ ((ow b).2 = 0 ∨ (ow b).2 < 2 + (k + 1))) ∧ (∀ b, c ≤ b → b < c2 → h3.get b = (h2.set c (some (.cells (arr5 fun i => if i = k then .slice o2 (G.L id k).length (G.L id k).length else hv i)))).get b) ∧ GrO h3 p m mt dim ⟨G.M, ((G.L id k).take j).foldl (fun L y => partL k L id y) (cutL G id k)⟩ (fun b => U b ∧ b < c) ow3 ∧ (∀ b, b < c → ow3 b = ow b) ∧ Lg c R rl' ∧ Lg c U wl' ∧ j ≤ (G.L id k).length ∧ k2 = (G.L id k).length - j) (G.L id k).length K27 [(0, _), (1, _), (6, _), (7, _), (33, _), (44, _), (45, _), (46, .int .i64 0)] ⟨_, 0, 0, _, _, _, _, ow', rfl, rfl, rfl, Nat.le_refl _, Zfr, fun b hb hU => (get_other (by omega)).trans (kp2 b hb (fun q => hU ⟨q.1, q.2.imp (fun e => e) (fun e => by omega)⟩)), (fun b _ _ => rfl), q'.keep hf' (fun b hb hc => kC b hc (by have := hb.2; omega)), hoe, Zlg, Zlg, by omega, rfl⟩ ?_
  rintro k2 e s ⟨g, j, zj, h3, c3, rl3, wl3, ow3, rfl, hzj, rfl, hc3, hf3, hkp3, hk3, q3, hoe3, hlr3, hlw3, hjl, rfl⟩
  (refine Wx.sw (by simp only [K27, frN, frC, updN, updC, Nat.reduceEqDiff, ↓reduceIte]; rfl) ?_)
  have hA3 : Has h3 c (.cells (arr5 fun i => if i = k then .slice o2 (G.L id k).length (G.L id k).length else hv i)) := (hk3 c (Nat.le_refl c) (by omega)).trans Has.same
  by_cases hj : j < (G.L id k).length
  rotate_left
  ·refine Zgo ?_
   obtain rfl : j = (G.L id k).length := by omega
   rw [List.take_length] at q3
   refine RoundE.goF (5 - (k + 1)) K27 [(0, _), (1, _), (6, _), (33, .int .i64 ((k : Int) + 1))] (by omega) ⟨_, k + 1, (k : Int) + 1, (fun i => if i = k then .slice o2 (G.L id k).length (G.L id k).length else hv i), _, _, _, _, ow3, rfl, by omega, rfl, by omega, hf3, hkp3, hA3, fun i hik => ?_, fun i hik => ?_, ?_, hoe3, hlr3, hlw3, by omega, rfl⟩
   ·by_cases e : i = k
    ·subst e
     simp only [↓reduceIte]
     refine ((hcr2'.keep (h' := h3) fun b hb hne => ?_)).low' (by omega)
     have h1 := hb2 b hb
     have h2 := hcr2'.lt fr2 b hb hne
     exact (hk3 b (by omega) h2).trans (get_other (by omega))
    ·simp only [if_neg e]
     refine (hcr i (by omega)).keep fun b hb hne => ?_
     obtain ⟨_, _, _, g2⟩ := (hcr i (by omega)).val
     have h1 := g2 b hb
     have h2 := (hcr i (by omega)).lt hf' b hb hne
     exact (hk3 b (by omega) (by omega)).trans (kC b h2 (by omega))
   ·show (if i = k then _ else hv i) = ls i
    rw [if_neg (by omega)]
    exact hls i (by omega)
   ·have e : cutL G id (k + 1) = (G.L id k).foldl (fun L y => partL k L id y) (cutL G id k) := by unfold cutL; rw [List.range_succ, List.foldl_append]; rfl
    rw [e]; exact q3
  have hrw3 : Row h3 (.slice o2 (G.L id k).length (G.L id k).length) (G.L id k).length 1 ((G.L id k).map (Value.int .i64)) := by
   obtain ⟨_, e, g2, _⟩ := (hcr2'.keep (h' := h3) fun b hb hne => by
    have h1 := hb2 b hb
    have h2 := hcr2'.lt fr2 b hb hne
    exact (hk3 b (by omega) h2).trans (get_other (by omega))).val
   exact g2
  have hst := foldl_take (fun L y => partL k L id y) (cutL G id k) hj
  have hym : ∃ r, getM (G.L id k)[j] G.M = some r := q.mem id k _ (List.getElem_mem hj)
  obtain ⟨b1, o1, sp1, cs1, rfl, hc1, hn1⟩ := rowCell hrw3 (j := j * 1) (by omega) (int_nth (List.getElem?_eq_getElem hj))
  have hb1 := hb2 b1 rfl
  have l1 := hc1.lt hf3
  generalize hLj : ((G.L id k).take j).foldl (fun L y => partL k L id y) (cutL G id k) = Lj at q3 hst
  refine Zgo ?_
  refine Zu (to_indexAddr (k := j) el45 rfl rfl hzj (by omega)) ?_
  refine Zu (to_load (pl_ rfl) rfl hc1 (by omega) hn1) ?_
  refine Zgo ?_
  refine Wseq.call rfl rfl (part_specO Zfr q3 hml hi ⟨r0, hr0⟩ hym (fun b => c ≤ b ∨ R b) (fun b hb => .inr (hUR b hb.1))) ?_
  rintro v4 h4 c4 r4 w4 ⟨⟨ow4, q4, hoe4⟩, hext4⟩
  have fr4 := hext4.fresh
  have le4 := hext4.c
  simp only at fr4 le4 q4
  have kp4 := Kp.ext (W := fun b => U b ∧ ((ow b).2 = 0 ∨ (ow b).2 < 2 + (k + 1))) (h := h) (c := c) hkp3 hext4 (by omega) (fun b hb q => ⟨q.1.1, by rw [← hoe3 b hb]; exact q.2.imp (fun e => e) (fun e => by omega)⟩)
  have lr4 := Lg.extR (R := R) (c := c) Zlg hext4 (fun b hb q => q.elim (fun q => by omega) (fun q => q))
  have lw4 := Lg.extW (W := U) (c := c) Zlg hext4 (fun b hb q => q.1.1)
  refine Zgo ?_
  refine RoundE.goF ((G.L id k).length - (j + 1)) K27 [(0, _), (1, _), (6, _), (7, _), (33, _), (44, _), (45, _), (46, .int .i64 (zj + 1))] (by omega) ⟨_, j + 1, zj + 1, _, _, _, _, ow4, rfl, by omega, rfl, by omega, fr4, kp4, fun b h1 h2 => (hext4.h b (by show b < c3; omega) (fun q => by have := q.1.2; omega)).trans (hk3 b h1 h2), by rw [hst]; exact q4, fun b hb => (hoe4 b (by show b < c3; omega)).trans (hoe3 b hb), lr4, lw4, by omega, rfl⟩
 rintro e s ⟨g, hv, h2, c2, rl2, wl2, ow2, rfl, rfl, hcc, hf2, hkp2, hA, hcr, q2, hlr2, hlw2⟩
 (refine Wx.sw (by simp only [K27, frN, frC, updN, updC, Nat.reduceEqDiff, ↓reduceIte]; rfl) ?_)
 obtain ⟨es2, n2, hm2, ⟨ids2, hk2⟩, hfit2⟩ := q2.ex
 have hp2 := q2.ptr
 have lm2 := hm2.lt hf2
 have q3 := q2.del hf2 hm2 hk2 hfit2 (id := id) (fun x l y hy e => cut_id w (by rw [e] at hy; exact hy))
 have hmc : m ≠ c := by omega
 have hMl : (delM id G.M).length ≤ 800 := Nat.le_trans (List.length_filter_le _ _) hml
 have mU := q.mU
 refine Zgo ?_
 refine Wseq.st0 (to_delete (mi_ rfl) rfl rfl hm2 lm2 hk2.ks) ?_
 refine Zgo ?_
 have kA : ∀ b, b ≠ m → (h2.set m (some (.map (delI id es2) n2))).get b = h2.get b := fun b hb => get_other hb
 have hcm : ∀ i, i < 5 → ∀ b, blkOf (hv i) = some b → c + 1 ≤ b := fun i hi b hb => by obtain ⟨_, _, _, g⟩ := (hcr i hi).val; exact g b hb
 refine Wx.loopF (fun k1 e s => ∃ (g : Nat → Value) (k : Nat) (z : Int) (h' : T AObj) (c' : Nat) (rl' wl' : List Nat), e = fr g [(0, .pointer (some ⟨p, 0, none⟩)), (62, .agg ⟨arr5 hv⟩), (63, .int .i64 z)] K27 ∧ z = k ∧ s = ⟨h', c', rl', wl'⟩ ∧ c2 ≤ c' ∧ Fresh h' c' ∧ Kp h h' c U ∧ (∀ b, c ≤ b → b < c2 → h'.get b = h2.get b) ∧ GrM h' p m mt dim ⟨delM id G.M, mendAll mt (delM id G.M) (G.L id) (cutL G id 5) k⟩ (fun b => (U b ∧ b < c) ∨ c2 ≤ b ∧ b < c') ∧ Lg c R rl' ∧ Lg c U wl' ∧ k ≤ 5 ∧ k1 = 5 - k) 5 K27 [(0, _), (62, .agg ⟨arr5 hv⟩), (63, .int .i64 0)] ⟨_, 0, 0, _, _, _, _, rfl, rfl, rfl, Nat.le_refl _, Zfr, Zkp, (fun b h1 h3 => kA b (by omega)), ⟨_, q3.wide (Fresh.put lm2 hf2) (fun b hb => .inl hb)⟩, Zlg, Zlg, by omega, rfl⟩ ?_
 rintro k1 e s ⟨g, k, z, h', c', rl', wl', rfl, hz, rfl, hcc', hf', hkp, hk', qm', hlr, hlw, hk5, rfl⟩
 subst hz
 (refine Wx.sw (by simp only [K27, frN, frC, updN, updC, Nat.reduceEqDiff, ↓reduceIte]; rfl) ?_)
 by_cases hi : k < 5
 rotate_left
 ·refine Zgo ?_
  obtain rfl : k = 5 := by omega
  refine ⟨.inr rfl, Wres.one rfl ⟨⟨rfl, ?_⟩, Zex⟩⟩
  unfold delG
  rw [hr0]
  exact qm'.wide hf' (fun b hb => hb.imp (fun q => q.1) (fun q => ⟨by omega, q.2⟩))
 have hcr' : CRow h' (c + 1) (hv k) (G.L id k) := (hcr k hi).keep fun b hb hne => hk' b (by have := hcm k hi b hb; omega) ((hcr k hi).lt hf2 b hb hne)
 have hnil := hcr'.nil
 have hbk := hcm k hi
 have hlt := fun b hb hne => (hcr k hi).lt hf2 b hb hne
 have hlen := q.len id k
 obtain ⟨ok, hvk, hrk, _⟩ := hcr'.val
 have hnil := hnil ok _ hvk
 rw [hvk] at hrk hbk hlt
 refine Zgo ?_
 refine Zu (to_indexA (v := .slice ok (G.L id k).length (G.L id k).length) ap110 rfl rfl rfl hi (by rw [← hvk]; exact arr_nth hi)) ?_
 refine Zgo ?_
 refine Wseq.call rfl rfl (mend_spec Zfr qm' hmt hd hMl hi hrk (fun e => (hnil e)) (fun x hx => by
  obtain ⟨r, hr, _⟩ := had_mem w k x hx
  exact ⟨r, hr⟩) (by omega) (fun e b hb => by
  have h1 := hbk b hb
  have h3 := hlt b hb e
  show ¬((U b ∧ b < c) ∨ c2 ≤ b ∧ b < c')
  omega) (fun b => c ≤ b ∨ R b) (fun b hb => hb.elim (fun q => .inr (hUR b q.1)) (fun q => .inl (by omega))) (fun b hb => .inl (by have := hbk b hb; omega))) ?_
 rintro v4 h4 c4 r4 w4 ⟨q4, hext4⟩
 have fr4 := hext4.fresh
 have le4 := hext4.c
 simp only at fr4 le4 q4
 have kp4 := Kp.ext (W := U) (h := h) (c := c) hkp hext4 (by omega) (fun b hb q => q.elim (fun q => q.1) (fun q => by omega))
 have lr4 := Lg.extR (R := R) (c := c) Zlg hext4 (fun b hb q => q.elim (fun q => by omega) (fun q => q))
 have lw4 := Lg.extW (W := U) (c := c) Zlg hext4 (fun b hb q => q.elim (fun q => q.1) (fun q => by omega))
 refine Zgo ?_
 refine RoundE.goF (5 - (k + 1)) K27 [(0, _), (62, _), (63, .int .i64 ((k : Int) + 1))] (by omega) ⟨_, k + 1, (k : Int) + 1, _, _, _, _, rfl, by omega, rfl, by omega, fr4, kp4, fun b h1 h2 => (hext4.h b (by show b < c'; omega) (fun q => by rcases q with q | q <;> omega)).trans (hk' b h1 h2), ?_, lr4, lw4, by omega, rfl⟩
 have e : mendAll mt (delM id G.M) (G.L id) (cutL G id 5) (k + 1) = mendL mt (delM id G.M) k (mendAll mt (delM id G.M) (G.L id) (cutL G id 5) k) (G.L id k) := by unfold mendAll; rw [List.range_succ, List.foldl_append]; rfl
 rw [e]
 exact q4.wide fr4 (fun b hb => hb.elim (fun e => e.imp (fun e => e) (fun e => ⟨e.1, by omega⟩)) (fun e => .inr ⟨by omega, e.2⟩))
end
end Go.Ab.Seat
end
section
/- A graph gets a member: the member alone (the abstract machine). -/
namespace Go.Ab.Seat
open Go.Extern Go.Proofs
set_option maxRecDepth 4000
section
variable {h : T AObj} {c : Nat} {rl wl : List Nat} {p m dim : Nat} {mt : Int} {G : Gr} {U : Nat → Prop}
theorem GrO.put {ow : Ow} (q : GrO h p m mt dim G U ow) (hf : Fresh h c) {id : Int} {es : List (Value × Value × Nat)} {n : Nat} {ids : List Int} (hm : Has h m (.map es n)) (hk : Keyed es n ids) (hfit : ∀ x, GFits h ow U dim G.L (getM x G.M) (valI x es)) (hwf : wfI id = true) (hL : ∀ l, G.L id l = [])
  {nb : Nat} {vv : Value} {zs : List Int} {lv : Int} (hnb : Has h nb (.cells (nodeC vv lv (fun _ => .slice none 0 0)))) (hnU : ¬U nb) (hvv : Own h 0 vv dim (zs.map (Value.int .i32))) (hvU : ∀ b, blkOf vv = some b → ¬U b ∧ b ≠ nb) (hz : zs.length = dim) (hb : Bnd zs) (hl : 0 ≤ lv ∧ lv ≤ 4) :
  GrM (h.set m (some (.map (putI .i64 id (.pointer (some ⟨nb, 0, none⟩)) n es).1 (putI .i64 id (.pointer (some ⟨nb, 0, none⟩)) n es).2))) p m mt dim ⟨putM (mbG id zs lv) G.M, G.L⟩ (fun b => U b ∨ b = nb ∨ blkOf vv = some b) := by
 have hpm : p ≠ m := fun e => by have := q.po; rw [e, q.mo] at this; simp at this
 have hnm : nb ≠ m := fun e => hnU (e ▸ q.mU)
 have ho : ∀ b, U b → (fun b => if b = nb then (id, 0) else if blkOf vv = some b then (id, 1) else ow b : Ow) b = ow b := fun b hb => by
  show (if b = nb then ((id, 0) : Int × Nat) else if blkOf vv = some b then (id, 1) else ow b) = ow b
  rw [if_neg (fun e => hnU (by rw [← e]; exact hb)), if_neg (fun e => (hvU b e).1 hb)]
 refine ⟨fun b => if b = nb then (id, 0) else if blkOf vv = some b then (id, 1) else ow b, q.ptr.other hpm, ⟨_, _, Has.same, ⟨_, hk.put hwf _⟩, fun x => ?_⟩, .inl q.pU, .inl q.mU, (ho p q.pU).trans q.po, (ho m q.mU).trans q.mo, q.rises.put _, fun r hr => ?_, q.up, fun x l y hy => ?_⟩
 ·rw [getM_put, valI_put hk]
  by_cases hx : id = x
  ·subst hx
   rw [if_pos rfl, if_pos rfl]
   refine .inr ⟨_, _, rfl, rfl, nb, vv, fun _ => .slice none 0 0, rfl, hnb.other hnm, .inr (.inl rfl), if_pos rfl, hvv.keep fun b hb => get_other fun e => (hvU b hb).1 (e ▸ q.mU), fun b hb => ⟨.inr (.inr hb), ?_⟩, fun l hl => ?_, fun l hl b hb => by cases hb⟩
   ·rw [if_neg (hvU b hb).2, if_pos hb]
   ·rw [hL]; exact .inl ⟨rfl, rfl⟩
  ·rw [if_neg hx, if_neg fun e => hx e.symm]
   refine (hfit x).keep hf (fun b hb _ => .inl hb) (fun b hb _ => ho b hb) (fun _ _ => rfl) fun b hb hc h1 h2 => get_other fun e => ?_
   rw [e, q.mo] at h2
   simp at h2
 ·rcases mem_putM hr with rfl | hr
  ·exact ⟨zs, rfl, hz, hb, hl.1, hl.2⟩
  ·exact q.ok r hr
 ·obtain ⟨r, hr⟩ := q.mem x l y hy
  show ∃ r, getM y (putM (mbG id zs lv) G.M) = some r
  rw [getM_put]
  by_cases e : (mbG id zs lv).id = y
  ·exact ⟨_, if_pos e⟩
  ·exact ⟨r, by rw [if_neg e]; exact hr⟩
end
theorem entry_spec : ∀ {M : List Rc}, (∀ r ∈ M, 0 ≤ r.seq ∧ r.seq ≤ 4) → ((entryG M).2 < 0 → M = []) ∧ (M ≠ [] → ∃ r ∈ M, r.id = (entryG M).1 ∧ r.seq = (entryG M).2) := by
 intro M hl
 have gen : ∀ (l : List Rc) (s : Int × Int), (∀ r ∈ l, 0 ≤ r.seq) → (l ≠ [] → s.2 = -1 ∨ 0 ≤ s.2) → (s.2 ≤ (l.foldl (fun s r => if s.2 < r.seq then (r.id, r.seq) else s) s).2 ∧ ((l.foldl (fun s r => if s.2 < r.seq then (r.id, r.seq) else s) s) = s ∨ ∃ r ∈ l, r.id = (l.foldl (fun s r => if s.2 < r.seq then (r.id, r.seq) else s) s).1 ∧ r.seq = (l.foldl (fun s r => if s.2 < r.seq then (r.id, r.seq) else s) s).2)) ∧ (∀ r ∈ l, r.seq ≤ (l.foldl (fun s r => if s.2 < r.seq then (r.id, r.seq) else s) s).2) := by
  intro l
  induction l with
  | nil => intro s _ _; exact ⟨⟨Int.le_refl _, .inl rfl⟩, fun r hr => by cases hr⟩
  | cons a l ih =>
   intro s h1 h2
   rw [List.foldl_cons]
   by_cases hs : s.2 < a.seq
   ·rw [if_pos hs]
    obtain ⟨⟨i1, i2⟩, i3⟩ := ih (a.id, a.seq) (fun r hr => h1 r (List.mem_cons_of_mem _ hr)) (fun _ => .inr (h1 a (List.mem_cons_self ..)))
    simp only at i1
    refine ⟨⟨by omega, .inr ?_⟩, fun r hr => ?_⟩
    ·rcases i2 with i2 | ⟨r, hr, i2⟩
     ·exact ⟨a, List.mem_cons_self .., by rw [i2], by rw [i2]⟩
     ·exact ⟨r, List.mem_cons_of_mem _ hr, i2⟩
    ·rcases List.mem_cons.1 hr with rfl | hr
     ·exact i1
     ·exact i3 r hr
   ·rw [if_neg hs]
    obtain ⟨⟨i1, i2⟩, i3⟩ := ih s (fun r hr => h1 r (List.mem_cons_of_mem _ hr)) (fun _ => h2 (by simp))
    refine ⟨⟨i1, ?_⟩, fun r hr => ?_⟩
    ·rcases i2 with i2 | ⟨r, hr, i2⟩
     ·exact .inl i2
     ·exact .inr ⟨r, List.mem_cons_of_mem _ hr, i2⟩
    ·rcases List.mem_cons.1 hr with rfl | hr
     ·omega
     ·exact i3 r hr
 obtain ⟨⟨g1, g2⟩, g3⟩ := gen M (0, -1) (fun r hr => (hl r hr).1) (fun _ => .inl rfl)
 refine ⟨fun h => ?_, fun hne => ?_⟩
 ·cases M with
  | nil => rfl
  | cons a l =>
   have := g3 a (List.mem_cons_self ..)
   have h0 := (hl a (List.mem_cons_self ..)).1
   have h : ((a :: l).foldl (fun s r => if s.2 < r.seq then (r.id, r.seq) else s) ((0, -1) : Int × Int)).2 < 0 := h
   omega
 ·rcases g2 with g2 | g2
  ·cases M with
   | nil => exact absurd rfl hne
   | cons a l =>
    have := g3 a (List.mem_cons_self ..)
    have h0 := (hl a (List.mem_cons_self ..)).1
    rw [g2] at this
    simp only at this
    omega
  ·exact g2
theorem entry_at {G : Gr} (w : GWf G) (h : 0 ≤ (entryG G.M).2) : ∃ r, getM (entryG G.M).1 G.M = some r ∧ r.seq = (entryG G.M).2 := by
 obtain ⟨_, g2⟩ := entry_spec w.lev
 have hne : G.M ≠ [] := fun e => by rw [e] at h; revert h; show ¬(0 ≤ (-1 : Int)); decide
 obtain ⟨r, h1, h2, h3⟩ := g2 hne
 exact ⟨r, getM_some w.rises h1 h2, h3⟩
theorem entry_rng {G : Gr} (w : GWf G) : -1 ≤ (entryG G.M).2 ∧ (entryG G.M).2 ≤ 4 := by
 obtain ⟨g1, g2⟩ := entry_spec w.lev
 by_cases hM : G.M = []
 ·rw [hM]; show -1 ≤ (-1 : Int) ∧ (-1 : Int) ≤ 4; decide
 ·obtain ⟨r, h1, h2, h3⟩ := g2 hM
  have := w.lev r h1
  omega
theorem look_mem {mt : Int} {G : Gr} {q : List Int} {l n : Nat} {fs : List Int} (hm : ∀ x y, y ∈ G.L x l → ∃ r, getM y G.M = some r) (hf : ∀ y ∈ fs, ∃ r, getM y G.M = some r) : (∀ y ∈ lookG mt G q l fs n, ∃ r, getM y G.M = some r) ∧ (lookG mt G q l fs n).length ≤ n := by
 obtain ⟨s, g⟩ := lookH_good (mt := mt) (q := q) (n := n) hm hf
 unfold lookG
 refine ⟨fun y hy => ?_, by rw [List.length_map]; exact g.len⟩
 obtain ⟨x, hx, rfl⟩ := List.mem_map.1 hy
 exact g.mem x hx
theorem downG_stop {mt : Int} {G : Gr} {q : List Int} {l u : Nat} {at_ : List Int} (h : u ≤ l) : downG mt G q l u at_ = at_ := by
 cases u with
 | zero => rfl
 | succ u => unfold downG; rw [if_neg (by omega)]
theorem downG_step {mt : Int} {G : Gr} {q : List Int} {l u : Nat} {at_ : List Int} (h : l < u + 1) : downG mt G q l (u + 1) at_ = downG mt G q l u (lookG mt G q (u + 1) at_ 1) := by
 conv => lhs; unfold downG
 rw [if_pos h]
noncomputable def growR (mt : Int) (id : Int) (q : List Int) : Nat → Gr → List Int → Gr
 | 0, G, _ => G
 | n + 1, G, at_ => growG mt id q n G at_
theorem growR_step {mt : Int} {id : Int} {q : List Int} {n : Nat} {G : Gr} {at_ : List Int} : growR mt id q (n + 1) G at_ = growR mt id q n ⟨G.M, joinL mt G.M n G.L id ((lookG mt G q n at_ 8).take 4)⟩ (lookG mt G q n at_ 8) := by
 cases n with
 | zero => rfl
 | succ n => rfl
end Go.Ab.Seat
end
