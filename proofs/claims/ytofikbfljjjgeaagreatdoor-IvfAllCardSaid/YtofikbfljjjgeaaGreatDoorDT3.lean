/- The reference's best ones: one more (the abstract machine). -/
import Derived.Test.YtofikbfljjjgeaaGreatDoorDT8
import Derived.Test.YtofikbfljjjgeaaGreatDoorDF4
import Derived.Test.YtofikbfljjjgeaaGreatDoorDX1
import Derived.Test.YtofikbfljjjgeaaGreatDoorE48
set_option linter.unusedVariables false
set_option linter.unusedSimpArgs false
namespace Go.Ab.Seat
open Go.Extern Go.Proofs
set_option maxRecDepth 4000
theorem rless_spec {h : T AObj} {c : Nat} {rl wl : List Nat} (hf : Fresh h c) (a b : Ht) :
  ∃ r s', FnTo (Cs smQ) eg 216 [hitv a.id a.sc, hitv b.id b.sc] ⟨h, c, rl, wl⟩ r s' ∧ r = .bool (lessH a b) ∧ Ext ⟨h, c, rl, wl⟩ s' (fun _ => False) (fun _ => False) := by
 refine Fn.go (stdQ 216 rfl) ex216 fn216 km216 rfl rfl ?_
 refine Zev ?_
 by_cases h1 : a.sc < b.sc
 ·refine Zgo ?_
  refine ⟨.inr rfl, Wres.one rfl ⟨?_, ?_⟩⟩
  ·unfold lessH
   rw [if_neg (by omega), decide_eq_true h1]
   rfl
  ·exact Zex
 ·by_cases h2 : a.sc = b.sc
  ·by_cases h3 : a.id < b.id
   ·refine Zgo ?_
    refine ⟨.inr rfl, Wres.one rfl ⟨?_, ?_⟩⟩
    ·unfold lessH
     rw [if_pos h2, decide_eq_true h3]
     rfl
    ·exact Zex
   ·refine Zgo ?_
    refine ⟨.inr rfl, Wres.one rfl ⟨?_, ?_⟩⟩
    ·unfold lessH
     rw [if_pos h2, decide_eq_false h3]
     rfl
    ·exact Zex
  ·refine Zgo ?_
   refine ⟨.inr rfl, Wres.one rfl ⟨?_, ?_⟩⟩
   ·unfold lessH
    rw [if_neg h2, decide_eq_false h1]
    rfl
   ·exact Zex
theorem hit_nth {l : List Ht} {i : Nat} {cs : List Value} {x : Ht} (h : subN 0 (l.length * 2) cs = some (flatH l)) (hx : l[i]? = some x) : nth cs (0 + i * 2 + 0) = some (.int .i64 x.id) := by
 have := (subN_some _ _ _ _ (sub_hit h hx)).2.2 0 (by omega)
 rw [nth_eq, ← this]; rfl
theorem iH_full {x : Ht} : ∀ {l : List Ht}, iH x l = l.length → ∀ y ∈ l, lessH y x = true
 | [], _, y, hy => by cases hy
 | z :: l, h, y, hy => by
  cases hz : lessH z x with
  | false => simp [iH, hz] at h
  | true =>
   have h2 : iH x l = l.length := by
    unfold iH at h ⊢
    rw [List.takeWhile_cons, hz] at h
    simpa using h
   rcases List.mem_cons.1 hy with rfl | hy
   ·exact hz
   ·exact iH_full h2 y hy
theorem iH_last {x : Ht} {l : List Ht} (ho : Ord l) (hno : ∀ y ∈ l, y.id ≠ x.id) (hn : 0 < l.length) (hx : lessH x l[l.length - 1] = false) : iH x l = l.length := by
 have hl := lessH_total hx (fun e => hno _ (List.getElem_mem (show l.length - 1 < l.length by omega)) e.symm)
 refine iH_at (fun y hy => ?_) (fun y hy => ?_) (Nat.le_refl _)
 ·rw [List.take_length] at hy
  obtain ⟨i, hi⟩ := List.mem_iff_getElem?.1 hy
  obtain ⟨h1, rfl⟩ := List.getElem?_eq_some_iff.1 hi
  rcases Nat.lt_or_ge i (l.length - 1) with q | q
  ·exact lessH_trans (List.pairwise_iff_getElem.1 ho i (l.length - 1) h1 (by omega) q) hl
  ·obtain rfl : i = l.length - 1 := by omega
   exact hl
 ·rw [List.getElem?_eq_none (Nat.le_refl _)] at hy; cases hy
def EPB (k : Int) (lv : Value) (x : Ht) (c n : Nat) (z : Int) (j8 j14 j23 j44 j9 j58 j10 : Value) : L :=
 .cons 0 (.int .i64 k) (.cons 1 lv (.cons 2 (hitv x.id x.sc) (.cons 5 (.pointer (some ⟨c, 0, none⟩)) (.cons 6 (.slice none 0 0) (.cons 7 (.bool false) (.cons 12 (.int .i64 (n : Int)) (.cons 13 (.int .i64 z) (.cons 8 j8 (.cons 14 j14 (.cons 23 j23 (.cons 44 j44 (.cons 9 j9 (.cons 58 j58 (.cons 10 j10 .nil))))))))))))))
set_option maxHeartbeats 8000000 in
theorem pb_spec {h : T AObj} {c : Nat} {rl wl : List Nat} (hf : Fresh h c) {k : Int} {kk : Nat} (hk : max k 0 = (kk : Int)) (hkk : kk ≤ 1000) {lv : Value} {l : List Ht} (hl : Best h lv l.length (flatH l)) (ho : Ord l) (hlk : l.length ≤ kk) (x : Ht) (R : Nat → Prop) (hR : ∀ b, blkOf lv = some b → R b) :
  ∃ r s', FnTo (Cs smQ) eg 177 [.int .i64 k, lv, hitv x.id x.sc] ⟨h, c, rl, wl⟩ r s' ∧ (∃ v' b, r = .tuple #[v', .bool b] ∧ Best s'.h v' (putB kk l x).length (flatH (putB kk l x)) ∧ ∀ b, blkOf v' = some b → c ≤ b ∨ blkOf lv = some b) ∧ Ext ⟨h, c, rl, wl⟩ s' R (fun _ => False) := by
 obtain ⟨oa, cap, rfl, hnc, hrow⟩ := hl.row
 have hlb : ∀ b, blkOf (.slice oa l.length cap) = some b → b < c := fun b q => by
  rcases hl with ⟨e, _⟩ | ⟨bl, cap', cs, e, _, _, hbl, _⟩
  ·rw [e] at q; cases q
  ·rw [e] at q; cases q; exact hbl.lt hf
 refine Fn.go (stdQ 177 rfl) ex177 fn177 km177 rfl rfl ?_
 refine Zev ?_
 refine Zgo ?_
 refine Wx.cutO (fun e s => ∃ (j8 j14 j23 : Value) (rl' : List Nat), e = EPB k (.slice oa l.length cap) x c l.length l.length j8 j14 j23 top top top top ∧ s = ⟨h.set c (some (.cells [.int .i64 x.id, .int .i64 x.sc])), c + 1, rl', []⟩ ∧ Lg c R rl' ∧ ∀ y ∈ l, y.id ≠ x.id) Zrs ?_ ?_
 ·refine Wx.loopE (fun k1 e s => ∃ (i : Nat) (z : Int) (j8 j14 j23 : Value) (rl' : List Nat), e = EPB k (.slice oa l.length cap) x c l.length z j8 j14 j23 top top top top ∧ z = i ∧ s = ⟨h.set c (some (.cells [.int .i64 x.id, .int .i64 x.sc])), c + 1, rl', []⟩ ∧ Lg c R rl' ∧ (∀ y ∈ l.take i, y.id ≠ x.id) ∧ i ≤ l.length ∧ k1 = l.length - i) l.length (EPB k (.slice oa l.length cap) x c l.length 0 top top top top top top top) Zrs ?_ ?_ ?_
  ·unfold EPB
   exact Zek
  ·exact ⟨0, 0, _, _, _, _, rfl, rfl, rfl, Zlg, (fun y hy => by cases hy), by omega, rfl⟩
  ·rintro k1 e s ⟨i, z, j8, j14, j23, rl', rfl, hz, rfl, hlr, hno, hid, rfl⟩
   unfold EPB
   by_cases hi : i < l.length
   ·have hxi : l[i]? = some l[i] := List.getElem?_eq_getElem hi
    rcases hl with ⟨_, e2, _⟩ | ⟨bl, cap', cs, e, hn1, hn2, hbl, hsub⟩
    ·omega
    have hg := hit_nth hsub hxi
    simp only [Value.slice.injEq, true_and] at e
    obtain ⟨rfl, rfl⟩ := e
    have lbl := hbl.lt hf
    have rb := hR bl rfl
    by_cases hy : l[i].id = x.id
    ·refine Zgo ?_
     refine Zq (to_indexAddr (k := i) el37 rfl rfl hz (by omega)) ?_
     refine Zgo ?_
     refine Zd (to_load (pl_ rfl) rfl (hbl.cel.other (by omega)) (by omega) hg) ?_
     refine Zgo ?_
     have hp : putB kk l x = l := by
      unfold putB
      rw [if_pos (List.any_eq_true.2 ⟨l[i], List.getElem_mem hi, by simpa using hy⟩)]
     refine ⟨.inr rfl, Wres.two rfl rfl ⟨⟨_, false, rfl, ?_, fun b q => .inr q⟩, ?_⟩⟩
     ·rw [hp]
      exact .inr ⟨bl, cap, cs, rfl, hn1, hn2, hbl.other (by omega), hsub⟩
     ·exact Zex
    ·refine Zgo ?_
     refine Zq (to_indexAddr (k := i) el37 rfl rfl hz (by omega)) ?_
     refine Zgo ?_
     refine Zd (to_load (pl_ rfl) rfl (hbl.cel.other (by omega)) (by omega) hg) ?_
     refine Zgo ?_
     refine RoundE.go (l.length - (i + 1)) (EPB k _ x c l.length (z + 1) _ _ _ top top top top) (by omega) Zek ⟨i + 1, z + 1, _, _, _, _, rfl, by omega, rfl, Zlg, fun y hy' => ?_, by omega, rfl⟩
     rw [List.take_succ_eq_append_getElem hi] at hy'
     rcases List.mem_append.1 hy' with q | q
     ·exact hno y q
     ·rw [List.mem_singleton.1 q]; exact hy
   ·refine Zgo ?_
    obtain rfl : i = l.length := by omega
    subst hz
    rw [List.take_length] at hno
    exact CutQ.go (EPB k (.slice oa l.length cap) x c l.length l.length _ _ _ top top top top) Zek ⟨_, _, _, _, rfl, rfl, Zlg, hno⟩
 ·rintro e s ⟨j8, j14, j23, rl1, rfl, rfl, hlr1, hno⟩
  unfold EPB
  have hany : l.any (fun y => decide (y.id = x.id)) = false := by
   rw [List.any_eq_false]
   intro y hy
   simpa using hno y hy
  have hile := iH_le x l
  generalize hh : h.set c (some (.cells [.int .i64 x.id, .int .i64 x.sc])) = h1
  have fr1 : Fresh h1 (c + 1) := by subst hh; exact Zfr
  have kh : ∀ b, b < c → h1.get b = h.get b := fun b hb => by subst hh; exact get_other (by omega)
  have hbx : Has h1 c (.cells [.int .i64 x.id, .int .i64 x.sc]) := by subst hh; exact Has.same
  have hl1 : Best h1 (.slice oa l.length cap) l.length (flatH l) := hl.keep fun b q => kh b (hlb b q)
  have kp1 : Kp h h1 c (fun _ => False) := fun b hb _ => kh b hb
  have same_ : putB kk l x = l → ∀ h2 : T AObj, (∀ b, b < c + 1 → h2.get b = h1.get b) → Best h2 (.slice oa l.length cap) (putB kk l x).length (flatH (putB kk l x)) := fun e h2 k2 => by
   rw [e]; exact hl1.keep fun b q => k2 b (by have := hlb b q; omega)
  refine Wx.seq ?_
  refine Wx.cut (fun e s => ∃ (j44 : Value) (h2 : T AObj) (c2 : Nat) (rl2 wl2 : List Nat), e = EPB k (.slice oa l.length cap) x c l.length l.length j8 j14 j23 j44 top top top ∧ s = ⟨h2, c2, rl2, wl2⟩ ∧ c + 1 ≤ c2 ∧ Fresh h2 c2 ∧ (∀ b, b < c + 1 → h2.get b = h1.get b) ∧ Lg c R rl2 ∧ Lg c (fun _ => False) wl2 ∧ k = (kk : Int) ∧ iH x l < kk) Zrs ?_ ?_
  ·by_cases hk0 : k ≤ 0
   ·have hkk0 : kk = 0 := by omega
    have hp : putB kk l x = l := by
     unfold putB
     rw [hany, if_neg (by decide), if_pos (by omega)]
    refine Zgo ?_
    refine ⟨.inr rfl, Wres.two rfl rfl ⟨⟨_, false, rfl, same_ hp _ (fun b hb => rfl), fun b q => .inr q⟩, ?_⟩⟩
    exact Zex
   ·have hkk1 : k = (kk : Int) := by omega
    by_cases hlt : l.length < kk
    ·refine Zgo ?_
     exact CutQ.go (EPB k (.slice oa l.length cap) x c l.length l.length j8 j14 j23 _ top top top) Zek ⟨_, _, _, _, _, rfl, rfl, Nat.le_refl _, fr1, fun _ _ => rfl, hlr1, Zlg, hkk1, by omega⟩
    ·have hne : 0 < l.length := by omega
     have hxl : l[l.length - 1]? = some l[l.length - 1] := List.getElem?_eq_getElem (by omega)
     rcases hl1 with ⟨_, e2, _⟩ | ⟨bl, cap', cs, e, hn1, hn2, hbl, hsub⟩
     ·omega
     simp only [Value.slice.injEq, true_and] at e
     obtain ⟨rfl, rfl⟩ := e
     have lbl := hlb bl rfl
     have rb := hR bl rfl
     have hs2 := sub_hit hsub hxl
     have hidl := hno _ (List.getElem_mem (show l.length - 1 < l.length by omega))
     cases hlx : lessH x l[l.length - 1]
     ·have hif := iH_last ho hno hne hlx
      have hp : putB kk l x = l := by
       unfold putB
       rw [hany, if_neg (by decide), if_pos (by omega)]
      refine Zgo ?_
      refine Zq (to_indexAddr (k := l.length - 1) el37 rfl rfl (by omega) (by omega)) ?_
      refine Zd (to_loadS (ag_ rfl) rfl hbl.cel (by omega) hs2) ?_
      refine Wtr.call rfl rfl (rless_spec Zfr x l[l.length - 1]) ?_
      rintro v2 h2 c2 r2 w2 ⟨rfl, hext⟩
      have hqt := hext.quiet (fun _ _ q => q)
      have fr2 := hext.fresh
      have le2 := hext.c
      simp only at fr2 le2
      have kp2 := Kp.ext (W := fun _ => False) (h := h) (c := c) kp1 hext (by omega) (fun _ _ q => q)
      have lr2 := Lg.extR (R := R) (c := c) Zlg hext (fun _ _ q => q.elim)
      have lw2 := Lg.extW (W := fun _ => False) (c := c) Zlg hext (fun _ _ q => q)
      rw [hlx]
      refine ⟨Zap, ?_⟩
      refine Zgo ?_
      refine ⟨.inr rfl, Wres.two rfl rfl ⟨⟨_, false, rfl, same_ hp _ (fun b hb => hext.get hb (fun q => q)), fun b q => .inr q⟩, ?_⟩⟩
      exact Zex
     ·have hif : iH x l < kk := by
       refine Classical.byContradiction fun q => ?_
       have h1 := iH_full (x := x) (l := l) (by omega) _ (List.getElem_mem (show l.length - 1 < l.length by omega))
       rw [lessH_asymm hlx] at h1; cases h1
      refine Zgo ?_
      refine Zq (to_indexAddr (k := l.length - 1) el37 rfl rfl (by omega) (by omega)) ?_
      refine Zd (to_loadS (ag_ rfl) rfl hbl.cel (by omega) hs2) ?_
      refine Wtr.call rfl rfl (rless_spec Zfr x l[l.length - 1]) ?_
      rintro v2 h2 c2 r2 w2 ⟨rfl, hext⟩
      have hqt := hext.quiet (fun _ _ q => q)
      have fr2 := hext.fresh
      have le2 := hext.c
      simp only at fr2 le2
      have lr2 := Lg.extR (R := R) (c := c) Zlg hext (fun _ _ q => q.elim)
      have lw2 := Lg.extW (W := fun _ => False) (c := c) Zlg hext (fun _ _ q => q)
      rw [hlx]
      refine ⟨Zap, ?_⟩
      refine Zgo ?_
      exact CutQ.go (EPB k _ x c l.length l.length j8 j14 j23 _ top top top) Zek ⟨_, _, _, _, _, rfl, rfl, le2, fr2, fun b hb => hext.get hb (fun q => q), Zlg, Zlg, hkk1, hif⟩
  ·rintro e s ⟨j44, h2, c2, rl2, wl2, rfl, rfl, hcc2, hf2, kp2, hlr2, hlw2, hkk1, hik⟩
   unfold EPB
   have hbx2 : Has h2 c (.cells [.int .i64 x.id, .int .i64 x.sc]) := (kp2 c (by omega)).trans hbx
   have hl2 : Best h2 (.slice oa l.length cap) l.length (flatH l) := hl1.keep fun b q => kp2 b (by have := hlb b q; omega)
   have hkp2 : Kp h h2 c (fun _ => False) := fun b hb _ => (kp2 b (by omega)).trans (kh b hb)
   refine Zgo ?_
   refine Wx.cutO (fun e s => ∃ (z : Int) (j44 j58 : Value) (h3 : T AObj) (c3 : Nat) (rl3 wl3 : List Nat), e = EPB k (.slice oa l.length cap) x c l.length l.length j8 j14 j23 j44 (.int .i64 z) j58 top ∧ z = (iH x l : Nat) ∧ s = ⟨h3, c3, rl3, wl3⟩ ∧ c2 ≤ c3 ∧ Fresh h3 c3 ∧ (∀ b, b < c2 → h3.get b = h2.get b) ∧ Lg c R rl3 ∧ Lg c (fun _ => False) wl3) Zrs ?_ ?_
   ·refine Wx.loopE (fun k1 e s => ∃ (i : Nat) (z : Int) (j44 j58 : Value) (h3 : T AObj) (c3 : Nat) (rl3 wl3 : List Nat), e = EPB k (.slice oa l.length cap) x c l.length l.length j8 j14 j23 j44 (.int .i64 z) j58 top ∧ z = i ∧ s = ⟨h3, c3, rl3, wl3⟩ ∧ c2 ≤ c3 ∧ Fresh h3 c3 ∧ (∀ b, b < c2 → h3.get b = h2.get b) ∧ Lg c R rl3 ∧ Lg c (fun _ => False) wl3 ∧ (∀ y ∈ l.take i, lessH y x = true) ∧ i ≤ l.length ∧ k1 = l.length - i) l.length (EPB k (.slice oa l.length cap) x c l.length l.length j8 j14 j23 j44 (.int .i64 0) top top) Zrs ?_ ?_ ?_
    ·unfold EPB
     exact Zek
    ·exact ⟨0, 0, _, _, _, _, _, _, rfl, rfl, rfl, Nat.le_refl _, hf2, fun _ _ => rfl, hlr2, hlw2, (fun y hy => by cases hy), by omega, rfl⟩
    ·rintro k1 e s ⟨i, z, j44, j58, h3, c3, rl3, wl3, rfl, hz, rfl, hcc3, hf3, kp3, hlr3, hlw3, hall, hid, rfl⟩
     unfold EPB
     by_cases hi : i < l.length
     ·have hxi : l[i]? = some l[i] := List.getElem?_eq_getElem hi
      have hbx3 : Has h3 c (.cells [.int .i64 x.id, .int .i64 x.sc]) := (kp3 c (by omega)).trans hbx2
      rcases hl2 with ⟨_, e2, _⟩ | ⟨bl, cap', cs, e, hn1, hn2, hbl, hsub⟩
      ·omega
      simp only [Value.slice.injEq, true_and] at e
      obtain ⟨rfl, rfl⟩ := e
      have lbl := hlb bl rfl
      have rb := hR bl rfl
      have hbl3 : Has h3 bl (.cells cs) := (kp3 bl (by omega)).trans hbl
      have hs2 := sub_hit hsub hxi
      have hidi := hno _ (List.getElem_mem hi)
      refine Zgo ?_
      refine Zq (to_indexAddr (k := i) el37 rfl rfl hz hi) ?_
      refine Zd (to_loadS (ag_ rfl) rfl hbl3.cel (by omega) hs2) ?_
      refine Wtr.call rfl rfl (rless_spec Zfr x l[i]) ?_
      rintro v4 h4 c4 r4 w4 ⟨rfl, hext⟩
      have hqt := hext.quiet (fun _ _ q => q)
      have fr4 := hext.fresh
      have le4 := hext.c
      simp only at fr4 le4
      have lr4 := Lg.extR (R := R) (c := c) Zlg hext (fun _ _ q => q.elim)
      have lw4 := Lg.extW (W := fun _ => False) (c := c) Zlg hext (fun _ _ q => q)
      have kp4 : ∀ b, b < c2 → h4.get b = h2.get b := fun b hb => (hext.get (by omega) (fun q => q)).trans (kp3 b hb)
      cases hlx : lessH x l[i]
      ·refine ⟨Zap, ?_⟩
       refine Zgo ?_
       refine RoundE.go (l.length - (i + 1)) (EPB k _ x c l.length l.length j8 j14 j23 j44 (.int .i64 (z + 1)) _ top) (by omega) Zek ⟨i + 1, z + 1, _, _, _, _, _, _, rfl, by omega, rfl, by omega, fr4, kp4, Zlg, Zlg, fun y hy => ?_, by omega, rfl⟩
       rw [List.take_succ_eq_append_getElem hi] at hy
       rcases List.mem_append.1 hy with q | q
       ·exact hall y q
       ·rw [List.mem_singleton.1 q]
        exact lessH_total hlx (fun e => hidi e.symm)
      ·have hiH : iH x l = i := iH_at hall (fun y hy => by rw [hxi] at hy; cases hy; exact lessH_asymm hlx) hid
       refine ⟨Zap, ?_⟩
       refine Zgo ?_
       exact CutQ.go (EPB k _ x c l.length l.length j8 j14 j23 j44 (.int .i64 z) _ top) Zek ⟨z, _, _, _, _, _, _, rfl, by rw [hiH]; exact hz, rfl, by omega, fr4, kp4, Zlg, Zlg⟩
     ·refine Zgo ?_
      obtain rfl : i = l.length := by omega
      have hiH : iH x l = l.length := iH_at hall (fun y hy => by rw [List.getElem?_eq_none (Nat.le_refl _)] at hy; cases hy) hid
      exact CutQ.go (EPB k (.slice oa l.length cap) x c l.length l.length j8 j14 j23 j44 (.int .i64 z) _ top) Zek ⟨z, _, _, _, _, _, _, rfl, by rw [hiH]; exact hz, rfl, hcc3, hf3, kp3, Zlg, Zlg⟩
   ·rintro e s ⟨z, j44, j58, h3, c3, rl3, wl3, rfl, hz, rfl, hcc3, hf3, kp3, hlr3, hlw3⟩
    unfold EPB
    have hbx3 : Has h3 c (.cells [.int .i64 x.id, .int .i64 x.sc]) := (kp3 c (by omega)).trans hbx2
    have hl3 : Best h3 (.slice oa l.length cap) l.length (flatH l) := hl2.keep fun b q => kp3 b (by have := hlb b q; omega)
    have hkp3 : Kp h h3 c (fun _ => False) := fun b hb _ => (kp3 b (by omega)).trans (hkp2 b hb (fun q => q))
    have hp : putB kk l x = (l.take (iH x l) ++ x :: l.drop (iH x l)).take kk := by
     unfold putB
     rw [hany, if_neg (by decide), if_neg (by omega)]
    generalize iH x l = i at hz hik hile hp
    have hlen : (l.take i ++ x :: l.drop i).length = l.length + 1 := by rw [List.length_append, List.length_cons, List.length_take, List.length_drop]; omega
    have done_ : ∀ (h9 : T AObj) (b9 cp : Nat), cp = l.length + 1 → Has h9 b9 (.cells (flatH (l.take i ++ x :: l.drop i))) → Best h9 (.slice (some ⟨b9, 0, some 2⟩) (min (l.length + 1) kk) cp) (putB kk l x).length (flatH (putB kk l x)) := by
     intro h9 b9 cp hcp hB
     subst hcp
     generalize l.take i ++ x :: l.drop i = Y at hp hlen hB
     have e1 : (putB kk l x).length = min (l.length + 1) kk := by rw [hp, List.length_take, hlen]; omega
     rw [e1]
     refine .inr ⟨b9, l.length + 1, _, rfl, by omega, by omega, hB, ?_⟩
     rw [subN_eq _ _ _ (by rw [flatH_len, hlen]; omega), List.drop_zero, hp, flatH_take]
     congr 2
     rcases Nat.le_total kk (l.length + 1) with q | q
     ·rw [Nat.min_eq_right q]
     ·rw [Nat.min_eq_left q, List.take_of_length_le (Nat.le_of_eq hlen), List.take_of_length_le (by rw [hlen]; exact q)]
    rcases hl3 with ⟨e, e2, _⟩ | ⟨bl, cap', cs, e, hn1, hn2, hbl, hsub⟩
    ·simp only [Value.slice.injEq] at e
     obtain ⟨rfl, _, rfl⟩ := e
     obtain rfl : l = [] := List.length_eq_zero_iff.1 e2
     obtain rfl : i = 0 := by simpa using hile
     refine Zgo ?_
     refine Zq (to_sliceHi (k := 0) el37 rfl rfl hz (by omega) (fun a ha => by cases ha)) ?_
     refine Zq (to_appZero ro37 sl37 rfl rfl (by omega)) ?_
     refine Zgo ?_
     refine Zd (to_appNil ro37 sl37 rfl rfl (k := 0) Has.same.cel (by omega) (subN_all _ _ rfl) (by decide) Zfr) ?_
     refine Zgo ?_
     refine Zq (to_sliceLoNil el37 rfl rfl hz) ?_
     refine Zq (to_appZero ro37 sl37 rfl rfl (by omega)) ?_
     refine Zgo ?_
     refine Zu (to_sliceHi (k := min (([] : List Ht).length + 1) kk) el37 rfl rfl (by omega) (by omega) (fun a ha => by cases ha; exact .inr rfl)) ?_
     refine Zgo ?_
     refine ⟨.inr rfl, Wres.two rfl rfl ⟨⟨_, true, rfl, done_ _ _ _ rfl Has.same, fun b q => .inl (by cases q; dsimp only; omega)⟩, ?_⟩⟩
     exact Zex
    ·simp only [Value.slice.injEq, true_and] at e
     obtain ⟨rfl, rfl⟩ := e
     have lbl := hlb bl rfl
     have rb := hR bl rfl
     have hsub0 : subN 0 (i * 2) cs = some (flatH (l.take i)) := by
      have h9 := hsub
      conv at h9 => rhs; rw [show flatH l = flatH (l.take i) ++ flatH (l.drop i) by rw [← flatH_app, List.take_append_drop]]
      rw [show l.length * 2 = i * 2 + (l.length - i) * 2 by omega] at h9
      exact (subN_app h9 (by rw [flatH_len, List.length_take]; omega)).1
     have hsub1 : subN (0 + i * 2) ((l.length - i) * 2) cs = some (flatH (l.drop i)) := by
      have h9 := hsub
      conv at h9 => rhs; rw [show flatH l = flatH (l.take i) ++ flatH (l.drop i) by rw [← flatH_app, List.take_append_drop]]
      rw [show l.length * 2 = i * 2 + (l.length - i) * 2 by omega] at h9
      exact (subN_app h9 (by rw [flatH_len, List.length_take]; omega)).2
     have hat1 : ∀ v ∈ flatH (l.drop i), atom v = true := flatH_atom _
     have hfl : flatH (l.take i ++ x :: l.drop i) = flatH (l.take i) ++ ([.int .i64 x.id, .int .i64 x.sc] ++ flatH (l.drop i)) := by
      rw [flatH_app]; rfl
     have hl0 : (flatH (l.take i)).length = i * 2 := by rw [flatH_len, List.length_take]; omega
     have hat2 : ∀ v ∈ ([.int .i64 x.id, .int .i64 x.sc] : List Value), atom v = true := all_cons rfl (all_cons rfl all_nil)
     rcases i with _ | i
     ·obtain ⟨m, hm⟩ : ∃ m, l.length = m + 1 := ⟨l.length - 1, by omega⟩
      simp only [Nat.sub_zero] at hsub1
      refine Zgo ?_
      refine Zq (to_sliceHi (k := 0) el37 rfl rfl hz (by omega) (fun a ha => by cases ha; exact .inr rfl)) ?_
      refine Zq (to_appZero ro37 sl37 rfl rfl (by omega)) ?_
      refine Zgo ?_
      refine Zd (to_appNil ro37 sl37 rfl rfl (k := 0) Has.same.cel (by omega) (subN_all _ _ rfl) (by decide) Zfr) ?_
      refine Zgo ?_
      refine Zq (to_sliceOwn (k := 0) el37 rfl rfl hz (by omega) (by omega)) ?_
      rw [Nat.sub_zero, hm]
      rw [hm] at hsub1
      refine Zd (to_appG ro37 sl37 rfl rfl (Cel.other (by omega) (Cel.other (by omega) hbl.cel)) (by omega) hsub1 (by omega) (by unfold big; omega) Zhs (by omega) (by rfl) hat1 Zfr) ?_
      refine Zgo ?_
      refine Zgo ?_
      refine Zu (to_sliceHi (k := min (l.length + 1) kk) el37 rfl rfl (by omega) (by omega) (fun a ha => by cases ha; exact .inr rfl)) ?_
      refine Zgo ?_
      refine ⟨.inr rfl, Wres.two rfl rfl ⟨⟨_, true, rfl, done_ _ _ _ (by omega) (by rw [hfl]; exact Has.same), fun b q => .inl (by cases q; dsimp only; omega)⟩, ?_⟩⟩
      exact Zex
     ·obtain ⟨m, hm⟩ : ∃ m, l.length = i + 1 + m := ⟨l.length - (i + 1), by omega⟩
      rcases m with _ | m
      ·refine Zgo ?_
       refine Zq (to_sliceHi (k := i + 1) el37 rfl rfl hz (by omega) (fun a ha => by cases ha; exact .inr rfl)) ?_
       refine Zd (to_appNil ro37 sl37 rfl rfl hbl.cel (by omega) hsub0 (by unfold big; omega) Zfr) ?_
       refine Zgo ?_
       refine Zd (to_appG ro37 sl37 rfl rfl (k := 0) Has.same.cel (by omega) (subN_all _ _ rfl) (by omega) (by unfold big; omega) Zhs (by omega) (subN_all _ _ hl0.symm) hat2 Zfr) ?_
       refine Zgo ?_
       refine Zq (to_sliceOwn (k := i + 1) el37 rfl rfl hz (by omega) (by omega)) ?_
       rw [show l.length - (i + 1) = 0 by omega]
       refine Zq (to_appZero ro37 sl37 rfl rfl (by omega)) ?_
       refine Zgo ?_
       refine Zgo ?_
       refine Zu (to_sliceHi (k := min (l.length + 1) kk) el37 rfl rfl (by omega) (by omega) (fun a ha => by cases ha; exact .inr rfl)) ?_
       refine Zgo ?_
       refine ⟨.inr rfl, Wres.two rfl rfl ⟨⟨_, true, rfl, done_ _ _ _ (by omega) (by rw [hfl, List.drop_of_length_le (by omega)]; exact Has.same), fun b q => .inl (by cases q; dsimp only; omega)⟩, ?_⟩⟩
       exact Zex
      ·rw [show l.length - (i + 1) = m + 1 by omega] at hsub1
       refine Zgo ?_
       refine Zq (to_sliceHi (k := i + 1) el37 rfl rfl hz (by omega) (fun a ha => by cases ha; exact .inr rfl)) ?_
       refine Zd (to_appNil ro37 sl37 rfl rfl hbl.cel (by omega) hsub0 (by unfold big; omega) Zfr) ?_
       refine Zgo ?_
       refine Zd (to_appG ro37 sl37 rfl rfl (k := 0) Has.same.cel (by omega) (subN_all _ _ rfl) (by omega) (by unfold big; omega) Zhs (by omega) (subN_all _ _ hl0.symm) hat2 Zfr) ?_
       refine Zgo ?_
       refine Zq (to_sliceOwn (k := i + 1) el37 rfl rfl hz (by omega) (by omega)) ?_
       rw [show l.length - (i + 1) = m + 1 by omega]
       refine Zd (to_appG ro37 sl37 rfl rfl (Cel.other (by omega) (Cel.other (by omega) (Cel.other (by omega) (Cel.other (by omega) hbl.cel)))) (by omega) hsub1 (by omega) (by unfold big; omega) Zhs (by omega) (subN_all _ _ (by rw [List.length_append, hl0]; simp; omega)) hat1 Zfr) ?_
       refine Zgo ?_
       refine Zgo ?_
       refine Zu (to_sliceHi (k := min (l.length + 1) kk) el37 rfl rfl (by omega) (by omega) (fun a ha => by cases ha; exact .inr rfl)) ?_
       refine Zgo ?_
       refine ⟨.inr rfl, Wres.two rfl rfl ⟨⟨_, true, rfl, done_ _ _ _ (by omega) (by rw [hfl, ← List.append_assoc (flatH (l.take (i + 1)))]; exact Has.same), fun b q => .inl (by cases q; dsimp only; omega)⟩, ?_⟩⟩
       exact Zex
end Go.Ab.Seat
