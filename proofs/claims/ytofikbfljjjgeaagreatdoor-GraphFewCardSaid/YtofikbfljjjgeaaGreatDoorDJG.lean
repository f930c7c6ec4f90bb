import Derived.Test.YtofikbfljjjgeaaGreatDoorDW2
import Derived.Test.YtofikbfljjjgeaaGreatDoorDF7
import Derived.Test.YtofikbfljjjgeaaGreatDoorDJE
set_option linter.unusedVariables false
set_option linter.unusedSimpArgs false
section
/- Is a number among some? An index of lists: a search (the abstract machine). -/
namespace Go.Ab.Seat
open Go.Extern Go.Proofs
set_option maxRecDepth 4000
def EX (oa : Option Addr) (n cap : Nat) (x z : Int) (j5 j9 j16 : Value) : L :=
 .cons 1 (.int .i64 x) (.cons 0 (.slice oa n cap) (.cons 4 (.int .i64 0) (.cons 7 (.int .i64 (n : Int)) (.cons 8 (.int .i64 z) (.cons 5 j5 (.cons 9 j9 (.cons 16 j16 .nil)))))))
set_option maxHeartbeats 4000000 in
theorem indexI_spec {h : T AObj} {c : Nat} {rl wl : List Nat} (hf : Fresh h c) {oa : Option Addr} {cap n : Nat} {l : List Int} (hln : l.length = n) (hl : Row h (.slice oa n cap) n 1 (l.map (Value.int .i64))) (hn : n ≤ 1000) (x : Int) (R : Nat → Prop) (hR : ∀ b, blkOf (.slice oa n cap) = some b → R b) :
  ∃ r s', FnTo (Cs smQ) eg 188 [.slice oa n cap, .int .i64 x] ⟨h, c, rl, wl⟩ r s' ∧ ((∃ z : Int, r = .int .i64 z ∧ (0 ≤ z ↔ x ∈ l)) ∧ s'.h = h ∧ s'.c = c) ∧ Ext ⟨h, c, rl, wl⟩ s' R (fun _ => False) := by
 refine Fn.go (stdQ 188 rfl) ex188 fn188 km188 rfl rfl ?_
 refine Zev ?_
 refine Zgo ?_
 refine Wx.loopE (fun k1 e s => ∃ (i : Nat) (z : Int) (j5 j9 j16 : Value) (rl' wl' : List Nat), e = EX oa n cap x z j5 j9 j16 ∧ z = i ∧ s = ⟨h, c, rl', wl'⟩ ∧ x ∉ l.take i ∧ Lg c R rl' ∧ Lg c (fun _ => False) wl' ∧ i ≤ n ∧ k1 = n - i) n (EX oa n cap x 0 top top top) Zrs ?_ ?_ ?_
 ·unfold EX
  exact Zek
 ·exact ⟨0, 0, _, _, _, _, _, rfl, rfl, rfl, List.not_mem_nil, Zlg, Zlg, by omega, rfl⟩
 ·rintro k1 e s ⟨i, z, j5, j9, j16, rl', wl', rfl, hz, rfl, hnm, hlr, hlw, hid, rfl⟩
  unfold EX
  by_cases hi : i < n
  ·have hil : i < l.length := by omega
   have hgi : (l.map (Value.int .i64))[i]? = some (.int .i64 l[i]) := by rw [List.getElem?_map, List.getElem?_eq_getElem hil]; rfl
   obtain ⟨b1, o1, sp1, cs1, rfl, hc1, hn1⟩ := rowCell hl (j := i * 1) (by omega) (by rw [Nat.mul_one]; exact hgi)
   have l1 := hc1.lt hf
   have rb := hR b1 rfl
   by_cases hx : x = l[i]
   ·refine Zgo ?_
    refine Zu (to_indexAddr (k := i) el45 rfl rfl hz (by omega)) ?_
    refine Zu (to_load (pl_ rfl) rfl hc1 (by omega) hn1) ?_
    refine Zgo ?_
    refine ⟨.inr rfl, Wres.one rfl ⟨⟨⟨z, rfl, ?_⟩, rfl, rfl⟩, ?_⟩⟩
    ·exact ⟨fun _ => hx ▸ List.getElem_mem hil, fun _ => by omega⟩
    ·exact Zex
   ·refine Zgo ?_
    refine Zu (to_indexAddr (k := i) el45 rfl rfl hz (by omega)) ?_
    refine Zu (to_load (pl_ rfl) rfl hc1 (by omega) hn1) ?_
    refine Zgo ?_
    refine RoundE.go (n - (i + 1)) (EX _ n cap x (z + 1) _ _ _) (by omega) Zek ⟨i + 1, z + 1, _, _, _, _, _, rfl, by omega, rfl, ?_, Zlg, Zlg, by omega, rfl⟩
    rw [List.take_succ_eq_append_getElem hil]
    intro hm
    rcases List.mem_append.1 hm with hm | hm
    ·exact hnm hm
    ·exact hx (List.mem_singleton.1 hm)
  ·refine Zgo ?_
   refine ⟨.inr rfl, Wres.one rfl ⟨⟨⟨-1, rfl, ?_⟩, rfl, rfl⟩, ?_⟩⟩
   ·rw [List.take_of_length_le (by omega)] at hnm
    exact ⟨fun h => by omega, fun h => absurd h hnm⟩
   ·exact Zex
theorem containsI_spec {h : T AObj} {c : Nat} {rl wl : List Nat} (hf : Fresh h c) {oa : Option Addr} {cap n : Nat} {l : List Int} (hln : l.length = n) (hl : Row h (.slice oa n cap) n 1 (l.map (Value.int .i64))) (hn : n ≤ 1000) (x : Int) (R : Nat → Prop) (hR : ∀ b, blkOf (.slice oa n cap) = some b → R b) :
  ∃ r s', FnTo (Cs smQ) eg 134 [.slice oa n cap, .int .i64 x] ⟨h, c, rl, wl⟩ r s' ∧ (r = .bool (decide (x ∈ l)) ∧ s'.h = h ∧ s'.c = c) ∧ Ext ⟨h, c, rl, wl⟩ s' R (fun _ => False) := by
 refine Fn.go (stdQ 134 rfl) ex134 fn134 km134 rfl rfl ?_
 refine Zev ?_
 refine Zgo ?_
 refine Wseq.call rfl rfl (indexI_spec Zfr hln hl hn x R hR) ?_
 rintro v1 h1 c1 r1 w1 ⟨⟨⟨z, rfl, hz⟩, e1, e2⟩, hext⟩
 simp only at e1 e2
 subst e1 e2
 have lr := Lg.extR (R := R) (c := c1) Zlg hext (fun _ _ q => q)
 have lw := Lg.extW (W := fun _ => False) (c := c1) Zlg hext (fun _ _ q => q)
 by_cases h0 : 0 ≤ z
 ·refine Zgo ?_
  refine ⟨.inr rfl, Wres.one rfl ⟨⟨?_, rfl, rfl⟩, ?_⟩⟩
  ·rw [decide_eq_true (hz.1 h0)]; rfl
  ·exact Zex
 ·refine Zgo ?_
  refine ⟨.inr rfl, Wres.one rfl ⟨⟨?_, rfl, rfl⟩, ?_⟩⟩
  ·rw [decide_eq_false (fun q => h0 (hz.2 q))]; rfl
  ·exact Zex
end Go.Ab.Seat
end
section
/- Which members may have one link more; whom one may be linked with (the abstract machine). -/
namespace Go.Ab.Seat
open Go.Extern Go.Proofs
set_option maxRecDepth 4000
section
variable {h : T AObj} {c : Nat} {rl wl : List Nat} {p m dim : Nat} {mt : Int} {G : Gr} {U : Nat → Prop}
theorem gmay_spec (hf : Fresh h c) (qm : GrM h p m mt dim G U) {gb lb : Nat} {l : Nat} (hl : l < 5) (hg : Has h gb (.cells [.pointer (some ⟨p, 0, none⟩)])) (hlb : Has h lb (.cells [.int .i64 (l : Int)])) {id : Int} (hid : ∃ r, getM id G.M = some r) (R : Nat → Prop) (hUR : ∀ b, U b → R b) (hR1 : R gb) (hR2 : R lb) :
  ∃ r s', FnTo (Cs smQ) eg 149 [.int .i64 id, .pointer (some ⟨gb, 0, none⟩), .pointer (some ⟨lb, 0, none⟩)] ⟨h, c, rl, wl⟩ r s' ∧ r = .bool (mayG l G.L id) ∧ Ext ⟨h, c, rl, wl⟩ s' R (fun _ => False) := by
 obtain ⟨ow, q⟩ := qm
 obtain ⟨r0, hr0⟩ := hid
 have hp := q.ptr
 obtain ⟨lp, lm⟩ := q.lt hf
 have hpR := hUR p q.pU
 have hmR := hUR m q.mU
 have l1 := hg.lt hf
 have l2 := hlb.lt hf
 obtain ⟨es, n, vi, nb, vv, ls, hm, ⟨ids, hk⟩, hfit, hfi, hn0, hid0⟩ := q.at hr0
 have hnb := hn0.at_
 have lnb := hnb.lt hf
 have rnb := hUR nb hn0.u
 have hlk := hn0.lk l hl
 rw [hid0] at hlk
 obtain ⟨ol, cl, hlv⟩ := hlk.val
 refine Fn.go (stdQ 149 rfl) ex149 fn149 km149 rfl rfl ?_
 refine Zev ?_
 refine Zgo ?_
 refine Zd (to_lookup (mi_ rfl) (ze_ rfl) rfl rfl hm lm hk.ks (by rw [hfi])) ?_
 refine Zgo ?_
 refine Zq (to_indexAddrA (k := l) ar110 rfl rfl rfl hl) ?_
 refine Zd (to_load (pl_ rfl) rfl hnb.cel lnb (node_nth hl)) ?_
 rw [hlv]
 refine Zgo ?_
 refine Wtr.call rfl rfl (most_spec Zfr l) ?_
 rintro v2 h2 c2 r2 w2 ⟨rfl, e2⟩
 cases e2
 refine ⟨Zap, ?_⟩
 refine Zgo ?_
 refine ⟨.inr rfl, Wres.one rfl ⟨?_, Zex⟩⟩
 unfold mayG
 show Value.bool (decide (((G.L id l).length : Int) < (mostG l : Int))) = _
 congr 1
 exact decide_eq_decide.2 (by omega)
noncomputable def delG1 (l : Nat) (L : Lk) (id x : Int) : Bool := decide (x = id) || !mayG l L x || decide (x ∈ L id l)
theorem del1_spec (hf : Fresh h c) (qm : GrM h p m mt dim G U) (hml : G.M.length ≤ 800) {ib fb gb lb : Nat} {l : Nat} (hl : l < 5) {id : Int} (hib : Has h ib (.cells [.int .i64 id])) (hfb : Has h fb (.cells [.func (.func 149) #[] ⟨[.pointer (some ⟨gb, 0, none⟩), .pointer (some ⟨lb, 0, none⟩)]⟩])) (hg : Has h gb (.cells [.pointer (some ⟨p, 0, none⟩)])) (hlb : Has h lb (.cells [.int .i64 (l : Int)])) (hid : ∃ r, getM id G.M = some r) {x : Int} (hx : ∃ r, getM x G.M = some r) (R : Nat → Prop) (hUR : ∀ b, U b → R b) (hR0 : R ib) (hR3 : R fb) (hR1 : R gb) (hR2 : R lb) :
  ∃ r s', FnTo (Cs smQ) eg 151 [.int .i64 x, .pointer (some ⟨ib, 0, none⟩), .pointer (some ⟨fb, 0, none⟩), .pointer (some ⟨gb, 0, none⟩), .pointer (some ⟨lb, 0, none⟩)] ⟨h, c, rl, wl⟩ r s' ∧ r = .bool (delG1 l G.L id x) ∧ Ext ⟨h, c, rl, wl⟩ s' R (fun _ => False) := by
 have qm0 := qm
 obtain ⟨ow, q⟩ := qm
 obtain ⟨r0, hr0⟩ := hid
 have hp := q.ptr
 obtain ⟨lp, lm⟩ := q.lt hf
 have hpR := hUR p q.pU
 have hmR := hUR m q.mU
 have l1 := hg.lt hf
 have l2 := hlb.lt hf
 have l3 := hib.lt hf
 have l4 := hfb.lt hf
 obtain ⟨es, n, vi, nb, vv, ls, hm, ⟨ids, hk⟩, hfit, hfi, hn0, hid0⟩ := q.at hr0
 have hnb := hn0.at_
 have lnb := hnb.lt hf
 have rnb := hUR nb hn0.u
 have hlk := hn0.lk l hl
 have ulk := fun b hb => (hn0.ol l hl b hb).1
 rw [hid0] at hlk
 have hlen := q.len id l
 obtain ⟨ol, cl, hlv⟩ := hlk.val
 rw [hlv] at hlk ulk
 refine Fn.go (stdQ 151 rfl) ex151 fn151 km151 rfl rfl ?_
 refine Zev ?_
 unfold delG1
 by_cases hxi : x = id
 ·refine Zgo ?_
  refine ⟨.inr rfl, Wres.one rfl ⟨?_, Zex⟩⟩
  rw [decide_eq_true hxi]; rfl
 refine Zgo ?_
 refine Wtr.callV rfl rfl rfl (gmay_spec Zfr qm0 hl hg hlb hx R hUR hR1 hR2) ?_
 rintro v1 h1 c1 r1 w1 ⟨rfl, hext1⟩
 have fr1 := hext1.fresh
 have le1 := hext1.c
 simp only at fr1 le1
 have hq1 := hext1.quiet (fun _ _ q => q)
 have lr1 := Lg.extR (R := R) (c := c) Zlg hext1 (fun _ _ q => q)
 have lw1 := Lg.extW (W := fun _ => False) (c := c) Zlg hext1 (fun _ _ q => q)
 have k1 : ∀ b, b < c → h1.get b = h.get b := fun b hb => hext1.h b hb (fun q => q)
 have kp1 : Kp h h1 c (fun _ => False) := fun b hb _ => k1 b hb
 refine ⟨Zap, ?_⟩
 rw [decide_eq_false hxi]
 cases hmx : mayG l G.L x
 ·refine Zgo ?_
  exact ⟨.inr rfl, Wres.one rfl ⟨rfl, Zex⟩⟩
 ·have hp1 : Has h1 p _ := (k1 p lp).trans hp
  have hm1 : Has h1 m _ := (k1 m lm).trans hm
  have hg1 : Has h1 gb _ := (k1 gb l1).trans hg
  have hlb1 : Has h1 lb _ := (k1 lb l2).trans hlb
  have hib1 : Has h1 ib _ := (k1 ib l3).trans hib
  have hnb1 : Has h1 nb _ := (k1 nb lnb).trans hnb
  refine Zgo ?_
  refine Zd (to_lookup (mi_ rfl) (ze_ rfl) rfl rfl hm1 (by omega) hk.ks (by rw [hfi])) ?_
  refine Zgo ?_
  refine Zq (to_indexAddrA (k := l) ar110 rfl rfl rfl hl) ?_
  refine Zd (to_load (pl_ rfl) rfl hnb1.cel (by omega) (node_nth hl)) ?_
  rw [hlv]
  refine Zgo ?_
  refine Wtr.call rfl rfl (containsI_spec Zfr rfl (Row.keepF hlk.row hf (fun b hb => k1 b hb)) (by omega) x R (fun b hb => hUR b (ulk b hb))) ?_
  rintro v2 h2 c2 r2 w2 ⟨⟨rfl, e1, e2⟩, hext2⟩
  simp only at e1 e2
  subst e1 e2
  have hq2 := hext2.quiet (fun _ _ q => q)
  have lr2 := Lg.extR (R := R) (c := c) Zlg hext2 (fun _ _ q => q)
  have lw2 := Lg.extW (W := fun _ => False) (c := c) Zlg hext2 (fun _ _ q => q)
  refine ⟨Zap, ?_⟩
  refine Zgo ?_
  refine ⟨.inr rfl, Wres.one rfl ⟨?_, Zex⟩⟩
  simp
  rfl
end
end Go.Ab.Seat
end
section
/- A copy of numbers; numbers taken out by a closure (the abstract machine). -/
namespace Go.Ab.Seat
open Go.Extern Go.Proofs
set_option maxRecDepth 4000
def CRow (h : T AObj) (c0 : Nat) (v : Value) (l : List Int) : Prop := (v = .slice none 0 0 ∧ l = []) ∨ (∃ b, v = .slice (some ⟨b, 0, none⟩) 0 0 ∧ l = [] ∧ c0 ≤ b) ∨ ∃ b, v = .slice (some ⟨b, 0, some 1⟩) l.length l.length ∧ l ≠ [] ∧ c0 ≤ b ∧ Has h b (.cells (l.map (Value.int .i64)))
theorem CRow.val {h : T AObj} {c : Nat} {v : Value} {l : List Int} (x : CRow h c v l) : ∃ oa, v = .slice oa l.length l.length ∧ Row h v l.length 1 (l.map (Value.int .i64)) ∧ ∀ b, blkOf v = some b → c ≤ b := by
 rcases x with ⟨rfl, rfl⟩ | ⟨b, rfl, rfl, h1⟩ | ⟨b, rfl, _, h1, h2⟩
 ·exact ⟨_, rfl, .inl ⟨rfl, rfl, _, _, rfl⟩, fun b hb => by cases hb⟩
 ·exact ⟨_, rfl, .inl ⟨rfl, rfl, _, _, rfl⟩, fun b hb => by cases hb; exact h1⟩
 ·exact ⟨_, rfl, .inr ⟨b, 0, _, _, _, rfl, h2.cel, subN_all _ _ (by rw [List.length_map, Nat.mul_one])⟩, fun b hb => by cases hb; exact h1⟩
theorem CRow.keep {h h' : T AObj} {c : Nat} {v : Value} {l : List Int} (x : CRow h c v l) (k : ∀ b, blkOf v = some b → l ≠ [] → h'.get b = h.get b) : CRow h' c v l := by
 rcases x with x | x | ⟨b, rfl, x1, x2, x3⟩
 ·exact .inl x
 ·exact .inr (.inl x)
 ·exact .inr (.inr ⟨b, rfl, x1, x2, (k b rfl x1).trans x3⟩)
section
variable {h : T AObj} {c : Nat} {rl wl : List Nat}
theorem cloneI_spec (hf : Fresh h c) {oa : Option Addr} {cap : Nat} {l : List Int} (hx : Row h (.slice oa l.length cap) l.length 1 (l.map (Value.int .i64))) (hz : oa = none → cap = 0 ∧ l = []) (hn : l.length ≤ 1000) (R : Nat → Prop) (hR : ∀ b, blkOf (.slice oa l.length cap) = some b → R b) :
  ∃ r s', FnTo (Cs smQ) eg 81 [.slice oa l.length cap] ⟨h, c, rl, wl⟩ r s' ∧ CRow s'.h c r l ∧ Ext ⟨h, c, rl, wl⟩ s' R (fun _ => False) := by
 have hbg : big = 1048576 := rfl
 refine Fn.go (stdQ 81 rfl) ex81 fn81 km81 rfl rfl ?_
 refine Zev ?_
 cases oa with
 | none =>
  obtain ⟨rfl, rfl⟩ := hz rfl
  refine Zgo ?_
  exact ⟨.inr rfl, Wres.one rfl ⟨.inl ⟨rfl, rfl⟩, Zex⟩⟩
 | some a =>
  obtain ⟨ab, ao, asp⟩ := a
  by_cases h0 : l = []
  ·subst h0
   refine Zgo ?_
   refine Zu (to_appZero ro45 sl45 rfl rfl (by omega)) ?_
   refine Zgo ?_
   exact ⟨.inr rfl, Wres.one rfl ⟨.inr (.inl ⟨c, rfl, rfl, Nat.le_refl _⟩), Zex⟩⟩
  ·obtain ⟨n, hl⟩ : ∃ n, l.length = n + 1 := ⟨l.length - 1, by have : l.length ≠ 0 := fun e => h0 (List.length_eq_zero_iff.1 e); omega⟩
   rcases hx with ⟨e0, _⟩ | ⟨b, o, sp, cap', cs, e1, e2, e3⟩
   ·omega
   simp only [Value.slice.injEq, Option.some.injEq, Addr.mk.injEq] at e1
   obtain ⟨⟨rfl, rfl, rfl⟩, _, rfl⟩ := e1
   have lb := e2.lt hf
   have rb := hR ab rfl
   rw [hl] at e3 ⊢
   refine Zgo ?_
   refine Zu (to_appEx ro45 sl45 rfl rfl (e2.other (by omega)) (by omega) e3 (by omega) Zfr) ?_
   refine Zgo ?_
   exact ⟨.inr rfl, Wres.one rfl ⟨.inr (.inr ⟨c + 1, by rw [hl]; rfl, h0, by omega, Has.same⟩), Zex⟩⟩
def K150 : List Nat := [0, 1, 4, 5, 6, 7, 12, 19, 29]
set_option maxHeartbeats 8000000 in
theorem delf_spec (hf : Fresh h c) {c0 f : Nat} {v : Value} {l : List Int} {caps : List Value} (P : Int → Bool) (hx : CRow h c0 v l) (hn : l.length ≤ 1000) (R : Nat → Prop) (hR : ∀ b, blkOf v = some b → R b)
  (hcl : ∀ (h' : T AObj) (c' : Nat) (rl' wl' : List Nat), Fresh h' c' → c ≤ c' → Kp h h' c (fun b => blkOf v = some b) → ∀ x ∈ l, ∃ r s', FnTo (Cs smQ) eg f (.int .i64 x :: caps) ⟨h', c', rl', wl'⟩ r s' ∧ r = .bool (P x) ∧ Ext ⟨h', c', rl', wl'⟩ s' R (fun _ => False)) :
  ∃ r s', FnTo (Cs smQ) eg 150 [v, .func (.func f) #[] ⟨caps⟩] ⟨h, c, rl, wl⟩ r s' ∧ ((∃ oa cap, r = .slice oa (l.filter fun x => !P x).length cap ∧ (l.filter fun x => !P x).length ≤ cap) ∧ Row s'.h r (l.filter fun x => !P x).length 1 ((l.filter fun x => !P x).map (Value.int .i64)) ∧ ∀ b, blkOf r = some b → blkOf v = some b) ∧ Ext ⟨h, c, rl, wl⟩ s' R (fun b => blkOf v = some b) := by
 have hbg : big = 1048576 := rfl
 have hx0 := hx
 obtain ⟨oa, rfl, hrow, hcb⟩ := hx.val
 refine Fn.go (stdQ 150 rfl) ex150 fn150 km150 rfl rfl ?_
 refine Zev ?_
 refine Zgo ?_
 refine Wseq.call rfl rfl (gidx_spec Zfr P hrow (by omega) R hR (fun h' c' rl' wl' f' hc' k' x hx => hcl h' c' rl' wl' f' hc' (fun b hb _ => k' b hb (fun q => q)) x hx)) ?_
 rintro v1 h1 c1 r1 w1 ⟨hix, hext1⟩
 have fr1 := hext1.fresh
 have le1 := hext1.c
 simp only at fr1 le1
 have kp1 := Kp.ext (W := fun b => blkOf (.slice oa l.length l.length) = some b) (h := h) (c := c) Zkp hext1 (by omega) (fun _ _ q => q.elim)
 have lr1 := Lg.extR (R := R) (c := c) Zlg hext1 (fun _ _ q => q)
 have lw1 := Lg.extW (W := fun b => blkOf (.slice oa l.length l.length) = some b) (c := c) Zlg hext1 (fun _ _ q => q.elim)
 rcases hix with ⟨i0, x0, hi0, hP0, hPn, rfl⟩ | ⟨rfl, hno⟩
 rotate_left
 ·have hfl : l.filter (fun x => !P x) = l := List.filter_eq_self.2 fun x hx => by rw [hno x hx]; rfl
  rw [hfl]
  refine Zgo ?_
  exact ⟨.inr rfl, Wres.one rfl ⟨⟨⟨_, _, rfl, Nat.le_refl _⟩, Row.keepF hrow hf (fun b hb => hext1.h b hb (fun q => q)), fun b hb => hb⟩, Zex⟩⟩
 obtain ⟨hi0l, hi0x⟩ := List.getElem?_eq_some_iff.1 hi0
 rcases hx0 with ⟨e, rfl⟩ | ⟨_, _, rfl, _⟩ | ⟨b, e, hne, hcb0, hB⟩
 ·cases hi0l
 ·cases hi0l
 simp only [Value.slice.injEq] at e
 obtain ⟨rfl, _, _⟩ := e
 have lb := hB.lt hf
 have rb := hR b rfl
 have hB1 : Has h1 b _ := hext1.hs hB lb (fun q => q)
 have hFt : (l.take i0).filter (fun x => !P x) = l.take i0 := List.filter_eq_self.2 fun x hx => by rw [hPn x hx]; rfl
 have hF1 : (l.take (i0 + 1)).filter (fun x => !P x) = l.take i0 := by
  rw [List.take_succ_eq_append_getElem hi0l, List.filter_append, hFt, hi0x, List.filter_cons, hP0]; simp
 have hlt : (l.take i0).length = i0 := by rw [List.length_take]; omega
 refine Zgo ?_
 refine Wx.loopF (fun k1 e s => ∃ (g : Nat → Value) (j : Nat) (zi z : Int) (Mid : List Int) (h' : T AObj) (c' : Nat) (rl' wl' : List Nat), e = fr g [(0, .slice (some ⟨b, 0, some 1⟩) l.length l.length), (1, .func (.func f) #[] ⟨caps⟩), (5, .int .i64 zi), (6, .int .i64 z)] K150 ∧ z = j ∧ zi = (((l.take j).filter (fun x => !P x)).length : Nat) ∧ s = ⟨h', c', rl', wl'⟩ ∧ c ≤ c' ∧ Fresh h' c' ∧ Kp h h' c (fun b' => blkOf (.slice (some ⟨b, 0, some 1⟩) l.length l.length) = some b') ∧ Has h' b (.cells (((l.take j).filter (fun x => !P x) ++ Mid ++ l.drop j).map (Value.int .i64))) ∧ ((l.take j).filter (fun x => !P x)).length + Mid.length = j ∧ 0 < Mid.length ∧ Lg c R rl' ∧ Lg c (fun b' => blkOf (.slice (some ⟨b, 0, some 1⟩) l.length l.length) = some b') wl' ∧ j ≤ l.length ∧ k1 = l.length - j) (l.length - (i0 + 1)) K150 [(0, _), (1, _), (5, .int .i64 (i0 : Int)), (6, .int .i64 ((i0 : Int) + 1))] ⟨_, i0 + 1, _, _, [x0], _, _, _, _, rfl, by omega, by rw [hF1, hlt], rfl, le1, fr1, kp1, by rw [hF1, ← hi0x, ← List.take_succ_eq_append_getElem hi0l, List.take_append_drop]; exact hB1, by rw [hF1, hlt]; rfl, by simp, lr1, lw1, by omega, rfl⟩ ?_
 rintro k1 e s ⟨g, j, zi, z, Mid, h', c', rl', wl', rfl, hz, hzi, rfl, hcc, hf', hkp, hB', hMl, hM0, hlr, hlw, hid, rfl⟩
 (refine Wx.sw (by simp only [K150, frN, frC, updN, updC, Nat.reduceEqDiff, ↓reduceIte]; rfl) ?_)
 have hcl2 : (((l.take j).filter (fun x => !P x) ++ Mid ++ l.drop j).map (Value.int .i64)).length = l.length := by rw [List.length_map, List.length_append, List.length_append, List.length_drop]; omega
 by_cases hj : j < l.length
 rotate_left
 ·obtain rfl : j = l.length := by omega
  rw [List.take_length] at hzi hMl
  rw [List.take_length, List.drop_length, List.append_nil] at hB'
  generalize hFF : l.filter (fun x => !P x) = FF at hzi hMl hB'
  refine Zgo ?_
  refine Zu (to_sliceOwn (k := FF.length) el45 rfl rfl hzi (by omega) (by omega)) ?_
  obtain ⟨m', hm'⟩ : ∃ m', l.length - FF.length = m' + 1 := ⟨l.length - FF.length - 1, by omega⟩
  rw [hm']
  have hsm : setMany (rep [Value.int .i64 0] (m' + 1)) ((FF ++ Mid).map (Value.int .i64)) (0 + FF.length * 1) = some (FF.map (Value.int .i64) ++ rep [Value.int .i64 0] (m' + 1)) := by
   have hr : (rep [Value.int .i64 0] (m' + 1)).length = m' + 1 := by rw [rep_length]; simp
   rw [setMany_eq _ _ _ (by rw [hr, List.length_map, List.length_append]; omega) (fun x hx => by
    have : ∀ n, ∀ x ∈ rep [Value.int .i64 0] n, atom x = true := by
     intro n
     induction n with
     | zero => intro x hx; cases hx
     | succ n ih =>
      intro x hx
      rcases List.mem_cons.1 (show x ∈ Value.int .i64 0 :: rep [Value.int .i64 0] n from hx) with rfl | hx
      ·rfl
      ·exact ih x hx
    exact this _ x hx), hr, List.map_append]
   congr 1
   rw [Nat.zero_add, Nat.mul_one, List.take_left' (by rw [List.length_map]), List.drop_of_length_le (by rw [List.length_append, List.length_map, List.length_map]; omega), List.append_nil]
  refine Wseq.st0 (to_clear ro45 rfl hB' (by omega) hsm) ?_
  refine Zgo ?_
  refine Zu (to_sliceHi (k := FF.length) el45 rfl rfl hzi (by omega) (fun a ha => by cases ha; exact .inr rfl)) ?_
  refine Zgo ?_
  refine ⟨.inr rfl, Wres.one rfl ⟨⟨⟨_, _, rfl, by omega⟩, .inr ⟨b, 0, _, _, _, rfl, Has.same.cel, ?_⟩, fun b' hb => hb⟩, Zex⟩⟩
  rw [Nat.mul_one]
  refine (subN_app (a := FF.length) (b := m' + 1) (y := rep [Value.int .i64 0] (m' + 1)) (subN_all _ _ ?_) (by rw [List.length_map])).1
  rw [List.length_append, List.length_map, rep_length]; simp
 have hdr : l.drop j = l[j] :: l.drop (j + 1) := List.drop_eq_getElem_cons hj
 have hnj : nth (((l.take j).filter (fun x => !P x) ++ Mid ++ l.drop j).map (Value.int .i64)) (0 + j * 1) = some (.int .i64 l[j]) := by
  rw [nth_eq, Nat.zero_add, Nat.mul_one, List.getElem?_map, List.getElem?_append_right (by rw [List.length_append]; omega), List.length_append, show j - (((l.take j).filter (fun x => !P x)).length + Mid.length) = 0 by omega, hdr]
  rfl
 have hFs : (l.take (j + 1)).filter (fun x => !P x) = (l.take j).filter (fun x => !P x) ++ (if P l[j] = true then [] else [l[j]]) := by
  rw [List.take_succ_eq_append_getElem hj, List.filter_append, List.filter_cons]
  cases P l[j] <;> simp
 generalize hFF : (l.take j).filter (fun x => !P x) = FF at hzi hMl hB' hFs hnj hcl2
 have lb' := hB'.lt hf'
 refine Zgo ?_
 refine Zu (to_indexAddr (k := j) el45 rfl rfl hz (by omega)) ?_
 refine Zu (to_load (pl_ rfl) rfl hB'.cel lb' hnj) ?_
 refine Zgo ?_
 refine Wseq.callV rfl rfl rfl (hcl _ _ _ _ Zfr hcc hkp l[j] (List.getElem_mem hj)) ?_
 rintro v3 h3 c3 r3 w3 ⟨rfl, hext3⟩
 have fr3 := hext3.fresh
 have le3 := hext3.c
 simp only at fr3 le3
 have kp3 := Kp.ext (W := fun b' => blkOf (.slice (some ⟨b, 0, some 1⟩) l.length l.length) = some b') (h := h) (c := c) hkp hext3 (by omega) (fun _ _ q => q.elim)
 have lr3 := Lg.extR (R := R) (c := c) Zlg hext3 (fun _ _ q => q)
 have lw3 := Lg.extW (W := fun b' => blkOf (.slice (some ⟨b, 0, some 1⟩) l.length l.length) = some b') (c := c) Zlg hext3 (fun _ _ q => q.elim)
 have hB3 := hext3.hs hB' lb' (fun q => q)
 cases hP : P l[j]
 ·rw [hP] at hFs
  simp only [Bool.false_eq_true, if_false] at hFs
  obtain ⟨m0, Mid', rfl⟩ : ∃ m0 Mid', Mid = m0 :: Mid' := by cases Mid with | nil => simp at hM0 | cons a b => exact ⟨a, b, rfl⟩
  have hsm : setMany [Value.int .i64 l[j]] ((FF ++ m0 :: Mid' ++ l.drop j).map (Value.int .i64)) (0 + FF.length * 1) = some ((FF ++ [l[j]] ++ (Mid' ++ [l[j]]) ++ l.drop (j + 1)).map (Value.int .i64)) := by
   have e0 : FF ++ m0 :: Mid' ++ l.drop j = FF ++ (m0 :: (Mid' ++ l.drop j)) := by simp
   rw [setMany_eq _ _ _ (by rw [hcl2]; simp; omega) (all_cons rfl all_nil), e0]
   congr 1
   rw [Nat.zero_add, Nat.mul_one, List.map_append, List.map_cons, List.take_left' (by rw [List.length_map]), List.drop_append, List.length_map, List.drop_of_length_le (by rw [List.length_map]; simp)]
   have e1 : FF.length + [Value.int .i64 l[j]].length - FF.length = 1 := by simp
   rw [e1, hdr]
   simp
  refine Zgo ?_
  refine Zu (to_indexAddr (k := FF.length) el45 rfl rfl hzi (by simp only [List.length_cons] at hMl; omega)) ?_
  ((with_reducible apply Wseq.so); rfl; exact (sz_ rfl); rfl; exact hB3; omega; refine Znv ?_; refine ⟨_, _, (by (first | exact cellsA_agg _ | rfl)), rfl, hsm, ?_⟩)
  refine Zgo ?_
  refine RoundE.goF (l.length - (j + 1)) K150 [(0, _), (1, _), (5, .int .i64 (zi + 1)), (6, .int .i64 (z + 1))] (by omega) ⟨_, j + 1, _, _, Mid' ++ [l[j]], _, _, _, _, rfl, by omega, by rw [hFs, List.length_append]; simp; omega, rfl, by omega, Zfr, Zkp, by rw [hFs]; exact Has.same, by rw [hFs, List.length_append, List.length_append]; simp only [List.length_cons, List.length_nil] at hMl ⊢; omega, by rw [List.length_append]; simp, Zlg, Zlg, by omega, rfl⟩
 ·rw [hP] at hFs
  simp only [if_true, List.append_nil] at hFs
  refine Zgo ?_
  refine RoundE.goF (l.length - (j + 1)) K150 [(0, _), (1, _), (5, .int .i64 zi), (6, .int .i64 (z + 1))] (by omega) ⟨_, j + 1, _, _, Mid ++ [l[j]], _, _, _, _, rfl, by omega, by rw [hFs]; exact hzi, rfl, by omega, fr3, kp3, ?_, by rw [hFs, List.length_append]; simp only [List.length_cons, List.length_nil]; omega, by rw [List.length_append]; simp, lr3, lw3, by omega, rfl⟩
  rw [hFs, show FF ++ (Mid ++ [l[j]]) ++ l.drop (j + 1) = FF ++ Mid ++ l.drop j by rw [hdr]; simp]
  exact hB3
end
end Go.Ab.Seat
end
