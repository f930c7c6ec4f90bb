import Derived.Test.YtofikbfljjjgeaaGreatDoorDF4
import Derived.Test.YtofikbfljjjgeaaGreatDoorDI1
set_option linter.unusedVariables false
set_option linter.unusedSimpArgs false
section
/- The best of some (the abstract machine). -/
namespace Go.Ab.Seat
open Go.Extern Go.Proofs
set_option maxRecDepth 4000
variable {sm : Nat → Option (List Value → M Value)}
theorem cloneH_spec (H : Std sm) {h : T AObj} {c : Nat} {rl wl : List Nat} (hf : Fresh h c) {lv : Value} {l : List Ht} (hl : Best h lv l.length (flatH l)) (hn : l.length ≤ 1000) :
  ∃ r s', FnTo (Cs sm) eg 201 [lv] ⟨h, c, rl, wl⟩ r s' ∧ (Best s'.h r l.length (flatH l) ∧ ∀ b, blkOf r = some b → c ≤ b) ∧ Ext ⟨h, c, rl, wl⟩ s' (fun b => blkOf lv = some b) (fun _ => False) := by
 have hbg : big = 1048576 := rfl
 rcases _root_.id hl with ⟨rfl, h1, h2⟩ | ⟨b, cap, cs, rfl, h1, h2, h3, h4⟩
 ·refine Fn.go (H 201 rfl) ex201 fn201 km201 rfl rfl ?_
  refine Zev ?_
  refine Zgo ?_
  refine ⟨.inr rfl, Wres.one rfl ⟨⟨.inl ⟨rfl, h1, h2⟩, (fun b hb => by cases hb)⟩, ?_⟩⟩
  exact Zex
 ·have lb := h3.lt hf
  have hRb : blkOf (.slice (some ⟨b, 0, some 2⟩) l.length cap) = some b := rfl
  obtain ⟨m, hm⟩ : ∃ m, l.length = m + 1 := ⟨l.length - 1, by omega⟩
  rw [hm] at h1 h2 h4 hn hRb ⊢
  refine Fn.go (H 201 rfl) ex201 fn201 km201 rfl rfl ?_
  refine Zev ?_
  refine Zgo ?_
  refine Zu (to_appEx ro37 sl37 rfl rfl (h3.other (by omega)).cel (by omega) h4 (by omega) Zfr) ?_
  refine Zgo ?_
  refine ⟨.inr rfl, Wres.one rfl ⟨⟨.inr ⟨c + 1, _, _, rfl, by omega, Nat.le_refl _, Has.same, subN_all _ _ (by rw [flatH_len]; omega)⟩, (fun b hb => by cases hb; exact Nat.le_succ c)⟩, ?_⟩⟩
  exact Zex
theorem all_spec (H : Std sm) {h : T AObj} {c : Nat} {rl wl : List Nat} (hf : Fresh h c) {p : Nat} {kv lv : Value} {l : List Ht} (hp : Has h p (.cells [lv, kv])) (hl : Best h lv l.length (flatH l)) (hn : l.length ≤ 1000) :
  ∃ r s', FnTo (Cs sm) eg 140 [.pointer (some ⟨p, 0, none⟩)] ⟨h, c, rl, wl⟩ r s' ∧ (Best s'.h r l.length (flatH l) ∧ ∀ b, blkOf r = some b → c ≤ b) ∧ Ext ⟨h, c, rl, wl⟩ s' (fun b => b = p ∨ blkOf lv = some b) (fun _ => False) := by
 have lp := hp.lt hf
 refine Fn.go (H 140 rfl) ex140 fn140 km140 rfl rfl ?_
 refine Zev ?_
 refine Zgo ?_
 refine Wseq.call rfl rfl (cloneH_spec H Zfr hl hn) ?_
 rintro v h1 c1 r1 w1 ⟨⟨g1, g2⟩, hext⟩
 have kp := Kp.ext (W := fun _ => False) (h := h) (c := c) Zkp hext (by omega) (fun _ _ q => q)
 have lr := Lg.extR (R := fun b => b = p ∨ blkOf lv = some b) (c := c) Zlg hext (fun q hq hb => .inr hb)
 have lw := Lg.extW (W := fun _ => False) (c := c) Zlg hext (fun _ _ q => q)
 have fr1 := hext.fresh
 have le1 := hext.c
 simp only at le1 fr1
 refine Zgo ?_
 refine ⟨.inr rfl, Wres.one rfl ⟨⟨g1, g2⟩, ?_⟩⟩
 exact Zex
def EOf (k : Int) (oa : Option Addr) (n cap p : Nat) (z : Int) (j7 j13 : Value) : L :=
 .cons 0 (.int .i64 k) (.cons 1 (.slice oa n cap) (.cons 4 (.slice none 0 0) (.cons 5 (.pointer (some ⟨p, 0, none⟩)) (.cons 10 (.slice oa n cap) (.cons 11 (.int .i64 (n : Int)) (.cons 12 (.int .i64 z) (.cons 7 j7 (.cons 13 j13 .nil))))))))
set_option maxHeartbeats 4000000 in
theorem of_spec (H : Std sm) (HI : sm 200 = some gIns) {h : T AObj} {c : Nat} {rl wl : List Nat} (hf : Fresh h c) {k : Int} {kk : Nat} {oa : Option Addr} {cap : Nat} {l : List Ht} (hx : Row h (.slice oa l.length cap) l.length 2 (flatH l)) (hk : max k 0 = (kk : Int)) (hkk : kk ≤ 1000) (hn : l.length ≤ 800) (R : Nat → Prop) (hR : ∀ x, blkOf (.slice oa l.length cap) = some x → R x) :
  ∃ r s', FnTo (Cs sm) eg 79 [.int .i64 k, .slice oa l.length cap] ⟨h, c, rl, wl⟩ r s' ∧ (Best s'.h r (bestOf kk l).length (flatH (bestOf kk l)) ∧ ∀ b, blkOf r = some b → c ≤ b) ∧ Ext ⟨h, c, rl, wl⟩ s' R (fun _ => False) := by
 refine Fn.go (H 79 rfl) ex79 fn79 km79 rfl rfl ?_
 refine Zev ?_
 refine Zgo ?_
 refine Wseq.call rfl rfl (bnew_spec H Zfr k) ?_
 rintro v h1 c1 r1 w1 ⟨⟨rfl, hp1, e1⟩, hext⟩
 simp only at e1
 subst e1
 rw [hk] at hp1
 have kp := Kp.ext (W := fun _ => False) (h := h) (c := c) Zkp hext (by omega) (fun _ _ q => q)
 have lr := Lg.extR (R := R) (c := c) Zlg hext (fun q hq hb => hb.elim)
 have lw := Lg.extW (W := fun _ => False) (c := c) Zlg hext (fun _ _ q => q)
 have fr1 := hext.fresh
 simp only at fr1
 refine Zgo ?_
 refine Wx.cutO (fun e s => ∃ (j7 j13 lv : Value) (h' : T AObj) (c' : Nat) (rl' wl' : List Nat), e = EOf k oa l.length cap c l.length j7 j13 ∧ s = ⟨h', c', rl', wl'⟩ ∧ c + 1 ≤ c' ∧ Fresh h' c' ∧ Kp h h' c (fun _ => False) ∧ Has h' c (.cells [lv, .int .i64 (kk : Int)]) ∧ Best h' lv (bestOf kk l).length (flatH (bestOf kk l)) ∧ (∀ b, blkOf lv = some b → c < b) ∧ Lg c R rl' ∧ Lg c (fun _ => False) wl') Zrs ?_ ?_
 ·refine Wx.loopE (fun k1 e s => ∃ (i : Nat) (z : Int) (j7 j13 lv : Value) (h' : T AObj) (c' : Nat) (rl' wl' : List Nat), e = EOf k oa l.length cap c z j7 j13 ∧ z = i ∧ s = ⟨h', c', rl', wl'⟩ ∧ c + 1 ≤ c' ∧ Fresh h' c' ∧ Kp h h' c (fun _ => False) ∧ Has h' c (.cells [lv, .int .i64 (kk : Int)]) ∧ Best h' lv (bestOf kk (l.take i)).length (flatH (bestOf kk (l.take i))) ∧ (∀ b, blkOf lv = some b → c < b) ∧ Lg c R rl' ∧ Lg c (fun _ => False) wl' ∧ i ≤ l.length ∧ k1 = l.length - i) l.length (EOf k oa l.length cap c 0 top top) Zrs ?_ ?_ ?_
  ·unfold EOf
   exact Zek
  ·exact ⟨0, 0, _, _, _, _, _, _, _, rfl, rfl, rfl, Nat.le_refl _, fr1, kp, hp1, .inl ⟨rfl, rfl, rfl⟩, (fun b hb => by cases hb), Zlg, Zlg, by omega, rfl⟩
  ·rintro k1 e s ⟨i, z, j7, j13, lv, h', c', rl', wl', rfl, hz, rfl, hcc, hf', hkp, hp', hb', hlv, hlr, hlw, hid, rfl⟩
   unfold EOf
   by_cases hi : i < l.length
   ·have hx' := Row.keepF hx hf (fun b hb => hkp b hb (fun q => q))
    obtain ⟨b1, o1, sp1, cs1, rfl, hc1, hs1⟩ := rowB hx' (by omega)
    have hR1 := hR b1 rfl
    have l1 := hc1.lt hf'
    have hg := sub_hit hs1 (List.getElem?_eq_getElem hi)
    have hlen := bestOf_len kk (l.take i)
    rw [List.length_take] at hlen
    refine Zgo ?_
    refine Zu (to_indexAddr (k := i) el37 rfl rfl hz (by omega)) ?_
    refine Zu (to_loadS ag52 rfl hc1 (by omega) hg) ?_
    refine Zgo ?_
    have hlt : ∀ b, blkOf lv = some b → b < c' := by
     intro b hb
     rcases hb' with ⟨rfl, _⟩ | ⟨b', cap', cs, rfl, _, _, q3, _⟩
     ·cases hb
     ·cases hb; exact q3.lt hf'
    refine Wseq.call rfl rfl (bput_spec H HI Zfr (x := l[i]) Zhs (hb'.keep fun b hb => ?_) (fun b hb => by have := hlv b hb; omega) (by omega) hkk) ?_
    ·have := hlt b hb
     exact (get_other (by omega)).trans (get_other (by omega))
    rintro v h2 c2 r2 w2 ⟨⟨lv', g1, g2, g3⟩, hext2⟩
    have kp2 := Kp.ext (W := fun _ => False) (h := h) (c := c) Zkp hext2 (by omega) (fun b hb q => by rcases q with q | q; (· omega); (· have := hlv b q; omega))
    have lr2 := Lg.extR (R := R) (c := c) Zlg hext2 (fun b hb q => by rcases q with q | q; (· omega); (· have := hlv b q; omega))
    have lw2 := Lg.extW (W := fun _ => False) (c := c) Zlg hext2 (fun b hb q => by rcases q with q | q; (· omega); (· have := hlv b q; omega))
    have fr2 := hext2.fresh
    have le2 := hext2.c
    simp only at le2 fr2
    refine Zgo ?_
    refine RoundE.go (l.length - (i + 1)) (EOf k _ l.length cap c (z + 1) _ _) (by omega) Zek ⟨i + 1, z + 1, _, _, lv', _, _, _, _, rfl, by omega, rfl, by omega, fr2, kp2, g1, ?_, ?_, Zlg, Zlg, by omega, rfl⟩
    ·rw [bestOf_take hi]; exact g2
    ·intro b hb
     rcases g3 b hb with q | q
     ·exact hlv b q
     ·omega
   ·refine Zgo ?_
    obtain rfl : i = l.length := by omega
    subst hz
    rw [List.take_length] at hb'
    exact CutQ.go (EOf k _ l.length cap c l.length _ _) Zek ⟨_, _, _, _, _, _, _, rfl, rfl, hcc, hf', hkp, hp', hb', hlv, Zlg, Zlg⟩
 ·rintro e s ⟨j7, j13, lv, h', c', rl', wl', rfl, rfl, hcc, hf', hkp, hp', hb', hlv, hlr, hlw⟩
  unfold EOf
  refine Zgo ?_
  have := bestOf_len kk l
  refine Wseq.call rfl rfl (all_spec H Zfr hp' hb' (by omega)) ?_
  rintro v h2 c2 r2 w2 ⟨⟨g1, g2⟩, hext2⟩
  have kp2 := Kp.ext (W := fun _ => False) (h := h) (c := c) Zkp hext2 (by omega) (fun b hb q => q)
  have lr2 := Lg.extR (R := R) (c := c) Zlg hext2 (fun b hb q => by rcases q with q | q; (· omega); (· have := hlv b q; omega))
  have lw2 := Lg.extW (W := fun _ => False) (c := c) Zlg hext2 (fun b hb q => q)
  have fr2 := hext2.fresh
  have le2 := hext2.c
  simp only at le2 fr2
  refine Zgo ?_
  refine ⟨.inr rfl, Wres.one rfl ⟨⟨g1, fun b hb => by have := g2 b hb; omega⟩, ?_⟩⟩
  exact Zex
end Go.Ab.Seat
end
section
/- A flat index: one is let go; the ids; a search (the abstract machine). -/
namespace Go.Ab.Seat
open Go.Extern Go.Proofs
set_option maxRecDepth 4000
theorem fids_spec {h : T AObj} {c : Nat} {rl wl : List Nat} (hf : Fresh h c) {p m dim : Nat} {mt : Int} {M : List Rc} {U : Nat → Prop} (q : FlatM h p m mt dim M U) (hn : M.length ≤ 1000) :
  ∃ r s', FnTo (Cs smQ) eg 78 [.pointer (some ⟨p, 0, none⟩)] ⟨h, c, rl, wl⟩ r s' ∧ Own s'.h c r M.length ((M.map Rc.id).map (Value.int .i64)) ∧ Ext ⟨h, c, rl, wl⟩ s' U (fun _ => False) := by
 obtain ⟨es, n, hm, ⟨ids, h2⟩, h3⟩ := q.ex
 have hp := q.ptr
 obtain ⟨lp, lm⟩ := q.lt hf
 have hpU := q.pU
 have hmU := q.mU
 have hs := FlatM.ids h2 q.rises h3
 have hlen : ids.length = M.length := by
  have := congrArg List.length hs
  rw [(sortI_perm ids).length_eq, List.length_map] at this
  exact this
 have hk := h2.keyInts
 refine Fn.go (stdQ 78 rfl) ex78 fn78 km78 rfl rfl ?_
 refine Zev ?_
 refine Zgo ?_
 refine Wseq.call rfl rfl (keys_spec stdQ Zfr) ?_
 rintro v1 h1 c1 r1 w1 ⟨rfl, e1⟩
 cases e1
 cases ids with
 | nil =>
  obtain rfl : M = [] := by cases M with | nil => rfl | cons _ _ => simp at hlen
  refine Wseq.call rfl rfl (sorted_none Zfr Zhs Zhs hk) ?_
  rintro v1 h1 c1 r1 w1 ⟨rfl, e1⟩
  cases e1
  refine Zgo ?_
  refine ⟨.inr rfl, Wres.one rfl ⟨.inl ⟨rfl, rfl, rfl⟩, ?_⟩⟩
  exact Zex
 | cons x0 xs0 =>
  refine Wseq.call rfl rfl (sorted_some Zfr Zhs Zhs hk (by omega)) ?_
  rintro v1 h1 c1 r1 w1 ⟨rfl, e1⟩
  cases e1
  rw [hs, hlen]
  refine Zgo ?_
  refine ⟨.inr rfl, Wres.one rfl ⟨.inr ⟨c + 1, _, _, rfl, Nat.le_refl _, by omega, Has.same⟩, ?_⟩⟩
  exact Zex
def intsV (xs : List Value) : List Int := xs.map fun v => match v with | .int _ z => z | _ => 0
theorem intsV_ints (zs : List Int) : intsV (zs.map (Value.int .i32)) = zs := by
 unfold intsV
 rw [List.map_map]
 exact List.map_id zs
def hitR (mt : Int) (qs : List Int) (r : Rc) : Ht := ⟨r.id, scoreZ mt qs (intsV r.xs)⟩
def hitsM (mt : Int) (qs : List Int) (M : List Rc) : List Ht := M.map (hitR mt qs)
def HL (h : T AObj) (c0 : Nat) (v : Value) (l : List Ht) : Prop := (v = .slice none 0 0 ∧ l = []) ∨ ∃ b, v = .slice (some ⟨b, 0, some 2⟩) l.length l.length ∧ l ≠ [] ∧ c0 ≤ b ∧ Has h b (.cells (flatH l))
theorem HL.val {h : T AObj} {c : Nat} {v : Value} {l : List Ht} (x : HL h c v l) : ∃ oa, v = .slice oa l.length l.length ∧ Row h v l.length 2 (flatH l) ∧ ∀ b, blkOf v = some b → c ≤ b := by
 rcases x with ⟨rfl, rfl⟩ | ⟨b, rfl, _, h1, h2⟩
 ·exact ⟨_, rfl, .inl ⟨rfl, rfl, _, _, rfl⟩, fun b hb => by cases hb⟩
 ·exact ⟨_, rfl, .inr ⟨b, 0, _, _, _, rfl, h2.cel, subN_all _ _ (flatH_len l).symm⟩, fun b hb => by cases hb; exact h1⟩
def EFs (p : Nat) (qa : Option Addr) (dim qc : Nat) (k : Int) (lv : Value) (oi : Option Addr) (n ic : Nat) (z : Int) (j9 j14 : Value) : L :=
 .cons 0 (.pointer (some ⟨p, 0, none⟩)) (.cons 1 (.slice qa dim qc) (.cons 2 (.int .i64 k) (.cons 6 (.slice none 0 0) (.cons 7 lv (.cons 11 (.slice oi n ic) (.cons 12 (.int .i64 (n : Int)) (.cons 13 (.int .i64 z) (.cons 9 j9 (.cons 14 j14 .nil)))))))))
set_option maxHeartbeats 4000000 in
theorem fsearch_spec {h : T AObj} {c : Nat} {rl wl : List Nat} (hf : Fresh h c) {p m dim : Nat} {mt : Int} {M : List Rc} {U : Nat → Prop} (q : FlatM h p m mt dim M U) (hmt : mt = 1 ∨ mt = 2) {qa : Option Addr} {qc : Nat} {qs : List Int} (hq : Row h (.slice qa dim qc) dim 1 (qs.map (Value.int .i32))) (hqn : qs.length = dim) (hqb : Bnd qs) (hd : dim ≤ 1000) (k : Int) {kk : Nat} (hk : max k 0 = (kk : Int)) (hkk : kk ≤ 1000) (hn : M.length ≤ 800) (R : Nat → Prop) (hUR : ∀ b, U b → R b) (hqR : ∀ b, blkOf (.slice qa dim qc) = some b → R b) :
  ∃ r s', FnTo (Cs smQ) eg 24 [.pointer (some ⟨p, 0, none⟩), .slice qa dim qc, .int .i64 k] ⟨h, c, rl, wl⟩ r s' ∧ (Best s'.h r (bestOf kk (hitsM mt qs M)).length (flatH (bestOf kk (hitsM mt qs M))) ∧ ∀ b, blkOf r = some b → c ≤ b) ∧ Ext ⟨h, c, rl, wl⟩ s' R (fun _ => False) := by
 have hp := q.ptr
 obtain ⟨lp, lm⟩ := q.lt hf
 have hpU := hUR p q.pU
 have hmU := hUR m q.mU
 refine Fn.go (stdQ 24 rfl) ex24 fn24 km24 rfl rfl ?_
 refine Zev ?_
 refine Zgo ?_
 refine Wseq.call rfl rfl (fids_spec Zfr q (by omega)) ?_
 rintro v1 h1 c1 r1 w1 ⟨hids, hext⟩
 have kp := Kp.ext (W := fun _ => False) (h := h) (c := c) Zkp hext (by omega) (fun _ _ q => q)
 have lr := Lg.extR (R := R) (c := c) Zlg hext (fun b hb u => hUR b u)
 have lw := Lg.extW (W := fun _ => False) (c := c) Zlg hext (fun _ _ q => q)
 have fr1 := hext.fresh
 have le1 := hext.c
 simp only at le1 fr1
 obtain ⟨oi, ic, rfl⟩ := hids.val
 have hrow1 := hids.row (by rw [List.length_map, List.length_map])
 have hlen : ∀ i, i ≤ M.length → (hitsM mt qs (M.take i)).length = i := fun i hi => by unfold hitsM; rw [List.length_map, List.length_take]; omega
 refine Zgo ?_
 refine Wx.cutO (fun e s => ∃ (lv j9 j14 : Value) (h' : T AObj) (c' : Nat) (rl' wl' : List Nat), e = EFs p qa dim qc k lv oi M.length ic M.length j9 j14 ∧ s = ⟨h', c', rl', wl'⟩ ∧ c1 ≤ c' ∧ Fresh h' c' ∧ Kp h h' c (fun _ => False) ∧ HL h' c1 lv (hitsM mt qs M) ∧ Lg c R rl' ∧ Lg c (fun _ => False) wl') Zrs ?_ ?_
 ·refine Wx.loopE (fun k1 e s => ∃ (i : Nat) (z : Int) (lv j9 j14 : Value) (h' : T AObj) (c' : Nat) (rl' wl' : List Nat), e = EFs p qa dim qc k lv oi M.length ic z j9 j14 ∧ z = i ∧ s = ⟨h', c', rl', wl'⟩ ∧ c1 ≤ c' ∧ Fresh h' c' ∧ Kp h1 h' c1 (fun _ => False) ∧ HL h' c1 lv (hitsM mt qs (M.take i)) ∧ Lg c R rl' ∧ Lg c (fun _ => False) wl' ∧ i ≤ M.length ∧ k1 = M.length - i) M.length (EFs p qa dim qc k (.slice none 0 0) oi M.length ic 0 top top) Zrs ?_ ?_ ?_
  ·unfold EFs
   exact Zek
  ·exact ⟨0, 0, _, _, _, _, _, _, _, rfl, rfl, rfl, Nat.le_refl _, fr1, Kp.refl, .inl ⟨rfl, rfl⟩, Zlg, Zlg, by omega, rfl⟩
  ·rintro k1 e s ⟨i, z, lv, j9, j14, h', c', rl', wl', rfl, hz, rfl, hcc, hf', hkp, hHL, hlr, hlw, hid, rfl⟩
   unfold EFs
   by_cases hi : i < M.length
   ·have hrow' := Row.keepF hrow1 fr1 (fun b hb => hkp b hb (fun q => q))
    have hgid : ((M.map Rc.id).map (Value.int .i64))[i]? = some (.int .i64 M[i].id) := by
     rw [List.getElem?_map, List.getElem?_map, List.getElem?_eq_getElem hi]; rfl
    obtain ⟨b1, o1, sp1, cs1, rfl, hc1, hn1⟩ := rowCell hrow' (j := i * 1) (by omega) (by rw [Nat.mul_one]; exact hgid)
    have hb1 : c ≤ b1 := by
     rcases hids with ⟨e, _⟩ | ⟨b', sp', cap', e, _, g, _⟩
     ·simp only [Value.slice.injEq] at e; cases e.1
     ·simp only [Value.slice.injEq, Option.some.injEq, Addr.mk.injEq] at e; rw [e.1.1]; exact g
    have l1 := hc1.lt hf'
    have kph : Kp h h' c (fun _ => False) := fun b hb _ => (hkp b (by omega) (fun q => q)).trans (kp b hb (fun q => q))
    have hq0 := Row.keepF hq hf (fun b hb => kph b hb (fun q => q))
    have q' := q.keep hf (fun b _ hb => kph b hb (fun q => q))
    have hp' := q'.ptr
    obtain ⟨es, n, hm', ⟨ids, h2⟩, h3⟩ := q'.ex
    obtain ⟨lp', lm'⟩ := q'.lt hf'
    obtain ⟨zs, hzs, hzl, hzb⟩ := q.ok M[i] (List.getElem_mem hi)
    obtain ⟨v, hv1, hv2, hv3⟩ : ∃ v, valI M[i].id es = some v ∧ Own h' 0 v dim (zs.map (Value.int .i32)) ∧ ∀ b, blkOf v = some b → U b := by
     rcases h3 M[i].id with ⟨e1, _⟩ | ⟨r, v, e1, e2, e3, e4⟩
     ·exact absurd rfl (getM_none.1 e1 M[i] (List.getElem_mem hi))
     ·rw [getM_some q.rises (List.getElem_mem hi) rfl] at e1
      cases e1
      rw [hzs, List.length_map, hzl] at e3
      exact ⟨v, e2, e3, fun b hb => (e4 b hb).1⟩
    obtain ⟨va, vk, rfl⟩ := hv2.val
    obtain ⟨vi, hv4⟩ := valI_some hv1
    have hvr := hv2.row (by rw [List.length_map]; exact hzl)
    refine Zgo ?_
    refine Zu (to_indexAddr (k := i) el45 rfl rfl hz (by omega)) ?_
    refine Zu (to_load (pl_ rfl) rfl hc1 (by omega) hn1) ?_
    refine Zgo ?_
    refine Zd (to_lookup (mi_ rfl) (ze_ rfl) rfl rfl hm' lm' h2.ks (by rw [hv4])) ?_
    refine Wtr.call rfl rfl (score_spec stdQ Zfr hmt hqn hzl hq0 hvr hqb hzb hd R (fun b hb => hb.elim (hqR b) (fun u => hUR b (hv3 b u)))) ?_
    rintro v h2' c2 r2 w2 ⟨⟨rfl, e1, e2⟩, hext2⟩
    simp only at e1 e2
    subst e1 e2
    have hqt := hext2.quiet (fun _ _ q => q)
    have lr2 := Lg.extR (R := R) (c := c) Zlg hext2 (fun _ _ q => q)
    have lw2 := Lg.extW (W := fun _ => False) (c := c) Zlg hext2 (fun _ _ q => q)
    refine ⟨Zap, ?_⟩
    have hhit : hitsM mt qs (M.take (i + 1)) = hitsM mt qs (M.take i) ++ [⟨M[i].id, scoreZ mt qs zs⟩] := by
     unfold hitsM
     rw [List.take_succ_eq_append_getElem hi, List.map_append]
     show _ ++ [hitR mt qs M[i]] = _
     unfold hitR
     rw [hzs, intsV_ints]
    have hfl : flatH (hitsM mt qs (M.take (i + 1))) = flatH (hitsM mt qs (M.take i)) ++ [.int .i64 M[i].id, .int .i64 (scoreZ mt qs zs)] := by rw [hhit, flatH_app]; rfl
    have hl0 := hlen i (by omega)
    have hl1 := hlen (i + 1) (by omega)
    have hbg : big = 1048576 := rfl
    rcases hHL with ⟨rfl, hnil⟩ | ⟨bl, rfl, hne, hbl, hbc⟩
    ·refine Zgo ?_
     refine Zd (to_appNil ro37 sl37 rfl rfl (k := 0) Has.same.cel (by omega) (subN_all _ _ rfl) (by omega) Zfr) ?_
     refine Zgo ?_
     refine RoundE.go (M.length - (i + 1)) (EFs p qa dim qc k _ _ M.length ic (z + 1) _ _) (by omega) Zek ⟨i + 1, z + 1, _, _, _, _, _, _, _, rfl, by omega, rfl, by omega, Zfr, Zkp, ?_, Zlg, Zlg, by omega, rfl⟩
     have hi0 : i = 0 := by rw [hnil] at hl0; simpa using hl0.symm
     refine .inr ⟨c2 + 1, ?_, ?_, by omega, ?_⟩
     ·rw [hl1, hi0]
     ·intro e; rw [e] at hl1; simp at hl1
     ·rw [hfl, hnil]; exact Has.same
    ·have l3 := hbc.lt hf'
     refine Zgo ?_
     refine Zd (to_appOwn ro37 sl37 rfl rfl (k := 0) Has.same.cel (by omega) (subN_all _ _ rfl) (by omega) (by omega) (hbc.other (by omega)) (by omega) (subN_all _ _ (flatH_len _).symm) (all_cons rfl (all_cons rfl all_nil)) Zfr) ?_
     refine Zgo ?_
     refine RoundE.go (M.length - (i + 1)) (EFs p qa dim qc k _ _ M.length ic (z + 1) _ _) (by omega) Zek ⟨i + 1, z + 1, _, _, _, _, _, _, _, rfl, by omega, rfl, by omega, Zfr, Zkp, ?_, Zlg, Zlg, by omega, rfl⟩
     refine .inr ⟨c2 + 1, ?_, ?_, by omega, ?_⟩
     ·rw [hl1, hl0]
     ·intro e; rw [e] at hl1; simp at hl1
     ·rw [hfl]; exact Has.same
   ·refine Zgo ?_
    obtain rfl : i = M.length := by omega
    subst hz
    rw [List.take_length] at hHL
    exact CutQ.go (EFs p qa dim qc k lv oi M.length ic M.length _ _) Zek ⟨_, _, _, _, _, _, _, rfl, rfl, hcc, hf', (fun b hb _ => (hkp b (by omega) (fun q => q)).trans (kp b hb (fun q => q))), hHL, Zlg, Zlg⟩
 ·rintro e s ⟨lv, j9, j14, h', c', rl', wl', rfl, rfl, hcc, hf', hkp, hHL, hlr, hlw⟩
  unfold EFs
  obtain ⟨oa, rfl, hrow, hge⟩ := hHL.val
  have hl2 := hlen M.length (Nat.le_refl _)
  rw [List.take_length] at hl2
  refine Zgo ?_
  refine Wseq.call rfl rfl (of_spec stdQ rfl Zfr hrow hk hkk (by omega) (fun b => c1 ≤ b) hge) ?_
  rintro v h2 c2 r2 w2 ⟨⟨g1, g2⟩, hext2⟩
  have kp2 := Kp.ext (W := fun _ => False) (h := h) (c := c) Zkp hext2 (by omega) (fun _ _ q => q)
  have lr2 := Lg.extR (R := R) (c := c) Zlg hext2 (fun b hb u => by omega)
  have lw2 := Lg.extW (W := fun _ => False) (c := c) Zlg hext2 (fun _ _ q => q)
  have fr2 := hext2.fresh
  have le2 := hext2.c
  simp only at le2 fr2
  refine Zgo ?_
  refine ⟨.inr rfl, Wres.one rfl ⟨⟨g1, fun b hb => by have := g2 b hb; omega⟩, ?_⟩⟩
  exact Zex
end Go.Ab.Seat
end
