import Derived.Test.YtofikbfljjjgeaaGreatDoorDW2
import Derived.Test.YtofikbfljjjgeaaGreatDoorDF2
import Derived.Test.YtofikbfljjjgeaaGreatDoorDI1
import Derived.Test.YtofikbfljjjgeaaGreatDoorDI2
import Derived.Test.YtofikbfljjjgeaaGreatDoorE48
set_option linter.unusedVariables false
set_option linter.unusedSimpArgs false
section
/- A flat index: its members as a rising list (the abstract machine). -/
namespace Go.Ab.Seat
open Go.Extern Go.Proofs
set_option maxRecDepth 4000
abbrev mbR (id : Int) (zs : List Int) : Rc := ⟨id, zs.map (Value.int .i32), .empty, 0, false⟩
def FRep (h : T AObj) (p m : Nat) (U : Nat → Prop) (r : Rc) (v : Value) : Prop := Own h 0 v r.xs.length r.xs ∧ ∀ b, blkOf v = some b → U b ∧ b ≠ p ∧ b ≠ m
def FFits (h : T AObj) (p m : Nat) (U : Nat → Prop) (o : Option Rc) (w : Option Value) : Prop := (o = none ∧ w = none) ∨ ∃ r v, o = some r ∧ w = some v ∧ FRep h p m U r v
structure FlatM (h : T AObj) (p m : Nat) (mt : Int) (dim : Nat) (M : List Rc) (U : Nat → Prop) : Prop where
 ptr : Has h p (.cells [.int .i64 mt, .map (some m)])
 ex : ∃ es n, Has h m (.map es n) ∧ (∃ ids, Keyed es n ids) ∧ ∀ x, FFits h p m U (getM x M) (valI x es)
 pU : U p
 mU : U m
 ne : p ≠ m
 rises : Rises M
 ok : ∀ r ∈ M, ∃ zs : List Int, r.xs = zs.map (Value.int .i32) ∧ zs.length = dim ∧ Bnd zs
theorem FRep.keep {h h' : T AObj} {p m c : Nat} {U U' : Nat → Prop} {r : Rc} {v : Value} (x : FRep h p m U r v) (hf : Fresh h c) (hU : ∀ b, U b → U' b) (k : ∀ b, U b → b < c → b ≠ p → b ≠ m → h'.get b = h.get b) : FRep h' p m U' r v :=
 ⟨x.1.keep fun b hb => k b (x.2 b hb).1 ((x.1.blk hb).2.lt hf) (x.2 b hb).2.1 (x.2 b hb).2.2, fun b hb => ⟨hU b (x.2 b hb).1, (x.2 b hb).2⟩⟩
theorem FFits.keep {h h' : T AObj} {p m c : Nat} {U U' : Nat → Prop} {o : Option Rc} {w : Option Value} (x : FFits h p m U o w) (hf : Fresh h c) (hU : ∀ b, U b → U' b) (k : ∀ b, U b → b < c → b ≠ p → b ≠ m → h'.get b = h.get b) : FFits h' p m U' o w := by
 rcases x with x | ⟨r, v, h1, h2, h3⟩
 ·exact .inl x
 ·exact .inr ⟨r, v, h1, h2, h3.keep hf hU k⟩
theorem FlatM.keep {h h' : T AObj} {c p m dim : Nat} {mt : Int} {M : List Rc} {U : Nat → Prop} (q : FlatM h p m mt dim M U) (hf : Fresh h c) (k : ∀ b, U b → b < c → h'.get b = h.get b) : FlatM h' p m mt dim M U := by
 obtain ⟨es, n, h1, h2, h3⟩ := q.ex
 exact ⟨(k p q.pU (q.ptr.lt hf)).trans q.ptr, ⟨es, n, (k m q.mU (h1.lt hf)).trans h1, h2, fun x => (h3 x).keep hf (fun _ q => q) fun b hb hc _ _ => k b hb hc⟩, q.pU, q.mU, q.ne, q.rises, q.ok⟩
theorem FlatM.lt {h : T AObj} {c p m dim : Nat} {mt : Int} {M : List Rc} {U : Nat → Prop} (q : FlatM h p m mt dim M U) (hf : Fresh h c) : p < c ∧ m < c := by
 obtain ⟨es, n, h1, h2, h3⟩ := q.ex
 exact ⟨q.ptr.lt hf, h1.lt hf⟩
theorem FlatM.new {h : T AObj} {p m dim : Nat} {mt : Int} (hp : Has h p (.cells [.int .i64 mt, .map (some m)])) (hm : Has h m (.map [] 0)) (hne : p ≠ m) : FlatM h p m mt dim [] (fun b => b = p ∨ b = m) :=
 ⟨hp, ⟨[], 0, hm, ⟨[], .nil 0⟩, fun x => .inl ⟨rfl, rfl⟩⟩, .inl rfl, .inr rfl, hne, Rises.nil, fun r hr => by cases hr⟩
theorem FlatM.ids {h : T AObj} {p m : Nat} {U : Nat → Prop} {M : List Rc} {n : Nat} {es : List (Value × Value × Nat)} {ids : List Int} (hk : Keyed es n ids) (hr : Rises M) (hv : ∀ x, FFits h p m U (getM x M) (valI x es)) : sortI ids = M.map Rc.id := by
 refine rises_ext (sortI_rises hk.nodup) hr.ids fun x => ?_
 rw [(sortI_perm ids).mem_iff]
 constructor
 ·intro hx
  rcases hv x with ⟨_, h4⟩ | ⟨r, v, h4, _, _⟩
  ·exact absurd hx ((findI_none_iff hk.keys).1 (valI_none.1 h4))
  ·obtain ⟨h5, h6⟩ := getM_mem h4
   exact List.mem_map.2 ⟨r, h5, h6⟩
 ·intro hx
  obtain ⟨r, h5, rfl⟩ := List.mem_map.1 hx
  refine Classical.byContradiction fun hn => ?_
  rcases hv r.id with ⟨h4, _⟩ | ⟨r', v, _, h4, _⟩
  ·exact absurd rfl (getM_none.1 h4 r h5)
  ·rw [valI_none.2 ((findI_none_iff hk.keys).2 hn)] at h4
   cases h4
theorem fput_spec {h : T AObj} {c : Nat} {rl wl : List Nat} (hf : Fresh h c) {p m dim : Nat} {mt : Int} {M : List Rc} {U : Nat → Prop} (q : FlatM h p m mt dim M U) (id : Int) (hid : -9223372036854775808 ≤ id ∧ id ≤ 9223372036854775807)
  {a : Option Addr} {cap : Nat} {zs : List Int} (hv : Row h (.slice a dim cap) dim 1 (zs.map (Value.int .i32))) (hx : zs.length = dim) (hb : Bnd zs) (hd : 1 ≤ dim) (hd' : dim ≤ 1000) (bs : Nat → Prop) (hbs : ∀ b o sp, a = some ⟨b, o, sp⟩ → bs b) (hbm : ¬bs m) :
  ∃ r s', FnTo (Cs smQ) eg 20 [.pointer (some ⟨p, 0, none⟩), .int .i64 id, .slice a dim cap] ⟨h, c, rl, wl⟩ r s' ∧ FlatM s'.h p m mt dim (putM (mbR id zs) M) (fun b => U b ∨ c ≤ b ∧ b < s'.c) ∧ Ext ⟨h, c, rl, wl⟩ s' (fun b => U b ∨ bs b) (fun b => b = m) := by
 obtain ⟨es, n, hm, ⟨ids, h2⟩, h3⟩ := q.ex
 have hp := q.ptr
 obtain ⟨lp, lm⟩ := q.lt hf
 have hpU := q.pU
 have hmU := q.mU
 refine Fn.go (stdQ 20 rfl) ex20 fn20 km20 rfl rfl ?_
 refine Zev ?_
 refine Zgo ?_
 refine Wtr.call rfl rfl (copy_spec stdQ Zfr hv (by unfold bigV; omega) (fun e => by omega) bs (fun b o sp n' cap e => hbs b o sp (by simp only [Value.slice.injEq] at e; exact e.1))) ?_
 rintro v h1 c1 r1 w1 ⟨hown, hext⟩
 have hq := hext.quiet (fun _ _ q => q)
 have kp := Kp.ext (W := fun b => b = m) (h := h) (c := c) Zkp hext (by omega) (fun _ _ q => q.elim)
 have lr := Lg.extR (R := fun b => U b ∨ bs b) (c := c) Zlg hext (fun b _ hb => .inr hb)
 have lw := Lg.extW (W := fun b => b = m) (c := c) Zlg hext (fun b _ hb => hb.elim)
 have fr1 := hext.fresh
 have le1 := hext.c
 simp only at le1 fr1
 have hm1 : Has h1 m (.map es n) := hext.hs hm lm (fun q => q)
 have hp1 := hext.hs hp lp (fun q => q)
 have hrm : ∀ b ∈ r1, b ≠ m := fun b hb => by
  rcases hext.rl b hb with u | u
  ·exact absurd u List.not_mem_nil
  ·exact fun e => hbm (e ▸ u.2)
 refine ⟨Zap, ?_⟩
 refine Zgo ?_
 refine Wtr.op (s1 := ⟨h1.set m (some (.map (putI .i64 id v n es).1 (putI .i64 id v n es).2)), c1, [m], [m]⟩) rfl (to_mapUpdate (mi_ rfl) rfl rfl rfl hm1 (hm1.lt fr1) h2.ks) ?_ ?_
 ·exact Zap
 dsimp only [put]
 refine Zgo ?_
 refine ⟨.inl rfl, Wres.nil ⟨?_, ?_⟩⟩
 ·obtain ⟨va, vk, rfl⟩ := hown.val
  refine ⟨Has.other (fun e => q.ne e) hp1, ⟨_, _, Has.same, ⟨_, h2.put (by unfold wfI; rw [decide_eq_true hid.1, decide_eq_true hid.2]; rfl) _⟩, fun x => ?_⟩, .inl hpU, .inl hmU, q.ne, q.rises.put _, fun r hr => ?_⟩
  ·rw [getM_put, valI_put h2]
   by_cases hxi : id = x
   ·rw [if_pos hxi, if_pos hxi.symm]
    refine .inr ⟨_, _, rfl, rfl, ?_, fun b hb => ?_⟩
    ·show Own _ 0 _ (zs.map (Value.int .i32)).length _
     rw [List.length_map, hx]
     exact (hown.low (Nat.zero_le _)).keep fun b hb => get_other (by have := (hown.blk hb).1; omega)
    ·obtain ⟨u1, u2⟩ := hown.blk hb
     have := u2.lt fr1
     exact ⟨.inr ⟨u1, this⟩, by omega, by omega⟩
   ·rw [if_neg hxi, if_neg fun e => hxi e.symm]
    exact (h3 x).keep hf (fun b hb => .inl hb) fun b _ hc _ hm => (get_other hm).trans (kp b hc hm)
  ·rcases mem_putM hr with rfl | hr
   ·exact ⟨zs, rfl, hx, hb⟩
   ·exact q.ok r hr
 ·exact Zex
end Go.Ab.Seat
end
section
/- Is a hit's id among some? (the abstract machine) -/
namespace Go.Ab.Seat
open Go.Extern Go.Proofs
set_option maxRecDepth 4000
variable {sm : Nat → Option (List Value → M Value)}
theorem rowB {h : T AObj} {oa : Option Addr} {n cap k : Nat} {xs : List Value} (hr : Row h (.slice oa n cap) n k xs) (hn : 0 < n) : ∃ b o sp cs, oa = some ⟨b, o, sp⟩ ∧ Cel h b cs ∧ subN o (n * k) cs = some xs := by
 rcases hr with ⟨rfl, _⟩ | ⟨b, o, sp, cap', cs, e, hc, hs⟩
 ·omega
 ·cases e
  exact ⟨b, o, sp, cs, rfl, hc, hs⟩
abbrev cloV (bx : Nat) : Value := .func (.func 199) ⟨[]⟩ ⟨[.pointer (some ⟨bx, 0, none⟩)]⟩
def EIx (oa : Option Addr) (n cap bx : Nat) (z : Int) (j5 j9 j16 : Value) : L :=
 .cons 0 (.slice oa n cap) (.cons 1 (cloV bx) (.cons 4 (.int .i64 0) (.cons 7 (.int .i64 (n : Int)) (.cons 8 (.int .i64 z) (.cons 5 j5 (.cons 9 j9 (.cons 16 j16 .nil)))))))
set_option maxHeartbeats 4000000 in
theorem idxf_spec (H : Std sm) {h : T AObj} {c : Nat} {rl wl : List Nat} (hf : Fresh h c) {oa : Option Addr} {cap bx : Nat} {l : List Ht} {y : Ht} (hx : Row h (.slice oa l.length cap) l.length 2 (flatH l)) (hy : Has h bx (.cells [.int .i64 y.id, .int .i64 y.sc])) (hb : l.length ≤ 100000) (R : Nat → Prop) (hR : ∀ x, blkOf (.slice oa l.length cap) = some x → R x) (hRy : R bx) :
  ∃ r s', FnTo (Cs sm) eg 226 [.slice oa l.length cap, cloV bx] ⟨h, c, rl, wl⟩ r s' ∧ (∃ z, r = .int .i64 z ∧ decide (0 ≤ z) = l.any (fun x => decide (x.id = y.id))) ∧ Ext ⟨h, c, rl, wl⟩ s' R (fun _ => False) := by
 refine Fn.go (H 226 rfl) ex226 fn226 km226 rfl rfl ?_
 refine Zev ?_
 have ly := hy.lt hf
 refine Zgo ?_
 refine Wx.cutO (fun e s => ∃ (j5 j9 j16 : Value) (h' : T AObj) (c' : Nat) (rl' wl' : List Nat), e = EIx oa l.length cap bx l.length j5 j9 j16 ∧ s = ⟨h', c', rl', wl'⟩ ∧ c ≤ c' ∧ Fresh h' c' ∧ Kp h h' c (fun _ => False) ∧ Lg c R rl' ∧ Lg c (fun _ => False) wl' ∧ l.any (fun x => decide (x.id = y.id)) = false) Zrs ?_ ?_
 ·refine Wx.loopE (fun k1 e s => ∃ (i : Nat) (z : Int) (j5 j9 j16 : Value) (h' : T AObj) (c' : Nat) (rl' wl' : List Nat), e = EIx oa l.length cap bx z j5 j9 j16 ∧ z = i ∧ s = ⟨h', c', rl', wl'⟩ ∧ c ≤ c' ∧ Fresh h' c' ∧ Kp h h' c (fun _ => False) ∧ Lg c R rl' ∧ Lg c (fun _ => False) wl' ∧ (∀ x ∈ l.take i, x.id ≠ y.id) ∧ i ≤ l.length ∧ k1 = l.length - i) l.length (EIx oa l.length cap bx 0 top top top) Zrs ?_ ?_ ?_
  ·unfold EIx
   exact Zek
  ·exact ⟨0, 0, _, _, _, _, _, _, _, rfl, rfl, rfl, Nat.le_refl _, Zfr, Zkp, Zlg, Zlg, (fun x hx => by simp at hx), by omega, rfl⟩
  ·rintro k1 e s ⟨i, z, j5, j9, j16, h', c', rl', wl', rfl, hz, rfl, hcc, hf', hkp, hlr, hlw, hno, hid, rfl⟩
   unfold EIx
   by_cases hi : i < l.length
   ·have hx' := Row.keepF hx hf (fun b hb => hkp b hb (fun q => q))
    have hy' : Has h' bx (.cells [.int .i64 y.id, .int .i64 y.sc]) := (hkp bx ly (fun q => q)).trans hy
    obtain ⟨b1, o1, sp1, cs1, rfl, hc1, hs1⟩ := rowB hx' (by omega)
    have hR1 := hR b1 rfl
    have l1 := hc1.lt hf'
    have hg := sub_hit hs1 (List.getElem?_eq_getElem hi)
    refine Zgo ?_
    refine Zu (to_indexAddr (k := i) el37 rfl rfl hz (by omega)) ?_
    refine Zu (to_loadS ag52 rfl hc1 (by omega) hg) ?_
    refine Wseq.callV rfl rfl rfl (clo_spec H Zfr l[i] y hy') ?_
    rintro v h1 c1 r1 w1 ⟨rfl, hext⟩
    have kp := Kp.ext (W := fun _ => False) (h := h) (c := c) hkp hext (by omega) (fun _ _ q => q)
    have lr := Lg.extR (R := R) (c := c) Zlg hext (fun q _ hq => by rw [hq]; exact hRy)
    have lw := Lg.extW (W := fun _ => False) (c := c) Zlg hext (fun _ _ q => q)
    have fr1 := hext.fresh
    have le1 := hext.c
    simp only at le1 fr1
    by_cases hid2 : l[i].id = y.id
    ·rw [decide_eq_true hid2]
     refine Zgo ?_
     refine ⟨.inr rfl, Wres.one rfl ⟨⟨_, rfl, ?_⟩, ?_⟩⟩
     ·rw [decide_eq_true (show (0 : Int) ≤ z by omega)]
      exact (List.any_eq_true.2 ⟨l[i], List.getElem_mem hi, decide_eq_true hid2⟩).symm
     ·exact Zex
    ·rw [decide_eq_false hid2]
     refine Zgo ?_
     refine RoundE.go (l.length - (i + 1)) (EIx _ l.length cap bx (z + 1) _ _ _) (by omega) Zek ⟨i + 1, z + 1, _, _, _, _, _, _, _, rfl, by omega, rfl, by omega, fr1, kp, lr, lw, ?_, by omega, rfl⟩
     intro x hx
     rw [List.take_succ_eq_append_getElem hi] at hx
     rcases List.mem_append.1 hx with hx | hx
     ·exact hno x hx
     ·rw [List.mem_singleton.1 hx]; exact hid2
   ·refine Zgo ?_
    obtain rfl : i = l.length := by omega
    subst hz
    refine CutQ.go (EIx _ l.length cap bx l.length _ _ _) Zek ⟨_, _, _, _, _, _, _, rfl, rfl, hcc, hf', hkp, Zlg, Zlg, ?_⟩
    rw [List.take_length] at hno
    exact List.any_eq_false.2 fun x hx => by simpa using hno x hx
 ·rintro e s ⟨j5, j9, j16, h', c', rl', wl', rfl, rfl, hcc, hf', hkp, hlr, hlw, hno⟩
  unfold EIx
  refine Zgo ?_
  refine ⟨.inr rfl, Wres.one rfl ⟨⟨_, rfl, by rw [hno]; rfl⟩, ?_⟩⟩
  exact Zex
theorem contains_spec (H : Std sm) {h : T AObj} {c : Nat} {rl wl : List Nat} (hf : Fresh h c) {oa : Option Addr} {cap bx : Nat} {l : List Ht} {y : Ht} (hx : Row h (.slice oa l.length cap) l.length 2 (flatH l)) (hy : Has h bx (.cells [.int .i64 y.id, .int .i64 y.sc])) (hb : l.length ≤ 100000) (R : Nat → Prop) (hR : ∀ x, blkOf (.slice oa l.length cap) = some x → R x) (hRy : R bx) :
  ∃ r s', FnTo (Cs sm) eg 198 [.slice oa l.length cap, cloV bx] ⟨h, c, rl, wl⟩ r s' ∧ (r = .bool (l.any (fun x => decide (x.id = y.id)))) ∧ Ext ⟨h, c, rl, wl⟩ s' R (fun _ => False) := by
 refine Fn.go (H 198 rfl) ex198 fn198 km198 rfl rfl ?_
 refine Zev ?_
 refine Zgo ?_
 refine Wseq.call rfl rfl (idxf_spec H Zfr hx hy hb R hR hRy) ?_
 rintro v h1 c1 r1 w1 ⟨⟨z, rfl, hz⟩, hext⟩
 have kp := Kp.ext (W := fun _ => False) (h := h) (c := c) Zkp hext (by omega) (fun _ _ q => q)
 have lr := Lg.extR (R := R) (c := c) Zlg hext (fun _ _ hq => hq)
 have lw := Lg.extW (W := fun _ => False) (c := c) Zlg hext (fun _ _ q => q)
 have fr1 := hext.fresh
 have le1 := hext.c
 simp only at le1 fr1
 refine Zu (to_geq rfl rfl) ?_
 refine Zgo ?_
 refine ⟨.inr rfl, Wres.one rfl ⟨?_, ?_⟩⟩
 ·rw [← hz]; rfl
 ·exact Zex
end Go.Ab.Seat
end
section
/- The best: one is put among them (the abstract machine). -/
namespace Go.Ab.Seat
open Go.Extern Go.Proofs
set_option maxRecDepth 4000
variable {sm : Nat → Option (List Value → M Value)}
def Best (h : T AObj) (v : Value) (n : Nat) (xs : List Value) : Prop :=
 (v = .slice none 0 0 ∧ n = 0 ∧ xs = []) ∨ ∃ b cap cs, v = .slice (some ⟨b, 0, some 2⟩) n cap ∧ 1 ≤ n ∧ n ≤ cap ∧ Has h b (.cells cs) ∧ subN 0 (n * 2) cs = some xs
theorem gIns_some (HI : sm 200 = some gIns) {h : T AObj} {c : Nat} {rl wl : List Nat} (hf : Fresh h c) {b n cap i vb vc : Nat} {sp : Option Nat} {cs ws vv xs : List Value} (hb : Has h b (.cells cs)) (hs : subN 0 (n * 2) cs = some xs) (hn : 1 ≤ n) (hc : n ≤ cap) (hk : n ≤ 1000) (hv : Has h vb (.cells ws)) (hvs : subN 0 2 ws = some vv) (hne : vb ≠ b) (ha : ∀ x ∈ xs, atom x = true) (ha' : ∀ x ∈ vv, atom x = true) (hi : i ≤ n) :
  ∃ r s', FnTo (Cs sm) eg 200 [.slice (some ⟨b, 0, some 2⟩) n cap, .int .i64 (i : Int), .slice (some ⟨vb, 0, sp⟩) 1 vc] ⟨h, c, rl, wl⟩ r s' ∧ (r = .slice (some ⟨c + 1, 0, some 2⟩) (n + 1) (n + 1) ∧ s' = ⟨(h.set b none).set (c + 1) (some (.cells (xs.take (i * 2) ++ vv ++ xs.drop (i * 2)))), c + 2, vb :: b :: rl, b :: wl⟩) := by
 have l1 := hb.lt hf
 have l2 := hv.lt hf
 refine ⟨_, _, FnTo.of_sm (q := gIns) HI ?_, rfl, rfl⟩
 show (match okI 2 n cap vb b (i : Int) with | true => gIns1 b 0 n ((i : Int)).toNat vb 0 | false => M.fail) _ = _
 have hok : okI 2 n cap vb b (i : Int) = true := by
  unfold okI
  rw [ble_iff.2 hn, ble_iff.2 hc, ble_iff.2 hk, beq_false.2 hne, decide_eq_true (show (0 : Int) ≤ i by omega), decide_eq_true (show (i : Int) ≤ n by omega)]
  rfl
 rw [hok, Int.toNat_natCast]
 simp only
 unfold gIns1
 have hat : (allB atom xs && allB atom vv) = true := by rw [allB_eq, allB_eq, List.all_eq_true.2 ha, List.all_eq_true.2 ha']; rfl
 rw [bind_run (getCellsW_run hb l1), bind_run (getCellsW_run hv l2), bind_run (lift_run hs), bind_run (lift_run hvs), hat]
 simp only
 rw [bind_run (show skip1 ⟨h, c, vb :: b :: rl, wl⟩ = some ((), ⟨h, c + 1, vb :: b :: rl, wl⟩) from rfl), bind_run (putO_run hb (by omega)), bind_run (newCells_run (Fresh.put (by omega) (hf.up (by omega))))]
 rfl
theorem gIns_nil (HI : sm 200 = some gIns) {h : T AObj} {c : Nat} {rl wl : List Nat} (hf : Fresh h c) {vb vc : Nat} {sp : Option Nat} {ws vv : List Value} (hv : Has h vb (.cells ws)) (hvs : subN 0 2 ws = some vv) :
  ∃ r s', FnTo (Cs sm) eg 200 [.slice none 0 0, .int .i64 0, .slice (some ⟨vb, 0, sp⟩) 1 vc] ⟨h, c, rl, wl⟩ r s' ∧ (r = .slice (some ⟨c, 0, some 2⟩) 1 1 ∧ s' = ⟨h.set c (some (.cells vv)), c + 1, vb :: rl, wl⟩) := by
 have l2 := hv.lt hf
 refine ⟨_, _, FnTo.of_sm (q := gIns) HI ?_, rfl, rfl⟩
 show gIns0 vb 0 _ = _
 unfold gIns0
 rw [bind_run (getCellsW_run hv l2), bind_run (lift_run hvs), bind_run (newCells_run hf)]
 rfl
theorem Best.row {h : T AObj} {v : Value} {n : Nat} {xs : List Value} (x : Best h v n xs) : ∃ oa cap, v = .slice oa n cap ∧ n ≤ cap ∧ Row h v n 2 xs := by
 rcases x with ⟨rfl, rfl, rfl⟩ | ⟨b, cap, cs, rfl, h1, h2, h3, h4⟩
 ·exact ⟨_, _, rfl, Nat.le_refl _, .inl ⟨rfl, rfl, _, _, rfl⟩⟩
 ·exact ⟨_, _, rfl, h2, .inr ⟨b, 0, _, _, cs, rfl, h3.cel, h4⟩⟩
theorem Best.keep {h h' : T AObj} {v : Value} {n : Nat} {xs : List Value} (x : Best h v n xs) (hk : ∀ b, blkOf v = some b → h'.get b = h.get b) : Best h' v n xs := by
 rcases x with x | ⟨b, cap, cs, rfl, h1, h2, h3, h4⟩
 ·exact .inl x
 ·exact .inr ⟨b, cap, cs, rfl, h1, h2, (hk b rfl).trans h3, h4⟩
theorem Best.take {h : T AObj} {oa : Option Addr} {n cap m : Nat} {l : List Ht} (x : Best h (.slice oa n cap) n (flatH l)) (hl : l.length = n) (hm : 1 ≤ m) (hmn : m ≤ n) : Best h (.slice oa m cap) m (flatH (l.take m)) := by
 rcases x with ⟨_, h2, _⟩ | ⟨b, cap', cs, e, h1, h2, h3, h4⟩
 ·omega
 ·simp only [Value.slice.injEq] at e
  obtain ⟨rfl, _, rfl⟩ := e
  refine .inr ⟨b, cap, cs, rfl, hm, by omega, h3, ?_⟩
  rw [show n * 2 = m * 2 + (n - m) * 2 by omega, show flatH l = flatH (l.take m) ++ flatH (l.drop m) by rw [← flatH_app, List.take_append_drop]] at h4
  exact (subN_app h4 (by rw [flatH_len, List.length_take]; omega)).1
theorem bins_spec (HI : sm 200 = some gIns) {h : T AObj} {c : Nat} {rl wl : List Nat} (hf : Fresh h c) {lv : Value} {l : List Ht} {x : Ht} {i vb : Nat} {z : Int} (hl : Best h lv l.length (flatH l)) (hv : Has h vb (.cells [.int .i64 x.id, .int .i64 x.sc])) (hne : ∀ b, blkOf lv = some b → vb ≠ b) (hn : l.length ≤ 1000) (hz : z = (i : Int)) (hi : i ≤ l.length) :
  ∃ r s', FnTo (Cs sm) eg 200 [lv, .int .i64 z, .slice (some ⟨vb, 0, none⟩) 1 1] ⟨h, c, rl, wl⟩ r s' ∧ (Best s'.h r (l.length + 1) (flatH (l.take i ++ x :: l.drop i)) ∧ (∃ oa cap, r = .slice oa (l.length + 1) cap ∧ l.length + 1 ≤ cap ∧ ∀ a, oa = some a → a.spot = none ∨ a.spot = some 2) ∧ ∀ b, blkOf r = some b → c ≤ b) ∧ Ext ⟨h, c, rl, wl⟩ s' (fun b => b = vb ∨ blkOf lv = some b) (fun b => blkOf lv = some b) := by
 subst hz
 have hvs : subN 0 2 [Value.int .i64 x.id, .int .i64 x.sc] = some [Value.int .i64 x.id, .int .i64 x.sc] := subN_all _ _ rfl
 have lvb := hv.lt hf
 rcases hl with ⟨rfl, h1, h2⟩ | ⟨b, cap, cs, rfl, h1, h2, h3, h4⟩
 ·obtain rfl : l = [] := List.length_eq_zero_iff.1 h1
  obtain rfl : i = 0 := by simpa using hi
  obtain ⟨r, s', g1, rfl, rfl⟩ := gIns_nil HI (rl := rl) (wl := wl) (sp := none) (vc := 1) hf hv hvs
  refine ⟨_, _, g1, ⟨.inr ⟨c, 1, _, rfl, Nat.le_refl _, Nat.le_refl _, Has.same, hvs⟩, ⟨_, _, rfl, Nat.le_refl _, fun a ha => by cases ha; exact .inr rfl⟩, fun b hb => by cases hb; exact Nat.le_refl _⟩, ?_⟩
  exact ⟨Nat.le_succ _, hf.new, fun b hb _ => by simp only; rw [T.get_set, if_neg (by simp only at hb; omega)], fun b hb => by
   rcases List.mem_cons.1 hb with rfl | hb
   ·exact .inr ⟨lvb, .inl rfl⟩
   ·exact .inl hb, fun b hb => .inl hb⟩
 ·have lb := h3.lt hf
  have hne' := hne b rfl
  obtain ⟨r, s', g1, rfl, rfl⟩ := gIns_some HI (rl := rl) (wl := wl) (sp := none) (vc := 1) hf h3 h4 h1 h2 hn hv hvs hne' (flatH_atom l) (fun v hv => by
   simp only [List.mem_cons, List.not_mem_nil, or_false] at hv
   rcases hv with rfl | rfl <;> rfl) hi
  have hxs : (flatH l).take (i * 2) ++ [Value.int .i64 x.id, .int .i64 x.sc] ++ (flatH l).drop (i * 2) = flatH (l.take i ++ x :: l.drop i) := by
   rw [flatH_take, flatH_drop, flatH_app, List.append_assoc]; rfl
  rw [hxs] at g1
  refine ⟨_, _, g1, ⟨.inr ⟨c + 1, l.length + 1, _, rfl, by omega, Nat.le_refl _, Has.same, subN_all _ _ (by rw [flatH_len]; simp; omega)⟩, ⟨_, _, rfl, Nat.le_refl _, fun a ha => by cases ha; exact .inr rfl⟩, fun b hb => by cases hb; exact Nat.le_succ c⟩, ?_⟩
  refine ⟨by simp only; omega, Fresh.new (Fresh.put (by omega) (hf.up (by omega))), fun b' hb hw => ?_, fun b' hb => ?_, fun b' hb => ?_⟩
  ·simp only at hb hw ⊢
   rw [T.get_set, if_neg (by omega), T.get_set, if_neg]
   rintro rfl
   exact hw rfl
  ·rcases List.mem_cons.1 hb with rfl | hb
   ·exact .inr ⟨lvb, .inl rfl⟩
   ·rcases List.mem_cons.1 hb with rfl | hb
    ·exact .inr ⟨lb, .inr rfl⟩
    ·exact .inl hb
  ·rcases List.mem_cons.1 hb with rfl | hb
   ·exact .inr ⟨lb, rfl⟩
   ·exact .inl hb
def EBP (p bx : Nat) (id sc z : Int) (j15 j33 j41 : Value) : L :=
 .cons 0 (.pointer (some ⟨p, 0, none⟩)) (.cons 1 (hitv id sc) (.cons 3 (.pointer (some ⟨bx, 0, none⟩)) (.cons 4 (.bool false) (.cons 5 (.int .i64 z) (.cons 15 j15 (.cons 33 j33 (.cons 41 j41 .nil)))))))
set_option maxHeartbeats 4000000 in
theorem bput_spec (H : Std sm) (HI : sm 200 = some gIns) {h : T AObj} {c : Nat} {rl wl : List Nat} (hf : Fresh h c) {p k : Nat} {l : List Ht} {lv : Value} (x : Ht) (hp : Has h p (.cells [lv, .int .i64 (k : Int)])) (hl : Best h lv l.length (flatH l)) (hpl : ∀ b, blkOf lv = some b → b ≠ p) (hn : l.length ≤ 900) (hk : k ≤ 1000) :
  ∃ r s', FnTo (Cs sm) eg 138 [.pointer (some ⟨p, 0, none⟩), hitv x.id x.sc] ⟨h, c, rl, wl⟩ r s' ∧ (∃ lv', Has s'.h p (.cells [lv', .int .i64 (k : Int)]) ∧ Best s'.h lv' (putB k l x).length (flatH (putB k l x)) ∧ ∀ b, blkOf lv' = some b → blkOf lv = some b ∨ c ≤ b) ∧ Ext ⟨h, c, rl, wl⟩ s' (fun b => b = p ∨ blkOf lv = some b) (fun b => b = p ∨ blkOf lv = some b) := by
 obtain ⟨oa, cap, rfl, hcap, hrow⟩ := hl.row
 have lp := hp.lt hf
 have hlt : ∀ b, blkOf (.slice oa l.length cap) = some b → b < c := by
  intro b hb
  rcases hl with ⟨e, _⟩ | ⟨b', cap', cs, e, _, _, h3, _⟩
  ·simp only [Value.slice.injEq] at e
   rw [e.1] at hb; cases hb
  ·simp only [Value.slice.injEq] at e
   rw [e.1] at hb; cases hb; exact h3.lt hf
 refine Fn.go (H 138 rfl) ex138 fn138 km138 rfl rfl ?_
 refine Zev ?_
 refine Zgo ?_
 refine Wseq.call rfl rfl (contains_spec H Zfr (y := x) (R := fun b => b = c ∨ blkOf (.slice oa l.length cap) = some b) (hrow.new hf) Has.same (by omega) (fun b hb => .inr hb) (.inl rfl)) ?_
 rintro v h1 c1 r1 w1 ⟨rfl, hext⟩
 have kp := Kp.ext (W := fun _ => False) (h := h) (c := c) Zkp hext (by omega) (fun _ _ q => q)
 have lr := Lg.extR (R := fun b => b = p ∨ blkOf (.slice oa l.length cap) = some b) (c := c) Zlg hext (fun q hq hb => hb.elim (fun e => by omega) .inr)
 have lw := Lg.extW (W := fun b => b = p ∨ blkOf (.slice oa l.length cap) = some b) (c := c) Zlg hext (fun _ _ q => q.elim)
 have fr1 := hext.fresh
 have le1 := hext.c
 simp only at le1 fr1
 have hp1 : Has h1 p (.cells [.slice oa l.length cap, .int .i64 (k : Int)]) := (kp p lp (fun q => q)).trans hp
 have hx1 : Has h1 c (.cells [.int .i64 x.id, .int .i64 x.sc]) := hext.hs Has.same (by omega) (fun q => q)
 have hl1 : Best h1 (.slice oa l.length cap) l.length (flatH l) := hl.keep fun b hb => kp b (hlt b hb) (fun q => q)
 have kpW : Kp h h1 c (fun b => b = p ∨ blkOf (.slice oa l.length cap) = some b) := fun b hb hn => kp b hb (fun q => q)
 cases hany : l.any (fun y => decide (y.id = x.id)) with
 | true =>
  refine Zgo ?_
  refine ⟨.inr rfl, Wres.one rfl ⟨⟨_, hp1, ?_, fun b hb => .inl hb⟩, ?_⟩⟩
  ·unfold putB; rw [hany]; exact hl1
  ·exact Zex
 | false =>
  refine Zgo ?_
  refine Wx.cutO (fun e s => ∃ (j15 j33 j41 : Value) (h' : T AObj) (c' : Nat) (rl' wl' : List Nat), e = EBP p c x.id x.sc (iH x l : Int) j15 j33 j41 ∧ s = ⟨h', c', rl', wl'⟩ ∧ c1 ≤ c' ∧ Fresh h' c' ∧ Kp h1 h' c1 (fun _ => False) ∧ Lg c (fun b => b = p ∨ blkOf (.slice oa l.length cap) = some b) rl' ∧ Lg c (fun b => b = p ∨ blkOf (.slice oa l.length cap) = some b) wl') Zrs ?_ ?_
  ·refine Wx.loopE (fun k1 e s => ∃ (i : Nat) (z : Int) (j15 j33 j41 : Value) (h' : T AObj) (c' : Nat) (rl' wl' : List Nat), e = EBP p c x.id x.sc z j15 j33 j41 ∧ z = i ∧ s = ⟨h', c', rl', wl'⟩ ∧ c1 ≤ c' ∧ Fresh h' c' ∧ Kp h1 h' c1 (fun _ => False) ∧ Lg c (fun b => b = p ∨ blkOf (.slice oa l.length cap) = some b) rl' ∧ Lg c (fun b => b = p ∨ blkOf (.slice oa l.length cap) = some b) wl' ∧ (∀ y ∈ l.take i, lessH y x = true) ∧ i ≤ l.length ∧ k1 = l.length - i) l.length (EBP p c x.id x.sc 0 (.bool false) top top) Zrs ?_ ?_ ?_
   ·unfold EBP
    exact Zek
   ·exact ⟨0, 0, _, _, _, _, _, _, _, rfl, rfl, rfl, Nat.le_refl _, fr1, Zkp, Zlg, Zlg, (fun y hy => by simp at hy), by omega, rfl⟩
   ·rintro k1 e s ⟨i, z, j15, j33, j41, h', c', rl', wl', rfl, hz, rfl, hcc, hf', hkp, hlr, hlw, hno, hid, rfl⟩
    unfold EBP
    have hp' : Has h' p (.cells [.slice oa l.length cap, .int .i64 (k : Int)]) := (hkp p (by omega) (fun q => q)).trans hp1
    have hx' : Has h' c (.cells [.int .i64 x.id, .int .i64 x.sc]) := (hkp c (by omega) (fun q => q)).trans hx1
    by_cases hi : i < l.length
    ·have hl' : Best h' (.slice oa l.length cap) l.length (flatH l) := hl1.keep fun b hb => hkp b (by have := hlt b hb; omega) (fun q => q)
     obtain ⟨oa', cap', e', _, hrow'⟩ := hl'.row
     obtain ⟨b1, o1, sp1, cs1, rfl, hc1, hs1⟩ := rowB hrow' (by omega)
     have l1 := hlt b1 rfl
     have hR1 : b1 = p ∨ blkOf (.slice (some ⟨b1, o1, sp1⟩) l.length cap) = some b1 := .inr rfl
     have hg := sub_hit hs1 (List.getElem?_eq_getElem hi)
     refine Zgo ?_
     refine Zq (to_indexAddr (k := i) el37 rfl rfl hz (by omega)) ?_
     refine Zd (to_loadS ag52 rfl hc1 (by omega) hg) ?_
     refine Zgo ?_
     refine Wtr.call rfl rfl (less_spec H Zfr l[i] x) ?_
     rintro v h2 c2 r2 w2 ⟨rfl, hext2⟩
     have hq := hext2.quiet (fun _ _ q => q)
     refine ⟨Zap, ?_⟩
     have kp2 := Kp.ext (W := fun _ => False) (h := h1) (c := c1) hkp hext2 (by omega) (fun _ _ q => q)
     have lr2 := Lg.extR (R := fun _ => False) (c := c) Zlg hext2 (fun q hq hb => hb.elim)
     have lw2 := Lg.extW (W := fun _ => False) (c := c) Zlg hext2 (fun _ _ q => q.elim)
     have fr2 := hext2.fresh
     have le2 := hext2.c
     simp only at le2 fr2
     have lr2' : Lg c (fun b => b = p ∨ blkOf (.slice (some ⟨b1, o1, sp1⟩) l.length cap) = some b) r2 := fun b hb => (lr2 b hb).imp id fun q => q.elim
     have lw2' : Lg c (fun b => b = p ∨ blkOf (.slice (some ⟨b1, o1, sp1⟩) l.length cap) = some b) w2 := fun b hb => (lw2 b hb).imp id fun q => q.elim
     cases hless : lessH l[i] x with
     | true =>
      refine Zgo ?_
      refine RoundE.go (l.length - (i + 1)) (EBP p c x.id x.sc (z + 1) _ _ _) (by omega) Zek ⟨i + 1, z + 1, _, _, _, _, _, _, _, rfl, by omega, rfl, by omega, fr2, kp2, Zlg, Zlg, ?_, by omega, rfl⟩
      intro y hy
      rw [List.take_succ_eq_append_getElem hi] at hy
      rcases List.mem_append.1 hy with hy | hy
      ·exact hno y hy
      ·rw [List.mem_singleton.1 hy]; exact hless
     | false =>
      refine Zgo ?_
      have hI : iH x l = i := iH_at hno (fun y hy => by rw [List.getElem?_eq_getElem hi] at hy; cases hy; exact hless) hid
      refine CutQ.go (EBP p c x.id x.sc z _ _ _) Zek ⟨_, _, _, _, _, _, _, (by rw [hI, hz]; rfl), rfl, by omega, fr2, kp2, Zlg, Zlg⟩
    ·refine Zgo ?_
     obtain rfl : i = l.length := by omega
     have hI : iH x l = l.length := iH_at hno (fun y hy => by rw [List.getElem?_eq_none (Nat.le_refl _)] at hy; cases hy) hid
     refine CutQ.go (EBP p c x.id x.sc z _ _ _) Zek ⟨_, _, _, _, _, _, _, (by rw [hI, hz]; rfl), rfl, hcc, hf', hkp, Zlg, Zlg⟩
  ·rintro e s ⟨j15, j33, j41, h', c', rl', wl', rfl, rfl, hcc, hf', hkp, hlr, hlw⟩
   unfold EBP
   have hp' : Has h' p (.cells [.slice oa l.length cap, .int .i64 (k : Int)]) := (hkp p (by omega) (fun q => q)).trans hp1
   have hx' : Has h' c (.cells [.int .i64 x.id, .int .i64 x.sc]) := (hkp c (by omega) (fun q => q)).trans hx1
   have hl' : Best h' (.slice oa l.length cap) l.length (flatH l) := hl1.keep fun b hb => hkp b (by have := hlt b hb; omega) (fun q => q)
   have kpW' : Kp h h' c (fun b => b = p ∨ blkOf (.slice oa l.length cap) = some b) := fun b hb hn => (hkp b (by omega) (fun q => q)).trans (kp b hb (fun q => q))
   by_cases hik : k ≤ iH x l
   ·refine Zgo ?_
    refine ⟨.inr rfl, Wres.one rfl ⟨⟨_, hp', ?_, fun b hb => .inl hb⟩, ?_⟩⟩
    ·unfold putB; rw [hany, if_neg (by decide), if_pos hik]; exact hl'
    ·exact Zex
   ·refine Zgo ?_
    refine Wtr.call rfl rfl (bins_spec HI (i := iH x l) Zfr (hl'.keep fun b hb => get_other (by have := hlt b hb; omega)) Has.same (fun b hb => by have := hlt b hb; omega) (by omega) rfl (iH_le x l)) ?_
    rintro v h2 c2 r2 w2 ⟨⟨g1, ⟨ob, cap2, rfl, g3, g4⟩, g5⟩, hext2⟩
    have hnp : ¬(blkOf (.slice oa l.length cap) = some p) := fun q => hpl p q rfl
    have hp2 : Has h2 p (.cells [.slice oa l.length cap, .int .i64 (k : Int)]) := hext2.hs (hp'.other (by omega)) (by omega) hnp
    have kp3 := Kp.ext (W := fun b => b = p ∨ blkOf (.slice oa l.length cap) = some b) (h := h) (c := c) (Kp.set (b := c') (.inl (by omega)) kpW') hext2 (by omega) (fun _ _ q => .inr q)
    have lr3 := Lg.extR (R := fun b => b = p ∨ blkOf (.slice oa l.length cap) = some b) (c := c) Zlg hext2 (fun q hq hb => hb.elim (fun e => by omega) .inr)
    have lw3 := Lg.extW (W := fun b => b = p ∨ blkOf (.slice oa l.length cap) = some b) (c := c) Zlg hext2 (fun _ _ q => .inr q)
    have fr3 := hext2.fresh
    have le3 := hext2.c
    simp only at le3 fr3
    refine ⟨Zap, ?_⟩
    have hput : putB k l x = (l.take (iH x l) ++ x :: l.drop (iH x l)).take (min (l.length + 1) k) := by
     unfold putB
     rw [hany, if_neg (by decide), if_neg hik]
     have hlen : (l.take (iH x l) ++ x :: l.drop (iH x l)).length = l.length + 1 := by
      have := iH_le x l
      simp only [List.length_append, List.length_take, List.length_cons, List.length_drop]; omega
     rcases Nat.le_total k (l.length + 1) with q | q
     ·rw [Nat.min_eq_right q]
     ·rw [Nat.min_eq_left q, List.take_of_length_le (i := k) (by omega), List.take_of_length_le (i := l.length + 1) (by omega)]
    have hlen : (l.take (iH x l) ++ x :: l.drop (iH x l)).length = l.length + 1 := by
     have := iH_le x l
     simp only [List.length_append, List.length_take, List.length_cons, List.length_drop]; omega
    have hlen2 : (putB k l x).length = min (l.length + 1) k := by rw [hput, List.length_take, hlen]; omega
    refine Zgo ?_
    refine Zq (to_sliceHi el37 rfl rfl (k := min (l.length + 1) k) (by omega) (by omega) g4) ?_
    refine Zgo ?_
    refine ⟨.inr rfl, Wres.one rfl ⟨⟨_, Has.same, ?_, fun b hb => .inr ?_⟩, ?_⟩⟩
    ·rw [hlen2, hput]
     refine (Best.take g1 hlen (by omega) (by omega)).keep fun b hb => ?_
     have := g5 b (by cases ob <;> exact hb)
     have hbp : b ≠ p := by omega
     exact (get_other hbp).trans (get_other hbp)
    ·have := g5 b (by cases ob <;> exact hb)
     omega
    ·exact Zex
end Go.Ab.Seat
end
