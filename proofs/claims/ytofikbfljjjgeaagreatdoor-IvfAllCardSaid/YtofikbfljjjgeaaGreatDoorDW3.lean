import Derived.Test.YtofikbfljjjgeaaGreatDoorDT3
import Derived.Test.YtofikbfljjjgeaaGreatDoorDW2
set_option linter.unusedVariables false
set_option linter.unusedSimpArgs false
section
/- The reference's best ones (the abstract machine). -/
namespace Go.Ab.Seat
open Go.Extern Go.Proofs
set_option maxRecDepth 4000
theorem putB_ord {k : Nat} {p : List Ht} {x : Ht} (h : Ord p) : Ord (putB k p x) := by
 unfold putB
 cases ha : p.any (fun y => decide (y.id = x.id))
 ·rw [if_neg (by decide)]
  split
  ·exact h
  ·have h2 : ∀ y ∈ p, y.id ≠ x.id := fun y hy => by
    have := List.any_eq_false.1 ha y hy
    simpa using this
   exact (insB_ord h h2).sublist (List.take_sublist _ _)
 ·rw [if_pos rfl]; exact h
theorem putB_lek {k : Nat} {p : List Ht} {x : Ht} (h : p.length ≤ k) : (putB k p x).length ≤ k := by
 unfold putB
 split
 ·exact h
 ·split
  ·exact h
  ·rw [List.length_take]; omega
theorem bestOf_good (k : Nat) (l : List Ht) : ∀ m, m ≤ l.length → Ord (bestOf k (l.take m)) ∧ (bestOf k (l.take m)).length ≤ k
 | 0, _ => by rw [List.take_zero]; exact ⟨List.Pairwise.nil, Nat.zero_le _⟩
 | m + 1, hm => by
  obtain ⟨h1, h2⟩ := bestOf_good k l m (by omega)
  rw [bestOf_take (by omega)]
  exact ⟨putB_ord h1, putB_lek h2⟩
def ERb (k : Int) (oa : Option Addr) (n cap : Nat) (lv : Value) (z : Int) (j6 j10 : Value) : L :=
 .cons 0 (.int .i64 k) (.cons 1 (.slice oa n cap) (.cons 4 (.slice none 0 0) (.cons 5 lv (.cons 8 (.int .i64 (n : Int)) (.cons 9 (.int .i64 z) (.cons 6 j6 (.cons 10 j10 .nil)))))))
set_option maxHeartbeats 4000000 in
theorem rbest_spec {h : T AObj} {c : Nat} {rl wl : List Nat} (hf : Fresh h c) {k : Int} {kk : Nat} (hk : max k 0 = (kk : Int)) (hkk : kk ≤ 1000) {oa : Option Addr} {cap : Nat} {l : List Ht} (hx : Row h (.slice oa l.length cap) l.length 2 (flatH l)) (hn : l.length ≤ 800) (R : Nat → Prop) (hR : ∀ x, blkOf (.slice oa l.length cap) = some x → R x) :
  ∃ r s', FnTo (Cs smQ) eg 117 [.int .i64 k, .slice oa l.length cap] ⟨h, c, rl, wl⟩ r s' ∧ (Best s'.h r (bestOf kk l).length (flatH (bestOf kk l)) ∧ ∀ b, blkOf r = some b → c ≤ b) ∧ Ext ⟨h, c, rl, wl⟩ s' R (fun _ => False) := by
 refine Fn.go (stdQ 117 rfl) ex117 fn117 km117 rfl rfl ?_
 refine Zev ?_
 refine Zgo ?_
 refine Wx.loopE (fun k1 e s => ∃ (i : Nat) (z : Int) (lv j6 j10 : Value) (h' : T AObj) (c' : Nat) (rl' wl' : List Nat), e = ERb k oa l.length cap lv z j6 j10 ∧ z = i ∧ s = ⟨h', c', rl', wl'⟩ ∧ c ≤ c' ∧ Fresh h' c' ∧ Kp h h' c (fun _ => False) ∧ Best h' lv (bestOf kk (l.take i)).length (flatH (bestOf kk (l.take i))) ∧ (∀ b, blkOf lv = some b → c ≤ b) ∧ Lg c R rl' ∧ Lg c (fun _ => False) wl' ∧ i ≤ l.length ∧ k1 = l.length - i) l.length (ERb k oa l.length cap (.slice none 0 0) 0 top top) Zrs ?_ ?_ ?_
 ·unfold ERb
  exact Zek
 ·exact ⟨0, 0, _, _, _, _, _, _, _, rfl, rfl, rfl, Nat.le_refl _, Zfr, Zkp, .inl ⟨rfl, rfl, rfl⟩, (fun b q => by cases q), Zlg, Zlg, by omega, rfl⟩
 ·rintro k1 e s ⟨i, z, lv, j6, j10, h', c', rl', wl', rfl, hz, rfl, hcc, hf', hkp, hB, hBb, hlr, hlw, hid, rfl⟩
  unfold ERb
  by_cases hi : i < l.length
  ·have hx' := Row.keepF hx hf (fun b hb => hkp b hb (fun q => q))
   have hxi : l[i]? = some l[i] := List.getElem?_eq_getElem hi
   rcases hx' with ⟨q, _⟩ | ⟨bl, o, sp, cap', cs, e, hcl, hsub⟩
   ·omega
   simp only [Value.slice.injEq, true_and] at e
   obtain ⟨rfl, rfl⟩ := e
   have lbl := hcl.lt hf'
   have rb := hR bl rfl
   have hs2 := sub_hit hsub hxi
   obtain ⟨g1, g2⟩ := bestOf_good kk l i hid
   obtain ⟨olv, clv, rfl, _, _⟩ := hB.row
   refine Zgo ?_
   refine Zu (to_indexAddr (k := i) el37 rfl rfl hz hi) ?_
   refine Zu (to_loadS (ag_ rfl) rfl hcl (by omega) hs2) ?_
   refine Wseq.call rfl rfl (pb_spec Zfr hk hkk hB g1 g2 l[i] (fun b => c ≤ b) hBb) ?_
   rintro v2 h2 c2 r2 w2 ⟨⟨v', bb, rfl, hB2, hv2⟩, hext⟩
   have fr2 := hext.fresh
   have le2 := hext.c
   simp only at fr2 le2 hB2
   have kp2 := Kp.ext (W := fun _ => False) (h := h) (c := c) hkp hext (by omega) (fun _ _ q => q)
   have lr2 := Lg.extR (R := R) (c := c) Zlg hext (fun b hb q => by omega)
   have lw2 := Lg.extW (W := fun _ => False) (c := c) Zlg hext (fun _ _ q => q)
   rw [← bestOf_take hi] at hB2
   refine Zgo ?_
   refine RoundE.go (l.length - (i + 1)) (ERb k _ l.length cap v' (z + 1) _ _) (by omega) Zek ⟨i + 1, z + 1, _, _, _, _, _, _, _, rfl, by omega, rfl, by omega, fr2, kp2, hB2, fun b q => (hv2 b q).elim (fun u => by omega) (hBb b), lr2, lw2, by omega, rfl⟩
  ·refine Zgo ?_
   obtain rfl : i = l.length := by omega
   rw [List.take_length] at hB
   refine ⟨.inr rfl, Wres.one rfl ⟨⟨hB, hBb⟩, ?_⟩⟩
   exact Zex
end Go.Ab.Seat
end
section
/- The reference's nearest middle, and its order of middles (the abstract machine). -/
namespace Go.Ab.Seat
open Go.Extern Go.Proofs
set_option maxRecDepth 4000
def ENz (mv qv : Value) (n : Nat) (t z : Int) (j6 j10 j28 : Value) : L :=
 .cons 0 mv (.cons 1 qv (.cons 4 (.int .i64 0) (.cons 5 (.int .i64 t) (.cons 8 (.int .i64 (n : Int)) (.cons 9 (.int .i64 z) (.cons 6 j6 (.cons 10 j10 (.cons 28 j28 .nil))))))))
theorem getD_at {mid : List (List Int)} {i : Nat} (hi : i < mid.length) : mid.getD i [] = mid[i] := by
 rw [List.getD_eq_getElem?_getD, List.getElem?_eq_getElem hi]; rfl
set_option maxHeartbeats 4000000 in
theorem rnearest_spec {h : T AObj} {c : Nat} {rl wl : List Nat} (hf : Fresh h c) {v : Value} {dim : Nat} {mid : List (List Int)} {U : Nat → Prop} (hm : MRow h v dim mid U) (hn : mid.length ≤ 16) (hd : dim ≤ 1000) {qa : Option Addr} {qc : Nat} {qs : List Int} (hq : Row h (.slice qa dim qc) dim 1 (qs.map (Value.int .i32))) (hqn : qs.length = dim) (hqb : Bnd qs) (R : Nat → Prop) (hUR : ∀ b, U b → R b) (hqR : ∀ b, blkOf (.slice qa dim qc) = some b → R b) :
  ∃ r s', FnTo (Cs smQ) eg 127 [v, .slice qa dim qc] ⟨h, c, rl, wl⟩ r s' ∧ (r = .int .i64 (nearZ mid qs) ∧ s'.h = h ∧ s'.c = c) ∧ Ext ⟨h, c, rl, wl⟩ s' R (fun _ => False) := by
 obtain ⟨oa, cap, rfl⟩ := hm.val
 refine Fn.go (stdQ 127 rfl) ex127 fn127 km127 rfl rfl ?_
 refine Zev ?_
 refine Zgo ?_
 refine Wx.loopE (fun k1 e s => ∃ (i : Nat) (t z : Int) (rl' wl' : List Nat) (j6 j10 j28 : Value), e = ENz (.slice oa mid.length cap) (.slice qa dim qc) mid.length t z j6 j10 j28 ∧ z = i ∧ s = ⟨h, c, rl', wl'⟩ ∧ Lg c R rl' ∧ Lg c (fun _ => False) wl' ∧ NearUp mid qs i t ∧ i ≤ mid.length ∧ k1 = mid.length - i) mid.length (ENz (.slice oa mid.length cap) (.slice qa dim qc) mid.length (-1) 0 top top top) Zrs ?_ ?_ ?_
 ·unfold ENz
  exact Zek
 ·exact ⟨0, -1, 0, _, _, _, _, _, rfl, rfl, rfl, Zlg, Zlg, .inl ⟨rfl, rfl⟩, by omega, rfl⟩
 ·rintro k1 e s ⟨i, t, z, rl', wl', j6, j10, j28, rfl, hz, rfl, hlr, hlw, hnu, hin, rfl⟩
  unfold ENz
  by_cases hi : i < mid.length
  ·obtain ⟨g1, g2, b, sp, vals, a, k, rfl, g4, g5, g6, g7, g8⟩ := hm.at (List.getElem?_eq_getElem hi)
   have lb := g5.lt hf
   have rb := hUR b g4
   rcases hnu with ⟨rfl, rfl⟩ | ⟨j, rfl, hji, hj⟩
   ·refine Zgo ?_
    exact RoundE.go (mid.length - (0 + 1)) (ENz (.slice (some ⟨b, 0, sp⟩) mid.length cap) (.slice qa dim qc) mid.length z (z + 1) _ _ _) (by omega) Zek ⟨0 + 1, z, z + 1, _, _, _, _, _, rfl, by omega, rfl, Zlg, Zlg, (by rw [hz]; exact NearUp.take.2 (fun i' q => by omega)), by omega, rfl⟩
   ·have hjm : j < mid.length := by omega
    obtain ⟨g1', g2', b', sp', vals', a', k', e0, g4', g5', g6', g7', g8'⟩ := hm.at (List.getElem?_eq_getElem hjm)
    simp only [Option.some.injEq, Addr.mk.injEq, true_and] at e0
    obtain ⟨rfl, rfl⟩ := e0
    have hup := NearUp.up (mid := mid) (qs := qs) (i := i) (j := j) (.inr ⟨j, rfl, hji, hj⟩)
    rw [getD_at hi, getD_at hjm] at hup
    refine Zgo ?_
    refine Zq (to_indexAddr (k := i) el22 rfl rfl hz hi) ?_
    refine Zd (to_load (pl_ rfl) rfl g5.cel (by omega) g6) ?_
    refine Zgo ?_
    refine Wtr.call rfl rfl (rscore_spec Zfr (.inl rfl) g1 hqn g7 hq g2 hqb hd R (fun x hb => hb.elim (fun u => hUR x (g8 x u)) (hqR x))) ?_
    rintro v1 h1 c1 r1 w1 ⟨⟨rfl, e1, e2⟩, hext⟩
    simp only at e1 e2
    have hqt := hext.quiet (fun _ _ q => q)
    have lr := Lg.extR (R := R) (c := c) Zlg hext (fun _ _ q => q)
    have lw := Lg.extW (W := fun _ => False) (c := c) Zlg hext (fun _ _ q => q)
    subst e1 e2
    have hap : ApartP ⟨r1, w1, c1, c1⟩ ⟨[b], [], c1, c1⟩ := ApartP.wr (fun y hy => (hqt y hy).elim) lb
    refine ⟨Zap, ?_⟩
    refine Zgo ?_
    refine Zq (to_indexAddr (k := j) el22 rfl rfl rfl hjm) ?_
    refine Zd (to_load (pl_ rfl) rfl g5'.cel (by omega) g6') ?_
    refine Zgo ?_
    refine Wtr.call rfl rfl (rscore_spec Zfr (.inl rfl) g1' hqn g7' hq g2' hqb hd R (fun x hb => hb.elim (fun u => hUR x (g8' x u)) (hqR x))) ?_
    rintro v2 h2 c2 r2 w2 ⟨⟨rfl, e1, e2⟩, hext2⟩
    simp only at e1 e2
    have hqt2 := hext2.quiet (fun _ _ q => q)
    have lr2 := Lg.extR (R := R) (c := c1) Zlg hext2 (fun _ _ q => q)
    have lw2 := Lg.extW (W := fun _ => False) (c := c1) Zlg hext2 (fun _ _ q => q)
    subst e1 e2
    refine ⟨Zap, ?_⟩
    by_cases hs : scoreZ 1 mid[i] qs < scoreZ 1 mid[j] qs
    ·rw [if_pos hs] at hup
     refine Zgo ?_
     exact RoundE.go (mid.length - (i + 1)) (ENz (.slice (some ⟨b, 0, sp⟩) mid.length cap) (.slice qa dim qc) mid.length z (z + 1) _ _ _) (by omega) Zek ⟨i + 1, z, z + 1, _, _, _, _, _, rfl, by omega, rfl, Zlg, Zlg, (by rw [hz]; exact hup), by omega, rfl⟩
    ·rw [if_neg hs] at hup
     refine Zgo ?_
     exact RoundE.go (mid.length - (i + 1)) (ENz (.slice (some ⟨b, 0, sp⟩) mid.length cap) (.slice qa dim qc) mid.length j (z + 1) _ _ _) (by omega) Zek ⟨i + 1, j, z + 1, _, _, _, _, _, rfl, by omega, rfl, Zlg, Zlg, hup, by omega, rfl⟩
  ·refine Zgo ?_
   obtain rfl : i = mid.length := by omega
   refine ⟨.inr rfl, Wres.one rfl ⟨⟨by rw [hnu.end]; rfl, rfl, rfl⟩, ?_⟩⟩
   exact Zex
theorem hit_nthO {l : List Ht} {i o : Nat} {cs : List Value} {x : Ht} (h : subN o (l.length * 2) cs = some (flatH l)) (hx : l[i]? = some x) : nth cs (o + i * 2 + 0) = some (.int .i64 x.id) := by
 have := (subN_some _ _ _ _ (sub_hit h hx)).2.2 0 (by omega)
 rw [nth_eq, ← this]; rfl
def EOa (mv qv lv : Value) (n : Nat) (z : Int) (j6 j12 : Value) : L :=
 .cons 0 mv (.cons 1 qv (.cons 4 (.slice none 0 0) (.cons 5 lv (.cons 10 (.int .i64 (n : Int)) (.cons 11 (.int .i64 z) (.cons 6 j6 (.cons 12 j12 .nil)))))))
def EOb (mv qv lv : Value) (n : Nat) (j6 j12 wv : Value) (z : Int) (j8 j33 : Value) : L :=
 .cons 0 mv (.cons 1 qv (.cons 4 (.slice none 0 0) (.cons 5 lv (.cons 10 (.int .i64 (n : Int)) (.cons 11 (.int .i64 (n : Int)) (.cons 6 j6 (.cons 12 j12 (.cons 7 wv (.cons 31 (.int .i64 (n : Int)) (.cons 32 (.int .i64 z) (.cons 8 j8 (.cons 33 j33 .nil))))))))))))
set_option maxHeartbeats 4000000 in
theorem rorder_spec {h : T AObj} {c : Nat} {rl wl : List Nat} (hf : Fresh h c) {v : Value} {dim : Nat} {mid : List (List Int)} {U : Nat → Prop} (hm : MRow h v dim mid U) (hn : mid.length ≤ 16) (hd : dim ≤ 1000) {qa : Option Addr} {qc : Nat} {qs : List Int} (hq : Row h (.slice qa dim qc) dim 1 (qs.map (Value.int .i32))) (hqn : qs.length = dim) (hqb : Bnd qs) (R : Nat → Prop) (hUR : ∀ b, U b → R b) (hqR : ∀ b, blkOf (.slice qa dim qc) = some b → R b) :
  ∃ r s', FnTo (Cs smQ) eg 111 [v, .slice qa dim qc] ⟨h, c, rl, wl⟩ r s' ∧ HJ s'.h c r (ordZ mid qs) ∧ Ext ⟨h, c, rl, wl⟩ s' R (fun _ => False) := by
 obtain ⟨oa, cap, rfl⟩ := hm.val
 have hol := hitO_len qs mid
 refine Fn.go (stdQ 111 rfl) ex111 fn111 km111 rfl rfl ?_
 refine Zev ?_
 refine Zgo ?_
 refine Wx.cutO (fun e s => ∃ (lv j6 j12 : Value) (h' : T AObj) (c' : Nat) (rl' wl' : List Nat), e = EOa (.slice oa mid.length cap) (.slice qa dim qc) lv mid.length mid.length j6 j12 ∧ s = ⟨h', c', rl', wl'⟩ ∧ c ≤ c' ∧ Fresh h' c' ∧ Kp h h' c (fun _ => False) ∧ Best h' lv (bestOf mid.length (hitO qs mid)).length (flatH (bestOf mid.length (hitO qs mid))) ∧ (∀ b, blkOf lv = some b → c ≤ b) ∧ Lg c R rl' ∧ Lg c (fun _ => False) wl') Zrs ?_ ?_
 ·refine Wx.loopE (fun k1 e s => ∃ (i : Nat) (z : Int) (lv j6 j12 : Value) (h' : T AObj) (c' : Nat) (rl' wl' : List Nat), e = EOa (.slice oa mid.length cap) (.slice qa dim qc) lv mid.length z j6 j12 ∧ z = i ∧ s = ⟨h', c', rl', wl'⟩ ∧ c ≤ c' ∧ Fresh h' c' ∧ Kp h h' c (fun _ => False) ∧ Best h' lv (bestOf mid.length ((hitO qs mid).take i)).length (flatH (bestOf mid.length ((hitO qs mid).take i))) ∧ (∀ b, blkOf lv = some b → c ≤ b) ∧ Lg c R rl' ∧ Lg c (fun _ => False) wl' ∧ i ≤ mid.length ∧ k1 = mid.length - i) mid.length (EOa (.slice oa mid.length cap) (.slice qa dim qc) (.slice none 0 0) mid.length 0 top top) Zrs ?_ ?_ ?_
  ·unfold EOa
   exact Zek
  ·exact ⟨0, 0, _, _, _, _, _, _, _, rfl, rfl, rfl, Nat.le_refl _, Zfr, Zkp, .inl ⟨rfl, rfl, rfl⟩, (fun b q => by cases q), Zlg, Zlg, by omega, rfl⟩
  ·rintro k1 e s ⟨i, z, lv, j6, j12, h', c', rl', wl', rfl, hz, rfl, hcc, hf', hkp, hB, hBb, hlr, hlw, hid, rfl⟩
   unfold EOa
   by_cases hi : i < mid.length
   ·have hm' := hm.keep hf (fun _ q => q) (fun b _ hb _ => hkp b hb (fun q => q))
    have hq' := Row.keepF hq hf (fun b hb => hkp b hb (fun q => q))
    have hat := hitO_at (qs := qs) (List.getElem?_eq_getElem hi)
    obtain ⟨g1, g2, b, sp, vals, a, k, rfl, g4, g5, g6, g7, g8⟩ := hm'.at (List.getElem?_eq_getElem hi)
    have lb := g5.lt hf'
    have rb := hUR b g4
    obtain ⟨q1, q2⟩ := bestOf_good mid.length (hitO qs mid) i (by omega)
    obtain ⟨hi2, hat2⟩ := List.getElem?_eq_some_iff.1 hat
    have hbt := bestOf_take (k := mid.length) hi2
    rw [hat2] at hbt
    obtain ⟨olv, clv, rfl, _, _⟩ := hB.row
    refine Zgo ?_
    refine Zu (to_indexAddr (k := i) el22 rfl rfl hz hi) ?_
    refine Zu (to_load (pl_ rfl) rfl g5.cel (by omega) g6) ?_
    refine Zgo ?_
    refine Wseq.call rfl rfl (rscore_spec Zfr (.inl rfl) g1 hqn g7 hq' g2 hqb hd R (fun x hb => hb.elim (fun u => hUR x (g8 x u)) (hqR x))) ?_
    rintro v1 h1 c1 r1 w1 ⟨⟨rfl, e1, e2⟩, hext⟩
    simp only at e1 e2
    have lr := Lg.extR (R := R) (c := c) Zlg hext (fun _ _ q => q)
    have lw := Lg.extW (W := fun _ => False) (c := c) Zlg hext (fun _ _ q => q)
    subst e1 e2
    refine Zgo ?_
    rw [hz]
    refine Wseq.call rfl rfl (pb_spec Zfr (k := (mid.length : Int)) (kk := mid.length) (by omega) (by omega) hB q1 q2 ⟨(i : Int), scoreZ 1 mid[i] qs⟩ (fun b => c ≤ b) hBb) ?_
    rintro v2 h2 c2 r2 w2 ⟨⟨v', bb, rfl, hB2, hv2⟩, hext2⟩
    have fr2 := hext2.fresh
    have le2 := hext2.c
    simp only at fr2 le2 hB2
    have kp2 := Kp.ext (W := fun _ => False) (h := h) (c := c) hkp hext2 (by omega) (fun _ _ q => q)
    have lr2 := Lg.extR (R := R) (c := c) Zlg hext2 (fun b hb q => by omega)
    have lw2 := Lg.extW (W := fun _ => False) (c := c) Zlg hext2 (fun _ _ q => q)
    rw [← hbt] at hB2
    refine Zgo ?_
    refine RoundE.go (mid.length - (i + 1)) (EOa _ _ v' mid.length ((i : Int) + 1) _ _) (by omega) Zek ⟨i + 1, (i : Int) + 1, _, _, _, _, _, _, _, rfl, by omega, rfl, by omega, fr2, kp2, hB2, fun b q => (hv2 b q).elim (fun u => by omega) (hBb b), lr2, lw2, by omega, rfl⟩
   ·refine Zgo ?_
    obtain rfl : i = mid.length := by omega
    subst hz
    rw [List.take_of_length_le (by omega)] at hB
    exact CutQ.go (EOa _ _ lv mid.length mid.length _ _) Zek ⟨_, _, _, _, _, _, _, rfl, rfl, hcc, hf', hkp, hB, hBb, hlr, hlw⟩
 ·rintro e s ⟨lv, j6, j12, h1, c1, rl1, wl1, rfl, rfl, hcc1, hf1, hkp1, hB1, hBb1, hlr1, hlw1⟩
  unfold EOa
  have hbl : (bestOf mid.length (hitO qs mid)).length = mid.length := by
   have := bestOf_len_eq (k := mid.length) (hitO_nodup qs mid) (m := mid.length) (by omega) (Nat.le_refl _)
   rwa [List.take_of_length_le (by omega)] at this
  show Wx _ _ _ _ _ _ _
  unfold ordZ
  generalize bestOf mid.length (hitO qs mid) = bl at hB1 hbl
  obtain ⟨olv, clv, rfl, hnc, hrow⟩ := hB1.row
  rw [hbl] at hrow
  rw [hbl]
  refine Zgo ?_
  refine Wx.loopE (fun k1 e s => ∃ (i : Nat) (z : Int) (wv j8 j33 : Value) (h' : T AObj) (c' : Nat) (rl' wl' : List Nat), e = EOb (.slice oa mid.length cap) (.slice qa dim qc) (.slice olv mid.length clv) mid.length j6 j12 wv z j8 j33 ∧ z = i ∧ s = ⟨h', c', rl', wl'⟩ ∧ c1 ≤ c' ∧ Fresh h' c' ∧ Kp h1 h' c1 (fun _ => False) ∧ HJ h' c1 wv ((bl.take i).map Ht.id) ∧ Lg c R rl' ∧ Lg c (fun _ => False) wl' ∧ i ≤ mid.length ∧ k1 = mid.length - i) mid.length (EOb (.slice oa mid.length cap) (.slice qa dim qc) (.slice olv mid.length clv) mid.length j6 j12 (.slice none 0 0) 0 top top) Zrs ?_ ?_ ?_
  ·unfold EOb
   exact Zek
  ·exact ⟨0, 0, _, _, _, _, _, _, _, rfl, rfl, rfl, Nat.le_refl _, hf1, Kp.refl, .inl ⟨rfl, rfl⟩, hlr1, hlw1, by omega, rfl⟩
  ·rintro k1 e s ⟨i, z, wv, j8, j33, h', c', rl', wl', rfl, hz, rfl, hcc, hf', hkp, hHJ, hlr, hlw, hid, rfl⟩
   unfold EOb
   by_cases hi : i < mid.length
   ·have hxi : bl[i]? = some (bl[i]'(by omega)) := List.getElem?_eq_getElem (by omega)
    have hrow' := Row.keepF hrow hf1 (fun b hb => hkp b hb (fun q => q))
    rcases hrow' with ⟨q, _⟩ | ⟨b, o, sp, cap', cs, e, hcl, hsub⟩
    ·omega
    simp only [Value.slice.injEq, true_and] at e
    obtain ⟨rfl, rfl⟩ := e
    have lbl := hcl.lt hf'
    have rb := hBb1 b rfl
    have hg := hit_nthO (o := o) (by rw [hbl]; exact hsub) hxi
    have hmap : (bl.take (i + 1)).map Ht.id = (bl.take i).map Ht.id ++ [(bl[i]'(by omega)).id] := by rw [List.take_succ_eq_append_getElem (by omega), List.map_append]; rfl
    have hl0 : ((bl.take i).map Ht.id).length = i := by rw [List.length_map, List.length_take]; omega
    refine Zgo ?_
    refine Zu (to_indexAddr (k := i) el37 rfl rfl hz hi) ?_
    refine Zgo ?_
    refine Zu (to_load (pl_ rfl) rfl hcl (by omega) hg) ?_
    refine Zgo ?_
    have hlv : ∀ b, blkOf wv = some b → c1 ≤ b ∧ b < c' := fun b q => hHJ.lt hf' q
    refine Wseq.appJ (v := wv) rfl rfl rfl (l := (bl.take i).map Ht.id) (c0 := c1) (y := (bl[i]'(by omega)).id) (hHJ.imp (fun q => q) (fun ⟨b, e1, e2, e3, e4⟩ => ⟨b, e1, e2, e3, e4.other (by have := e4.lt hf'; omega)⟩)) Has.same (by omega) (by omega) Zfr (by omega) ?_
    intro h2 rl2 wl2 fr2 kp2 hN hrl2 hwl2
    have kp2' : Kp h1 h2 c1 (fun _ => False) := fun b hb _ => by
     rw [kp2 b (by omega) (fun q => by have := hlv b q; omega), get_other (by omega)]
     exact hkp b hb (fun q => q)
    have lr2 : Lg c R rl2 := fun b hb => (hrl2 b hb).elim (fun u => (show Lg c R _ from Zlg) b u) (fun u => .inl (by omega))
    have lw2 : Lg c (fun _ => False) wl2 := fun b hb => (hwl2 b hb).elim (fun u => hlw b u) (fun u => .inl (by omega))
    rw [hl0]
    refine Zgo ?_
    refine RoundE.go (mid.length - (i + 1)) (EOb _ _ _ mid.length j6 j12 _ (z + 1) _ _) (by omega) Zek ⟨i + 1, z + 1, _, _, _, _, _, _, _, rfl, by omega, rfl, by omega, fr2, kp2', .inr ⟨c' + 1, ?_, ?_, by omega, ?_⟩, lr2, lw2, by omega, rfl⟩
    ·rw [hmap, List.length_append, hl0]; rfl
    ·rw [hmap]; intro e; have := congrArg List.length e; rw [List.length_append] at this; cases this
    ·rw [hmap]; exact hN
   ·refine Zgo ?_
    obtain rfl : i = mid.length := by omega
    rw [List.take_of_length_le (by omega)] at hHJ
    have kpe : Kp h h' c (fun _ => False) := fun b hb _ => (hkp b (by omega) (fun q => q)).trans (hkp1 b hb (fun q => q))
    refine ⟨.inr rfl, Wres.one rfl ⟨hHJ.imp (fun q => q) (fun ⟨b, e1, e2, e3, e4⟩ => ⟨b, e1, e2, by omega, e4⟩), ?_⟩⟩
    exact Zex
end Go.Ab.Seat
end
