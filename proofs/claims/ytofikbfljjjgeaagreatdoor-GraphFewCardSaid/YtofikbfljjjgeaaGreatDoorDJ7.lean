import Derived.Test.YtofikbfljjjgeaaGreatDoorDJ5
import Derived.Test.YtofikbfljjjgeaaGreatDoorDF7
import Derived.Test.YtofikbfljjjgeaaGreatDoorE50
import Derived.Test.YtofikbfljjjgeaaGreatDoorDI1
import Derived.Test.YtofikbfljjjgeaaGreatDoorDM1
import Derived.Test.YtofikbfljjjgeaaGreatDoorDF4
import Derived.Test.YtofikbfljjjgeaaGreatDoorE48
import Derived.Test.YtofikbfljjjgeaaGreatDoorE52
set_option linter.unusedVariables false
set_option linter.unusedSimpArgs false
section
/- Ids of hits; an index by a closure; sets in a map (the abstract machine). -/
namespace Go.Ab.Seat
open Go.Extern Go.Proofs
set_option maxRecDepth 4000
def SetM (h : T AObj) (b : Nat) (l : List Int) : Prop := ∃ es n ids, Has h b (.map es n) ∧ Keyed es n ids ∧ ∀ x, valI x es = if x ∈ l then some (.bool true) else none
theorem SetM.nil {h : T AObj} {b : Nat} (k : Has h b (.map [] 0)) : SetM h b [] := ⟨[], 0, [], k, .nil 0, fun x => rfl⟩
theorem SetM.keep {h h' : T AObj} {b : Nat} {l : List Int} (x : SetM h b l) (k : h'.get b = h.get b) : SetM h' b l := by
 obtain ⟨es, n, ids, h1, h2⟩ := x
 exact ⟨es, n, ids, k.trans h1, h2⟩
theorem SetM.lt {h : T AObj} {b c : Nat} {l : List Int} (x : SetM h b l) (hf : Fresh h c) : b < c := by
 obtain ⟨es, n, ids, h1, h2⟩ := x
 exact h1.lt hf
theorem set_look {es : List (Value × Value × Nat)} {l : List Int} (hv : ∀ x, valI x es = if x ∈ l then some (.bool true) else none) (x : Int) : (match findI x es with | some p => p.2 | none => .bool false) = Value.bool (decide (x ∈ l)) := by
 have h := hv x
 by_cases hx : x ∈ l
 ·rw [if_pos hx] at h
  obtain ⟨i, hi⟩ := valI_some h
  rw [hi, decide_eq_true hx]
 ·rw [if_neg hx] at h
  rw [valI_none.1 h, decide_eq_false hx]
theorem set_put {es : List (Value × Value × Nat)} {n : Nat} {ids l : List Int} (hk : Keyed es n ids) (hv : ∀ x, valI x es = if x ∈ l then some (.bool true) else none) (y x : Int) : valI x (putI .i64 y (.bool true) n es).1 = if x ∈ y :: l then some (.bool true) else none := by
 rw [valI_put hk]
 by_cases hx : x = y
 ·rw [if_pos hx, if_pos (by rw [hx]; exact List.mem_cons_self ..)]
 ·rw [if_neg hx, hv]
  by_cases hl : x ∈ l
  ·rw [if_pos hl, if_pos (List.mem_cons_of_mem _ hl)]
  ·rw [if_neg hl, if_neg fun q => (List.mem_cons.1 q).elim hx hl]
def IRow (h : T AObj) (c0 : Nat) (v : Value) (l : List Int) : Prop := (v = .slice none 0 0 ∧ l = []) ∨ ∃ b, v = .slice (some ⟨b, 0, some 1⟩) l.length l.length ∧ l ≠ [] ∧ c0 ≤ b ∧ Has h b (.cells (l.map (Value.int .i64)))
theorem IRow.val {h : T AObj} {c : Nat} {v : Value} {l : List Int} (x : IRow h c v l) : ∃ oa, v = .slice oa l.length l.length ∧ Row h v l.length 1 (l.map (Value.int .i64)) ∧ ∀ b, blkOf v = some b → c ≤ b := by
 rcases x with ⟨rfl, rfl⟩ | ⟨b, rfl, _, h1, h2⟩
 ·exact ⟨_, rfl, .inl ⟨rfl, rfl, _, _, rfl⟩, fun b hb => by cases hb⟩
 ·exact ⟨_, rfl, .inr ⟨b, 0, _, _, _, rfl, h2.cel, subN_all _ _ (by rw [List.length_map, Nat.mul_one])⟩, fun b hb => by cases hb; exact h1⟩
theorem IRow.keep {h h' : T AObj} {c : Nat} {v : Value} {l : List Int} (x : IRow h c v l) (k : ∀ b, blkOf v = some b → h'.get b = h.get b) : IRow h' c v l := by
 rcases x with x | ⟨b, rfl, x1, x2, x3⟩
 ·exact .inl x
 ·exact .inr ⟨b, rfl, x1, x2, (k b rfl).trans x3⟩
theorem IRow.low {h : T AObj} {c c' : Nat} {v : Value} {l : List Int} (x : IRow h c v l) (k : c' ≤ c) : IRow h c' v l := by
 rcases x with x | ⟨b, rfl, x1, x2, x3⟩
 ·exact .inl x
 ·exact .inr ⟨b, rfl, x1, by omega, x3⟩
theorem IRow.lt {h : T AObj} {c c' : Nat} {v : Value} {l : List Int} (x : IRow h c v l) (hf : Fresh h c') : ∀ b, blkOf v = some b → b < c' := by
 rcases x with ⟨rfl, _⟩ | ⟨b, rfl, x1, x2, x3⟩
 ·intro b hb; cases hb
 ·intro b' hb; cases hb; exact x3.lt hf
theorem IRow.of {h : T AObj} {c b n : Nat} {l : List Int} (hB : Has h b (.cells (l.map (Value.int .i64)))) (hc : c ≤ b) (hl : l.length = n) (hn : n ≠ 0) : IRow h c (.slice (some ⟨b, 0, some 1⟩) n n) l := by
 subst hl
 exact .inr ⟨b, rfl, fun e => hn (by rw [e]; rfl), hc, hB⟩
theorem int_nth {l : List Int} {i : Nat} {x : Int} (h : l[i]? = some x) : (l.map (Value.int .i64))[i * 1]? = some (.int .i64 x) := by
 rw [Nat.mul_one, List.getElem?_map, h]; rfl
def K139 : List Nat := [0, 2, 3, 5, 6, 7, 8, 9]
set_option maxHeartbeats 4000000 in
theorem gids_spec {h : T AObj} {c : Nat} {rl wl : List Nat} (hf : Fresh h c) {oa : Option Addr} {cap : Nat} {l : List Ht} (hx : Row h (.slice oa l.length cap) l.length 2 (flatH l)) (hn : l.length ≤ 1000) (R : Nat → Prop) (hR : ∀ b, blkOf (.slice oa l.length cap) = some b → R b) :
  ∃ r s', FnTo (Cs smQ) eg 139 [.slice oa l.length cap] ⟨h, c, rl, wl⟩ r s' ∧ IRow s'.h c r (l.map Ht.id) ∧ Ext ⟨h, c, rl, wl⟩ s' R (fun _ => False) := by
 have hbg : big = 1048576 := rfl
 refine Fn.go (stdQ 139 rfl) ex139 fn139 km139 rfl rfl ?_
 refine Zev ?_
 refine Zgo ?_
 refine Wx.loopF (fun k1 e s => ∃ (g : Nat → Value) (i : Nat) (z : Int) (lv : Value) (h' : T AObj) (c' : Nat) (rl' wl' : List Nat), e = fr g [(3, lv), (6, .slice oa l.length cap), (7, .int .i64 (l.length : Int)), (8, .int .i64 z)] K139 ∧ z = i ∧ s = ⟨h', c', rl', wl'⟩ ∧ c ≤ c' ∧ Fresh h' c' ∧ Kp h h' c (fun _ => False) ∧ IRow h' c lv ((l.take i).map Ht.id) ∧ Lg c R rl' ∧ Lg c (fun _ => False) wl' ∧ i ≤ l.length ∧ k1 = l.length - i) l.length K139 [(3, .slice none 0 0), (6, _), (7, _), (8, .int .i64 0)] ⟨_, 0, 0, _, _, _, _, _, rfl, rfl, rfl, Nat.le_refl _, Zfr, Zkp, .inl ⟨rfl, rfl⟩, Zlg, Zlg, by omega, rfl⟩ ?_
 rintro k1 e s ⟨g, i, z, lv, h', c', rl', wl', rfl, hz, rfl, hcc, hf', hkp, hI, hlr, hlw, hid, rfl⟩
 (refine Wx.sw (by simp only [K139, frN, frC, updN, updC, Nat.reduceEqDiff, ↓reduceIte]; rfl) ?_)
 by_cases hi : i < l.length
 rotate_left
 ·refine Zgo ?_
  obtain rfl : i = l.length := by omega
  rw [List.take_length] at hI
  exact ⟨.inr rfl, Wres.one rfl ⟨hI, Zex⟩⟩
 obtain ⟨b1, o1, sp1, cs1, rfl, hc1, hs1⟩ := rowB (Row.keepF hx hf (fun b hb => hkp b hb (fun q => q))) (by omega)
 have hR1 := hR b1 rfl
 have l1 := hc1.lt hf'
 have hg := sub_hit hs1 (List.getElem?_eq_getElem hi)
 have hlen : ((l.take i).map Ht.id).length = i := by rw [List.length_map, List.length_take]; omega
 have hstep : ((l.take (i + 1)).map Ht.id) = (l.take i).map Ht.id ++ [l[i].id] := by rw [List.take_succ_eq_append_getElem hi, List.map_append]; rfl
 refine Zgo ?_
 refine Zu (to_indexAddr (k := i) el37 rfl rfl hz (by omega)) ?_
 refine Zu (to_loadS ag52 rfl hc1 (by omega) hg) ?_
 refine Zgo ?_
 rcases hI with ⟨rfl, e0⟩ | ⟨bl, rfl, hne, hbl, hB⟩
 ·refine Zu (to_appNil ro45 sl45 rfl rfl (k := 0) Has.same.cel (by omega) (subN_all _ _ rfl) (by omega) Zfr) ?_
  refine Zgo ?_
  have hi0 : i = 0 := by rw [e0] at hlen; exact hlen.symm
  refine RoundE.goF (l.length - (i + 1)) K139 [(3, _), (6, _), (7, _), (8, .int .i64 (z + 1))] (by omega) ⟨_, i + 1, z + 1, _, _, _, _, _, rfl, by omega, rfl, by omega, Zfr, Zkp, .of (by rw [hstep, e0]; exact Has.same) (by omega) (by rw [hstep, e0]; rfl) (n := 1) (by decide), Zlg, Zlg, by omega, rfl⟩
 ·have lb := hB.lt hf'
  refine Zu (to_appOwn ro45 sl45 rfl rfl (k := 0) Has.same.cel (by omega) (subN_all _ _ rfl) (by omega) (by omega) (((hB.other (by omega)).other (by omega)).other (by omega)) (by omega) (subN_all _ _ (by simp)) (all_cons rfl all_nil) Zfr) ?_
  refine Zgo ?_
  refine RoundE.goF (l.length - (i + 1)) K139 [(3, _), (6, _), (7, _), (8, .int .i64 (z + 1))] (by omega) ⟨_, i + 1, z + 1, _, _, _, _, _, rfl, by omega, rfl, by omega, Zfr, Zkp, .of (by rw [hstep, List.map_append]; exact Has.same) (by omega) (by rw [hstep, List.length_append]; rfl) (Nat.succ_ne_zero _), Zlg, Zlg, by omega, rfl⟩
def K141 : List Nat := [0, 1, 4, 5, 7, 8, 9, 16]
set_option maxHeartbeats 4000000 in
theorem gidx_spec {h : T AObj} {c : Nat} {rl wl : List Nat} (hf : Fresh h c) {oa : Option Addr} {cap f : Nat} {l : List Int} {caps : List Value} (P : Int → Bool) (hx : Row h (.slice oa l.length cap) l.length 1 (l.map (Value.int .i64))) (hn : l.length ≤ 100000) (R : Nat → Prop) (hR : ∀ b, blkOf (.slice oa l.length cap) = some b → R b)
  (hcl : ∀ (h' : T AObj) (c' : Nat) (rl' wl' : List Nat), Fresh h' c' → c ≤ c' → Kp h h' c (fun _ => False) → ∀ x ∈ l, ∃ v s', FnTo (Cs smQ) eg f (.int .i64 x :: caps) ⟨h', c', rl', wl'⟩ v s' ∧ v = .bool (P x) ∧ Ext ⟨h', c', rl', wl'⟩ s' R (fun _ => False)) :
  ∃ r s', FnTo (Cs smQ) eg 141 [.slice oa l.length cap, .func (.func f) #[] ⟨caps⟩] ⟨h, c, rl, wl⟩ r s' ∧ ((∃ (i : Nat) (x : Int), l[i]? = some x ∧ P x = true ∧ (∀ y ∈ l.take i, P y = false) ∧ r = .int .i64 (i : Int)) ∨ (r = .int .i64 (-1) ∧ ∀ y ∈ l, P y = false)) ∧ Ext ⟨h, c, rl, wl⟩ s' R (fun _ => False) := by
 refine Fn.go (stdQ 141 rfl) ex141 fn141 km141 rfl rfl ?_
 refine Zev ?_
 refine Zgo ?_
 refine Wx.loopF (fun k1 e s => ∃ (g : Nat → Value) (i : Nat) (z : Int) (h' : T AObj) (c' : Nat) (rl' wl' : List Nat), e = fr g [(0, .slice oa l.length cap), (1, .func (.func f) #[] ⟨caps⟩), (7, .int .i64 (l.length : Int)), (8, .int .i64 z)] K141 ∧ z = i ∧ s = ⟨h', c', rl', wl'⟩ ∧ c ≤ c' ∧ Fresh h' c' ∧ Kp h h' c (fun _ => False) ∧ Lg c R rl' ∧ Lg c (fun _ => False) wl' ∧ (∀ y ∈ l.take i, P y = false) ∧ i ≤ l.length ∧ k1 = l.length - i) l.length K141 [(0, _), (1, _), (7, _), (8, .int .i64 0)] ⟨_, 0, 0, _, _, _, _, rfl, rfl, rfl, Nat.le_refl _, Zfr, Zkp, Zlg, Zlg, (fun y hy => by simp at hy), by omega, rfl⟩ ?_
 rintro k1 e s ⟨g, i, z, h', c', rl', wl', rfl, hz, rfl, hcc, hf', hkp, hlr, hlw, hno, hid, rfl⟩
 (refine Wx.sw (by simp only [K141, frN, frC, updN, updC, Nat.reduceEqDiff, ↓reduceIte]; rfl) ?_)
 by_cases hi : i < l.length
 rotate_left
 ·refine Zgo ?_
  obtain rfl : i = l.length := by omega
  rw [List.take_length] at hno
  exact ⟨.inr rfl, Wres.one rfl ⟨.inr ⟨rfl, hno⟩, Zex⟩⟩
 obtain ⟨b1, o1, sp1, cs1, rfl, hc1, hn1⟩ := rowCell (Row.keepF hx hf (fun b hb => hkp b hb (fun q => q))) (j := i * 1) (by omega) (int_nth (List.getElem?_eq_getElem hi))
 have hR1 := hR b1 rfl
 have l1 := hc1.lt hf'
 refine Zgo ?_
 refine Zu (to_indexAddr (k := i) el45 rfl rfl hz (by omega)) ?_
 refine Zu (to_load (pl_ rfl) rfl hc1 (by omega) hn1) ?_
 refine Wseq.callV rfl rfl rfl (hcl _ _ _ _ Zfr (by omega) hkp l[i] (List.getElem_mem hi)) ?_
 rintro v h1 c1 r1 w1 ⟨rfl, hext⟩
 have kp := Kp.ext (W := fun _ => False) (h := h) (c := c) hkp hext (by omega) (fun _ _ q => q)
 have lr := Lg.extR (R := R) (c := c) Zlg hext (fun q _ hq => hq)
 have lw := Lg.extW (W := fun _ => False) (c := c) Zlg hext (fun _ _ q => q)
 have fr1 := hext.fresh
 have le1 := hext.c
 simp only at le1 fr1
 cases hP : P l[i]
 ·refine Zgo ?_
  refine RoundE.goF (l.length - (i + 1)) K141 [(0, _), (1, _), (7, _), (8, .int .i64 (z + 1))] (by omega) ⟨_, i + 1, z + 1, _, _, _, _, rfl, by omega, rfl, by omega, fr1, kp, lr, lw, ?_, by omega, rfl⟩
  intro x hx
  rw [List.take_succ_eq_append_getElem hi] at hx
  rcases List.mem_append.1 hx with hx | hx
  ·exact hno x hx
  ·rw [List.mem_singleton.1 hx]; exact hP
 ·refine Zgo ?_
  exact ⟨.inr rfl, Wres.one rfl ⟨.inl ⟨i, l[i], List.getElem?_eq_getElem hi, hP, hno, by rw [← hz]; rfl⟩, Zex⟩⟩
theorem look1_spec {h : T AObj} {c : Nat} {rl wl : List Nat} (hf : Fresh h c) {bd md : Nat} {d : List Int} (hb : Has h bd (.cells [.map (some md)])) (hs : SetM h md d) (x : Int) (R : Nat → Prop) (hR1 : R bd) (hR2 : R md) :
  ∃ v s', FnTo (Cs smQ) eg 142 [.int .i64 x, .pointer (some ⟨bd, 0, none⟩)] ⟨h, c, rl, wl⟩ v s' ∧ v = .bool (decide (x ∉ d)) ∧ Ext ⟨h, c, rl, wl⟩ s' R (fun _ => False) := by
 obtain ⟨es, n, ids, hm, hk, hv⟩ := hs
 have l1 := hb.lt hf
 have l2 := hm.lt hf
 refine Fn.go (stdQ 142 rfl) ex142 fn142 km142 rfl rfl ?_
 refine Zev ?_
 refine Zgo ?_
 refine Zu (to_lookup (mi_ rfl) (ze_ rfl) rfl rfl hm l2 hk.ks (set_look hv x)) ?_
 refine Zgo ?_
 refine ⟨.inr rfl, Wres.one rfl ⟨?_, Zex⟩⟩
 by_cases hx : x ∈ d <;> simp [hx]
 all_goals rfl
end Go.Ab.Seat
end
section
/- The reference's index is read (the abstract machine). -/
namespace Go.Ab.Seat
open Go.Extern Go.Proofs
set_option maxRecDepth 4000
structure On where
 id : Int
 vec : Value
 xs : List Value
def On.cells (x : On) : List Value := [.int .i64 x.id, x.vec, .int .i64 0, .slice none 0 0, .slice none 0 0, .slice none 0 0, .slice none 0 0, .slice none 0 0]
def On.rc (x : On) : Rc := ⟨x.id, x.xs, .empty, 0, false⟩
def flatO (l : List On) : List Value := l.flatMap On.cells
def LRow8 (h : T AObj) (v : Value) (l : List On) : Prop := (v = .slice none 0 0 ∧ l = []) ∨ ∃ b, v = .slice (some ⟨b, 0, some 8⟩) l.length l.length ∧ l ≠ [] ∧ Has h b (.cells (flatO l))
theorem LRow8.val {h : T AObj} {v : Value} {l : List On} (x : LRow8 h v l) : ∃ a, v = .slice a l.length l.length := by
 rcases x with ⟨rfl, rfl⟩ | ⟨b, rfl, _, _⟩
 ·exact ⟨_, rfl⟩
 ·exact ⟨_, rfl⟩
structure RK where
 kd : Int
 mv : Value
 bl : Value
 bs : Value
def refC (K : RK) (mt dm : Int) (lv : Value) : List Value := [.int .i64 K.kd, .int .i64 mt, .int .i64 dm, lv, K.mv, K.bl, K.bs]
structure RefX (h : T AObj) (p : Nat) (K : RK) (mt dm : Int) (dim : Nat) (M : List Rc) (U : Nat → Prop) : Prop where
 ex : ∃ lv l, Has h p (.cells (refC K mt dm lv)) ∧ LRow8 h lv l ∧ (∀ b, blkOf lv = some b → U b ∧ b ≠ p) ∧ (∀ x ∈ l, Own h 0 x.vec x.xs.length x.xs ∧ ∀ b, blkOf x.vec = some b → U b ∧ b ≠ p ∧ blkOf lv ≠ some b) ∧ l.map On.rc = M
 pU : U p
 rises : Rises M
 ok : ∀ r ∈ M, ∃ zs : List Int, r.xs = zs.map (Value.int .i32) ∧ zs.length = dim ∧ Bnd zs
theorem RefX.keep {h h' : T AObj} {c p dim : Nat} {K : RK} {mt dm : Int} {M : List Rc} {U : Nat → Prop} (q : RefX h p K mt dm dim M U) (hf : Fresh h c) (k : ∀ b, U b → b < c → h'.get b = h.get b) : RefX h' p K mt dm dim M U := by
 obtain ⟨⟨lv, l, h1, h2, h3, h4, h5⟩, h6, h7, h8⟩ := q
 refine ⟨⟨lv, l, (k p h6 (h1.lt hf)).trans h1, ?_, h3, fun x hx => ⟨(h4 x hx).1.keep fun b hb => k b ((h4 x hx).2 b hb).1 (((h4 x hx).1.blk hb).2.lt hf), (h4 x hx).2⟩, h5⟩, h6, h7, h8⟩
 rcases h2 with h2 | ⟨b, rfl, hne, h2⟩
 ·exact .inl h2
 ·exact .inr ⟨b, rfl, hne, (k b (h3 b rfl).1 (h2.lt hf)).trans h2⟩
theorem RefX.new {h : T AObj} {p dim : Nat} {K : RK} {mt dm : Int} (hp : Has h p (.cells (refC K mt dm (.slice none 0 0)))) : RefX h p K mt dm dim [] (fun b => b = p) := ⟨⟨_, [], hp, .inl ⟨rfl, rfl⟩, (fun b hb => by cases hb), (fun x hx => by cases hx), rfl⟩, rfl, Rises.nil, fun r hr => by cases hr⟩
end Go.Ab.Seat
end
section
/- The reference's score; a member's place; ids, a vector, a hit (the abstract machine). -/
namespace Go.Ab.Seat
open Go.Extern Go.Proofs
set_option maxRecDepth 4000
def HJ (h : T AObj) (c0 : Nat) (v : Value) (l : List Int) : Prop := (v = .slice none 0 0 ∧ l = []) ∨ ∃ b, v = .slice (some ⟨b, 0, some 1⟩) l.length l.length ∧ l ≠ [] ∧ c0 ≤ b ∧ Has h b (.cells (l.map (Value.int .i64)))
theorem HJ.val {h : T AObj} {c : Nat} {v : Value} {l : List Int} (x : HJ h c v l) : ∃ oa, v = .slice oa l.length l.length ∧ Row h v l.length 1 (l.map (Value.int .i64)) ∧ ∀ b, blkOf v = some b → c ≤ b := by
 rcases x with ⟨rfl, rfl⟩ | ⟨b, rfl, _, h1, h2⟩
 ·exact ⟨_, rfl, .inl ⟨rfl, rfl, _, _, rfl⟩, fun b hb => by cases hb⟩
 ·exact ⟨_, rfl, .inr ⟨b, 0, _, _, _, rfl, h2.cel, subN_all _ _ (by simp)⟩, fun b hb => by cases hb; exact h1⟩
theorem HJ.lt {h : T AObj} {c c0 : Nat} {v : Value} {l : List Int} (x : HJ h c0 v l) (hf : Fresh h c) {b : Nat} (hb : blkOf v = some b) : c0 ≤ b ∧ b < c := by
 rcases x with ⟨rfl, _⟩ | ⟨b', rfl, _, h3, h4⟩
 ·cases hb
 ·cases hb; exact ⟨h3, h4.lt hf⟩
end Go.Ab.Seat
end
section
/- The reference's best ones: one more (the abstract machine). -/
namespace Go.Ab.Seat
open Go.Extern Go.Proofs
set_option maxRecDepth 4000
end Go.Ab.Seat
end
section
/- The reference's best ones (the abstract machine). -/
namespace Go.Ab.Seat
open Go.Extern Go.Proofs
set_option maxRecDepth 4000
theorem putB_ord {k : Nat} {p : List Ht} {x : Ht} (h : Ord p) : Ord (putB k p x) := by
 unfold putB
 cases ha : p.any (fun y => decide (y.id = x.id))
 ·rw [if_neg (by decide)]
  split
  ·exact h
  ·have h2 : ∀ y ∈ p, y.id ≠ x.id := fun y hy => by
    have := List.any_eq_false.1 ha y hy
    simpa using this
   exact (insB_ord h h2).sublist (List.take_sublist _ _)
 ·rw [if_pos rfl]; exact h
theorem putB_lek {k : Nat} {p : List Ht} {x : Ht} (h : p.length ≤ k) : (putB k p x).length ≤ k := by
 unfold putB
 split
 ·exact h
 ·split
  ·exact h
  ·rw [List.length_take]; omega
end Go.Ab.Seat
end
section
/- A look at a graph: what is found stands in order; it comes to an end (plain lists). -/
namespace Go.Ab.Seat
open Go.Extern Go.Proofs
theorem mem_putB {k : Nat} {l : List Ht} {x z : Ht} (h : z ∈ putB k l x) : z = x ∨ z ∈ l := by
 unfold putB at h
 split at h
 ·exact .inr h
 ·split at h
  ·exact .inr h
  ·have h := List.mem_of_mem_take h
   rcases List.mem_append.1 h with h | h
   ·exact .inr (List.mem_of_mem_take h)
   ·rcases List.mem_cons.1 h with h | h
    ·exact .inl h
    ·exact .inr (List.mem_of_mem_drop h)
theorem putB_nodup {k : Nat} {l : List Ht} {x : Ht} (h : (l.map Ht.id).Nodup) : ((putB k l x).map Ht.id).Nodup := by
 unfold putB
 cases ha : l.any (fun y => decide (y.id = x.id))
 ·rw [if_neg (by decide)]
  split
  ·exact h
  ·have h2 : ∀ y ∈ l, y.id ≠ x.id := fun y hy => by
    have := List.any_eq_false.1 ha y hy
    simpa using this
   have h3 : ((l.take (iH x l) ++ x :: l.drop (iH x l)).map Ht.id).Nodup := by
    have h4 : (l.take (iH x l) ++ x :: l.drop (iH x l)).Perm (x :: l) := insB_perm x l
    rw [(h4.map Ht.id).nodup_iff, List.map_cons, List.nodup_cons]
    refine ⟨fun q => ?_, h⟩
    obtain ⟨y, hy, e⟩ := List.mem_map.1 q
    exact h2 y hy e
   exact h3.sublist ((List.take_sublist _ _).map _)
 ·rw [if_pos rfl]; exact h
structure FGood (mt : Int) (M : List Rc) (q : List Int) (n : Nat) (st : List Ht × List Int) : Prop where
 ord : Ord st.1
 len : st.1.length ≤ n
 nd : (st.1.map Ht.id).Nodup
 hit : ∀ x ∈ st.1, x = hitG mt M q x.id
 mem : ∀ x ∈ st.1, ∃ r, getM x.id M = some r
 seen : ∀ x ∈ st.1, x.id ∈ st.2
section
variable {mt : Int} {M : List Rc} {q : List Int} {n : Nat} {st : List Ht × List Int}
theorem FGood.nil : FGood mt M q n ([], []) := ⟨List.Pairwise.nil, Nat.zero_le _, List.Pairwise.nil, (fun x h => by cases h), (fun x h => by cases h), (fun x h => by cases h)⟩
theorem FGood.from_ (g : FGood mt M q n st) {y : Int} (hy : ∃ r, getM y M = some r) : FGood mt M q n (fromG mt M q n st y) := by
 refine ⟨putB_ord g.ord, putB_lek g.len, putB_nodup g.nd, fun x hx => ?_, fun x hx => ?_, fun x hx => ?_⟩
 ·rcases mem_putB hx with rfl | hx
  ·rfl
  ·exact g.hit x hx
 ·rcases mem_putB hx with rfl | hx
  ·exact hy
  ·exact g.mem x hx
 ·rcases mem_putB hx with rfl | hx
  ·exact List.mem_cons_self ..
  ·exact List.mem_cons_of_mem _ (g.seen x hx)
theorem FGood.see (g : FGood mt M q n st) {y : Int} (hy : ∃ r, getM y M = some r) : FGood mt M q n (seeG mt M q n st y) := by
 unfold seeG
 split
 ·exact g
 ·exact g.from_ hy
theorem FGood.fromAll : ∀ {l : List Int} {st : List Ht × List Int}, FGood mt M q n st → (∀ y ∈ l, ∃ r, getM y M = some r) → FGood mt M q n (l.foldl (fromG mt M q n) st)
 | [], _, g, _ => g
 | y :: l, st, g, h => FGood.fromAll (l := l) (st := fromG mt M q n st y) (g.from_ (h y (List.mem_cons_self ..))) fun z hz => h z (List.mem_cons_of_mem _ hz)
theorem FGood.seeAll : ∀ {l : List Int} {st : List Ht × List Int}, FGood mt M q n st → (∀ y ∈ l, ∃ r, getM y M = some r) → FGood mt M q n (l.foldl (seeG mt M q n) st)
 | [], _, g, _ => g
 | y :: l, st, g, h => FGood.seeAll (l := l) (st := seeG mt M q n st y) (g.see (h y (List.mem_cons_self ..))) fun z hz => h z (List.mem_cons_of_mem _ hz)
end
theorem foldl_take {α β : Type} (f : α → β → α) (a : α) {l : List β} {i : Nat} (hi : i < l.length) : (l.take (i + 1)).foldl f a = f ((l.take i).foldl f a) l[i] := by
 rw [List.take_succ_eq_append_getElem hi, List.foldl_append]; rfl
structure LGood (mt : Int) (G : Gr) (q : List Int) (n : Nat) (st : LS) : Prop where
 f : FGood mt G.M q n (st.f, st.s)
 dn : st.d.Nodup
 dm : ∀ x ∈ st.d, ∃ r, getM x G.M = some r
theorem nextG_some {st : LS} {x : Ht} (h : nextG st = some x) : x ∈ st.f ∧ x.id ∉ st.d := by
 unfold nextG at h
 refine ⟨List.mem_of_find?_eq_some h, ?_⟩
 have := List.find?_some h
 simpa using this
theorem nextG_at {st : LS} {i : Nat} {x : Int} (h : (st.f.map Ht.id)[i]? = some x) (h1 : x ∉ st.d) (h2 : ∀ y ∈ (st.f.map Ht.id).take i, y ∈ st.d) : ∃ z, nextG st = some z ∧ z.id = x ∧ st.f[i]? = some z := by
 rw [List.getElem?_map] at h
 cases hf : st.f[i]? with
 | none => rw [hf] at h; cases h
 | some z =>
  rw [hf] at h
  obtain rfl : z.id = x := Option.some.inj h
  refine ⟨z, ?_, rfl, rfl⟩
  obtain ⟨hi, e⟩ := List.getElem?_eq_some_iff.1 hf
  unfold nextG
  have e2 : st.f = st.f.take i ++ z :: st.f.drop (i + 1) := by
   conv => lhs; rw [← List.take_append_drop i st.f, List.drop_eq_getElem_cons hi, e]
  rw [e2, List.find?_append]
  have e3 : (st.f.take i).find? (fun x => decide (x.id ∉ st.d)) = none := by
   rw [List.find?_eq_none]
   intro y hy
   have := h2 y.id (by rw [← List.map_take]; exact List.mem_map_of_mem hy)
   simp [this]
  rw [e3, Option.none_or, List.find?_cons, decide_eq_true h1]
theorem nextG_none {st : LS} (h : ∀ y ∈ st.f.map Ht.id, y ∈ st.d) : nextG st = none := by
 unfold nextG
 rw [List.find?_eq_none]
 intro y hy
 have := h y.id (List.mem_map_of_mem hy)
 simp [this]
theorem LGood.start {mt : Int} {G : Gr} {q : List Int} {n : Nat} {l : List Int} (h : ∀ y ∈ l, ∃ r, getM y G.M = some r) : LGood mt G q n (startG mt G.M q n l) :=
 ⟨FGood.nil.fromAll h, List.Pairwise.nil, fun x hx => by cases hx⟩
theorem LGood.step {mt : Int} {G : Gr} {q : List Int} {n l : Nat} {st : LS} {x : Ht} (g : LGood mt G q n st) (hx : nextG st = some x) (hm : ∀ y ∈ G.L x.id l, ∃ r, getM y G.M = some r) : LGood mt G q n (stepG mt G q l n st x) := by
 obtain ⟨h1, h2⟩ := nextG_some hx
 refine ⟨g.f.seeAll hm, List.nodup_cons.2 ⟨h2, g.dn⟩, fun y hy => ?_⟩
 rcases List.mem_cons.1 hy with rfl | hy
 ·exact g.f.mem x h1
 ·exact g.dm y hy
theorem nodup_len : ∀ {a b : List Int}, a.Nodup → (∀ x ∈ a, x ∈ b) → a.length ≤ b.length
 | [], b, _, _ => Nat.zero_le _
 | x :: a, b, hn, h => by
  obtain ⟨h1, h2⟩ := List.nodup_cons.1 hn
  have hb := h x (List.mem_cons_self ..)
  have := nodup_len (b := b.erase x) h2 fun y hy => (List.mem_erase_of_ne (fun e => h1 (by rw [← e]; exact hy))).2 (h y (List.mem_cons_of_mem _ hy))
  rw [List.length_erase_of_mem hb] at this
  have : 0 < b.length := List.length_pos_of_mem hb
  rw [List.length_cons]; omega
theorem LGood.len {mt : Int} {G : Gr} {q : List Int} {n : Nat} {st : LS} (g : LGood mt G q n st) : st.d.length ≤ G.M.length := by
 have := nodup_len (b := G.M.map Rc.id) g.dn fun x hx => by
  obtain ⟨r, hr⟩ := g.dm x hx
  obtain ⟨h1, h2⟩ := getM_mem hr
  exact List.mem_map.2 ⟨r, h1, h2⟩
 rwa [List.length_map] at this
theorem lookN_good {mt : Int} {G : Gr} {q : List Int} {n l : Nat} (hm : ∀ x y, y ∈ G.L x l → ∃ r, getM y G.M = some r) : ∀ (k : Nat) {st : LS}, LGood mt G q n st → ∃ s, FGood mt G.M q n (lookN mt G q l n k st, s)
 | 0, st, g => ⟨st.s, g.f⟩
 | k + 1, st, g => by
  unfold lookN
  cases hx : nextG st with
  | none => exact ⟨st.s, g.f⟩
  | some x => exact lookN_good hm k (g.step hx (hm x.id))
theorem lookH_good {mt : Int} {G : Gr} {q : List Int} {n l : Nat} {fs : List Int} (hm : ∀ x y, y ∈ G.L x l → ∃ r, getM y G.M = some r) (hf : ∀ y ∈ fs, ∃ r, getM y G.M = some r) : ∃ s, FGood mt G.M q n (lookH mt G q l fs n, s) := lookN_good hm _ (LGood.start hf)
theorem lookN_end {mt : Int} {G : Gr} {q : List Int} {n l k : Nat} {st : LS} (h : nextG st = none) : lookN mt G q l n k st = st.f := by
 cases k with
 | zero => rfl
 | succ k => unfold lookN; rw [h]
theorem lookN_step {mt : Int} {G : Gr} {q : List Int} {n l k : Nat} {st : LS} {x : Ht} (h : nextG st = some x) : lookN mt G q l n (k + 1) st = lookN mt G q l n k (stepG mt G q l n st x) := by
 conv => lhs; unfold lookN
 rw [h]
end Go.Ab.Seat
end
