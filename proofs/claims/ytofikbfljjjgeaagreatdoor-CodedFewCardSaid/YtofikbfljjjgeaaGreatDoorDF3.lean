import Derived.Test.YtofikbfljjjgeaaGreatDoorDP0
import Derived.Test.YtofikbfljjjgeaaGreatDoorDR1
import Derived.Test.YtofikbfljjjgeaaGreatDoorDO1
set_option linter.unusedVariables false
set_option linter.unusedSimpArgs false
section
/- The best ones of some, whichever order they come in; the nearest middle (plain). -/
namespace Go.Ab.Seat
open Go.Extern Go.Proofs
theorem iH_take (x : Ht) : ∀ (p : List Ht) (k : Nat), iH x (p.take k) = min (iH x p) k
 | [], k => by simp [iH]
 | y :: p, 0 => by simp [iH]
 | y :: p, k + 1 => by
  have h := iH_take x p k
  unfold iH at h ⊢
  rw [List.take_succ_cons, List.takeWhile_cons, List.takeWhile_cons]
  cases lessH y x
  ·simp
  ·simp only [if_true, List.length_cons]; omega
theorem take_ins {α : Type} (p : List α) (x : α) {i k : Nat} (hi : i ≤ p.length) (hk : i < k) : ((p.take k).take i ++ x :: (p.take k).drop i).take k = (p.take i ++ x :: p.drop i).take k := by
 have e1 : (p.take k).take i = p.take i := by rw [List.take_take, Nat.min_eq_left (by omega)]
 rw [e1, List.drop_take]
 obtain ⟨j, rfl⟩ : ∃ j, k = i + j + 1 := ⟨k - i - 1, by omega⟩
 have hl : (p.take i).length = i := by rw [List.length_take]; omega
 have e2 : ((p.drop i).take (j + 1)).take j = (p.drop i).take j := by rw [List.take_take, Nat.min_eq_left (by omega)]
 rw [List.take_append, List.take_append, hl, show i + j + 1 - i = j + 1 by omega, List.take_succ_cons, List.take_succ_cons, e2]
theorem putB_cut {k : Nat} {p : List Ht} {x : Ht} (hx : ∀ y ∈ p, y.id ≠ x.id) : putB k (p.take k) x = (insB x p).take k := by
 have h1 : (p.take k).any (fun y => decide (y.id = x.id)) = false := by
  rw [List.any_eq_false]
  intro y hy
  simpa using hx y (List.mem_of_mem_take hy)
 have h2 := iH_le x p
 unfold putB
 rw [h1, if_neg (by decide), iH_take]
 by_cases hk : k ≤ iH x p
 ·rw [if_pos (by omega)]
  unfold insB
  rw [List.take_append_of_le_length (by rw [List.length_take]; omega), List.take_take, Nat.min_eq_left hk]
 ·rw [if_neg (by omega), Nat.min_eq_left (by omega)]
  exact take_ins p x h2 (by omega)
theorem bestOf_cut {k : Nat} {l : List Ht} (hd : (l.map Ht.id).Nodup) : ∀ m, m ≤ l.length → bestOf k (l.take m) = (bestOf l.length (l.take m)).take k
 | 0, _ => by simp [bestOf]
 | m + 1, hm => by
  obtain ⟨h1, _⟩ := bestOf_ord (k := l.length) hd m (by omega) (by omega)
  have h3 : ∀ y ∈ bestOf l.length (l.take m), y.id ≠ (l[m]'(by omega)).id := fun y hy => ids_ne hd (by omega) y (h1.mem_iff.1 hy)
  have h4 : (bestOf l.length (l.take m)).length = m := by rw [h1.length_eq, List.length_take]; omega
  rw [bestOf_take (by omega), bestOf_take (by omega), putB_ins h3 (by omega), bestOf_cut hd m (by omega), putB_cut h3]
theorem ord_unique : ∀ {a b : List Ht}, Ord a → Ord b → a.Perm b → a = b
 | [], b, _, _, h => by rw [List.nil_perm.1 h]
 | x :: a, [], _, _, h => by have := h.length_eq; simp at this
 | x :: a, y :: b, h1, h2, h => by
  obtain ⟨p1, p2⟩ := List.pairwise_cons.1 h1
  obtain ⟨q1, q2⟩ := List.pairwise_cons.1 h2
  have hxy : x = y := by
   rcases List.mem_cons.1 (h.mem_iff.1 (List.mem_cons_self ..)) with e | hx
   ·exact e
   ·rcases List.mem_cons.1 (h.mem_iff.2 (List.mem_cons_self ..)) with e | hy
    ·exact e.symm
    ·have h5 := lessH_asymm (q1 x hx)
     rw [p1 y hy] at h5
     cases h5
  subst hxy
  rw [ord_unique p2 q2 ((List.perm_cons x).1 h)]
theorem bestOf_perm {k : Nat} {a b : List Ht} (hd : (a.map Ht.id).Nodup) (h : a.Perm b) : bestOf k a = bestOf k b := by
 have hb : (b.map Ht.id).Nodup := (h.map Ht.id).nodup_iff.1 hd
 have e1 := bestOf_cut (k := k) hd a.length (Nat.le_refl _)
 have e2 := bestOf_cut (k := k) hb b.length (Nat.le_refl _)
 obtain ⟨p1, p2⟩ := bestOf_ord (k := a.length) hd a.length (Nat.le_refl _) (Nat.le_refl _)
 obtain ⟨q1, q2⟩ := bestOf_ord (k := b.length) hb b.length (Nat.le_refl _) (Nat.le_refl _)
 rw [List.take_length] at e1 e2 p1 p2 q1 q2
 rw [e1, e2, ord_unique p2 q2 ((p1.trans h).trans q1.symm)]
def hitJ (mid : List (List Int)) (qs : List Int) (i : Nat) : Ht := ⟨(i : Int), scoreZ 1 (mid.getD i []) qs⟩
theorem hitJ_mem {mid : List (List Int)} {qs : List Int} {i : Nat} (hi : i < mid.length) : hitJ mid qs i ∈ hitO qs mid := List.mem_map.2 ⟨i, List.mem_range.2 hi, rfl⟩
theorem hitJ_of {mid : List (List Int)} {qs : List Int} {x : Ht} (h : x ∈ hitO qs mid) : ∃ i, i < mid.length ∧ x = hitJ mid qs i := by
 obtain ⟨i, h1, rfl⟩ := List.mem_map.1 h
 exact ⟨i, List.mem_range.1 h1, rfl⟩
theorem near_char {mid : List (List Int)} {qs : List Int} {j : Nat} (hj : j < mid.length) (h : ∀ i, i < mid.length → lessH (hitJ mid qs i) (hitJ mid qs j) = false) : nearZ mid qs = (j : Int) := by
 have h0 := hitO_len qs mid
 have hd := hitO_nodup qs mid
 obtain ⟨p1, p2⟩ := bestOf_ord (k := mid.length) hd (hitO qs mid).length (Nat.le_refl _) (by omega)
 rw [List.take_length] at p1 p2
 unfold nearZ ordZ
 rw [if_neg (by omega)]
 have hl : (bestOf mid.length (hitO qs mid)).length = mid.length := by rw [p1.length_eq, h0]
 cases hb : bestOf mid.length (hitO qs mid) with
 | nil => rw [hb] at hl; simp at hl; omega
 | cons x l =>
  rw [hb] at p1 p2
  obtain ⟨i, hi, rfl⟩ := hitJ_of (p1.mem_iff.1 (List.mem_cons_self ..))
  show (i : Int) = j
  rcases List.mem_cons.1 (p1.mem_iff.2 (hitJ_mem (qs := qs) hj)) with e | hm
  ·have := congrArg Ht.id e
   exact this.symm
  ·have h1 := (List.pairwise_cons.1 p2).1 _ hm
   rw [h i hi] at h1
   cases h1
def NearUp (mid : List (List Int)) (qs : List Int) (i : Nat) (z : Int) : Prop := (i = 0 ∧ z = -1) ∨ ∃ j : Nat, z = (j : Int) ∧ j < i ∧ ∀ i', i' < i → lessH (hitJ mid qs i') (hitJ mid qs j) = false
theorem NearUp.end {mid : List (List Int)} {qs : List Int} {z : Int} (h : NearUp mid qs mid.length z) : nearZ mid qs = z := by
 rcases h with ⟨h1, rfl⟩ | ⟨j, rfl, h2, h3⟩
 ·unfold nearZ; rw [if_pos h1]
 ·exact near_char h2 h3
theorem NearUp.take {mid : List (List Int)} {qs : List Int} {i : Nat} : NearUp mid qs (i + 1) (i : Int) ↔ ∀ i', i' < i → lessH (hitJ mid qs i') (hitJ mid qs i) = false := by
 constructor
 ·rintro (⟨h1, _⟩ | ⟨j, h1, h2, h3⟩) i' hi
  ·cases h1
  ·obtain rfl : j = i := by omega
   exact h3 i' (by omega)
 ·intro h
  refine .inr ⟨i, rfl, by omega, fun i' hi => ?_⟩
  rcases Nat.lt_or_ge i' i with q | q
  ·exact h i' q
  ·obtain rfl : i' = i := by omega
   rw [lessH_not]; omega
theorem NearUp.up {mid : List (List Int)} {qs : List Int} {i : Nat} {j : Nat} (h : NearUp mid qs i (j : Int)) : NearUp mid qs (i + 1) (if scoreZ 1 (mid.getD i []) qs < scoreZ 1 (mid.getD j []) qs then (i : Int) else (j : Int)) := by
 rcases h with ⟨_, h⟩ | ⟨j', h1, h2, h3⟩
 ·omega
 obtain rfl : j' = j := by omega
 split
 ·rename_i q
  rw [NearUp.take]
  intro i' hi
  have h4 := h3 i' hi
  rw [lessH_not] at h4 ⊢
  unfold hitJ at h4 ⊢
  dsimp only at h4 ⊢
  omega
 ·rename_i q
  refine .inr ⟨j', rfl, by omega, fun i' hi => ?_⟩
  rcases Nat.lt_or_ge i' i with q2 | q2
  ·exact h3 i' q2
  ·obtain rfl : i' = i := by omega
   rw [lessH_not]
   unfold hitJ
   dsimp only
   omega
end Go.Ab.Seat
end
section
/- The reference's index is read (the abstract machine). -/
namespace Go.Ab.Seat
open Go.Extern Go.Proofs
set_option maxRecDepth 4000
structure On where
 id : Int
 vec : Value
 xs : List Value
def On.cells (x : On) : List Value := [.int .i64 x.id, x.vec, .int .i64 0, .slice none 0 0, .slice none 0 0, .slice none 0 0, .slice none 0 0, .slice none 0 0]
def On.rc (x : On) : Rc := ⟨x.id, x.xs, .empty, 0, false⟩
def flatO (l : List On) : List Value := l.flatMap On.cells
def LRow8 (h : T AObj) (v : Value) (l : List On) : Prop := (v = .slice none 0 0 ∧ l = []) ∨ ∃ b, v = .slice (some ⟨b, 0, some 8⟩) l.length l.length ∧ l ≠ [] ∧ Has h b (.cells (flatO l))
theorem LRow8.val {h : T AObj} {v : Value} {l : List On} (x : LRow8 h v l) : ∃ a, v = .slice a l.length l.length := by
 rcases x with ⟨rfl, rfl⟩ | ⟨b, rfl, _, _⟩
 ·exact ⟨_, rfl⟩
 ·exact ⟨_, rfl⟩
structure RK where
 kd : Int
 mv : Value
 bl : Value
 bs : Value
def refC (K : RK) (mt dm : Int) (lv : Value) : List Value := [.int .i64 K.kd, .int .i64 mt, .int .i64 dm, lv, K.mv, K.bl, K.bs]
structure RefX (h : T AObj) (p : Nat) (K : RK) (mt dm : Int) (dim : Nat) (M : List Rc) (U : Nat → Prop) : Prop where
 ex : ∃ lv l, Has h p (.cells (refC K mt dm lv)) ∧ LRow8 h lv l ∧ (∀ b, blkOf lv = some b → U b ∧ b ≠ p) ∧ (∀ x ∈ l, Own h 0 x.vec x.xs.length x.xs ∧ ∀ b, blkOf x.vec = some b → U b ∧ b ≠ p ∧ blkOf lv ≠ some b) ∧ l.map On.rc = M
 pU : U p
 rises : Rises M
 ok : ∀ r ∈ M, ∃ zs : List Int, r.xs = zs.map (Value.int .i32) ∧ zs.length = dim ∧ Bnd zs
theorem RefX.keep {h h' : T AObj} {c p dim : Nat} {K : RK} {mt dm : Int} {M : List Rc} {U : Nat → Prop} (q : RefX h p K mt dm dim M U) (hf : Fresh h c) (k : ∀ b, U b → b < c → h'.get b = h.get b) : RefX h' p K mt dm dim M U := by
 obtain ⟨⟨lv, l, h1, h2, h3, h4, h5⟩, h6, h7, h8⟩ := q
 refine ⟨⟨lv, l, (k p h6 (h1.lt hf)).trans h1, ?_, h3, fun x hx => ⟨(h4 x hx).1.keep fun b hb => k b ((h4 x hx).2 b hb).1 (((h4 x hx).1.blk hb).2.lt hf), (h4 x hx).2⟩, h5⟩, h6, h7, h8⟩
 rcases h2 with h2 | ⟨b, rfl, hne, h2⟩
 ·exact .inl h2
 ·exact .inr ⟨b, rfl, hne, (k b (h3 b rfl).1 (h2.lt hf)).trans h2⟩
theorem RefX.new {h : T AObj} {p dim : Nat} {K : RK} {mt dm : Int} (hp : Has h p (.cells (refC K mt dm (.slice none 0 0)))) : RefX h p K mt dm dim [] (fun b => b = p) := ⟨⟨_, [], hp, .inl ⟨rfl, rfl⟩, (fun b hb => by cases hb), (fun x hx => by cases hx), rfl⟩, rfl, Rises.nil, fun r hr => by cases hr⟩
end Go.Ab.Seat
end
section
/- The reference's score; a member's place; ids, a vector, a hit (the abstract machine). -/
namespace Go.Ab.Seat
open Go.Extern Go.Proofs
set_option maxRecDepth 4000
def HJ (h : T AObj) (c0 : Nat) (v : Value) (l : List Int) : Prop := (v = .slice none 0 0 ∧ l = []) ∨ ∃ b, v = .slice (some ⟨b, 0, some 1⟩) l.length l.length ∧ l ≠ [] ∧ c0 ≤ b ∧ Has h b (.cells (l.map (Value.int .i64)))
theorem HJ.val {h : T AObj} {c : Nat} {v : Value} {l : List Int} (x : HJ h c v l) : ∃ oa, v = .slice oa l.length l.length ∧ Row h v l.length 1 (l.map (Value.int .i64)) ∧ ∀ b, blkOf v = some b → c ≤ b := by
 rcases x with ⟨rfl, rfl⟩ | ⟨b, rfl, _, h1, h2⟩
 ·exact ⟨_, rfl, .inl ⟨rfl, rfl, _, _, rfl⟩, fun b hb => by cases hb⟩
 ·exact ⟨_, rfl, .inr ⟨b, 0, _, _, _, rfl, h2.cel, subN_all _ _ (by simp)⟩, fun b hb => by cases hb; exact h1⟩
theorem HJ.lt {h : T AObj} {c c0 : Nat} {v : Value} {l : List Int} (x : HJ h c0 v l) (hf : Fresh h c) {b : Nat} (hb : blkOf v = some b) : c0 ≤ b ∧ b < c := by
 rcases x with ⟨rfl, _⟩ | ⟨b', rfl, _, h3, h4⟩
 ·cases hb
 ·cases hb; exact ⟨h3, h4.lt hf⟩
end Go.Ab.Seat
end
section
/- Is a hit's id among some? (the abstract machine) -/
namespace Go.Ab.Seat
open Go.Extern Go.Proofs
set_option maxRecDepth 4000
variable {sm : Nat → Option (List Value → M Value)}
theorem rowB {h : T AObj} {oa : Option Addr} {n cap k : Nat} {xs : List Value} (hr : Row h (.slice oa n cap) n k xs) (hn : 0 < n) : ∃ b o sp cs, oa = some ⟨b, o, sp⟩ ∧ Cel h b cs ∧ subN o (n * k) cs = some xs := by
 rcases hr with ⟨rfl, _⟩ | ⟨b, o, sp, cap', cs, e, hc, hs⟩
 ·omega
 ·cases e
  exact ⟨b, o, sp, cs, rfl, hc, hs⟩
abbrev cloV (bx : Nat) : Value := .func (.func 199) ⟨[]⟩ ⟨[.pointer (some ⟨bx, 0, none⟩)]⟩
def EIx (oa : Option Addr) (n cap bx : Nat) (z : Int) (j5 j9 j16 : Value) : L :=
 .cons 0 (.slice oa n cap) (.cons 1 (cloV bx) (.cons 4 (.int .i64 0) (.cons 7 (.int .i64 (n : Int)) (.cons 8 (.int .i64 z) (.cons 5 j5 (.cons 9 j9 (.cons 16 j16 .nil)))))))
set_option maxHeartbeats 4000000 in
theorem idxf_spec (H : Std sm) {h : T AObj} {c : Nat} {rl wl : List Nat} (hf : Fresh h c) {oa : Option Addr} {cap bx : Nat} {l : List Ht} {y : Ht} (hx : Row h (.slice oa l.length cap) l.length 2 (flatH l)) (hy : Has h bx (.cells [.int .i64 y.id, .int .i64 y.sc])) (hb : l.length ≤ 100000) (R : Nat → Prop) (hR : ∀ x, blkOf (.slice oa l.length cap) = some x → R x) (hRy : R bx) :
  ∃ r s', FnTo (Cs sm) eg 226 [.slice oa l.length cap, cloV bx] ⟨h, c, rl, wl⟩ r s' ∧ (∃ z, r = .int .i64 z ∧ decide (0 ≤ z) = l.any (fun x => decide (x.id = y.id))) ∧ Ext ⟨h, c, rl, wl⟩ s' R (fun _ => False) := by
 refine Fn.go (H 226 rfl) ex226 fn226 km226 rfl rfl ?_
 refine Zev ?_
 have ly := hy.lt hf
 refine Zgo ?_
 refine Wx.cutO (fun e s => ∃ (j5 j9 j16 : Value) (h' : T AObj) (c' : Nat) (rl' wl' : List Nat), e = EIx oa l.length cap bx l.length j5 j9 j16 ∧ s = ⟨h', c', rl', wl'⟩ ∧ c ≤ c' ∧ Fresh h' c' ∧ Kp h h' c (fun _ => False) ∧ Lg c R rl' ∧ Lg c (fun _ => False) wl' ∧ l.any (fun x => decide (x.id = y.id)) = false) Zrs ?_ ?_
 ·refine Wx.loopE (fun k1 e s => ∃ (i : Nat) (z : Int) (j5 j9 j16 : Value) (h' : T AObj) (c' : Nat) (rl' wl' : List Nat), e = EIx oa l.length cap bx z j5 j9 j16 ∧ z = i ∧ s = ⟨h', c', rl', wl'⟩ ∧ c ≤ c' ∧ Fresh h' c' ∧ Kp h h' c (fun _ => False) ∧ Lg c R rl' ∧ Lg c (fun _ => False) wl' ∧ (∀ x ∈ l.take i, x.id ≠ y.id) ∧ i ≤ l.length ∧ k1 = l.length - i) l.length (EIx oa l.length cap bx 0 top top top) Zrs ?_ ?_ ?_
  ·unfold EIx
   exact Zek
  ·exact ⟨0, 0, _, _, _, _, _, _, _, rfl, rfl, rfl, Nat.le_refl _, Zfr, Zkp, Zlg, Zlg, (fun x hx => by simp at hx), by omega, rfl⟩
  ·rintro k1 e s ⟨i, z, j5, j9, j16, h', c', rl', wl', rfl, hz, rfl, hcc, hf', hkp, hlr, hlw, hno, hid, rfl⟩
   unfold EIx
   by_cases hi : i < l.length
   ·have hx' := Row.keepF hx hf (fun b hb => hkp b hb (fun q => q))
    have hy' : Has h' bx (.cells [.int .i64 y.id, .int .i64 y.sc]) := (hkp bx ly (fun q => q)).trans hy
    obtain ⟨b1, o1, sp1, cs1, rfl, hc1, hs1⟩ := rowB hx' (by omega)
    have hR1 := hR b1 rfl
    have l1 := hc1.lt hf'
    have hg := sub_hit hs1 (List.getElem?_eq_getElem hi)
    refine Zgo ?_
    refine Zu (to_indexAddr (k := i) el37 rfl rfl hz (by omega)) ?_
    refine Zu (to_loadS ag52 rfl hc1 (by omega) hg) ?_
    refine Wseq.callV rfl rfl rfl (clo_spec H Zfr l[i] y hy') ?_
    rintro v h1 c1 r1 w1 ⟨rfl, hext⟩
    have kp := Kp.ext (W := fun _ => False) (h := h) (c := c) hkp hext (by omega) (fun _ _ q => q)
    have lr := Lg.extR (R := R) (c := c) Zlg hext (fun q _ hq => by rw [hq]; exact hRy)
    have lw := Lg.extW (W := fun _ => False) (c := c) Zlg hext (fun _ _ q => q)
    have fr1 := hext.fresh
    have le1 := hext.c
    simp only at le1 fr1
    by_cases hid2 : l[i].id = y.id
    ·rw [decide_eq_true hid2]
     refine Zgo ?_
     refine ⟨.inr rfl, Wres.one rfl ⟨⟨_, rfl, ?_⟩, ?_⟩⟩
     ·rw [decide_eq_true (show (0 : Int) ≤ z by omega)]
      exact (List.any_eq_true.2 ⟨l[i], List.getElem_mem hi, decide_eq_true hid2⟩).symm
     ·exact Zex
    ·rw [decide_eq_false hid2]
     refine Zgo ?_
     refine RoundE.go (l.length - (i + 1)) (EIx _ l.length cap bx (z + 1) _ _ _) (by omega) Zek ⟨i + 1, z + 1, _, _, _, _, _, _, _, rfl, by omega, rfl, by omega, fr1, kp, lr, lw, ?_, by omega, rfl⟩
     intro x hx
     rw [List.take_succ_eq_append_getElem hi] at hx
     rcases List.mem_append.1 hx with hx | hx
     ·exact hno x hx
     ·rw [List.mem_singleton.1 hx]; exact hid2
   ·refine Zgo ?_
    obtain rfl : i = l.length := by omega
    subst hz
    refine CutQ.go (EIx _ l.length cap bx l.length _ _ _) Zek ⟨_, _, _, _, _, _, _, rfl, rfl, hcc, hf', hkp, Zlg, Zlg, ?_⟩
    rw [List.take_length] at hno
    exact List.any_eq_false.2 fun x hx => by simpa using hno x hx
 ·rintro e s ⟨j5, j9, j16, h', c', rl', wl', rfl, rfl, hcc, hf', hkp, hlr, hlw, hno⟩
  unfold EIx
  refine Zgo ?_
  refine ⟨.inr rfl, Wres.one rfl ⟨⟨_, rfl, by rw [hno]; rfl⟩, ?_⟩⟩
  exact Zex
theorem contains_spec (H : Std sm) {h : T AObj} {c : Nat} {rl wl : List Nat} (hf : Fresh h c) {oa : Option Addr} {cap bx : Nat} {l : List Ht} {y : Ht} (hx : Row h (.slice oa l.length cap) l.length 2 (flatH l)) (hy : Has h bx (.cells [.int .i64 y.id, .int .i64 y.sc])) (hb : l.length ≤ 100000) (R : Nat → Prop) (hR : ∀ x, blkOf (.slice oa l.length cap) = some x → R x) (hRy : R bx) :
  ∃ r s', FnTo (Cs sm) eg 198 [.slice oa l.length cap, cloV bx] ⟨h, c, rl, wl⟩ r s' ∧ (r = .bool (l.any (fun x => decide (x.id = y.id)))) ∧ Ext ⟨h, c, rl, wl⟩ s' R (fun _ => False) := by
 refine Fn.go (H 198 rfl) ex198 fn198 km198 rfl rfl ?_
 refine Zev ?_
 refine Zgo ?_
 refine Wseq.call rfl rfl (idxf_spec H Zfr hx hy hb R hR hRy) ?_
 rintro v h1 c1 r1 w1 ⟨⟨z, rfl, hz⟩, hext⟩
 have kp := Kp.ext (W := fun _ => False) (h := h) (c := c) Zkp hext (by omega) (fun _ _ q => q)
 have lr := Lg.extR (R := R) (c := c) Zlg hext (fun _ _ hq => hq)
 have lw := Lg.extW (W := fun _ => False) (c := c) Zlg hext (fun _ _ q => q)
 have fr1 := hext.fresh
 have le1 := hext.c
 simp only at le1 fr1
 refine Zu (to_geq rfl rfl) ?_
 refine Zgo ?_
 refine ⟨.inr rfl, Wres.one rfl ⟨?_, ?_⟩⟩
 ·rw [← hz]; rfl
 ·exact Zex
end Go.Ab.Seat
end
