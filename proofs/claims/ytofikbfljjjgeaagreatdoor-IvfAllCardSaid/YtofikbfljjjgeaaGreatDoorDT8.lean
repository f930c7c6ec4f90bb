import Derived.Test.YtofikbfljjjgeaaGreatDoorDF4
import Derived.Test.YtofikbfljjjgeaaGreatDoorDX1
import Derived.Test.YtofikbfljjjgeaaGreatDoorDM1
set_option linter.unusedVariables false
set_option linter.unusedSimpArgs false
section
/- The best of some (the abstract machine). -/
namespace Go.Ab.Seat
open Go.Extern Go.Proofs
set_option maxRecDepth 4000
variable {sm : Nat → Option (List Value → M Value)}
theorem cloneH_spec (H : Std sm) {h : T AObj} {c : Nat} {rl wl : List Nat} (hf : Fresh h c) {lv : Value} {l : List Ht} (hl : Best h lv l.length (flatH l)) (hn : l.length ≤ 1000) :
  ∃ r s', FnTo (Cs sm) eg 201 [lv] ⟨h, c, rl, wl⟩ r s' ∧ (Best s'.h r l.length (flatH l) ∧ ∀ b, blkOf r = some b → c ≤ b) ∧ Ext ⟨h, c, rl, wl⟩ s' (fun b => blkOf lv = some b) (fun _ => False) := by
 have hbg : big = 1048576 := rfl
 rcases _root_.id hl with ⟨rfl, h1, h2⟩ | ⟨b, cap, cs, rfl, h1, h2, h3, h4⟩
 ·refine Fn.go (H 201 rfl) ex201 fn201 km201 rfl rfl ?_
  refine Zev ?_
  refine Zgo ?_
  refine ⟨.inr rfl, Wres.one rfl ⟨⟨.inl ⟨rfl, h1, h2⟩, (fun b hb => by cases hb)⟩, ?_⟩⟩
  exact Zex
 ·have lb := h3.lt hf
  have hRb : blkOf (.slice (some ⟨b, 0, some 2⟩) l.length cap) = some b := rfl
  obtain ⟨m, hm⟩ : ∃ m, l.length = m + 1 := ⟨l.length - 1, by omega⟩
  rw [hm] at h1 h2 h4 hn hRb ⊢
  refine Fn.go (H 201 rfl) ex201 fn201 km201 rfl rfl ?_
  refine Zev ?_
  refine Zgo ?_
  refine Zu (to_appEx ro37 sl37 rfl rfl (h3.other (by omega)).cel (by omega) h4 (by omega) Zfr) ?_
  refine Zgo ?_
  refine ⟨.inr rfl, Wres.one rfl ⟨⟨.inr ⟨c + 1, _, _, rfl, by omega, Nat.le_refl _, Has.same, subN_all _ _ (by rw [flatH_len]; omega)⟩, (fun b hb => by cases hb; exact Nat.le_succ c)⟩, ?_⟩⟩
  exact Zex
theorem all_spec (H : Std sm) {h : T AObj} {c : Nat} {rl wl : List Nat} (hf : Fresh h c) {p : Nat} {kv lv : Value} {l : List Ht} (hp : Has h p (.cells [lv, kv])) (hl : Best h lv l.length (flatH l)) (hn : l.length ≤ 1000) :
  ∃ r s', FnTo (Cs sm) eg 140 [.pointer (some ⟨p, 0, none⟩)] ⟨h, c, rl, wl⟩ r s' ∧ (Best s'.h r l.length (flatH l) ∧ ∀ b, blkOf r = some b → c ≤ b) ∧ Ext ⟨h, c, rl, wl⟩ s' (fun b => b = p ∨ blkOf lv = some b) (fun _ => False) := by
 have lp := hp.lt hf
 refine Fn.go (H 140 rfl) ex140 fn140 km140 rfl rfl ?_
 refine Zev ?_
 refine Zgo ?_
 refine Wseq.call rfl rfl (cloneH_spec H Zfr hl hn) ?_
 rintro v h1 c1 r1 w1 ⟨⟨g1, g2⟩, hext⟩
 have kp := Kp.ext (W := fun _ => False) (h := h) (c := c) Zkp hext (by omega) (fun _ _ q => q)
 have lr := Lg.extR (R := fun b => b = p ∨ blkOf lv = some b) (c := c) Zlg hext (fun q hq hb => .inr hb)
 have lw := Lg.extW (W := fun _ => False) (c := c) Zlg hext (fun _ _ q => q)
 have fr1 := hext.fresh
 have le1 := hext.c
 simp only at le1 fr1
 refine Zgo ?_
 refine ⟨.inr rfl, Wres.one rfl ⟨⟨g1, g2⟩, ?_⟩⟩
 exact Zex
def EOf (k : Int) (oa : Option Addr) (n cap p : Nat) (z : Int) (j7 j13 : Value) : L :=
 .cons 0 (.int .i64 k) (.cons 1 (.slice oa n cap) (.cons 4 (.slice none 0 0) (.cons 5 (.pointer (some ⟨p, 0, none⟩)) (.cons 10 (.slice oa n cap) (.cons 11 (.int .i64 (n : Int)) (.cons 12 (.int .i64 z) (.cons 7 j7 (.cons 13 j13 .nil))))))))
set_option maxHeartbeats 4000000 in
theorem of_spec (H : Std sm) (HI : sm 200 = some gIns) {h : T AObj} {c : Nat} {rl wl : List Nat} (hf : Fresh h c) {k : Int} {kk : Nat} {oa : Option Addr} {cap : Nat} {l : List Ht} (hx : Row h (.slice oa l.length cap) l.length 2 (flatH l)) (hk : max k 0 = (kk : Int)) (hkk : kk ≤ 1000) (hn : l.length ≤ 800) (R : Nat → Prop) (hR : ∀ x, blkOf (.slice oa l.length cap) = some x → R x) :
  ∃ r s', FnTo (Cs sm) eg 79 [.int .i64 k, .slice oa l.length cap] ⟨h, c, rl, wl⟩ r s' ∧ (Best s'.h r (bestOf kk l).length (flatH (bestOf kk l)) ∧ ∀ b, blkOf r = some b → c ≤ b) ∧ Ext ⟨h, c, rl, wl⟩ s' R (fun _ => False) := by
 refine Fn.go (H 79 rfl) ex79 fn79 km79 rfl rfl ?_
 refine Zev ?_
 refine Zgo ?_
 refine Wseq.call rfl rfl (bnew_spec H Zfr k) ?_
 rintro v h1 c1 r1 w1 ⟨⟨rfl, hp1, e1⟩, hext⟩
 simp only at e1
 subst e1
 rw [hk] at hp1
 have kp := Kp.ext (W := fun _ => False) (h := h) (c := c) Zkp hext (by omega) (fun _ _ q => q)
 have lr := Lg.extR (R := R) (c := c) Zlg hext (fun q hq hb => hb.elim)
 have lw := Lg.extW (W := fun _ => False) (c := c) Zlg hext (fun _ _ q => q)
 have fr1 := hext.fresh
 simp only at fr1
 refine Zgo ?_
 refine Wx.cutO (fun e s => ∃ (j7 j13 lv : Value) (h' : T AObj) (c' : Nat) (rl' wl' : List Nat), e = EOf k oa l.length cap c l.length j7 j13 ∧ s = ⟨h', c', rl', wl'⟩ ∧ c + 1 ≤ c' ∧ Fresh h' c' ∧ Kp h h' c (fun _ => False) ∧ Has h' c (.cells [lv, .int .i64 (kk : Int)]) ∧ Best h' lv (bestOf kk l).length (flatH (bestOf kk l)) ∧ (∀ b, blkOf lv = some b → c < b) ∧ Lg c R rl' ∧ Lg c (fun _ => False) wl') Zrs ?_ ?_
 ·refine Wx.loopE (fun k1 e s => ∃ (i : Nat) (z : Int) (j7 j13 lv : Value) (h' : T AObj) (c' : Nat) (rl' wl' : List Nat), e = EOf k oa l.length cap c z j7 j13 ∧ z = i ∧ s = ⟨h', c', rl', wl'⟩ ∧ c + 1 ≤ c' ∧ Fresh h' c' ∧ Kp h h' c (fun _ => False) ∧ Has h' c (.cells [lv, .int .i64 (kk : Int)]) ∧ Best h' lv (bestOf kk (l.take i)).length (flatH (bestOf kk (l.take i))) ∧ (∀ b, blkOf lv = some b → c < b) ∧ Lg c R rl' ∧ Lg c (fun _ => False) wl' ∧ i ≤ l.length ∧ k1 = l.length - i) l.length (EOf k oa l.length cap c 0 top top) Zrs ?_ ?_ ?_
  ·unfold EOf
   exact Zek
  ·exact ⟨0, 0, _, _, _, _, _, _, _, rfl, rfl, rfl, Nat.le_refl _, fr1, kp, hp1, .inl ⟨rfl, rfl, rfl⟩, (fun b hb => by cases hb), Zlg, Zlg, by omega, rfl⟩
  ·rintro k1 e s ⟨i, z, j7, j13, lv, h', c', rl', wl', rfl, hz, rfl, hcc, hf', hkp, hp', hb', hlv, hlr, hlw, hid, rfl⟩
   unfold EOf
   by_cases hi : i < l.length
   ·have hx' := Row.keepF hx hf (fun b hb => hkp b hb (fun q => q))
    obtain ⟨b1, o1, sp1, cs1, rfl, hc1, hs1⟩ := rowB hx' (by omega)
    have hR1 := hR b1 rfl
    have l1 := hc1.lt hf'
    have hg := sub_hit hs1 (List.getElem?_eq_getElem hi)
    have hlen := bestOf_len kk (l.take i)
    rw [List.length_take] at hlen
    refine Zgo ?_
    refine Zu (to_indexAddr (k := i) el37 rfl rfl hz (by omega)) ?_
    refine Zu (to_loadS ag52 rfl hc1 (by omega) hg) ?_
    refine Zgo ?_
    have hlt : ∀ b, blkOf lv = some b → b < c' := by
     intro b hb
     rcases hb' with ⟨rfl, _⟩ | ⟨b', cap', cs, rfl, _, _, q3, _⟩
     ·cases hb
     ·cases hb; exact q3.lt hf'
    refine Wseq.call rfl rfl (bput_spec H HI Zfr (x := l[i]) Zhs (hb'.keep fun b hb => ?_) (fun b hb => by have := hlv b hb; omega) (by omega) hkk) ?_
    ·have := hlt b hb
     exact (get_other (by omega)).trans (get_other (by omega))
    rintro v h2 c2 r2 w2 ⟨⟨lv', g1, g2, g3⟩, hext2⟩
    have kp2 := Kp.ext (W := fun _ => False) (h := h) (c := c) Zkp hext2 (by omega) (fun b hb q => by rcases q with q | q; (· omega); (· have := hlv b q; omega))
    have lr2 := Lg.extR (R := R) (c := c) Zlg hext2 (fun b hb q => by rcases q with q | q; (· omega); (· have := hlv b q; omega))
    have lw2 := Lg.extW (W := fun _ => False) (c := c) Zlg hext2 (fun b hb q => by rcases q with q | q; (· omega); (· have := hlv b q; omega))
    have fr2 := hext2.fresh
    have le2 := hext2.c
    simp only at le2 fr2
    refine Zgo ?_
    refine RoundE.go (l.length - (i + 1)) (EOf k _ l.length cap c (z + 1) _ _) (by omega) Zek ⟨i + 1, z + 1, _, _, lv', _, _, _, _, rfl, by omega, rfl, by omega, fr2, kp2, g1, ?_, ?_, Zlg, Zlg, by omega, rfl⟩
    ·rw [bestOf_take hi]; exact g2
    ·intro b hb
     rcases g3 b hb with q | q
     ·exact hlv b q
     ·omega
   ·refine Zgo ?_
    obtain rfl : i = l.length := by omega
    subst hz
    rw [List.take_length] at hb'
    exact CutQ.go (EOf k _ l.length cap c l.length _ _) Zek ⟨_, _, _, _, _, _, _, rfl, rfl, hcc, hf', hkp, hp', hb', hlv, Zlg, Zlg⟩
 ·rintro e s ⟨j7, j13, lv, h', c', rl', wl', rfl, rfl, hcc, hf', hkp, hp', hb', hlv, hlr, hlw⟩
  unfold EOf
  refine Zgo ?_
  have := bestOf_len kk l
  refine Wseq.call rfl rfl (all_spec H Zfr hp' hb' (by omega)) ?_
  rintro v h2 c2 r2 w2 ⟨⟨g1, g2⟩, hext2⟩
  have kp2 := Kp.ext (W := fun _ => False) (h := h) (c := c) Zkp hext2 (by omega) (fun b hb q => q)
  have lr2 := Lg.extR (R := R) (c := c) Zlg hext2 (fun b hb q => by rcases q with q | q; (· omega); (· have := hlv b q; omega))
  have lw2 := Lg.extW (W := fun _ => False) (c := c) Zlg hext2 (fun b hb q => q)
  have fr2 := hext2.fresh
  have le2 := hext2.c
  simp only at le2 fr2
  refine Zgo ?_
  refine ⟨.inr rfl, Wres.one rfl ⟨⟨g1, fun b hb => by have := g2 b hb; omega⟩, ?_⟩⟩
  exact Zex
end Go.Ab.Seat
end
section
/- A flat index: one is let go; the ids; a search (the abstract machine). -/
namespace Go.Ab.Seat
open Go.Extern Go.Proofs
set_option maxRecDepth 4000
def intsV (xs : List Value) : List Int := xs.map fun v => match v with | .int _ z => z | _ => 0
theorem intsV_ints (zs : List Int) : intsV (zs.map (Value.int .i32)) = zs := by
 unfold intsV
 rw [List.map_map]
 exact List.map_id zs
def hitR (mt : Int) (qs : List Int) (r : Rc) : Ht := ⟨r.id, scoreZ mt qs (intsV r.xs)⟩
def hitsM (mt : Int) (qs : List Int) (M : List Rc) : List Ht := M.map (hitR mt qs)
def HL (h : T AObj) (c0 : Nat) (v : Value) (l : List Ht) : Prop := (v = .slice none 0 0 ∧ l = []) ∨ ∃ b, v = .slice (some ⟨b, 0, some 2⟩) l.length l.length ∧ l ≠ [] ∧ c0 ≤ b ∧ Has h b (.cells (flatH l))
theorem HL.val {h : T AObj} {c : Nat} {v : Value} {l : List Ht} (x : HL h c v l) : ∃ oa, v = .slice oa l.length l.length ∧ Row h v l.length 2 (flatH l) ∧ ∀ b, blkOf v = some b → c ≤ b := by
 rcases x with ⟨rfl, rfl⟩ | ⟨b, rfl, _, h1, h2⟩
 ·exact ⟨_, rfl, .inl ⟨rfl, rfl, _, _, rfl⟩, fun b hb => by cases hb⟩
 ·exact ⟨_, rfl, .inr ⟨b, 0, _, _, _, rfl, h2.cel, subN_all _ _ (flatH_len l).symm⟩, fun b hb => by cases hb; exact h1⟩
end Go.Ab.Seat
end
section
/- The reference's index is read (the abstract machine). -/
namespace Go.Ab.Seat
open Go.Extern Go.Proofs
set_option maxRecDepth 4000
structure On where
 id : Int
 vec : Value
 xs : List Value
def On.cells (x : On) : List Value := [.int .i64 x.id, x.vec, .int .i64 0, .slice none 0 0, .slice none 0 0, .slice none 0 0, .slice none 0 0, .slice none 0 0]
def On.rc (x : On) : Rc := ⟨x.id, x.xs, .empty, 0, false⟩
def flatO (l : List On) : List Value := l.flatMap On.cells
theorem flatO_len (l : List On) : (flatO l).length = l.length * 8 := by
 induction l with
 | nil => rfl
 | cons x l ih => unfold flatO at ih ⊢; rw [List.flatMap_cons, List.length_append, ih]; simp [On.cells]; omega
theorem flatO_app (a b : List On) : flatO (a ++ b) = flatO a ++ flatO b := by unfold flatO; rw [List.flatMap_append]
theorem sub_on {l : List On} {i : Nat} {x : On} (hx : l[i]? = some x) : subN (0 + i * 8) 8 (flatO l) = some x.cells := by
 obtain ⟨hi, rfl⟩ := List.getElem?_eq_some_iff.1 hx
 have h := subN_all (flatO l) (l.length * 8) (flatO_len l).symm
 have h1 : flatO l = flatO (l.take i) ++ (l[i].cells ++ flatO (l.drop (i + 1))) := by
  conv => lhs; rw [show l = l.take i ++ (l[i] :: l.drop (i + 1)) by simp]
  rw [flatO_app]; rfl
 conv at h => rhs; rw [h1]
 have h2 : subN 0 (i * 8 + (8 + (l.length - (i + 1)) * 8)) (flatO l) = some (flatO (l.take i) ++ (l[i].cells ++ flatO (l.drop (i + 1)))) := by rw [← h]; congr 1; omega
 exact (subN_app (subN_app h2 (by rw [flatO_len, List.length_take]; omega)).2 rfl).1
theorem on_nth {cs : List Value} {o : Nat} {x : On} (h : subN o 8 cs = some x.cells) : nth cs (o + 0) = some (.int .i64 x.id) ∧ nth cs (o + 1) = some x.vec := by
 have := (subN_some _ _ _ _ h).2.2
 refine ⟨?_, ?_⟩
 ·rw [nth_eq, ← this 0 (by omega)]; rfl
 ·rw [nth_eq, ← this 1 (by omega)]; rfl
def LRow8 (h : T AObj) (v : Value) (l : List On) : Prop := (v = .slice none 0 0 ∧ l = []) ∨ ∃ b, v = .slice (some ⟨b, 0, some 8⟩) l.length l.length ∧ l ≠ [] ∧ Has h b (.cells (flatO l))
theorem LRow8.val {h : T AObj} {v : Value} {l : List On} (x : LRow8 h v l) : ∃ a, v = .slice a l.length l.length := by
 rcases x with ⟨rfl, rfl⟩ | ⟨b, rfl, _, _⟩
 ·exact ⟨_, rfl⟩
 ·exact ⟨_, rfl⟩
structure RK where
 kd : Int
 mv : Value
 bl : Value
 bs : Value
def refC (K : RK) (mt dm : Int) (lv : Value) : List Value := [.int .i64 K.kd, .int .i64 mt, .int .i64 dm, lv, K.mv, K.bl, K.bs]
structure RefX (h : T AObj) (p : Nat) (K : RK) (mt dm : Int) (dim : Nat) (M : List Rc) (U : Nat → Prop) : Prop where
 ex : ∃ lv l, Has h p (.cells (refC K mt dm lv)) ∧ LRow8 h lv l ∧ (∀ b, blkOf lv = some b → U b ∧ b ≠ p) ∧ (∀ x ∈ l, Own h 0 x.vec x.xs.length x.xs ∧ ∀ b, blkOf x.vec = some b → U b ∧ b ≠ p ∧ blkOf lv ≠ some b) ∧ l.map On.rc = M
 pU : U p
 rises : Rises M
 ok : ∀ r ∈ M, ∃ zs : List Int, r.xs = zs.map (Value.int .i32) ∧ zs.length = dim ∧ Bnd zs
theorem RefX.keep {h h' : T AObj} {c p dim : Nat} {K : RK} {mt dm : Int} {M : List Rc} {U : Nat → Prop} (q : RefX h p K mt dm dim M U) (hf : Fresh h c) (k : ∀ b, U b → b < c → h'.get b = h.get b) : RefX h' p K mt dm dim M U := by
 obtain ⟨⟨lv, l, h1, h2, h3, h4, h5⟩, h6, h7, h8⟩ := q
 refine ⟨⟨lv, l, (k p h6 (h1.lt hf)).trans h1, ?_, h3, fun x hx => ⟨(h4 x hx).1.keep fun b hb => k b ((h4 x hx).2 b hb).1 (((h4 x hx).1.blk hb).2.lt hf), (h4 x hx).2⟩, h5⟩, h6, h7, h8⟩
 rcases h2 with h2 | ⟨b, rfl, hne, h2⟩
 ·exact .inl h2
 ·exact .inr ⟨b, rfl, hne, (k b (h3 b rfl).1 (h2.lt hf)).trans h2⟩
theorem RefX.wide {h : T AObj} {p dim : Nat} {K : RK} {mt dm : Int} {M : List Rc} {U U' : Nat → Prop} (q : RefX h p K mt dm dim M U) (k : ∀ b, U b → U' b) : RefX h p K mt dm dim M U' := by
 obtain ⟨⟨lv, l, h1, h2, h3, h4, h5⟩, h6, h7, h8⟩ := q
 exact ⟨⟨lv, l, h1, h2, fun b hb => ⟨k b (h3 b hb).1, (h3 b hb).2⟩, fun x hx => ⟨(h4 x hx).1, fun b hb => ⟨k b ((h4 x hx).2 b hb).1, ((h4 x hx).2 b hb).2⟩⟩, h5⟩, k _ h6, h7, h8⟩
theorem RefX.new {h : T AObj} {p dim : Nat} {K : RK} {mt dm : Int} (hp : Has h p (.cells (refC K mt dm (.slice none 0 0)))) : RefX h p K mt dm dim [] (fun b => b = p) := ⟨⟨_, [], hp, .inl ⟨rfl, rfl⟩, (fun b hb => by cases hb), (fun x hx => by cases hx), rfl⟩, rfl, Rises.nil, fun r hr => by cases hr⟩
theorem getM_skip {id : Int} : ∀ {rs : List Rc} {i : Nat}, (∀ r ∈ rs.take i, r.id ≠ id) → getM id rs = getM id (rs.drop i)
 | rs, 0, _ => rfl
 | [], i + 1, _ => rfl
 | r :: rs, i + 1, h => by
  have h1 := h r (List.mem_cons_self ..)
  rw [getM, if_neg h1, List.drop_succ_cons]
  exact getM_skip fun x hx => h x (List.mem_cons_of_mem _ hx)
theorem getM_at {id : Int} {rs : List Rc} {i : Nat} {x : Rc} (h : ∀ r ∈ rs.take i, r.id ≠ id) (hx : rs[i]? = some x) (hi : x.id = id) : getM id rs = some x := by
 obtain ⟨h1, rfl⟩ := List.getElem?_eq_some_iff.1 hx
 rw [getM_skip h, List.drop_eq_getElem_cons h1, getM, if_pos hi]
theorem take_snoc {rs : List Rc} {i : Nat} {x : Rc} (hx : rs[i]? = some x) : rs.take (i + 1) = rs.take i ++ [x] := by rw [List.take_add_one, hx]; rfl
def EP (p : Nat) (id : Int) (n : Nat) (z : Int) (j5 j12 j23 : Value) : L :=
 .cons 0 (.pointer (some ⟨p, 0, none⟩)) (.cons 1 (.int .i64 id) (.cons 4 (.int .i64 0) (.cons 5 j5 (.cons 10 (.int .i64 (n : Int)) (.cons 11 (.int .i64 z) (.cons 12 j12 (.cons 23 j23 .nil)))))))
theorem place_spec {h : T AObj} {c : Nat} {rl wl : List Nat} (hf : Fresh h c) {p : Nat} {K : RK} {mt dm : Int} {lv : Value} {l : List On} (hp : Has h p (.cells (refC K mt dm lv))) (hl : LRow8 h lv l) (hb : l.length ≤ 1000) (id : Int) (R : Nat → Prop) (hRp : R p) (hRl : ∀ b, blkOf lv = some b → R b) :
  ∃ r s', FnTo (Cs smQ) eg 107 [.pointer (some ⟨p, 0, none⟩), .int .i64 id] ⟨h, c, rl, wl⟩ r s' ∧ (((getM id (l.map On.rc) = none ∧ r = .int .i64 (-1)) ∨ ∃ (k : Nat) (x : On), r = .int .i64 (k : Int) ∧ l[k]? = some x ∧ x.id = id ∧ getM id (l.map On.rc) = some x.rc) ∧ s'.h = h ∧ s'.c = c) ∧ Ext ⟨h, c, rl, wl⟩ s' R (fun _ => False) := by
 obtain ⟨oa, rfl⟩ := hl.val
 have hpc := hp.lt hf
 generalize hn : l.length = n at *
 refine Fn.go (stdQ 107 rfl) ex107 fn107 km107 rfl rfl ?_
 refine Zev ?_
 unfold refC at hp
 refine Zgo ?_
 refine Wx.loopE (fun k1 e s => ∃ (i : Nat) (z : Int) (rl' : List Nat) (j5 j12 j23 : Value), e = EP p id n z j5 j12 j23 ∧ z = i ∧ s = ⟨h, c, rl', []⟩ ∧ Lg c R rl' ∧ (∀ r ∈ (l.map On.rc).take i, r.id ≠ id) ∧ i ≤ n ∧ k1 = n - i) n (EP p id n 0 top top top) Zrs ?_ ?_ ?_
 ·unfold EP
  exact Zek
 ·exact ⟨0, 0, _, _, _, _, rfl, rfl, rfl, Zlg, (fun r hr => by cases hr), by omega, rfl⟩
 ·rintro k1 e s ⟨i, z, rl', j5, j12, j23, rfl, hz, rfl, hlr, hno, hin, rfl⟩
  unfold EP
  by_cases hi : i < n
  ·have hxi : l[i]? = some l[i] := List.getElem?_eq_getElem (by omega)
   have hri : (l.map On.rc)[i]? = some l[i].rc := by rw [List.getElem?_map, hxi]; rfl
   rcases hl with ⟨_, rfl⟩ | ⟨bl, e, hne, hbl⟩
   ·cases hxi
   obtain rfl : oa = some ⟨bl, 0, some 8⟩ := by simp only [Value.slice.injEq] at e; exact e.1
   obtain ⟨g0, g1⟩ := on_nth (sub_on hxi)
   have l1 := hbl.lt hf
   have rb := hRl bl rfl
   generalize l[i] = y at *
   by_cases hid : y.id = id
   ·refine Zgo ?_
    refine Zu (to_indexAddr (k := i) el105 rfl rfl hz (by omega)) ?_
    refine Zgo ?_
    refine Zu (to_load (pl_ rfl) rfl hbl.cel (by omega) g0) ?_
    refine Zgo ?_
    refine ⟨.inr rfl, Wres.one rfl ⟨⟨.inr ⟨i, y, by rw [hz]; rfl, hxi, hid, getM_at hno hri hid⟩, rfl, rfl⟩, ?_⟩⟩
    exact Zex
   ·refine Zgo ?_
    refine Zu (to_indexAddr (k := i) el105 rfl rfl hz (by omega)) ?_
    refine Zgo ?_
    refine Zu (to_load (pl_ rfl) rfl hbl.cel (by omega) g0) ?_
    refine Zgo ?_
    refine RoundE.go (n - (i + 1)) (EP p id n (z + 1) _ _ _) (by omega) Zek ⟨i + 1, z + 1, _, _, _, _, rfl, by omega, rfl, Zlg, fun x hx => ?_, by omega, rfl⟩
    rw [take_snoc hri] at hx
    rcases List.mem_append.1 hx with hx | hx
    ·exact hno x hx
    ·obtain rfl := List.mem_singleton.1 hx
     exact hid
  ·refine Zgo ?_
   refine ⟨.inr rfl, Wres.one rfl ⟨⟨.inl ⟨?_, rfl⟩, rfl, rfl⟩, ?_⟩⟩
   ·rw [List.take_of_length_le (by rw [List.length_map]; omega)] at hno
    exact getM_none.2 hno
   ·exact Zex
end Go.Ab.Seat
end
section
/- The reference's score; a member's place; ids, a vector, a hit (the abstract machine). -/
namespace Go.Ab.Seat
open Go.Extern Go.Proofs
set_option maxRecDepth 4000
def ERs (m : Int) (a : Option Addr) (n k : Nat) (b : Option Addr) (k' : Nat) (s z : Int) (j9 j10 j17 j30 j31 j42 : Value) : L :=
 .cons 0 (.int .i64 m) (.cons 1 (.slice a n k) (.cons 2 (.slice b n k') (.cons 6 (.int .i64 0) (.cons 7 (.int .i64 s) (.cons 8 (.int .i64 z) (.cons 9 j9 (.cons 10 j10 (.cons 17 j17 (.cons 30 j30 (.cons 31 j31 (.cons 42 j42 .nil)))))))))))
set_option maxHeartbeats 4000000 in
theorem rscore_spec {h : T AObj} {c : Nat} {rl wl : List Nat} (hf : Fresh h c) {m : Int} (hm : m = 1 ∨ m = 2) {a b : Option Addr} {n k k' : Nat} {zs ys : List Int} (hn : zs.length = n) (hn' : ys.length = n) (hx : Row h (.slice a n k) n 1 (zs.map (Value.int .i32))) (hy : Row h (.slice b n k') n 1 (ys.map (Value.int .i32))) (bx : Bnd zs) (by_ : Bnd ys) (hb : n ≤ 1000) (R : Nat → Prop) (hR : ∀ x, blkOf (.slice a n k) = some x ∨ blkOf (.slice b n k') = some x → R x) :
  ∃ r s', FnTo (Cs smQ) eg 115 [.int .i64 m, .slice a n k, .slice b n k'] ⟨h, c, rl, wl⟩ r s' ∧ (r = .int .i64 (scoreZ m zs ys) ∧ s'.h = h ∧ s'.c = c) ∧ Ext ⟨h, c, rl, wl⟩ s' R (fun _ => False) := by
 refine Fn.go (stdQ 115 rfl) ex115 fn115 km115 rfl rfl ?_
 refine Zev ?_
 refine Zgo ?_
 refine Wx.loopE (fun k1 e s => ∃ (i : Nat) (z : Int) (j9 j10 j17 j30 j31 j42 : Value) (rl' : List Nat), e = ERs m a n k b k' (scoreN m zs ys i) z j9 j10 j17 j30 j31 j42 ∧ z = i ∧ s = ⟨h, c, rl', []⟩ ∧ Lg c R rl' ∧ i ≤ n ∧ k1 = n - i) n (ERs m a n k b k' 0 0 top top top top top top) Zrs ?_ ?_ ?_
 ·unfold ERs
  exact Zek
 ·exact ⟨0, 0, _, _, _, _, _, _, _, rfl, rfl, rfl, Zlg, by omega, rfl⟩
 ·rintro k1 e s ⟨i, z, j9, j10, j17, j30, j31, j42, rl', rfl, hz, rfl, hlr, hid, rfl⟩
  unfold ERs
  by_cases hi : i < n
  ·have hzs : (zs.map (Value.int .i32))[i]? = some (.int .i32 (zs.getD i 0)) := by
    rw [List.getElem?_map, List.getD_eq_getElem?_getD, List.getElem?_eq_getElem (by omega : i < zs.length)]; rfl
   have hys : (ys.map (Value.int .i32))[i]? = some (.int .i32 (ys.getD i 0)) := by
    rw [List.getElem?_map, List.getD_eq_getElem?_getD, List.getElem?_eq_getElem (by omega : i < ys.length)]; rfl
   obtain ⟨b1, o1, sp1, cs1, rfl, hc1, hn1⟩ := rowCell hx (j := i * 1) (by omega) (by rw [Nat.mul_one]; exact hzs)
   obtain ⟨b2, o2, sp2, cs2, rfl, hc2, hn2⟩ := rowCell hy (j := i * 1) (by omega) (by rw [Nat.mul_one]; exact hys)
   have hR1 := hR b1 (.inl rfl)
   have hR2 := hR b2 (.inr rfl)
   have l1 := hc1.lt hf
   have l2 := hc2.lt hf
   have q1 := bx i
   have q2 := by_ i
   have q3 := score_bnd (m := m) bx by_ i
   obtain ⟨t1, t2, _⟩ := term_bnd (m := m) q1 q2
   refine Zgo ?_
   refine Zq (to_indexAddr (k := i) el25 rfl rfl hz (by omega)) ?_
   refine Zd (to_load (pl_ rfl) rfl hc1 (by omega) hn1) ?_
   refine Zgo ?_
   refine Zq (to_indexAddr (k := i) el25 rfl rfl hz (by omega)) ?_
   refine Zd (to_load (pl_ rfl) rfl hc2 (by omega) hn2) ?_
   refine Zgo ?_
   simp only [wrapA_i64 (show (-9223372036854775808 : Int) ≤ zs.getD i 0 by omega) (by omega), wrapA_i64 (show (-9223372036854775808 : Int) ≤ ys.getD i 0 by omega) (by omega)]
   rcases hm with rfl | rfl
   ·refine Zgo ?_
    refine RoundE.go (n - (i + 1)) (ERs 1 _ n k _ k' (scoreN 1 zs ys (i + 1)) (z + 1) _ _ _ _ _ _) (by omega) Zek ⟨i + 1, z + 1, _, _, _, _, _, _, _, rfl, by omega, rfl, Zlg, by omega, rfl⟩
   ·refine Zgo ?_
    have e : scoreN 2 zs ys (i + 1) = scoreN 2 zs ys i - zs.getD i 0 * ys.getD i 0 := by
     show _ + termZ 2 _ _ = _
     unfold termZ
     rw [if_neg (by decide)]; omega
    refine RoundE.go (n - (i + 1)) (ERs 2 _ n k _ k' (scoreN 2 zs ys i - zs.getD i 0 * ys.getD i 0) (z + 1) _ _ _ _ _ _) (by omega) Zek ⟨i + 1, z + 1, _, _, _, _, _, _, _, (by rw [e]; rfl), by omega, rfl, Zlg, by omega, rfl⟩
  ·refine Zgo ?_
   obtain rfl : i = n := by omega
   refine ⟨.inr rfl, Wres.one rfl ⟨⟨?_, rfl, rfl⟩, ?_⟩⟩
   ·unfold scoreZ; rw [hn]; rfl
   ·exact Zex
theorem at_spec {h : T AObj} {c : Nat} {rl wl : List Nat} (hf : Fresh h c) {p bl : Nat} {K : RK} {mt dm : Int} {l : List On} (hp : Has h p (.cells (refC K mt dm (.slice (some ⟨bl, 0, some 8⟩) l.length l.length)))) (hne : l ≠ []) (hbl : Has h bl (.cells (flatO l))) (hb : l.length ≤ 1000) {id : Int} (hid : getM id (l.map On.rc) ≠ none) (R : Nat → Prop) (hRp : R p) (hRl : R bl) :
  ∃ r s', FnTo (Cs smQ) eg 173 [.pointer (some ⟨p, 0, none⟩), .int .i64 id] ⟨h, c, rl, wl⟩ r s' ∧ ((∃ (k : Nat) (x : On), r = .pointer (some ⟨bl, 0 + k * 8, none⟩) ∧ l[k]? = some x ∧ x.id = id ∧ getM id (l.map On.rc) = some x.rc) ∧ s'.h = h ∧ s'.c = c) ∧ Ext ⟨h, c, rl, wl⟩ s' R (fun _ => False) := by
 have hpc := hp.lt hf
 refine Fn.go (stdQ 173 rfl) ex173 fn173 km173 rfl rfl ?_
 refine Zev ?_
 have hp' := hp
 unfold refC at hp'
 refine Zgo ?_
 refine Wtr.call rfl rfl (place_spec Zfr hp (.inr ⟨bl, rfl, hne, hbl⟩) hb id R hRp (fun b q => by cases q; exact hRl)) ?_
 rintro v1 h1 c1 r1 w1 ⟨⟨hr, e1, e2⟩, hext⟩
 simp only at e1 e2
 subst e1 e2
 have hqt := hext.quiet (fun _ _ q => q)
 have lr := Lg.extR (R := R) (c := c1) Zlg hext (fun _ _ q => q)
 have lw := Lg.extW (W := fun _ => False) (c := c1) Zlg hext (fun _ _ q => q)
 refine ⟨Zap, ?_⟩
 rcases hr with ⟨q, _⟩ | ⟨k, x, rfl, hk, hx, hg⟩
 ·exact absurd q hid
 ·have hkl := (List.getElem?_eq_some_iff.1 hk).1
  refine Zgo ?_
  refine Zq (to_indexAddr (k := k) el105 rfl rfl rfl (by omega)) ?_
  refine Zgo ?_
  refine ⟨.inr rfl, Wres.one rfl ⟨⟨⟨k, x, rfl, hk, hx, hg⟩, rfl, rfl⟩, ?_⟩⟩
  exact Zex
theorem rvec_spec {h : T AObj} {c : Nat} {rl wl : List Nat} (hf : Fresh h c) {p : Nat} {K : RK} {mt dm : Int} {lv : Value} {l : List On} (hp : Has h p (.cells (refC K mt dm lv))) (hl : LRow8 h lv l) (hb : l.length ≤ 1000) (hvs : ∀ x ∈ l, ∃ a n k, x.vec = .slice a n k) (id : Int) (R : Nat → Prop) (hRp : R p) (hRl : ∀ b, blkOf lv = some b → R b) :
  ∃ r s', FnTo (Cs smQ) eg 123 [.pointer (some ⟨p, 0, none⟩), .int .i64 id] ⟨h, c, rl, wl⟩ r s' ∧ (((getM id (l.map On.rc) = none ∧ r = .tuple #[.slice none 0 0, .bool false]) ∨ ∃ (k : Nat) (x : On), r = .tuple #[x.vec, .bool true] ∧ l[k]? = some x ∧ x.id = id ∧ getM id (l.map On.rc) = some x.rc) ∧ s'.h = h ∧ s'.c = c) ∧ Ext ⟨h, c, rl, wl⟩ s' R (fun _ => False) := by
 have hpc := hp.lt hf
 refine Fn.go (stdQ 123 rfl) ex123 fn123 km123 rfl rfl ?_
 refine Zev ?_
 have hp' := hp
 unfold refC at hp'
 refine Zgo ?_
 refine Wseq.call rfl rfl (place_spec Zfr hp hl hb id R hRp hRl) ?_
 rintro v1 h1 c1 r1 w1 ⟨⟨hr, e1, e2⟩, hext⟩
 simp only at e1 e2
 subst e1 e2
 have lr := Lg.extR (R := R) (c := c1) Zlg hext (fun _ _ q => q)
 have lw := Lg.extW (W := fun _ => False) (c := c1) Zlg hext (fun _ _ q => q)
 rcases hr with ⟨q, rfl⟩ | ⟨k, x, rfl, hk, hx, hg⟩
 ·refine Zgo ?_
  refine ⟨.inr rfl, Wres.two rfl rfl ⟨⟨.inl ⟨q, rfl⟩, rfl, rfl⟩, ?_⟩⟩
  exact Zex
 ·have hkl := (List.getElem?_eq_some_iff.1 hk).1
  rcases hl with ⟨_, rfl⟩ | ⟨bl, rfl, hne, hbl⟩
  ·cases hk
  obtain ⟨g0, g1⟩ := on_nth (sub_on hk)
  obtain ⟨va, vn, vk, hv⟩ := hvs x (List.mem_of_getElem? hk)
  have rb := hRl bl rfl
  have l1 := hbl.lt hf
  rw [hv] at g1
  refine Zgo ?_
  refine Zu (to_indexAddr (k := k) el105 rfl rfl rfl (by omega)) ?_
  refine Zgo ?_
  refine Zu (to_load (pl_ rfl) rfl hbl.cel (by omega) g1) ?_
  refine Zgo ?_
  refine ⟨.inr rfl, Wres.two rfl rfl ⟨⟨.inr ⟨k, x, by rw [hv]; rfl, hk, hx, hg⟩, rfl, rfl⟩, ?_⟩⟩
  exact Zex
def HJ (h : T AObj) (c0 : Nat) (v : Value) (l : List Int) : Prop := (v = .slice none 0 0 ∧ l = []) ∨ ∃ b, v = .slice (some ⟨b, 0, some 1⟩) l.length l.length ∧ l ≠ [] ∧ c0 ≤ b ∧ Has h b (.cells (l.map (Value.int .i64)))
theorem HJ.val {h : T AObj} {c : Nat} {v : Value} {l : List Int} (x : HJ h c v l) : ∃ oa, v = .slice oa l.length l.length ∧ Row h v l.length 1 (l.map (Value.int .i64)) ∧ ∀ b, blkOf v = some b → c ≤ b := by
 rcases x with ⟨rfl, rfl⟩ | ⟨b, rfl, _, h1, h2⟩
 ·exact ⟨_, rfl, .inl ⟨rfl, rfl, _, _, rfl⟩, fun b hb => by cases hb⟩
 ·exact ⟨_, rfl, .inr ⟨b, 0, _, _, _, rfl, h2.cel, subN_all _ _ (by simp)⟩, fun b hb => by cases hb; exact h1⟩
theorem HJ.lt {h : T AObj} {c c0 : Nat} {v : Value} {l : List Int} (x : HJ h c0 v l) (hf : Fresh h c) {b : Nat} (hb : blkOf v = some b) : c0 ≤ b ∧ b < c := by
 rcases x with ⟨rfl, _⟩ | ⟨b', rfl, _, h3, h4⟩
 ·cases hb
 ·cases hb; exact ⟨h3, h4.lt hf⟩
theorem Wseq.appJ {all os : List Oper} {loc kept : L} {h : T AObj} {c : Nat} {rl wl : List Nat} {Q : Env → St → Prop} {d : Nat} {ty : TypeId} {ps : String} {af : Array Edge} {g : Option (Nat × Bool)} {a x : Operand} {v : Value} {c0 ob cap : Nat} {sp : Option Nat} {y : Int} {l : List Int}
  (hw : wantedA all (.mk loc kept) ⟨some d, .call ⟨.builtin .append, #[a, x], #[45, 45]⟩, ty, ps, af, g⟩ = some true) (ha : evalA (.mk loc kept) a = v) (hx : evalA (.mk loc kept) x = .slice (some ⟨ob, 0, sp⟩) 1 cap) (hHJ : HJ h c0 v l) (hb : Has h ob (.cells [.int .i64 y])) (hob : c0 ≤ ob) (hn : l.length ≤ 10000) (hf : Fresh h c) (hc0 : c0 ≤ c)
  (k : ∀ h2 rl2 wl2, Fresh h2 (c + 1) → Kp h h2 c (fun b => blkOf v = some b) → Has h2 c (.cells ((l ++ [y]).map (Value.int .i64))) → (∀ b ∈ rl2, b ∈ rl ∨ c0 ≤ b) → (∀ b ∈ wl2, b ∈ wl ∨ c0 ≤ b) → Wseq (Cs smQ) eg all os (.mk (.cons d (.slice (some ⟨c, 0, some 1⟩) (l.length + 1) (l.length + 1)) loc) kept) ⟨h2, c + 1, rl2, wl2⟩ Q) :
  Wseq (Cs smQ) eg all (⟨some d, .call ⟨.builtin .append, #[a, x], #[45, 45]⟩, ty, ps, af, g⟩ :: os) (.mk loc kept) ⟨h, c, rl, wl⟩ Q := by
 have lo := hb.lt hf
 have hbg : big = 1048576 := rfl
 rcases hHJ with ⟨rfl, rfl⟩ | ⟨bl, rfl, hne, hbl, hbc⟩
 ·refine Wseq.stg hw (to_appNil (k := 0) ro45 sl45 ha hx hb.cel lo (subN_all _ _ rfl) (by omega) hf) (k _ _ _ Zfr Zkp Has.same ?_ (fun b hb => .inl hb))
  intro b hb
  rcases List.mem_cons.1 hb with rfl | hb
  ·exact .inr hob
  ·exact .inl hb
 ·have l3 := hbc.lt hf
  refine Wseq.stg hw (to_appOwn (k := 0) ro45 sl45 ha hx hb.cel lo (subN_all _ _ rfl) (by omega) (by omega) hbc l3 (subN_all _ _ (by simp)) (all_cons rfl all_nil) hf) (k _ _ _ Zfr Zkp ?_ ?_ ?_)
  ·rw [List.map_append]; exact Has.same
  ·intro b hb
   rcases List.mem_cons.1 hb with rfl | hb
   ·exact .inr hbl
   ·rcases List.mem_cons.1 hb with rfl | hb
    ·exact .inr hob
    ·exact .inl hb
  ·intro b hb
   rcases List.mem_cons.1 hb with rfl | hb
   ·exact .inr hbl
   ·exact .inl hb
def ERi (p : Nat) (n : Nat) (lv : Value) (z : Int) (j4 j11 : Value) : L :=
 .cons 0 (.pointer (some ⟨p, 0, none⟩)) (.cons 2 (.slice none 0 0) (.cons 3 lv (.cons 9 (.int .i64 (n : Int)) (.cons 10 (.int .i64 z) (.cons 4 j4 (.cons 11 j11 .nil))))))
set_option maxHeartbeats 4000000 in
theorem rids_spec {h : T AObj} {c : Nat} {rl wl : List Nat} (hf : Fresh h c) {p : Nat} {K : RK} {mt dm : Int} {lv : Value} {l : List On} (hp : Has h p (.cells (refC K mt dm lv))) (hl : LRow8 h lv l) (hb : l.length ≤ 1000) (R : Nat → Prop) (hRp : R p) (hRl : ∀ b, blkOf lv = some b → R b) :
  ∃ r s', FnTo (Cs smQ) eg 56 [.pointer (some ⟨p, 0, none⟩)] ⟨h, c, rl, wl⟩ r s' ∧ HJ s'.h c r (l.map On.id) ∧ Ext ⟨h, c, rl, wl⟩ s' R (fun _ => False) := by
 have hpc := hp.lt hf
 obtain ⟨oa, rfl⟩ := hl.val
 have hlb : ∀ b, blkOf (.slice oa l.length l.length) = some b → b < c := fun b q => by
  rcases hl with ⟨e, _⟩ | ⟨bl, e, _, hbl⟩
  ·rw [e] at q; cases q
  ·rw [e] at q; cases q; exact hbl.lt hf
 refine Fn.go (stdQ 56 rfl) ex56 fn56 km56 rfl rfl ?_
 refine Zev ?_
 unfold refC at hp
 refine Zgo ?_
 refine Wx.loopE (fun k1 e s => ∃ (i : Nat) (z : Int) (lv j4 j11 : Value) (h' : T AObj) (c' : Nat) (rl' wl' : List Nat), e = ERi p l.length lv z j4 j11 ∧ z = i ∧ s = ⟨h', c', rl', wl'⟩ ∧ c ≤ c' ∧ Fresh h' c' ∧ Kp h h' c (fun _ => False) ∧ HJ h' c lv ((l.take i).map On.id) ∧ Lg c R rl' ∧ Lg c (fun _ => False) wl' ∧ i ≤ l.length ∧ k1 = l.length - i) l.length (ERi p l.length (.slice none 0 0) 0 top top) Zrs ?_ ?_ ?_
 ·unfold ERi
  exact Zek
 ·exact ⟨0, 0, _, _, _, _, _, _, _, rfl, rfl, rfl, Nat.le_refl _, Zfr, Zkp, .inl ⟨rfl, rfl⟩, Zlg, Zlg, by omega, rfl⟩
 ·rintro k1 e s ⟨i, z, lv, j4, j11, h', c', rl', wl', rfl, hz, rfl, hcc, hf', hkp, hHJ, hlr, hlw, hid, rfl⟩
  unfold ERi
  by_cases hi : i < l.length
  ·have hxi : l[i]? = some l[i] := List.getElem?_eq_getElem hi
   rcases hl with ⟨_, rfl⟩ | ⟨bl, e, hne, hbl⟩
   ·cases hxi
   obtain rfl : oa = some ⟨bl, 0, some 8⟩ := by simp only [Value.slice.injEq] at e; exact e.1
   obtain ⟨g0, g1⟩ := on_nth (sub_on hxi)
   have lbl := hlb bl rfl
   have rb := hRl bl rfl
   have hbl' : Has h' bl (.cells (flatO l)) := (hkp bl lbl (fun q => q)).trans hbl
   have hp' : Has h' p (.cells [.int .i64 K.kd, .int .i64 mt, .int .i64 dm, .slice (some ⟨bl, 0, some 8⟩) l.length l.length, K.mv, K.bl, K.bs]) := (hkp p hpc (fun q => q)).trans hp
   have hmap : (l.take (i + 1)).map On.id = (l.take i).map On.id ++ [l[i].id] := by rw [List.take_succ_eq_append_getElem hi, List.map_append]; rfl
   have hl0 : ((l.take i).map On.id).length = i := by rw [List.length_map, List.length_take]; omega
   refine Zgo ?_
   refine Zu (to_indexAddr (k := i) el105 rfl rfl hz (by omega)) ?_
   refine Zgo ?_
   refine Zu (to_load (pl_ rfl) rfl hbl'.cel (by omega) g0) ?_
   refine Zgo ?_
   have hlv : ∀ b, blkOf lv = some b → c ≤ b ∧ b < c' := fun b q => hHJ.lt hf' q
   refine Wseq.appJ (v := lv) rfl rfl rfl (l := (l.take i).map On.id) (c0 := c) (y := l[i].id) (hHJ.imp (fun q => q) (fun ⟨b, e1, e2, e3, e4⟩ => ⟨b, e1, e2, e3, e4.other (by have := e4.lt hf'; omega)⟩)) Has.same (by omega) (by omega) Zfr (by omega) ?_
   intro h2 rl2 wl2 fr2 kp2 hN hrl2 hwl2
   have kp2' : Kp h h2 c (fun _ => False) := fun b hb _ => by
    rw [kp2 b (by omega) (fun q => by have := hlv b q; omega), get_other (by omega)]
    exact hkp b hb (fun q => q)
   have lr2 : Lg c R rl2 := fun b hb => (hrl2 b hb).elim (fun u => (show Lg c R _ from Zlg) b u) (fun u => .inl u)
   have lw2 : Lg c (fun _ => False) wl2 := fun b hb => (hwl2 b hb).elim (fun u => hlw b u) (fun u => .inl u)
   rw [hl0]
   refine Zgo ?_
   refine RoundE.go (l.length - (i + 1)) (ERi p l.length _ (z + 1) _ _) (by omega) Zek ⟨i + 1, z + 1, _, _, _, _, _, _, _, rfl, by omega, rfl, by omega, fr2, kp2', .inr ⟨c' + 1, ?_, ?_, by omega, ?_⟩, lr2, lw2, by omega, rfl⟩
   ·rw [hmap, List.length_append, hl0]; rfl
   ·rw [hmap]; intro e; have := congrArg List.length e; rw [List.length_append] at this; cases this
   ·rw [hmap]; exact hN
  ·refine Zgo ?_
   obtain rfl : i = l.length := by omega
   rw [List.take_length] at hHJ
   refine ⟨.inr rfl, Wres.one rfl ⟨hHJ, ?_⟩⟩
   exact Zex
end Go.Ab.Seat
end
section
/- flat.Vec; the five ways of a Face that has a flat index (the abstract machine). -/
namespace Go.Ab.Seat
open Go.Extern Go.Proofs
set_option maxRecDepth 4000
end Go.Ab.Seat
end
