import Derived.Test.YtofikbfljjjgeaaGreatDoorDW2
import Derived.Test.YtofikbfljjjgeaaGreatDoorDF2
import Derived.Test.YtofikbfljjjgeaaGreatDoorDV3
import Derived.Test.YtofikbfljjjgeaaGreatDoorDO1
set_option linter.unusedVariables false
set_option linter.unusedSimpArgs false
section
/- A flat index: its members as a rising list (the abstract machine). -/
namespace Go.Ab.Seat
open Go.Extern Go.Proofs
set_option maxRecDepth 4000
abbrev mbR (id : Int) (zs : List Int) : Rc := ⟨id, zs.map (Value.int .i32), .empty, 0, false⟩
def FRep (h : T AObj) (p m : Nat) (U : Nat → Prop) (r : Rc) (v : Value) : Prop := Own h 0 v r.xs.length r.xs ∧ ∀ b, blkOf v = some b → U b ∧ b ≠ p ∧ b ≠ m
def FFits (h : T AObj) (p m : Nat) (U : Nat → Prop) (o : Option Rc) (w : Option Value) : Prop := (o = none ∧ w = none) ∨ ∃ r v, o = some r ∧ w = some v ∧ FRep h p m U r v
structure FlatM (h : T AObj) (p m : Nat) (mt : Int) (dim : Nat) (M : List Rc) (U : Nat → Prop) : Prop where
 ptr : Has h p (.cells [.int .i64 mt, .map (some m)])
 ex : ∃ es n, Has h m (.map es n) ∧ (∃ ids, Keyed es n ids) ∧ ∀ x, FFits h p m U (getM x M) (valI x es)
 pU : U p
 mU : U m
 ne : p ≠ m
 rises : Rises M
 ok : ∀ r ∈ M, ∃ zs : List Int, r.xs = zs.map (Value.int .i32) ∧ zs.length = dim ∧ Bnd zs
theorem FRep.keep {h h' : T AObj} {p m c : Nat} {U U' : Nat → Prop} {r : Rc} {v : Value} (x : FRep h p m U r v) (hf : Fresh h c) (hU : ∀ b, U b → U' b) (k : ∀ b, U b → b < c → b ≠ p → b ≠ m → h'.get b = h.get b) : FRep h' p m U' r v :=
 ⟨x.1.keep fun b hb => k b (x.2 b hb).1 ((x.1.blk hb).2.lt hf) (x.2 b hb).2.1 (x.2 b hb).2.2, fun b hb => ⟨hU b (x.2 b hb).1, (x.2 b hb).2⟩⟩
theorem FFits.keep {h h' : T AObj} {p m c : Nat} {U U' : Nat → Prop} {o : Option Rc} {w : Option Value} (x : FFits h p m U o w) (hf : Fresh h c) (hU : ∀ b, U b → U' b) (k : ∀ b, U b → b < c → b ≠ p → b ≠ m → h'.get b = h.get b) : FFits h' p m U' o w := by
 rcases x with x | ⟨r, v, h1, h2, h3⟩
 ·exact .inl x
 ·exact .inr ⟨r, v, h1, h2, h3.keep hf hU k⟩
theorem FlatM.keep {h h' : T AObj} {c p m dim : Nat} {mt : Int} {M : List Rc} {U : Nat → Prop} (q : FlatM h p m mt dim M U) (hf : Fresh h c) (k : ∀ b, U b → b < c → h'.get b = h.get b) : FlatM h' p m mt dim M U := by
 obtain ⟨es, n, h1, h2, h3⟩ := q.ex
 exact ⟨(k p q.pU (q.ptr.lt hf)).trans q.ptr, ⟨es, n, (k m q.mU (h1.lt hf)).trans h1, h2, fun x => (h3 x).keep hf (fun _ q => q) fun b hb hc _ _ => k b hb hc⟩, q.pU, q.mU, q.ne, q.rises, q.ok⟩
theorem FlatM.lt {h : T AObj} {c p m dim : Nat} {mt : Int} {M : List Rc} {U : Nat → Prop} (q : FlatM h p m mt dim M U) (hf : Fresh h c) : p < c ∧ m < c := by
 obtain ⟨es, n, h1, h2, h3⟩ := q.ex
 exact ⟨q.ptr.lt hf, h1.lt hf⟩
theorem FlatM.new {h : T AObj} {p m dim : Nat} {mt : Int} (hp : Has h p (.cells [.int .i64 mt, .map (some m)])) (hm : Has h m (.map [] 0)) (hne : p ≠ m) : FlatM h p m mt dim [] (fun b => b = p ∨ b = m) :=
 ⟨hp, ⟨[], 0, hm, ⟨[], .nil 0⟩, fun x => .inl ⟨rfl, rfl⟩⟩, .inl rfl, .inr rfl, hne, Rises.nil, fun r hr => by cases hr⟩
theorem FlatM.ids {h : T AObj} {p m : Nat} {U : Nat → Prop} {M : List Rc} {n : Nat} {es : List (Value × Value × Nat)} {ids : List Int} (hk : Keyed es n ids) (hr : Rises M) (hv : ∀ x, FFits h p m U (getM x M) (valI x es)) : sortI ids = M.map Rc.id := by
 refine rises_ext (sortI_rises hk.nodup) hr.ids fun x => ?_
 rw [(sortI_perm ids).mem_iff]
 constructor
 ·intro hx
  rcases hv x with ⟨_, h4⟩ | ⟨r, v, h4, _, _⟩
  ·exact absurd hx ((findI_none_iff hk.keys).1 (valI_none.1 h4))
  ·obtain ⟨h5, h6⟩ := getM_mem h4
   exact List.mem_map.2 ⟨r, h5, h6⟩
 ·intro hx
  obtain ⟨r, h5, rfl⟩ := List.mem_map.1 hx
  refine Classical.byContradiction fun hn => ?_
  rcases hv r.id with ⟨h4, _⟩ | ⟨r', v, _, h4, _⟩
  ·exact absurd rfl (getM_none.1 h4 r h5)
  ·rw [valI_none.2 ((findI_none_iff hk.keys).2 hn)] at h4
   cases h4
theorem fput_spec {h : T AObj} {c : Nat} {rl wl : List Nat} (hf : Fresh h c) {p m dim : Nat} {mt : Int} {M : List Rc} {U : Nat → Prop} (q : FlatM h p m mt dim M U) (id : Int) (hid : -9223372036854775808 ≤ id ∧ id ≤ 9223372036854775807)
  {a : Option Addr} {cap : Nat} {zs : List Int} (hv : Row h (.slice a dim cap) dim 1 (zs.map (Value.int .i32))) (hx : zs.length = dim) (hb : Bnd zs) (hd : 1 ≤ dim) (hd' : dim ≤ 1000) (bs : Nat → Prop) (hbs : ∀ b o sp, a = some ⟨b, o, sp⟩ → bs b) (hbm : ¬bs m) :
  ∃ r s', FnTo (Cs smQ) eg 20 [.pointer (some ⟨p, 0, none⟩), .int .i64 id, .slice a dim cap] ⟨h, c, rl, wl⟩ r s' ∧ FlatM s'.h p m mt dim (putM (mbR id zs) M) (fun b => U b ∨ c ≤ b ∧ b < s'.c) ∧ Ext ⟨h, c, rl, wl⟩ s' (fun b => U b ∨ bs b) (fun b => b = m) := by
 obtain ⟨es, n, hm, ⟨ids, h2⟩, h3⟩ := q.ex
 have hp := q.ptr
 obtain ⟨lp, lm⟩ := q.lt hf
 have hpU := q.pU
 have hmU := q.mU
 refine Fn.go (stdQ 20 rfl) ex20 fn20 km20 rfl rfl ?_
 refine Zev ?_
 refine Zgo ?_
 refine Wtr.call rfl rfl (copy_spec stdQ Zfr hv (by unfold bigV; omega) (fun e => by omega) bs (fun b o sp n' cap e => hbs b o sp (by simp only [Value.slice.injEq] at e; exact e.1))) ?_
 rintro v h1 c1 r1 w1 ⟨hown, hext⟩
 have hq := hext.quiet (fun _ _ q => q)
 have kp := Kp.ext (W := fun b => b = m) (h := h) (c := c) Zkp hext (by omega) (fun _ _ q => q.elim)
 have lr := Lg.extR (R := fun b => U b ∨ bs b) (c := c) Zlg hext (fun b _ hb => .inr hb)
 have lw := Lg.extW (W := fun b => b = m) (c := c) Zlg hext (fun b _ hb => hb.elim)
 have fr1 := hext.fresh
 have le1 := hext.c
 simp only at le1 fr1
 have hm1 : Has h1 m (.map es n) := hext.hs hm lm (fun q => q)
 have hp1 := hext.hs hp lp (fun q => q)
 have hrm : ∀ b ∈ r1, b ≠ m := fun b hb => by
  rcases hext.rl b hb with u | u
  ·exact absurd u List.not_mem_nil
  ·exact fun e => hbm (e ▸ u.2)
 refine ⟨Zap, ?_⟩
 refine Zgo ?_
 refine Wtr.op (s1 := ⟨h1.set m (some (.map (putI .i64 id v n es).1 (putI .i64 id v n es).2)), c1, [m], [m]⟩) rfl (to_mapUpdate (mi_ rfl) rfl rfl rfl hm1 (hm1.lt fr1) h2.ks) ?_ ?_
 ·exact Zap
 dsimp only [put]
 refine Zgo ?_
 refine ⟨.inl rfl, Wres.nil ⟨?_, ?_⟩⟩
 ·obtain ⟨va, vk, rfl⟩ := hown.val
  refine ⟨Has.other (fun e => q.ne e) hp1, ⟨_, _, Has.same, ⟨_, h2.put (by unfold wfI; rw [decide_eq_true hid.1, decide_eq_true hid.2]; rfl) _⟩, fun x => ?_⟩, .inl hpU, .inl hmU, q.ne, q.rises.put _, fun r hr => ?_⟩
  ·rw [getM_put, valI_put h2]
   by_cases hxi : id = x
   ·rw [if_pos hxi, if_pos hxi.symm]
    refine .inr ⟨_, _, rfl, rfl, ?_, fun b hb => ?_⟩
    ·show Own _ 0 _ (zs.map (Value.int .i32)).length _
     rw [List.length_map, hx]
     exact (hown.low (Nat.zero_le _)).keep fun b hb => get_other (by have := (hown.blk hb).1; omega)
    ·obtain ⟨u1, u2⟩ := hown.blk hb
     have := u2.lt fr1
     exact ⟨.inr ⟨u1, this⟩, by omega, by omega⟩
   ·rw [if_neg hxi, if_neg fun e => hxi e.symm]
    exact (h3 x).keep hf (fun b hb => .inl hb) fun b _ hc _ hm => (get_other hm).trans (kp b hc hm)
  ·rcases mem_putM hr with rfl | hr
   ·exact ⟨zs, rfl, hx, hb⟩
   ·exact q.ok r hr
 ·exact Zex
end Go.Ab.Seat
end
section
/- The best of some (the abstract machine). -/
namespace Go.Ab.Seat
open Go.Extern Go.Proofs
set_option maxRecDepth 4000
variable {sm : Nat → Option (List Value → M Value)}
end Go.Ab.Seat
end
section
/- A flat index: one is let go; the ids; a search (the abstract machine). -/
namespace Go.Ab.Seat
open Go.Extern Go.Proofs
set_option maxRecDepth 4000
def intsV (xs : List Value) : List Int := xs.map fun v => match v with | .int _ z => z | _ => 0
theorem intsV_ints (zs : List Int) : intsV (zs.map (Value.int .i32)) = zs := by
 unfold intsV
 rw [List.map_map]
 exact List.map_id zs
def HL (h : T AObj) (c0 : Nat) (v : Value) (l : List Ht) : Prop := (v = .slice none 0 0 ∧ l = []) ∨ ∃ b, v = .slice (some ⟨b, 0, some 2⟩) l.length l.length ∧ l ≠ [] ∧ c0 ≤ b ∧ Has h b (.cells (flatH l))
theorem HL.val {h : T AObj} {c : Nat} {v : Value} {l : List Ht} (x : HL h c v l) : ∃ oa, v = .slice oa l.length l.length ∧ Row h v l.length 2 (flatH l) ∧ ∀ b, blkOf v = some b → c ≤ b := by
 rcases x with ⟨rfl, rfl⟩ | ⟨b, rfl, _, h1, h2⟩
 ·exact ⟨_, rfl, .inl ⟨rfl, rfl, _, _, rfl⟩, fun b hb => by cases hb⟩
 ·exact ⟨_, rfl, .inr ⟨b, 0, _, _, _, rfl, h2.cel, subN_all _ _ (flatH_len l).symm⟩, fun b hb => by cases hb; exact h1⟩
end Go.Ab.Seat
end
section
/- Hits, ids held against each other, where they are the same (the abstract machine). -/
namespace Go.Ab.Seat
open Go.Extern Go.Proofs
set_option maxRecDepth 4000
variable {sm : Nat → Option (List Value → M Value)}
end Go.Ab.Seat
end
section
/- FlatOrder: the run answers true (the abstract machine). -/
namespace Go.Ab.Seat
open Go.Extern Go.Proofs
set_option maxRecDepth 4000
structure Two (h : T AObj) (c : Nat) (pa ma pb mb : Nat) (mt : Int) (dim : Nat) (A B : List Rc) : Prop where
 ex : ∃ Ua Ub : Nat → Prop, FlatM h pa ma mt dim A Ua ∧ FlatM h pb mb mt dim B Ub ∧ ¬Ua mb ∧ ¬Ub ma ∧ ma < c ∧ mb < c
theorem FlatM.hm {h : T AObj} {p m dim : Nat} {mt : Int} {M : List Rc} {U : Nat → Prop} (q : FlatM h p m mt dim M U) : ∃ es n, Has h m (.map es n) := by
 obtain ⟨es, n, h1, _⟩ := q.ex
 exact ⟨es, n, h1⟩
theorem Two.keep {h h' : T AObj} {c c' : Nat} {pa ma pb mb dim : Nat} {mt : Int} {A B : List Rc} (t : Two h c pa ma pb mb mt dim A B) (hf : Fresh h c) (hc : c ≤ c') (k : ∀ b, b < c → h'.get b = h.get b) : Two h' c' pa ma pb mb mt dim A B := by
 obtain ⟨Ua, Ub, qa, qb, u1, u2, l1, l2⟩ := t.ex
 exact ⟨Ua, Ub, qa.keep hf fun b _ hb => k b hb, qb.keep hf fun b _ hb => k b hb, u1, u2, by omega, by omega⟩
end Go.Ab.Seat
end
section
/- The reference's index is written: one is taken out, let go, put (the abstract machine). -/
namespace Go.Ab.Seat
open Go.Extern Go.Proofs
set_option maxRecDepth 4000
theorem Row.keepBT {h h' : T AObj} {v : Value} {n k : Nat} {xs : List Value} (hr : Row h v n k xs) (hk : ∀ b, blkOf v = some b → h'.get b = h.get b) : Row h' v n k xs := by
 rcases hr with g | ⟨b, o, sp, cap, cs, e, g6, g7⟩
 ·exact .inl g
 ·refine .inr ⟨b, o, sp, cap, cs, e, ?_, g7⟩
  have q := hk b (by rw [e]; rfl)
  unfold Cel Has at g6 ⊢
  rw [q]; exact g6
end Go.Ab.Seat
end
section
/- The reference's middles (the abstract machine). -/
namespace Go.Ab.Seat
open Go.Extern Go.Proofs
set_option maxRecDepth 4000
theorem vec_nth {zs : List Int} {j : Nat} (hj : j < zs.length) : (zs.map (Value.int .i32))[j * 1]? = some (.int .i32 (zs.getD j 0)) := by
 rw [Nat.mul_one, List.getElem?_map, List.getD_eq_getElem?_getD, List.getElem?_eq_getElem hj]; rfl
end Go.Ab.Seat
end
section
/- The reference's index of lists is made (the abstract machine). -/
namespace Go.Ab.Seat
open Go.Extern Go.Proofs
set_option maxRecDepth 4000
theorem ORow.val {h : T AObj} {c0 dim : Nat} {w : Value} {l : List (List Int)} {Uv : Nat → Prop} (x : ORow h c0 w dim l Uv) : ∃ oa, w = .slice oa l.length l.length := by
 rcases x with ⟨rfl, rfl⟩ | ⟨b, vals, h1, _⟩
 ·exact ⟨_, rfl⟩
 ·exact ⟨_, h1⟩
end Go.Ab.Seat
end
section
/- Vectors that may be, of some all; a copy of a row of vectors (the abstract machine). -/
namespace Go.Ab.Seat
open Go.Extern Go.Proofs
set_option maxRecDepth 4000
def KIx : List Nat := [0, 1, 4, 5, 7, 8, 9, 16]
theorem may1_spec {h : T AObj} {c : Nat} {rl wl : List Nat} (hf : Fresh h c) {x : Int} (hx : -1048576 ≤ x ∧ x ≤ 1048576) :
  ∃ r s', FnTo (Cs smQ) eg 160 [.int .i32 x] ⟨h, c, rl, wl⟩ r s' ∧ (r = .bool false ∧ s' = ⟨h, c, rl, wl⟩) := by
 refine Fn.go (stdQ 160 rfl) ex160 fn160 km160 rfl rfl ?_
 refine Zev ?_
 refine Zgo ?_
 exact ⟨.inr rfl, Wres.one rfl ⟨rfl, rfl⟩⟩
theorem ix211_spec {h : T AObj} {c : Nat} {rl wl : List Nat} (hf : Fresh h c) {a : Option Addr} {dim k : Nat} {zs : List Int} (hn : zs.length = dim) (hx : Row h (.slice a dim k) dim 1 (zs.map (Value.int .i32))) (hb : Bnd zs) (hd : dim ≤ 1000) (R : Nat → Prop) (hR : ∀ x, blkOf (.slice a dim k) = some x → R x) :
  ∃ r s', FnTo (Cs smQ) eg 211 [.slice a dim k, .func (.func 160) #[] #[]] ⟨h, c, rl, wl⟩ r s' ∧ (r = .int .i64 (-1) ∧ s'.h = h ∧ s'.c = c) ∧ Ext ⟨h, c, rl, wl⟩ s' R (fun _ => False) := by
 refine Fn.go (stdQ 211 rfl) ex211 fn211 km211 rfl rfl ?_
 refine Zev ?_
 refine Zgo ?_
 refine Wx.loopF (fun k1 e s => ∃ (g : Nat → Value) (i : Nat) (z : Int) (rl' wl' : List Nat), e = fr g [(0, .slice a dim k), (1, .func (.func 160) #[] #[]), (7, .int .i64 (dim : Int)), (8, .int .i64 z)] KIx ∧ z = i ∧ s = ⟨h, c, rl', wl'⟩ ∧ Lg c R rl' ∧ Lg c (fun _ => False) wl' ∧ i ≤ dim ∧ k1 = dim - i) dim KIx [(0, _), (1, _), (7, _), (8, .int .i64 0)] ⟨_, 0, 0, _, _, rfl, rfl, rfl, Zlg, Zlg, by omega, rfl⟩ ?_
 rintro k1 e s ⟨g, i, z, rl', wl', rfl, hz, rfl, hlr, hlw, hin, rfl⟩
 (refine Wx.sw (by simp only [KIx, frN, frC, updN, updC, Nat.reduceEqDiff, ↓reduceIte]; rfl) ?_)
 by_cases hi : i < dim
 ·obtain ⟨b1, o1, sp1, cs1, rfl, hc1, hn1⟩ := rowCell hx (j := i * 1) (by omega) (vec_nth (by omega))
  have l1 := hc1.lt hf
  have r1 := hR b1 rfl
  refine Zgo ?_
  refine Zu (to_indexAddr (k := i) el25 rfl rfl hz hi) ?_
  refine Zu (to_load (pl_ rfl) rfl hc1 (by omega) hn1) ?_
  refine Wseq.callV rfl rfl rfl (may1_spec Zfr (hb i)) ?_
  rintro v2 h1 c1 r1 w1 ⟨rfl, e1⟩
  cases e1
  refine Zgo ?_
  exact RoundE.goF (dim - (i + 1)) KIx [(0, _), (1, _), (7, _), (8, .int .i64 (z + 1))] (by omega) ⟨_, i + 1, z + 1, _, _, rfl, by omega, rfl, Zlg, Zlg, by omega, rfl⟩
 ·refine Zgo ?_
  refine ⟨.inr rfl, Wres.one rfl ⟨⟨rfl, rfl, rfl⟩, ?_⟩⟩
  exact Zex
theorem cf159_spec {h : T AObj} {c : Nat} {rl wl : List Nat} (hf : Fresh h c) {a : Option Addr} {dim k : Nat} {zs : List Int} (hn : zs.length = dim) (hx : Row h (.slice a dim k) dim 1 (zs.map (Value.int .i32))) (hb : Bnd zs) (hd : dim ≤ 1000) (R : Nat → Prop) (hR : ∀ x, blkOf (.slice a dim k) = some x → R x) :
  ∃ r s', FnTo (Cs smQ) eg 159 [.slice a dim k, .func (.func 160) #[] #[]] ⟨h, c, rl, wl⟩ r s' ∧ (r = .bool false ∧ s'.h = h ∧ s'.c = c) ∧ Ext ⟨h, c, rl, wl⟩ s' R (fun _ => False) := by
 refine Fn.go (stdQ 159 rfl) ex159 fn159 km159 rfl rfl ?_
 refine Zev ?_
 refine Zgo ?_
 refine Wseq.call rfl rfl (ix211_spec Zfr hn hx hb hd R hR) ?_
 rintro v1 h1 c1 r1 w1 ⟨⟨rfl, e1, e2⟩, hext⟩
 simp only at e1 e2
 subst e1 e2
 have lr := Lg.extR (R := R) (c := c1) Zlg hext (fun _ _ q => q)
 have lw := Lg.extW (W := fun _ => False) (c := c1) Zlg hext (fun _ _ q => q)
 refine Zgo ?_
 refine ⟨.inr rfl, Wres.one rfl ⟨⟨rfl, rfl, rfl⟩, ?_⟩⟩
 exact Zex
theorem may_spec {h : T AObj} {c : Nat} {rl wl : List Nat} (hf : Fresh h c) {a : Option Addr} {dim k : Nat} {zs : List Int} (hn : zs.length = dim) (hx : Row h (.slice a dim k) dim 1 (zs.map (Value.int .i32))) (hb : Bnd zs) (hd1 : 1 ≤ dim) (hd : dim ≤ 8) (R : Nat → Prop) (hR : ∀ x, blkOf (.slice a dim k) = some x → R x) :
  ∃ r s', FnTo (Cs smQ) eg 91 [.slice a dim k, .int .i64 (dim : Int)] ⟨h, c, rl, wl⟩ r s' ∧ (r = .bool true ∧ s'.h = h ∧ s'.c = c) ∧ Ext ⟨h, c, rl, wl⟩ s' R (fun _ => False) := by
 refine Fn.go (stdQ 91 rfl) ex91 fn91 km91 rfl rfl ?_
 refine Zev ?_
 refine Zgo ?_
 refine Wseq.call rfl rfl (cf159_spec Zfr hn hx hb (by omega) R hR) ?_
 rintro v1 h1 c1 r1 w1 ⟨⟨rfl, e1, e2⟩, hext⟩
 simp only at e1 e2
 subst e1 e2
 have lr := Lg.extR (R := R) (c := c1) Zlg hext (fun _ _ q => q)
 have lw := Lg.extW (W := fun _ => False) (c := c1) Zlg hext (fun _ _ q => q)
 refine Zgo ?_
 refine ⟨.inr rfl, Wres.one rfl ⟨⟨rfl, rfl, rfl⟩, ?_⟩⟩
 exact Zex
theorem mk1_spec {h : T AObj} {c bb : Nat} {rl wl : List Nat} (hf : Fresh h c) {a : Option Addr} {dim k : Nat} {zs : List Int} (hn : zs.length = dim) (hx : Row h (.slice a dim k) dim 1 (zs.map (Value.int .i32))) (hb : Bnd zs) (hd1 : 1 ≤ dim) (hd : dim ≤ 8) (hbb : Has h bb (.cells [.int .i64 (dim : Int)])) (R : Nat → Prop) (hR : ∀ x, blkOf (.slice a dim k) = some x → R x) (hRb : R bb) :
  ∃ r s', FnTo (Cs smQ) eg 157 [.slice a dim k, .pointer (some ⟨bb, 0, none⟩)] ⟨h, c, rl, wl⟩ r s' ∧ (r = .bool false ∧ s'.h = h ∧ s'.c = c) ∧ Ext ⟨h, c, rl, wl⟩ s' R (fun _ => False) := by
 have l1 := hbb.lt hf
 refine Fn.go (stdQ 157 rfl) ex157 fn157 km157 rfl rfl ?_
 refine Zev ?_
 refine Zgo ?_
 refine Wseq.call rfl rfl (may_spec Zfr hn hx hb hd1 hd R hR) ?_
 rintro v1 h1 c1 r1 w1 ⟨⟨rfl, e1, e2⟩, hext⟩
 simp only at e1 e2
 subst e1 e2
 have lr := Lg.extR (R := R) (c := c1) Zlg hext (fun _ _ q => q)
 have lw := Lg.extW (W := fun _ => False) (c := c1) Zlg hext (fun _ _ q => q)
 refine Zgo ?_
 refine ⟨.inr rfl, Wres.one rfl ⟨⟨rfl, rfl, rfl⟩, ?_⟩⟩
 exact Zex
theorem ix210_spec {h : T AObj} {c bb : Nat} {rl wl : List Nat} (hf : Fresh h c) {v : Value} {dim : Nat} {vs : List (List Int)} {U : Nat → Prop} (hm : MRow h v dim vs U) (hn : vs.length ≤ 1000) (hd1 : 1 ≤ dim) (hd : dim ≤ 8) (hbb : Has h bb (.cells [.int .i64 (dim : Int)])) (R : Nat → Prop) (hUR : ∀ b, U b → R b) (hRb : R bb) :
  ∃ r s', FnTo (Cs smQ) eg 210 [v, .func (.func 157) #[] ⟨[.pointer (some ⟨bb, 0, none⟩)]⟩] ⟨h, c, rl, wl⟩ r s' ∧ (r = .int .i64 (-1) ∧ s'.h = h ∧ s'.c = c) ∧ Ext ⟨h, c, rl, wl⟩ s' R (fun _ => False) := by
 obtain ⟨oa, cap, rfl⟩ := hm.val
 refine Fn.go (stdQ 210 rfl) ex210 fn210 km210 rfl rfl ?_
 refine Zev ?_
 refine Zgo ?_
 refine Wx.loopF (fun k1 e s => ∃ (g : Nat → Value) (i : Nat) (z : Int) (rl' wl' : List Nat), e = fr g [(0, .slice oa vs.length cap), (1, .func (.func 157) #[] ⟨[.pointer (some ⟨bb, 0, none⟩)]⟩), (7, .int .i64 (vs.length : Int)), (8, .int .i64 z)] KIx ∧ z = i ∧ s = ⟨h, c, rl', wl'⟩ ∧ Lg c R rl' ∧ Lg c (fun _ => False) wl' ∧ i ≤ vs.length ∧ k1 = vs.length - i) vs.length KIx [(0, _), (1, _), (7, _), (8, .int .i64 0)] ⟨_, 0, 0, _, _, rfl, rfl, rfl, Zlg, Zlg, by omega, rfl⟩ ?_
 rintro k1 e s ⟨g, i, z, rl', wl', rfl, hz, rfl, hlr, hlw, hin, rfl⟩
 (refine Wx.sw (by simp only [KIx, frN, frC, updN, updC, Nat.reduceEqDiff, ↓reduceIte]; rfl) ?_)
 by_cases hi : i < vs.length
 ·obtain ⟨g1, g2, b1, sp, vals, a, k, rfl, g4, g5, g6, g7, g8⟩ := hm.at (List.getElem?_eq_getElem hi)
  have lb := g5.lt hf
  have rb := hUR b1 g4
  refine Zgo ?_
  refine Zu (to_indexAddr (k := i) el22 rfl rfl hz hi) ?_
  refine Zu (to_load (pl_ rfl) rfl g5.cel (by omega) g6) ?_
  refine Wseq.callV rfl rfl rfl (mk1_spec Zfr g1 g7 g2 hd1 hd hbb R (fun x u => hUR x (g8 x u)) hRb) ?_
  rintro v2 h1 c1 r1 w1 ⟨⟨rfl, e1, e2⟩, hext⟩
  simp only at e1 e2
  subst e1 e2
  have lr := Lg.extR (R := R) (c := c1) Zlg hext (fun _ _ q => q)
  have lw := Lg.extW (W := fun _ => False) (c := c1) Zlg hext (fun _ _ q => q)
  refine Zgo ?_
  exact RoundE.goF (vs.length - (i + 1)) KIx [(0, _), (1, _), (7, _), (8, .int .i64 (z + 1))] (by omega) ⟨_, i + 1, z + 1, _, _, rfl, by omega, rfl, Zlg, Zlg, by omega, rfl⟩
 ·refine Zgo ?_
  refine ⟨.inr rfl, Wres.one rfl ⟨⟨rfl, rfl, rfl⟩, ?_⟩⟩
  exact Zex
theorem del155_spec {h : T AObj} {c bb : Nat} {rl wl : List Nat} (hf : Fresh h c) {v : Value} {dim : Nat} {vs : List (List Int)} {U : Nat → Prop} (hm : MRow h v dim vs U) (hn : vs.length ≤ 1000) (hd1 : 1 ≤ dim) (hd : dim ≤ 8) (hbb : Has h bb (.cells [.int .i64 (dim : Int)])) (R : Nat → Prop) (hUR : ∀ b, U b → R b) (hRb : R bb) :
  ∃ r s', FnTo (Cs smQ) eg 155 [v, .func (.func 157) #[] ⟨[.pointer (some ⟨bb, 0, none⟩)]⟩] ⟨h, c, rl, wl⟩ r s' ∧ (r = v ∧ s'.h = h ∧ s'.c = c) ∧ Ext ⟨h, c, rl, wl⟩ s' R (fun _ => False) := by
 obtain ⟨oa, cap, rfl⟩ := _root_.id hm.val
 refine Fn.go (stdQ 155 rfl) ex155 fn155 km155 rfl rfl ?_
 refine Zev ?_
 refine Zgo ?_
 refine Wseq.call rfl rfl (ix210_spec Zfr hm hn hd1 hd hbb R hUR hRb) ?_
 rintro v2 h1 c1 r1 w1 ⟨⟨rfl, e1, e2⟩, hext⟩
 simp only at e1 e2
 subst e1 e2
 have lr := Lg.extR (R := R) (c := c1) Zlg hext (fun _ _ q => q)
 have lw := Lg.extW (W := fun _ => False) (c := c1) Zlg hext (fun _ _ q => q)
 refine Zgo ?_
 refine ⟨.inr rfl, Wres.one rfl ⟨⟨rfl, rfl, rfl⟩, ?_⟩⟩
 exact Zex
theorem clone156_spec {h : T AObj} {c : Nat} {rl wl : List Nat} (hf : Fresh h c) {v : Value} {dim : Nat} {vs : List (List Int)} {U : Nat → Prop} (hm : MRow h v dim vs U) (hUc : ∀ b, U b → b < c) (hn : vs.length ≤ 1000) (R : Nat → Prop) (hUR : ∀ b, U b → R b) :
  ∃ r s', FnTo (Cs smQ) eg 156 [v] ⟨h, c, rl, wl⟩ r s' ∧ MRow s'.h r dim vs (fun b => U b ∨ c ≤ b ∧ b < s'.c) ∧ Ext ⟨h, c, rl, wl⟩ s' R (fun _ => False) := by
 refine Fn.go (stdQ 156 rfl) ex156 fn156 km156 rfl rfl ?_
 intro e he
 have hbg : big = 1048576 := rfl
 rcases hm with ⟨rfl, rfl⟩ | ⟨b, sp, cap, vals, rfl, hne, hcap, hU, hb, hG⟩
 ·(simp (decide := true) only [kz] at he; subst he)
  refine Zgo ?_
  refine ⟨.inr rfl, Wres.one rfl ⟨.inl ⟨rfl, rfl⟩, ?_⟩⟩
  exact Zex
 ·(simp (decide := true) only [kz] at he; subst he)
  obtain ⟨n, hnn⟩ : ∃ n, vs.length = n + 1 := ⟨vs.length - 1, by have := List.length_pos_iff.2 hne; omega⟩
  have hvl := hG.1
  have lb := hb.lt hf
  have rb := hUR b hU
  rw [hnn]
  refine Zgo ?_
  refine Zu (to_appEx ro22 sl22 rfl rfl (hb.other (by omega)).cel (by omega) (subN_all _ _ (by rw [hvl]; omega)) (by omega) Zfr) ?_
  refine Zgo ?_
  refine ⟨.inr rfl, Wres.one rfl ⟨.inr ⟨c + 1, some 1, n + 1, vals, by rw [hnn]; rfl, hne, by omega, .inr ⟨by omega, by dsimp only; omega⟩, Has.same, hG.keep hf (fun b q => .inl q) (fun b q hc _ => ?_)⟩, ?_⟩⟩
  ·rw [get_other (by omega), get_other (by omega)]
  ·exact Zex
end Go.Ab.Seat
end
section
/- A book of vectors, plainly: the least number of each place, a step. -/
namespace Go.Ab.Seat
open Go.Extern Go.Proofs
def lowZ (i : Nat) : List (List Int) → Int
 | [] => 0
 | v :: vs => vs.foldl (fun a w => min a (w.getD i 0)) (v.getD i 0)
def highZ (i : Nat) : List (List Int) → Int
 | [] => 0
 | v :: vs => vs.foldl (fun a w => max a (w.getD i 0)) (v.getD i 0)
theorem lowZ_snoc (i : Nat) (v : List Int) : ∀ vs : List (List Int), lowZ i (vs ++ [v]) = if vs.length = 0 then v.getD i 0 else min (lowZ i vs) (v.getD i 0)
 | [] => rfl
 | w :: vs => by
  rw [if_neg (by simp)]
  show (vs ++ [v]).foldl _ _ = min (vs.foldl _ _) _
  rw [List.foldl_append]; rfl
theorem highZ_snoc (i : Nat) (v : List Int) : ∀ vs : List (List Int), highZ i (vs ++ [v]) = if vs.length = 0 then v.getD i 0 else max (highZ i vs) (v.getD i 0)
 | [] => rfl
 | w :: vs => by
  rw [if_neg (by simp)]
  show (vs ++ [v]).foldl _ _ = max (vs.foldl _ _) _
  rw [List.foldl_append]; rfl
theorem lohi_bnd {i : Nat} {vs : List (List Int)} (h : ∀ v ∈ vs, Bnd v) : ∀ k, k ≤ vs.length → -1048576 ≤ lowZ i (vs.take k) ∧ lowZ i (vs.take k) ≤ highZ i (vs.take k) ∧ highZ i (vs.take k) ≤ 1048576
 | 0, _ => by simp [lowZ, highZ]
 | k + 1, hk => by
  have ih := lohi_bnd (i := i) h k (by omega)
  have hb := h _ (List.getElem_mem (show k < vs.length by omega)) i
  rw [List.take_succ_eq_append_getElem (by omega), lowZ_snoc, highZ_snoc]
  split <;> omega
def stepZ (i : Nat) (vs : List (List Int)) : Int := max ((highZ i vs - lowZ i vs + 254).tdiv 255) 1
theorem stepZ_rng {i : Nat} {vs : List (List Int)} (h : ∀ v ∈ vs, Bnd v) : 1 ≤ stepZ i vs ∧ stepZ i vs ≤ 8226 := by
 have := lohi_bnd (i := i) h vs.length (Nat.le_refl _)
 rw [List.take_length] at this
 unfold stepZ
 rw [Int.tdiv_eq_ediv_of_nonneg (by omega)]
 omega
end Go.Ab.Seat
end
