import Derived.Test.YtofikbfljjjgeaaGreatDoorE52
import Derived.Test.YtofikbfljjjgeaaGreatDoorDW2
import Derived.Test.YtofikbfljjjgeaaGreatDoorDN4
import Derived.Test.YtofikbfljjjgeaaGreatDoorDJG
import Derived.Test.YtofikbfljjjgeaaGreatDoorDJ7
import Derived.Test.YtofikbfljjjgeaaGreatDoorDO2
import Derived.Test.YtofikbfljjjgeaaGreatDoorDI2
import Derived.Test.YtofikbfljjjgeaaGreatDoorDM1
import Derived.Carry
set_option linter.unusedVariables false
set_option linter.unusedSimpArgs false
section
/- Rows of grown rows of vectors: one more in one of them; a value stored among vectors. -/
namespace Go.Ab.Seat
open Go.Extern Go.Proofs
def ORow (h : T AObj) (c0 : Nat) (w : Value) (dim : Nat) (l : List (List Int)) (Uv : Nat → Prop) : Prop :=
 (w = .slice none 0 0 ∧ l = []) ∨ ∃ b vals, w = .slice (some ⟨b, 0, some 1⟩) l.length l.length ∧ l ≠ [] ∧ c0 ≤ b ∧ Has h b (.cells vals) ∧ GVals h dim l Uv vals
theorem ORow.keep {h h' : T AObj} {c c0 : Nat} {w : Value} {dim : Nat} {l : List (List Int)} {Uv : Nat → Prop} (x : ORow h c0 w dim l Uv) (hf : Fresh h c) (k : ∀ b, b < c → (blkOf w = some b ∨ Uv b) → h'.get b = h.get b) : ORow h' c0 w dim l Uv := by
 rcases x with x | ⟨b, vals, h1, h2, h3, h4, h5⟩
 ·exact .inl x
 ·exact .inr ⟨b, vals, h1, h2, h3, (k b (h4.lt hf) (.inl (by rw [h1]; rfl))).trans h4, h5.keep hf (fun _ q => q) (fun b hb hc _ => k b hc (.inr hb))⟩
theorem ORow.lt {h : T AObj} {c c0 : Nat} {w : Value} {dim : Nat} {l : List (List Int)} {Uv : Nat → Prop} (x : ORow h c0 w dim l Uv) (hf : Fresh h c) {b : Nat} (hb : blkOf w = some b) : c0 ≤ b ∧ b < c := by
 rcases x with ⟨rfl, _⟩ | ⟨b', vals, rfl, h2, h3, h4, h5⟩
 ·cases hb
 ·cases hb; exact ⟨h3, h4.lt hf⟩
structure OfG (h : T AObj) (c0 : Nat) (ws : List Value) (dim : Nat) (ls : List (List (List Int))) (Uv : Nat → Prop) : Prop where
 len : ws.length = ls.length
 row : ∀ (i : Nat) (l : List (List Int)), ls[i]? = some l → ∃ w, ws[i]? = some w ∧ ORow h c0 w dim l Uv
 inj : ∀ (i j : Nat) (w w' : Value) (b : Nat), ws[i]? = some w → ws[j]? = some w' → blkOf w = some b → blkOf w' = some b → i = j
theorem OfG.keep {h h' : T AObj} {c c0 : Nat} {ws : List Value} {dim : Nat} {ls : List (List (List Int))} {Uv : Nat → Prop} (x : OfG h c0 ws dim ls Uv) (hf : Fresh h c) (k : ∀ b, b < c → (c0 ≤ b ∨ Uv b) → h'.get b = h.get b) : OfG h' c0 ws dim ls Uv :=
 ⟨x.len, fun i l hi => by
  obtain ⟨w, h1, h2⟩ := x.row i l hi
  exact ⟨w, h1, h2.keep hf fun b hb hq => k b hb (hq.imp (fun q => (h2.lt hf q).1) (fun q => q))⟩, x.inj⟩
theorem OfG.step {h h' : T AObj} {c c0 : Nat} {ws : List Value} {dim : Nat} {ls : List (List (List Int))} {Uv : Nat → Prop} (x : OfG h c0 ws dim ls Uv) (hf : Fresh h c) {i : Nat} {w0 w : Value} {l : List (List Int)} (h0 : ws[i]? = some w0) (hUv : ∀ b, Uv b → b < c0) (hw : ORow h' c0 w dim l Uv) (hb : ∀ b, blkOf w = some b → c ≤ b)
  (k : ∀ b, b < c → blkOf w0 ≠ some b → (c0 ≤ b ∨ Uv b) → h'.get b = h.get b) : OfG h' c0 (ws.set i w) dim (ls.set i l) Uv := by
 have hil : i < ws.length := (List.getElem?_eq_some_iff.1 h0).1
 have hil2 : i < ls.length := by rw [← x.len]; exact hil
 have hold : ∀ j w1, ws[j]? = some w1 → ∀ b, blkOf w1 = some b → b < c := fun j w1 hj b hb1 => by
  have h2 := (List.getElem?_eq_some_iff.1 hj).1
  rw [x.len] at h2
  obtain ⟨w2, h3, h4⟩ := x.row j ls[j] (List.getElem?_eq_getElem h2)
  rw [hj] at h3; cases h3
  exact (h4.lt hf hb1).2
 refine ⟨by rw [List.length_set, List.length_set]; exact x.len, fun j l1 hj => ?_, fun j j' w1 w1' b e1 e2 b1 b2 => ?_⟩
 ·rw [List.getElem?_set] at hj ⊢
  by_cases hij : i = j
  ·subst hij
   rw [if_pos rfl] at hj ⊢
   rw [if_pos (by rw [← x.len]; exact hil)] at hj
   cases hj
   rw [if_pos hil]
   exact ⟨w, rfl, hw⟩
  ·rw [if_neg hij] at hj ⊢
   obtain ⟨w1, h1, h2⟩ := x.row j l1 hj
   refine ⟨w1, h1, h2.keep hf fun b hb hq => k b hb (fun q => ?_) (hq.imp (fun q => (h2.lt hf q).1) (fun q => q))⟩
   rcases hq with hq | hq
   ·exact hij (x.inj i j w0 w1 b h0 h1 q hq)
   ·have h3 := hUv b hq
    obtain ⟨w2, h4, h5⟩ := x.row i ls[i] (List.getElem?_eq_getElem hil2)
    rw [h0] at h4; cases h4
    have := (h5.lt hf q).1
    omega
 ·rw [List.getElem?_set] at e1 e2
  by_cases hij : i = j
  ·by_cases hij' : i = j'
   ·omega
   ·rw [if_neg hij'] at e2
    rw [if_pos hij, if_pos hil] at e1
    cases e1
    have h1 := hb b b1
    have h2 := hold j' w1' e2 b b2
    omega
  ·rw [if_neg hij] at e1
   by_cases hij' : i = j'
   ·rw [if_pos hij', if_pos hil] at e2
    cases e2
    have h1 := hb b b2
    have h2 := hold j w1 e1 b b1
    omega
   ·rw [if_neg hij'] at e2
    exact x.inj j j' w1 w1' b e1 e2 b1 b2
end Go.Ab.Seat
end
section
/- Middles are found: the first ones that are unlike (the abstract machine). -/
namespace Go.Ab.Seat
open Go.Extern Go.Proofs
set_option maxRecDepth 4000
end Go.Ab.Seat
end
section
/- An index of lists: made of a sample; its middles; a member's vector; is a number among some? (the abstract machine) -/
namespace Go.Ab.Seat
open Go.Extern Go.Proofs
set_option maxRecDepth 4000
end Go.Ab.Seat
end
section
/- The law's Face of an index of lists (the abstract machine). -/
namespace Go.Ab.Seat
open Go.Extern Go.Proofs
set_option maxRecDepth 4000
section
variable {h : T AObj} {c : Nat} {rl wl : List Nat} {p m dim : Nat} {mv : Value} {mt : Int} {mid : List (List Int)} {M : List Rc} {U : Nat → Prop}
end
end Go.Ab.Seat
end
section
/- The reference's nearest middle, and its order of middles (the abstract machine). -/
namespace Go.Ab.Seat
open Go.Extern Go.Proofs
set_option maxRecDepth 4000
end Go.Ab.Seat
end
section
/- The reference's index: a hit, a search (the abstract machine). -/
namespace Go.Ab.Seat
open Go.Extern Go.Proofs
set_option maxRecDepth 4000
end Go.Ab.Seat
end
section
/- The reference's index of lists: its lists (the abstract machine). -/
namespace Go.Ab.Seat
open Go.Extern Go.Proofs
set_option maxRecDepth 4000
def strip (r : Rc) : Rc := ⟨r.id, r.xs, .empty, 0, false⟩
def IMem (dim : Nat) (mid : List (List Int)) (B : List Rc) : Prop := ∀ r ∈ B, ∃ zs : List Int, r = mbI r.id zs (listZ mid zs) ∧ zs.length = dim ∧ Bnd zs
end Go.Ab.Seat
end
section
/- The reference's index of lists is asked (the abstract machine). -/
namespace Go.Ab.Seat
open Go.Extern Go.Proofs
set_option maxRecDepth 4000
end Go.Ab.Seat
end
section
/- The reference's index of lists is asked (the abstract machine). -/
namespace Go.Ab.Seat
open Go.Extern Go.Proofs
set_option maxRecDepth 4000
end Go.Ab.Seat
end
section
/- An index of lists and the reference's one go together (the abstract machine). -/
namespace Go.Ab.Seat
open Go.Extern Go.Proofs
theorem strip_put (x : Rc) : ∀ B : List Rc, (putM x B).map strip = putM (strip x) (B.map strip)
 | [] => rfl
 | y :: B => by
  rw [List.map_cons, putM, putM]
  show _ = if (strip x).id < (strip y).id then _ else _
  have e1 : (strip x).id = x.id := rfl
  have e2 : (strip y).id = y.id := rfl
  rw [e1, e2]
  split
  ·rfl
  ·split
   ·rfl
   ·rw [List.map_cons, strip_put x B]
theorem IMem.put {dim : Nat} {mid : List (List Int)} {B : List Rc} (h : IMem dim mid B) {id : Int} {zs : List Int} (hz : zs.length = dim) (hb : Bnd zs) : IMem dim mid (putM (mbI id zs (listZ mid zs)) B) := fun r hr => by
 rcases mem_putM hr with rfl | hr
 ·exact ⟨zs, rfl, hz, hb⟩
 ·exact h r hr
theorem IMem.del {dim : Nat} {mid : List (List Int)} {B : List Rc} (h : IMem dim mid B) {id : Int} : IMem dim mid (delM id B) := fun r hr => h r (mem_delM hr)
structure IDuo (c0 p m r : Nat) (mv1 mv2 : Value) (mt : Int) (dim : Nat) (mid : List (List Int)) (h : T AObj) (c : Nat) (U : Nat → Prop) (A B : List Rc) : Prop where
 f : Fresh h c
 bd : ∀ b, U b → c0 ≤ b ∧ b < c
 ex : ∃ U1 U2 U3 : Nat → Prop, IvfM h p m mv1 mt dim mid A U1 ∧ RefX h r ⟨2, mv2, .slice none 0 0, .slice none 0 0⟩ mt dim dim (B.map strip) U2 ∧ MRow h mv2 dim mid U3 ∧ IMem dim mid B ∧ (∀ b, U1 b → U b ∧ ¬U2 b) ∧ (∀ b, U2 b → U b) ∧ (∀ b, U3 b → U b ∧ ¬U1 b ∧ b ≠ r)
section
variable {c0 p m r dim : Nat} {mv1 mv2 : Value} {mt : Int} {mid : List (List Int)}
theorem IDuo.keep {h h' : T AObj} {c c' : Nat} {U : Nat → Prop} {A B : List Rc} (d : IDuo c0 p m r mv1 mv2 mt dim mid h c U A B) (f' : Fresh h' c') (hc : c ≤ c') (k : ∀ b, U b → h'.get b = h.get b) : IDuo c0 p m r mv1 mv2 mt dim mid h' c' U A B := by
 obtain ⟨U1, U2, U3, q1, q2, q3, q4, q5, q6, q7⟩ := d.ex
 exact ⟨f', fun b hb => by have := d.bd b hb; omega, U1, U2, U3, q1.keep d.f (fun b hb _ => k b (q5 b hb).1), q2.keep d.f (fun b hb _ => k b (q6 b hb)), q3.keep d.f (fun _ q => q) (fun b hb _ _ => k b (q7 b hb).1), q4, q5, q6, q7⟩
theorem rowOf {h : T AObj} {bv dim : Nat} {zs : List Int} (hv : Has h bv (.cells (zs.map (Value.int .i32)))) (hz : zs.length = dim) : Row h (.slice (some ⟨bv, 0, none⟩) dim dim) dim 1 (zs.map (Value.int .i32)) := .inr ⟨bv, 0, none, dim, _, rfl, hv.cel, subN_all _ _ (by rw [List.length_map]; omega)⟩
end
end Go.Ab.Seat
end
section
/- GraphFew: the run answers true (the abstract machine). -/
namespace Go.Ab.Seat
open Go.Extern Go.Proofs
set_option maxRecDepth 4000
theorem hits_strip {mt : Int} {q : List Int} {M : List Rc} : hitsM mt q (M.map strip) = hitsM mt q M := by
 unfold hitsM
 rw [List.map_map]
 rfl
theorem rngK (z : Int) (n : Int) (hn : 0 < n) (hn' : n ≤ 1000) : ∃ k : Nat, (z.tmod n + n).tmod n = (k : Int) ∧ k < n ∧ -n < z.tmod n ∧ z.tmod n < n := by
 have h1 := tmod_lt z n hn
 have h2 := Int.tmod_lt_of_pos (z.tmod n + n) hn
 have h3 := Int.tmod_nonneg (a := z.tmod n + n) n (by omega)
 exact ⟨((z.tmod n + n).tmod n).toNat, by omega, by omega, by omega, by omega⟩
structure TwoG (h : T AObj) (c c1 : Nat) (mt : Int) (i : Nat) (G : Gr) (Ua Ub : Nat → Prop) : Prop where
 f : Fresh h c
 g : GrM h (c1 + 1) c1 mt 2 G Ua
 b : FlatM h (c1 + 3) (c1 + 2) mt 2 (G.M.map strip) Ub
 w : GWf G
 fu : Full G.M G.L
 ids : ∀ x ∈ G.M, x.id ≤ (i : Int)
 len : G.M.length ≤ i
 ua : ∀ b, Ua b → c1 ≤ b ∧ b < c ∧ ¬Ub b
 ub : ∀ b, Ub b → c1 ≤ b ∧ b < c
def K3 : List Nat := [0, 1, 2, 3, 4, 10, 11, 12, 13, 14, 15, 16, 19, 34, 35, 36, 41]
set_option maxHeartbeats 16000000 in
theorem graphFew_run {h : T AObj} {c : Nat} (hf : Fresh h c) (hg : Glob h) (m k : Int) {v : Value} {zss : List (List Int)} (hv : VecsIn h v zss) (hvn : zss.length ≤ 9223372036854775807) {da : Option Addr} {dn dc : Nat} {dz : List Int} (hd : Row h (.slice da dn dc) dn 1 (dz.map (Value.int .u32))) (hdn : dz.length = dn) (hdw : ∀ x ∈ dz, 0 ≤ x ∧ x < 4294967296) {qa : Option Addr} {qn qc : Nat} {zq : List Int} (hq : Row h (.slice qa qn qc) qn 1 (zq.map (Value.int .i32))) (hqn : zq.length = qn) :
  ∃ r s', FnTo (Cs smQ) eg 3 [.int .i64 m, v, .slice da dn dc, .slice qa qn qc, .int .i64 k] ⟨h, c, [], []⟩ r s' ∧ r = .bool true := by
 obtain ⟨kk, hkk, hk1, hk3, hk4⟩ := rngK k 12 (by omega) (by omega)
 have hm2 := and1_or m
 have lg1 := hg.g1.lt hf
 obtain ⟨oa1, cap1, rfl, _⟩ := _root_.id hv
 refine Fn.go (stdQ 3 rfl) ex3 fn3 km3 rfl rfl ?_
 refine Zev ?_
 refine Zgo ?_
 refine Wseq.call rfl rfl (begunQ Zfr hg) ?_
 rintro v1 h1 c1 r1 w1 ⟨rfl, e1⟩
 cases e1
 refine Zgo ?_
 refine Zu (to_and1 rfl rfl) ?_
 refine Zgo ?_
 rw [hkk]
 have hmm : 1 + and1 m = 1 ∨ 1 + and1 m = 2 := by omega
 generalize hmt : 1 + and1 m = mt at hmm
 refine Wseq.call rfl rfl (vecs_spec stdQ (n := 5) (dim := 2) Zfr hv (by omega) (by omega) hvn) ?_
 rintro lv h1 c1 r1 w1 ⟨hV, hext1⟩
 have fr1 := hext1.fresh
 have le1 := hext1.c
 have kp1 : ∀ b, b < c → h1.get b = h.get b := fun b hb => hext1.get hb (fun q => q)
 simp only at le1 fr1
 generalize hvs : vecsZ zss 2 5 = V at hV
 have hVlen : V.length ≤ 5 := by rw [← hvs]; unfold vecsZ; rw [List.length_map, List.length_take]; omega
 have hVb : ∀ zs ∈ V, Bnd zs := fun zs hz => by
  rw [← hvs] at hz
  unfold vecsZ at hz
  obtain ⟨y, _, rfl⟩ := List.mem_map.1 hz
  exact Bnd_vecZ _ _
 obtain ⟨ov, rfl⟩ := hV.val
 refine Zgo ?_
 refine Wseq.call rfl rfl (gnew_spec (dim := 2) Zfr mt hmm) ?_
 rintro v4 h4 c4 r4 w4 ⟨⟨rfl, e4, hG4⟩, hext4⟩
 simp only at e4
 subst e4
 have fr4 := hext4.fresh
 have kp4 : ∀ b, b < c1 → h4.get b = h1.get b := fun b hb => hext4.get hb (fun q => q)
 simp only at fr4 hG4
 refine Zgo ?_
 refine Wseq.call rfl rfl (fnew_spec stdQ Zfr mt hmm) ?_
 rintro v5 h5 c5 r5 w5 ⟨⟨rfl, ga1, ga2, e5⟩, hext5⟩
 simp only at e5
 subst e5
 have fr5 := hext5.fresh
 have kp5 : ∀ b, b < c1 + 2 → h5.get b = h4.get b := fun b hb => hext5.get hb (fun q => q)
 simp only at fr5
 have T5 : TwoG h5 (c1 + 2 + 2) c1 mt 0 ⟨[], fun _ _ => []⟩ (fun b => b = c1 + 1 ∨ b = c1) (fun b => b = c1 + 3 ∨ b = c1 + 2) := ⟨fr5, hG4.keep fr4 (fun b _ hb => kp5 b hb), FlatM.new ga2 ga1 (by omega), GWf.nil, (fun a ha => by cases ha), (fun a ha => by cases ha), Nat.le_refl _, (fun b hb => by omega), fun b hb => by omega⟩
 refine Zgo ?_
 refine Wx.cutO (fun e s => ∃ (g : Nat → Value) (h' : T AObj) (c' : Nat) (rl' wl' : List Nat) (G : Gr) (Ua Ub : Nat → Prop), e = fr g [(3, .slice qa qn qc), (4, .int .i64 (kk : Int)), (13, .pointer (some ⟨c1 + 1, 0, none⟩)), (14, .pointer (some ⟨c1 + 3, 0, none⟩))] K3 ∧ s = ⟨h', c', rl', wl'⟩ ∧ c1 ≤ c' ∧ (∀ b, b < c1 → h'.get b = h1.get b) ∧ TwoG h' c' c1 mt 5 G Ua Ub) Zrs ?_ ?_
 ·refine Wx.loopF (fun k1 e s => ∃ (g : Nat → Value) (i : Nat) (z : Int) (h' : T AObj) (c' : Nat) (rl' wl' : List Nat) (G : Gr) (Ua Ub : Nat → Prop), e = fr g [(2, .slice da dn dc), (3, .slice qa qn qc), (4, .int .i64 (kk : Int)), (12, .slice ov V.length V.length), (13, .pointer (some ⟨c1 + 1, 0, none⟩)), (14, .pointer (some ⟨c1 + 3, 0, none⟩)), (34, .int .i64 (V.length : Int)), (35, .int .i64 z)] K3 ∧ z = i ∧ s = ⟨h', c', rl', wl'⟩ ∧ c1 ≤ c' ∧ (∀ b, b < c1 → h'.get b = h1.get b) ∧ TwoG h' c' c1 mt i G Ua Ub ∧ i ≤ V.length ∧ k1 = V.length - i) V.length K3 [(2, _), (3, _), (4, _), (12, _), (13, _), (14, _), (34, _), (35, .int .i64 0)] ⟨_, 0, 0, _, _, _, _, _, _, _, rfl, rfl, rfl, by omega, fun b hb => (kp5 b (by omega)).trans (kp4 b hb), T5, by omega, rfl⟩ ?_
  rintro k1 e s ⟨g, i, z, h', c', rl', wl', G, Ua, Ub, rfl, hz, rfl, hcc, hkp, t, hid, rfl⟩
  (refine Wx.sw (by simp only [K3, frN, frC, updN, updC, Nat.reduceEqDiff, ↓reduceIte]; rfl) ?_)
  have hf' := t.f
  by_cases hi : i < V.length
  rotate_left
  ·refine Zgo ?_
   exact CutQ.goF K3 [(3, _), (4, _), (13, _), (14, _)] ⟨_, _, _, _, _, G, Ua, Ub, rfl, rfl, hcc, hkp, { t with ids := fun x hx => by have := t.ids x hx; omega, len := by have := t.len; omega }⟩
  have hkc : ∀ b, b < c → h'.get b = h.get b := fun b hb => (hkp b (by omega)).trans (kp1 b hb)
  obtain ⟨g1, bV, vals, bi, rfl, g2, g3, g4, g5, g6⟩ := hV.at (List.getElem?_eq_getElem hi)
  have lV := g3.lt fr1
  have li := g6.lt fr1
  replace g3 : Has h' bV (.cells vals) := (hkp bV lV).trans g3
  replace g6 : Has h' bi _ := (hkp bi li).trans g6
  have hd' := Row.keepF hd hf hkc
  by_cases hi2 : i < dn
  ·have hi3 : i < dz.length := by omega
   obtain ⟨bd, od, sd, csd, rfl, hcd, hsd⟩ := rowB hd' (by omega)
   have lbd := hcd.lt hf'
   have gd : nth csd (od + i * 1) = some (.int .u32 dz[i]) := by
    have := (subN_some _ _ _ _ hsd).2.2 i (by rw [Nat.mul_one]; exact hi2)
    rw [nth_eq, Nat.mul_one, ← this, List.getElem?_map, List.getElem?_eq_getElem hi3]; rfl
   refine Zgo ?_
   refine Zu (to_indexAddr (k := i) el23 rfl rfl hz hi2) ?_
   refine Zu (to_load (pl_ rfl) rfl hcd (by omega) gd) ?_
   refine Zgo ?_
   refine Zu (to_indexAddr (k := i) el22 rfl rfl hz hi) ?_
   refine Zu (to_load (pl_ rfl) rfl g3.cel (by omega) g4) ?_
   refine Zgo ?_
   refine Wseq.call rfl rfl (gput_spec Zfr t.g t.w (hg.keep (by omega) hkc) (fun b hb => by have := t.ua b hb; omega) hmm (by omega) (by omega) (by have := t.len; omega) (z + 1) (by omega) (rowOf g6 g1) g1 (hVb _ (List.getElem_mem hi)) (fun b e => by cases e; intro q; have := t.ua bi q; omega) (dw := dz[i]) (hdw _ (List.getElem_mem _)) (fun _ => True) (fun _ _ => trivial) trivial (fun _ _ => trivial)) ?_
   rintro v6 h6 c6 r6 w6 ⟨hG6, hext6⟩
   have fr6 := hext6.fresh
   have le6 := hext6.c
   simp only at fr6 le6 hG6
   have kp6 : ∀ b, b < c1 → h6.get b = h1.get b := fun b hb => (hext6.get (by omega) (fun q => by have := t.ua b q; omega)).trans (hkp b hb)
   have hB6 := t.b.keep hf' (fun b hb hbc => hext6.get hbc (fun q => (t.ua b q).2.2 hb))
   have g36 := (hext6.get (show bV < c' by omega) (fun q => by have := t.ua bV q; omega)).trans g3
   have g66 : Has h6 bi _ := (hext6.get (show bi < c' by omega) (fun q => by have := t.ua bi q; omega)).trans g6
   replace g36 : Has h6 bV _ := g36
   have hn6 : getM (z + 1) G.M = none := by
    cases hr : getM (z + 1) G.M with
    | none => rfl
    | some r =>
     obtain ⟨q1, q2⟩ := getM_mem hr
     have := t.ids r q1
     omega
   have hw6 := t.w.put (mt := mt) (z + 1) V[i] dz[i]
   have hM6 := (putG_M (mt := mt) t.w (z + 1) V[i] dz[i]).1
   have hfu6 := putG_full (mt := mt) (zs := V[i]) (dw := dz[i]) t.w t.fu hn6 (by have := t.len; omega)
   have hdel : delG mt G (z + 1) = G := by unfold delG; rw [hn6]
   rw [hdel] at hM6
   generalize putG mt G (z + 1) V[i] dz[i] = G2 at hG6 hw6 hM6 hfu6
   refine Zgo ?_
   refine Zu (to_indexAddr (k := i) el22 rfl rfl hz hi) ?_
   refine Zu (to_load (pl_ rfl) rfl g36.cel (by omega) g4) ?_
   refine Zgo ?_
   refine Wseq.call rfl rfl (fput_spec Zfr hB6 (z + 1) (by omega) (rowOf g66 g1) g1 (hVb _ (List.getElem_mem hi)) (by omega) (by omega) (fun b => b = bi) (fun b o sp e => by cases e; rfl) (fun e => by have := t.ub (c1 + 2) t.b.mU; omega)) ?_
   rintro v7 h7 c7 r7 w7 ⟨hB7, hext7⟩
   have fr7 := hext7.fresh
   have le7 := hext7.c
   simp only at fr7 le7 hB7
   have kp7 : ∀ b, b < c1 → h7.get b = h1.get b := fun b hb => (hext7.get (by omega) (fun q => by omega)).trans (kp6 b hb)
   have hG7 := hG6.keep fr6 fun b hb hbc => hext7.get hbc (fun e => by
    rcases hb with q | q
    ·exact (t.ua b q).2.2 (e ▸ t.b.mU)
    ·have := t.ub (c1 + 2) t.b.mU; omega)
   have hs7 : putM (mbR (z + 1) V[i]) (G.M.map strip) = G2.M.map strip := by rw [hM6, strip_put]; rfl
   rw [hs7] at hB7
   refine Zgo ?_
   refine RoundE.goF (V.length - (i + 1)) K3 [(2, _), (3, _), (4, _), (12, _), (13, _), (14, _), (34, _), (35, .int .i64 (z + 1))] (by omega) ⟨_, i + 1, z + 1, _, _, _, _, G2, (fun b => Ua b ∨ c' ≤ b ∧ b < c6), (fun b => Ub b ∨ c6 ≤ b ∧ b < c7), rfl, by omega, rfl, by omega, kp7, ⟨fr7, hG7, hB7, hw6, hfu6, fun x hx => ?_, ?_, fun b hb => ?_, fun b hb => ?_⟩, by omega, rfl⟩
   ·rw [hM6] at hx
    rcases mem_putM hx with rfl | hx
    ·show z + 1 ≤ ((i + 1 : Nat) : Int); omega
    ·have := t.ids x hx; omega
   ·rw [hM6]
    have := putM_len (mbG (z + 1) V[i] (levelG dz[i] : Int)) G.M
    have := t.len
    omega
   ·rcases hb with q | q
    ·obtain ⟨q1, q2, q3⟩ := t.ua b q
     exact ⟨by omega, by omega, fun e => e.elim q3 (fun e => by omega)⟩
    ·exact ⟨by omega, by omega, fun e => e.elim (fun e => by have := t.ub b e; omega) (fun e => by omega)⟩
   ·rcases hb with q | q
    ·have := t.ub b q; omega
    ·omega
  ·skip
   refine Zgo ?_
   refine Zu (to_indexAddr (k := i) el22 rfl rfl hz hi) ?_
   refine Zu (to_load (pl_ rfl) rfl g3.cel (by omega) g4) ?_
   refine Zgo ?_
   refine Wseq.call rfl rfl (gput_spec Zfr t.g t.w (hg.keep (by omega) hkc) (fun b hb => by have := t.ua b hb; omega) hmm (by omega) (by omega) (by have := t.len; omega) (z + 1) (by omega) (rowOf g6 g1) g1 (hVb _ (List.getElem_mem hi)) (fun b e => by cases e; intro q; have := t.ua bi q; omega) (dw := 1) (by omega) (fun _ => True) (fun _ _ => trivial) trivial (fun _ _ => trivial)) ?_
   rintro v6 h6 c6 r6 w6 ⟨hG6, hext6⟩
   have fr6 := hext6.fresh
   have le6 := hext6.c
   simp only at fr6 le6 hG6
   have kp6 : ∀ b, b < c1 → h6.get b = h1.get b := fun b hb => (hext6.get (by omega) (fun q => by have := t.ua b q; omega)).trans (hkp b hb)
   have hB6 := t.b.keep hf' (fun b hb hbc => hext6.get hbc (fun q => (t.ua b q).2.2 hb))
   have g36 := (hext6.get (show bV < c' by omega) (fun q => by have := t.ua bV q; omega)).trans g3
   have g66 : Has h6 bi _ := (hext6.get (show bi < c' by omega) (fun q => by have := t.ua bi q; omega)).trans g6
   replace g36 : Has h6 bV _ := g36
   have hn6 : getM (z + 1) G.M = none := by
    cases hr : getM (z + 1) G.M with
    | none => rfl
    | some r =>
     obtain ⟨q1, q2⟩ := getM_mem hr
     have := t.ids r q1
     omega
   have hw6 := t.w.put (mt := mt) (z + 1) V[i] 1
   have hM6 := (putG_M (mt := mt) t.w (z + 1) V[i] 1).1
   have hfu6 := putG_full (mt := mt) (zs := V[i]) (dw := 1) t.w t.fu hn6 (by have := t.len; omega)
   have hdel : delG mt G (z + 1) = G := by unfold delG; rw [hn6]
   rw [hdel] at hM6
   generalize putG mt G (z + 1) V[i] 1 = G2 at hG6 hw6 hM6 hfu6
   refine Zgo ?_
   refine Zu (to_indexAddr (k := i) el22 rfl rfl hz hi) ?_
   refine Zu (to_load (pl_ rfl) rfl g36.cel (by omega) g4) ?_
   refine Zgo ?_
   refine Wseq.call rfl rfl (fput_spec Zfr hB6 (z + 1) (by omega) (rowOf g66 g1) g1 (hVb _ (List.getElem_mem hi)) (by omega) (by omega) (fun b => b = bi) (fun b o sp e => by cases e; rfl) (fun e => by have := t.ub (c1 + 2) t.b.mU; omega)) ?_
   rintro v7 h7 c7 r7 w7 ⟨hB7, hext7⟩
   have fr7 := hext7.fresh
   have le7 := hext7.c
   simp only at fr7 le7 hB7
   have kp7 : ∀ b, b < c1 → h7.get b = h1.get b := fun b hb => (hext7.get (by omega) (fun q => by omega)).trans (kp6 b hb)
   have hG7 := hG6.keep fr6 fun b hb hbc => hext7.get hbc (fun e => by
    rcases hb with q | q
    ·exact (t.ua b q).2.2 (e ▸ t.b.mU)
    ·have := t.ub (c1 + 2) t.b.mU; omega)
   have hs7 : putM (mbR (z + 1) V[i]) (G.M.map strip) = G2.M.map strip := by rw [hM6, strip_put]; rfl
   rw [hs7] at hB7
   refine Zgo ?_
   refine RoundE.goF (V.length - (i + 1)) K3 [(2, _), (3, _), (4, _), (12, _), (13, _), (14, _), (34, _), (35, .int .i64 (z + 1))] (by omega) ⟨_, i + 1, z + 1, _, _, _, _, G2, (fun b => Ua b ∨ c' ≤ b ∧ b < c6), (fun b => Ub b ∨ c6 ≤ b ∧ b < c7), rfl, by omega, rfl, by omega, kp7, ⟨fr7, hG7, hB7, hw6, hfu6, fun x hx => ?_, ?_, fun b hb => ?_, fun b hb => ?_⟩, by omega, rfl⟩
   ·rw [hM6] at hx
    rcases mem_putM hx with rfl | hx
    ·show z + 1 ≤ ((i + 1 : Nat) : Int); omega
    ·have := t.ids x hx; omega
   ·rw [hM6]
    have := putM_len (mbG (z + 1) V[i] (levelG 1 : Int)) G.M
    have := t.len
    omega
   ·rcases hb with q | q
    ·obtain ⟨q1, q2, q3⟩ := t.ua b q
     exact ⟨by omega, by omega, fun e => e.elim q3 (fun e => by omega)⟩
    ·exact ⟨by omega, by omega, fun e => e.elim (fun e => by have := t.ub b e; omega) (fun e => by omega)⟩
   ·rcases hb with q | q
    ·have := t.ub b q; omega
    ·omega
 ·rintro e s ⟨g, h5, c5, rl5, wl5, G, Ua, Ub, rfl, rfl, hcc5, hkp5, t⟩
  (refine Wx.sw (by simp only [K3, frN, frC, updN, updC, Nat.reduceEqDiff, ↓reduceIte]; rfl) ?_)
  have hkc : ∀ b, b < c → h5.get b = h.get b := fun b hb => (hkp5 b (by omega)).trans (kp1 b hb)
  have hq5 := Row.keepF hq hf hkc
  have hf5 := t.f
  have hlen := t.len
  refine Zgo ?_
  refine Wseq.call rfl rfl (vec_spec stdQ Zfr hqn hq5 2 (by omega) (fun _ => True) (fun _ _ => trivial)) ?_
  rintro w h6 c6 r6 w6 ⟨⟨rfl, hq6⟩, hext6⟩
  have fr6 := hext6.fresh
  have le6 := hext6.c
  simp only at le6 fr6
  have hqr := rowOf hq6 (vecZ_len _ _)
  have G6 := t.g.keep hf5 (fun b _ hb => hext6.get hb (fun q => q))
  have B6 := t.b.keep hf5 (fun b _ hb => hext6.get hb (fun q => q))
  have hkx : max (kk : Int) 0 = (kk : Int) := by omega
  refine Zgo ?_
  refine Wseq.call rfl rfl (gsearch_spec Zfr G6 t.w hmm (by omega) (by omega) (by omega) hqr (vecZ_len _ _) (Bnd_vecZ _ _) _ hkx (by omega) (fun _ => True) (fun _ _ => trivial) (fun _ _ => trivial)) ?_
  rw [searchG_full t.w t.fu (by omega)]
  rintro w7 h7 c7 r7 w7' ⟨⟨gA1, gA2⟩, hext7⟩
  have fr7 := hext7.fresh
  have le7 := hext7.c
  simp only at le7 fr7
  have B7 := B6.keep fr6 (fun b _ hb => hext7.get hb (fun q => q))
  have hqr7 := Row.keepF hqr fr6 (fun b hb => hext7.get hb (fun q => q))
  refine Zgo ?_
  refine Wseq.call rfl rfl (fsearch_spec Zfr B7 hmm hqr7 (vecZ_len _ _) (Bnd_vecZ _ _) (by omega) _ hkx (by omega) (by rw [List.length_map]; omega) (fun _ => True) (fun _ _ => trivial) (fun _ _ => trivial)) ?_
  rw [hits_strip]
  rintro w8 h8 c8 r8 w8' ⟨⟨gB1, gB2⟩, hext8⟩
  have fr8 := hext8.fresh
  have le8 := hext8.c
  simp only at le8 fr8
  obtain ⟨oA, cA, rfl, _, rowA⟩ := gA1.row
  obtain ⟨oB, cB, rfl, _, rowB'⟩ := gB1.row
  have rowA8 := Row.keepF rowA fr7 (fun b hb => hext8.get hb (fun q => q))
  have hbl := bestOf_len kk (hitsM mt (vecZ zq 2) G.M)
  have hhl : (hitsM mt (vecZ zq 2) G.M).length = G.M.length := by unfold hitsM; rw [List.length_map]
  refine Zgo ?_
  refine Wseq.call rfl rfl (hits_spec stdQ Zfr rowA8 rowB' (by omega)) ?_
  rintro w9 h9 c9 r9 w9' ⟨rfl, e9, e9', hext9⟩
  simp only at e9 e9'
  subst e9 e9'
  refine Zgo ?_
  exact ⟨.inr rfl, Wres.one rfl rfl⟩
end Go.Ab.Seat
end
section
/- Data that come in, as the abstract machine is shown them; a run that answers true. -/
namespace Go.Ab.Seat
open Go.Extern Go.Proofs Go.RowKit
theorem s0_glob : Glob s0.h := ⟨by unfold Has; rw [s0_get, if_neg (by omega), if_pos rfl], by unfold Has; rw [s0_get, if_pos rfl]⟩
end Go.Ab.Seat
namespace Go.Proofs.YtofikbfljjjgeaaGreatDoor
open Go.ChangeShapes Go.WideShapes Go.RowKit Go.Ab Go.Ab.Seat
theorem arr_len {H : Type} {enc : TypeId × Value → H} {P : Program} {w : World} {base : Nat} {sp : Nat → Bool} {held : Bool} {fuel : Nat} {t e n : Nat} (hu : P.underlying t = some (.array n e))
  {cs : List Value} {x : DataW H × List MemPlace} (h : DataW.trod enc P w base sp held fuel t cs = some x) : cs.length = P.cellsOf t := by
 cases fuel with
 | zero => simp [DataW.trod] at h
 | succ k =>
  rw [DataW.trod_step] at h
  unfold DataW.trodStep at h
  simp only [hu] at h
  split at h
  ·assumption
  ·cases h
theorem cTab : Tryz.prog.cellsOf 193 = 32 := by kernel_rfl
structure _root_.Go.Ab.Seat.LaidX (w : World) : Prop where
 laid : Laid w
 x0 : ∃ c t fr, w.heap[0]? = some (.cells c t fr) ∧ c.toList = tab
 x1 : ∃ c t fr, w.heap[1]? = some (.cells c t fr) ∧ c.toList = [rt tErr]
theorem laidx_of {W : World} (h : laidMetH Tryz.prog laidVars W) (hs : W.ShapedOpen Tryz.prog) : LaidX W := by
 have h' : laidMet Tryz.prog [("math/bits.deBruijn32tab", Rows.laid_math_bits_deBruijn32tab)] W ∧ handlesMet Tryz.prog [("errors.errorType", Rows.laid_errors_errorType)] W := h
 have hl := laid_of h hs
 refine ⟨hl, ?_, ?_⟩
 ·obtain ⟨ps, ⟨g, t, cs, fuel, p, q, hg, ht, hvar, hd, _, _⟩, _⟩ := h'.1
  obtain rfl := Option.some.inj (gTab.symm.trans hg)
  obtain rfl := Option.some.inj (gType.symm.trans ht)
  have h1 := arr_len uTab hd
  rw [cTab] at h1
  obtain ⟨c, t, fr, hH, _, hc⟩ := hl.var0
  refine ⟨c, t, fr, hH, ?_⟩
  have hv := hvar
  unfold World.var? at hv
  rw [hg] at hv
  simp only [Option.bind_some] at hv
  rw [hH] at hv
  cases hv
  have ht : tab.length = 32 := by rfl
  refine List.ext_getElem? fun i => ?_
  by_cases hi : i < 32
  ·have : tab[i]? = some tab[i] := List.getElem?_eq_getElem (by omega)
   rw [this, Array.getElem?_toList]
   exact hc i _ this
  ·rw [List.getElem?_eq_none (by omega), List.getElem?_eq_none (by omega)]
 ·obtain ⟨name, u, ty, e1, e2, e3, e4, e5⟩ := h'.2 _ (List.mem_singleton.2 rfl)
  have en : name = [101, 114, 114, 111, 114] := (Option.some.inj e1).symm
  subst en
  obtain rfl := Option.some.inj (rtNo.symm.trans e2)
  have hm : ty ∈ (List.range 391).filter fun t => Tryz.prog.rowNamed t [101, 114, 114, 111, 114] := List.mem_filter.2 ⟨List.mem_range.2 (by rw [← tSize]; exact e3), e4⟩
  rw [oneRow] at hm
  obtain rfl := List.mem_singleton.1 hm
  have hv := e5
  unfold World.var? at hv
  rw [gEt] at hv
  simp only [Option.bind_some] at hv
  split at hv
  ·rename_i c t fr hH
   obtain rfl := Option.some.inj hv
   refine ⟨_, t, fr, hH, ?_⟩
   have hh : typeHandle Tryz.prog tErr = hd tErr := by unfold typeHandle; rw [gSize]; rfl
   rw [hh]
   rfl
  ·cases hv
theorem _root_.Go.Ab.Seat.LaidX.low {w : World} (h : LaidX w) : LowOk s0.h w.heap := by
 have hr := h.laid.hr
 have hle : (ι0 w).le (ιW w.heap) := by
  intro b L hb
  unfold ι0 at hb
  split at hb
  ·cases hb
   have := h.laid.size
   unfold ιW
   exact if_pos (by omega)
  ·cases hb
 refine ⟨?_, ?_, ?_⟩
 ·intro b o hb
  rw [s0_get] at hb
  split at hb
  ·cases hb; rfl
  ·split at hb
   ·cases hb; rfl
   ·cases hb
 ·intro b o hb
  obtain ⟨L, h1, h2⟩ := hr.obj b o hb
  exact ⟨L, hle _ _ h1, h2.mono hle⟩
 ·intro b o hb c t fr hH i v hv hp
  rw [s0_get] at hb
  split at hb
  ·rename_i h0
   subst h0
   cases hb
   obtain ⟨c', t', fr', hH', hc'⟩ := h.x1
   rw [hH] at hH'
   cases hH'
   rw [← Array.getElem?_toList, hc'] at hv
   cases i with
   | zero => cases hv; cases hp
   | succ i => simp at hv
  ·split at hb
   ·rename_i h0
    subst h0
    cases hb
    obtain ⟨c', t', fr', hH', hc'⟩ := h.x0
    rw [hH] at hH'
    cases hH'
    rw [← Array.getElem?_toList, hc'] at hv
    refine ⟨tab, rfl, ?_⟩
    have hm := List.mem_of_getElem? hv
    unfold tab at hm
    obtain ⟨n, _, rfl⟩ := List.mem_map.1 hm
    exact hv
   ·cases hb
theorem _root_.Go.Ab.Seat.LaidX.glob {w : World} (h : LaidX w) : Glob (hW w.heap s0.h) := ⟨h.low.has s0_glob.1, h.low.has s0_glob.2⟩
theorem data_true {f : Nat} {args args' : List Value} {w : World} (hsm : smQ f = none) (hex : ex f = none) (hl : LaidX w) (ha : VRl (ιW w.heap) args args')
  (h : ∃ v s', FnTo CQ eg f args ⟨hW w.heap s0.h, w.heap.size, [], []⟩ v s' ∧ v = .bool true) :
  Calls Tryz.prog f args'.toArray w fun e w' => e = .returned (.bool true) ∧ Below w.heap.size w w' := by
 obtain ⟨v, s', h1, rfl⟩ := h
 obtain ⟨n, h2⟩ := FnTo.callB hsm hex h1
 refine (calls_of_abs wholeQ n f h2 ha (hl.low.hr (by have := hl.laid.size; omega)) (fun b h1 _ => ?_) fun v' w' ι' hv hp => ?_).2
 ·have : w.heap.size ≤ b := h1
  exact if_neg (by omega)
 ·cases hv
  exact ⟨rfl, hp.os, hp.tape, hp.output, hp.size, fun k hk => hp.frame k hk hl.low.owned⟩
#print axioms data_true
end Go.Proofs.YtofikbfljjjgeaaGreatDoor
end
section
/- Rows of ints that come in. -/
namespace Go.Proofs.YtofikbfljjjgeaaGreatDoor
open Go.ChangeShapes Go.WideShapes Go.RowKit Go.Ab Go.Ab.Seat
theorem cat_ints {q : IntKind} {g : Nat → List Value} : ∀ {n : Nat}, (∀ i, i < n → ∃ z : Int, g i = [.int q z] ∧ (Lit.int q z).wf = true) → ∃ zs : List Int, zs.length = n ∧ cat g n = zs.map (Value.int q) ∧ ∀ z ∈ zs, (Lit.int q z).wf = true
 | 0, _ => ⟨[], rfl, rfl, fun z hz => by cases hz⟩
 | n + 1, h => by
  obtain ⟨zs, h1, h2, h3⟩ := cat_ints (n := n) fun i hi => h i (by omega)
  obtain ⟨z, hz, hw⟩ := h n (by omega)
  refine ⟨zs ++ [z], by simp [h1], by rw [cat_succ, h2, hz]; simp, fun y hy => ?_⟩
  rcases List.mem_append.1 hy with hy | hy
  ·exact h3 y hy
  ·obtain rfl := List.mem_singleton.1 hy
   exact hw
theorem ints_of {H : Type} {enc : TypeId × Value → H} {W : World} {fuel : Nat} (hl : LaidX W) {t e : Nat} {q : IntKind} (ht : Tryz.prog.underlying t = some (.slice e)) (he : Tryz.prog.underlying e = some (.int q)) (hc : Tryz.prog.cellsOf e = 1) {v : Value} {x : DataW H × List MemPlace} (h : DataW.trod enc Tryz.prog W 0 (fun _ => true) true fuel t [v] = some x) :
  ∃ oa n cap, ∃ zs : List Int, absV W.heap.size v = .slice oa n cap ∧ zs.length = n ∧ n ≤ maxLen ∧ Row (hW W.heap s0.h) (.slice oa n cap) n 1 (zs.map (Value.int q)) ∧ ∀ z ∈ zs, (Lit.int q z).wf = true := by
 obtain ⟨oa, oa', n, cap, f, rfl, ha, hn, hm, hf, hr⟩ := slice_row hl.low ht hc (by decide) (fun m cs y hy x hx => by
  obtain ⟨z, rfl, _⟩ := DataW.trod_int he hy
  obtain rfl := List.mem_singleton.1 hx
  rfl) h
 rw [ha] at hr ⊢
 obtain ⟨zs, h1, h2, h3⟩ := cat_ints (q := q) (g := fun i => (f i).map (absV W.heap.size)) (n := n) fun i hi => by
  obtain ⟨_, m, y, hy⟩ := hf i hi
  obtain ⟨z, hz, _, hw⟩ := DataW.trod_int he hy
  exact ⟨z, by rw [hz]; rfl, hw⟩
 rw [h2] at hr
 exact ⟨_, _, _, zs, rfl, h1, Nat.le_trans hn hm, hr, h3⟩
end Go.Proofs.YtofikbfljjjgeaaGreatDoor
end
section
/- The data of a call: a vector as it is shown. -/
namespace Go.Proofs.YtofikbfljjjgeaaGreatDoor
open Go.ChangeShapes Go.WideShapes Go.RowKit Go.Ab Go.Ab.Seat
theorem c21 : Tryz.prog.cellsOf 21 = 1 := by kernel_rfl
theorem c24 : Tryz.prog.cellsOf 25 = 1 := by kernel_rfl
theorem c3 : Tryz.prog.cellsOf 3 = 1 := by kernel_rfl
section
variable {H : Type} {enc : TypeId × Value → H} {W : World} {fuel : Nat}
theorem vec_of (hl : LaidX W) {v : Value} {x : DataW H × List MemPlace} (h : DataW.trod enc Tryz.prog W 0 (fun _ => true) true fuel 25 [v] = some x) :
  plainV v = true ∧ ∃ va nv kv, ∃ zs : List Int, absV W.heap.size v = .slice va nv kv ∧ zs.length = nv ∧ nv ≤ maxLen ∧ Row (hW W.heap s0.h) (.slice va nv kv) nv 1 (zs.map (Value.int .i32)) := by
 obtain ⟨oa, n, cap, zs, ha, h1, h3, h2, _⟩ := ints_of hl Tryz.underlying25 Tryz.underlying21 c21 h
 have hp : ∃ ob m c, v = .slice ob m c := by
  rcases DataW.trod_slice Tryz.underlying25 h with ⟨e, _⟩ | ⟨a, len, c, _, _, _, _, e, _⟩
  ·exact ⟨none, 0, 0, by simpa using e⟩
  ·exact ⟨some a, len, c, by simpa using e⟩
 obtain ⟨ob, m, c, rfl⟩ := hp
 exact ⟨rfl, oa, n, cap, zs, ha, h1, h3, h2⟩
end
end Go.Proofs.YtofikbfljjjgeaaGreatDoor
end
section
/- Operations on an index, as they are shown. -/
namespace Go.Proofs.YtofikbfljjjgeaaGreatDoor
open Go.ChangeShapes Go.WideShapes Go.RowKit Go.Ab Go.Ab.Seat
section
variable {H : Type} {enc : TypeId × Value → H} {W : World} {fuel : Nat}
theorem c68 : Tryz.prog.cellsOf 32 = 1 := by kernel_rfl
theorem _root_.Go.Ab.Seat.LaidX.pos (hl : LaidX W) : 0 < W.heap.size := by
 have := hl.glob.g0.lt (hW_fresh _ _)
 exact this
theorem u32_rng {dw : Int} (h : (Lit.int .u32 dw).wf = true) : 0 ≤ dw ∧ dw < 4294967296 := by
 have h1 : IntKind.u32.min ≤ dw ∧ dw ≤ IntKind.u32.max := by simpa [Lit.wf] using h
 have e1 : IntKind.u32.min = 0 := rfl
 have e2 : IntKind.u32.max = 4294967295 := rfl
 omega
end
end Go.Proofs.YtofikbfljjjgeaaGreatDoor
end
section
/- The data of a call: vectors of vectors, as they are shown. -/
namespace Go.Proofs.YtofikbfljjjgeaaGreatDoor
open Go.ChangeShapes Go.WideShapes Go.RowKit Go.Ab Go.Ab.Seat
theorem choose_list {α : Type} {P : Nat → α → Prop} : ∀ {n : Nat}, (∀ i, i < n → ∃ x, P i x) → ∃ l : List α, l.length = n ∧ ∀ (i : Nat) (x : α), l[i]? = some x → P i x
 | 0, _ => ⟨[], rfl, fun i x h => by cases h⟩
 | n + 1, h => by
  obtain ⟨l, h1, h2⟩ := choose_list (P := P) (n := n) fun i hi => h i (by omega)
  obtain ⟨x, hx⟩ := h n (by omega)
  refine ⟨l ++ [x], by rw [List.length_append, h1]; rfl, fun i y hy => ?_⟩
  rcases Nat.lt_or_ge i n with q | q
  ·rw [List.getElem?_append_left (by omega)] at hy
   exact h2 i y hy
  ·rw [List.getElem?_append_right (by omega), h1] at hy
   rcases Nat.eq_zero_or_pos (i - n) with e | e
   ·rw [e] at hy
    simp only [List.getElem?_cons_zero, Option.some.injEq] at hy
    subst hy
    rw [show i = n by omega]; exact hx
   ·rw [List.getElem?_eq_none (by simp; omega)] at hy
    cases hy
section
variable {H : Type} {enc : TypeId × Value → H} {W : World} {fuel : Nat}
theorem vecs_of (hl : LaidX W) {v : Value} {x : DataW H × List MemPlace} (h : DataW.trod enc Tryz.prog W 0 (fun _ => true) true fuel 22 [v] = some x) :
  ∃ zss, VecsIn (hW W.heap s0.h) (absV W.heap.size v) zss ∧ zss.length ≤ 9223372036854775807 := by
 obtain ⟨oa, oa', n, cap, f, rfl, ha, hn, hm, hf, hr⟩ := slice_row hl.low Tryz.underlying22 c24 (by decide) (fun m cs y hy x hx => by
  have hlen : cs.length = 1 := by
   rcases DataW.trod_slice Tryz.underlying25 hy with ⟨e, _⟩ | ⟨a, len, c, _, _, _, _, e, _⟩
   ·rw [e]; rfl
   ·rw [e]; rfl
  obtain ⟨w, rfl⟩ : ∃ w, cs = [w] := by
   match cs, hlen with
   | [w], _ => exact ⟨w, rfl⟩
  obtain rfl := List.mem_singleton.1 hx
  exact (vec_of hl hy).1) h
 rw [ha] at hr ⊢
 have one : ∀ i, i < n → ∃ zs : List Int, ∃ b o sp cs a k, oa' = some ⟨b, o, sp⟩ ∧ Cel (hW W.heap s0.h) b cs ∧ nth cs (o + i * 1) = some (.slice a zs.length k) ∧ Row (hW W.heap s0.h) (.slice a zs.length k) zs.length 1 (zs.map (Value.int .i32)) := by
  intro i hi
  obtain ⟨hl1, m, y, hy⟩ := hf i hi
  obtain ⟨w, hw⟩ : ∃ w, f i = [w] := by
   match hfi : f i, hl1 with
   | [w], _ => exact ⟨w, rfl⟩
  rw [hw] at hy
  obtain ⟨_, va, nv, kv, zs, e1, e2, _, e3⟩ := vec_of hl hy
  subst e2
  obtain ⟨b, o, sp, cs, e4, e5, e6⟩ := rowCell hr (j := i * 1) (by omega) (x := .slice va zs.length kv) (by
   have hlen : ∀ i, i < n → ((f i).map (absV W.heap.size)).length = 1 := fun i hi => by rw [List.length_map]; exact (hf i hi).1
   have := cat_get (g := fun i => (f i).map (absV W.heap.size)) (k := 1) (i := i) (r := 0) (by decide) hlen hi
   rw [Nat.add_zero] at this
   rw [this, hw]
   show some (absV W.heap.size w) = _
   rw [e1])
  exact ⟨zs, b, o, sp, cs, va, kv, e4, e5, e6, e3⟩
 obtain ⟨zss, h1, h2⟩ := choose_list one
 subst h1
 refine ⟨zss, ⟨oa', cap, rfl, h2⟩, ?_⟩
 have : maxLen ≤ 9223372036854775807 := by decide
 omega
end
end Go.Proofs.YtofikbfljjjgeaaGreatDoor
end
section
/- The preamble's patterns for five parameters and for six. -/
namespace Go.Ab.Seat
open Go.ChangeShapes Go.RowKit
variable {H : Type} {enc : TypeId × Value → H} {P : Program} {w : World} {base : Nat} {spare : Nat → Bool} {held : Bool}
theorem trodAll_five {t t1 t2 t3 t4 : TypeId} {args : Array Value} {ds : List (DataW H)} {ps : List MemPlace} (h : DataW.TrodAll enc P w base spare held [t, t1, t2, t3, t4] args.toList ds ps) :
  ∃ v v1 v2 v3 v4 d d1 d2 d3 d4 p p1 p2 p3 p4, args = #[v, v1, v2, v3, v4] ∧ ds = [d, d1, d2, d3, d4] ∧ ps = p ++ p1 ++ p2 ++ p3 ++ p4 ∧ DataW.Trod enc P w base spare held t v d p ∧ DataW.Trod enc P w base spare held t1 v1 d1 p1 ∧ DataW.Trod enc P w base spare held t2 v2 d2 p2 ∧ DataW.Trod enc P w base spare held t3 v3 d3 p3 ∧ DataW.Trod enc P w base spare held t4 v4 d4 p4 := by
 obtain ⟨v, vs, d, ds', p, q, hargs, rfl, rfl, hd, g⟩ := trodAll_cons h
 obtain ⟨v1, vs1, d1, ds1, p1, q1, rfl, rfl, rfl, hd1, g1⟩ := trodAll_cons g
 obtain ⟨v2, vs2, d2, ds2, p2, q2, rfl, rfl, rfl, hd2, g2⟩ := trodAll_cons g1
 obtain ⟨v3, vs3, d3, ds3, p3, q3, rfl, rfl, rfl, hd3, g3⟩ := trodAll_cons g2
 obtain ⟨v4, vs4, d4, ds4, p4, q4, rfl, rfl, rfl, hd4, g4⟩ := trodAll_cons g3
 obtain ⟨rfl, rfl, rfl⟩ := trodAll_nil g4
 exact ⟨v, v1, v2, v3, v4, d, d1, d2, d3, d4, p, p1, p2, p3, p4, by cases args; simp_all, rfl, by simp, hd, hd1, hd2, hd3, hd4⟩
end Go.Ab.Seat
end
section
/- GraphFew: the walk over the data of a call. -/
namespace Go.Proofs.YtofikbfljjjgeaaGreatDoor
open Go.ChangeShapes Go.WideShapes Go.RowKit Go.Ab Go.Ab.Seat
theorem graphFew_walk {H : Type} {enc : TypeId × Value → H} {W : World} (hl : LaidX W) {m k : Int} {v u q : Value} {m0 m1 m2 : Nat} {x0 x1 x2 : DataW H × List MemPlace} (h0 : DataW.trod enc Tryz.prog W 0 (fun _ => true) true m0 22 [v] = some x0) (hu : DataW.trod enc Tryz.prog W 0 (fun _ => true) true m1 23 [u] = some x1) (hq : DataW.trod enc Tryz.prog W 0 (fun _ => true) true m2 25 [q] = some x2) :
  Calls Tryz.prog 3 #[.int .i64 m, v, u, q, .int .i64 k] W fun e w' => e = .returned (.bool true) ∧ Below W.heap.size W w' := by
 obtain ⟨zss, a1, a2⟩ := vecs_of hl h0
 obtain ⟨da, dn, dc, dz, d1, d2, _, d3, d4⟩ := ints_of hl Tryz.underlying23 Tryz.underlying32 c68 hu
 obtain ⟨_, va, nv, kv, zs, e1, e2, _, e3⟩ := vec_of hl hq
 have r0 := absV_VR W.heap v
 have r1 := absV_VR W.heap u
 have r2 := absV_VR W.heap q
 rw [d1] at r1
 rw [e1] at r2
 refine data_true (args := [.int .i64 m, absV W.heap.size v, .slice da dn dc, .slice va nv kv, .int .i64 k]) (args' := [.int .i64 m, v, u, q, .int .i64 k]) (stdQ 3 rfl) (ex3 (sm := smQ)) hl (VRl.cons (.int _ _) (VRl.cons r0 (VRl.cons r1 (VRl.cons r2 (VRl.cons (.int _ _) (VRl.nil _)))))) ?_
 exact graphFew_run (hW_fresh _ _) hl.glob m k a1 a2 d3 d2 (fun x hx => u32_rng (d4 x hx)) e3 e2
#print axioms graphFew_walk
end Go.Proofs.YtofikbfljjjgeaaGreatDoor
end
