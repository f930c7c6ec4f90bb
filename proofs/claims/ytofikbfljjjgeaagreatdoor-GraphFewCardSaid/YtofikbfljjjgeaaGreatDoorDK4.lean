/- A graph gets a member, and its links (the abstract machine). -/
import Derived.Test.YtofikbfljjjgeaaGreatDoorDK3
set_option linter.unusedVariables false
set_option linter.unusedSimpArgs false
namespace Go.Ab.Seat
open Go.Extern Go.Proofs
set_option maxRecDepth 4000
def ARow (h : T AObj) (v : Value) (l : List Int) (lo hi : Nat) : Prop := ∃ oa cap, v = .slice oa l.length cap ∧ l.length ≤ cap ∧ Row h (.slice oa l.length cap) l.length 1 (l.map (Value.int .i64)) ∧ (∀ b, blkOf (.slice oa l.length cap) = some b → lo ≤ b ∧ b < hi) ∧ ∀ q, oa = some q → q.spot = none ∨ q.spot = some 1
theorem ARow.keep {h h' : T AObj} {v : Value} {l : List Int} {lo hi : Nat} (x : ARow h v l lo hi) (k : ∀ b, lo ≤ b → b < hi → h'.get b = h.get b) : ARow h' v l lo hi := by
 obtain ⟨oa, cap, rfl, x0, x1, x2, x3⟩ := x
 refine ⟨oa, cap, rfl, x0, ?_, x2, x3⟩
 rcases x1 with x1 | ⟨b, o, sp, cap', cs, e1, e2, e3⟩
 ·exact .inl x1
 ·have hb := x2 b (by rw [e1]; rfl)
  have := k b hb.1 hb.2
  exact .inr ⟨b, o, sp, cap', cs, e1, e2.imp this.trans (Or.imp this.trans this.trans), e3⟩
theorem ARow.hi {h : T AObj} {v : Value} {l : List Int} {lo hi hi' : Nat} (x : ARow h v l lo hi) (k : hi ≤ hi') : ARow h v l lo hi' := by
 obtain ⟨oa, cap, rfl, x0, x1, x2, x3⟩ := x
 exact ⟨oa, cap, rfl, x0, x1, fun b hb => ⟨(x2 b hb).1, by have := (x2 b hb).2; omega⟩, x3⟩
theorem ARow.lo {h : T AObj} {v : Value} {l : List Int} {lo lo' hi : Nat} (x : ARow h v l lo hi) (k : lo' ≤ lo) : ARow h v l lo' hi := by
 obtain ⟨oa, cap, rfl, x0, x1, x2, x3⟩ := x
 exact ⟨oa, cap, rfl, x0, x1, fun b hb => ⟨by have := (x2 b hb).1; omega, (x2 b hb).2⟩, x3⟩
theorem ARow.take {h : T AObj} {oa : Option Addr} {n cap : Nat} {l : List Int} {lo hi : Nat} (x : ARow h (.slice oa n cap) l lo hi) {k : Nat} (hk : k = (l.take 4).length) : ARow h (.slice oa k cap) (l.take 4) lo hi := by
 obtain ⟨oa', cap', e, x0, x1, x2, x3⟩ := x
 simp only [Value.slice.injEq] at e
 obtain ⟨rfl, rfl, rfl⟩ := e
 have hl : (l.take 4).length ≤ l.length := by rw [List.length_take]; omega
 refine ⟨oa, cap, by rw [hk], by omega, ?_, fun b hb => x2 b (by cases oa <;> first | (cases hb; done) | exact hb), x3⟩
 have := x1.cut (m := (l.take 4).length) hl
 rw [← List.map_take] at this
 have e4 : l.take (l.take 4).length = l.take 4 := by
  rw [List.length_take]
  rcases Nat.le_total l.length 4 with q | q
  ·rw [Nat.min_eq_right q, List.take_length, List.take_of_length_le q]
  ·rw [Nat.min_eq_left q]
 rw [e4] at this
 exact this
theorem IRow.arow {h : T AObj} {c c' : Nat} {v : Value} {l : List Int} (x : IRow h c v l) (hf : Fresh h c') : ARow h v l c c' := by
 have hlt := x.lt hf
 obtain ⟨oa, rfl, x1, x2⟩ := x.val
 refine ⟨oa, _, rfl, Nat.le_refl _, x1, fun b hb => ⟨x2 b hb, hlt b hb⟩, fun q hq => ?_⟩
 rcases x with ⟨e, _⟩ | ⟨b, e, _⟩
 ·simp only [Value.slice.injEq] at e; rw [e.1] at hq; cases hq
 ·simp only [Value.slice.injEq] at e; rw [e.1] at hq; cases hq; exact .inr rfl
def K19 : List Nat := [0, 1, 2, 3, 8, 9, 10, 11, 12, 13, 14, 16, 18, 20, 42, 51, 66, 79, 80, 81, 82, 91, 92, 93, 94]
section
variable {h : T AObj} {c : Nat} {rl wl : List Nat} {p m dim : Nat} {mt : Int} {G : Gr} {U : Nat → Prop}
set_option maxHeartbeats 64000000 in
theorem gput_spec (hf : Fresh h c) (qm : GrM h p m mt dim G U) (w : GWf G) (hg : Glob h) (hU0 : ∀ b, U b → 2 ≤ b) (hmt : mt = 1 ∨ mt = 2) (hd1 : 1 ≤ dim) (hd : dim ≤ 1000) (hml : G.M.length ≤ 700) (id : Int) (hid : -9223372036854775808 ≤ id ∧ id ≤ 9223372036854775807) {a : Option Addr} {cap : Nat} {zs : List Int} (hv : Row h (.slice a dim cap) dim 1 (zs.map (Value.int .i32))) (hz : zs.length = dim) (hb : Bnd zs) (hvU : ∀ b, blkOf (.slice a dim cap) = some b → ¬U b) {dw : Int} (hdw : 0 ≤ dw ∧ dw < 4294967296) (R : Nat → Prop) (hUR : ∀ b, U b → R b) (hR0 : R 0) (hvR : ∀ b, blkOf (.slice a dim cap) = some b → R b) :
  ∃ r s', FnTo (Cs smQ) eg 19 [.pointer (some ⟨p, 0, none⟩), .int .i64 id, .slice a dim cap, .int .u32 dw] ⟨h, c, rl, wl⟩ r s' ∧ GrM s'.h p m mt dim (putG mt G id zs dw) (fun b => U b ∨ c ≤ b ∧ b < s'.c) ∧ Ext ⟨h, c, rl, wl⟩ s' R U := by
 have hbg : big = 1048576 := rfl
 have hwf : wfI id = true := by unfold wfI; rw [decide_eq_true hid.1, decide_eq_true hid.2]; rfl
 refine Fn.go (stdQ 19 rfl) ex19 fn19 km19 rfl rfl ?_
 refine Zev ?_
 refine Zgo ?_
 refine Wseq.call rfl rfl (gdel_spec Zfr qm w hmt hd (by omega) id R hUR) ?_
 rintro v1 h1 c1 r1 w1 ⟨⟨rfl, qm1⟩, hext1⟩
 have fr1 := hext1.fresh
 have le1 := hext1.c
 simp only at fr1 le1 qm1
 have kp1 := Kp.ext (W := U) (h := h) (c := c) Zkp hext1 (by omega) (fun b hb q => q)
 have lr1 := Lg.extR (R := R) (c := c) Zlg hext1 (fun b hb q => q)
 have lw1 := Lg.extW (W := U) (c := c) Zlg hext1 (fun b hb q => q)
 have w1' := w.del (mt := mt) id
 have hnone : getM id (delG mt G id).M = none := by
  unfold delG
  cases hr : getM id G.M with
  | none => exact hr
  | some r => show getM id (delM id G.M) = none; rw [getM_del, if_pos rfl]
 have hlen1 : (delG mt G id).M.length ≤ 700 := by
  unfold delG
  cases hr : getM id G.M with
  | none => exact hml
  | some r => exact Nat.le_trans (List.length_filter_le _ _) hml
 unfold putG
 generalize delG mt G id = G1 at qm1 w1' hnone hlen1
 have hout := w1'.lw.out hnone
 have hUR1 : ∀ b, (U b ∨ c ≤ b ∧ b < c1) → c ≤ b ∨ R b := fun b q => q.elim (fun q => .inr (hUR b q)) (fun q => .inl q.1)
 refine Zgo ?_
 refine Wseq.call rfl rfl (gentry_spec Zfr qm1 (by omega)) ?_
 rintro v2 h2 c2 r2 w2 ⟨rfl, hext2⟩
 have fr2 := hext2.fresh
 have le2 := hext2.c
 simp only at fr2 le2
 have kp2 := Kp.ext (W := U) (h := h) (c := c) kp1 hext2 (by omega) (fun b hb q => q.elim)
 have lr2 := Lg.extR (R := R) (c := c) Zlg hext2 (fun b hb q => (hUR1 b q).elim (fun q => by omega) (fun q => q))
 have lw2 := Lg.extW (W := U) (c := c) Zlg hext2 (fun b hb q => q.elim)
 have kA : ∀ b, b < c1 → h2.get b = h1.get b := fun b hb => hext2.h b hb (fun q => q)
 have lv : ∀ b, blkOf (.slice a dim cap) = some b → b < c := by
  rcases hv with ⟨e0, _⟩ | ⟨b, o, sp, cap', cs, e1, e2, e3⟩
  ·omega
  ·intro b' hb'; rw [e1] at hb'; cases hb'; exact e2.lt hf
 have rowk : ∀ {hh : T AObj}, (∀ b, b < c → ¬U b → hh.get b = h.get b) → Row hh (.slice a dim cap) dim 1 (zs.map (Value.int .i32)) := by
  intro hh kk
  rcases hv with ⟨e0, _⟩ | ⟨b, o, sp, cap', cs, e1, e2, e3⟩
  ·omega
  ·refine .inr ⟨b, o, sp, cap', cs, e1, ?_, e3⟩
   have e4 : blkOf (.slice a dim cap) = some b := by rw [e1]; rfl
   have := kk b (lv b e4) (hvU b e4)
   exact e2.imp this.trans (Or.imp this.trans this.trans)
 refine Zgo ?_
 refine Wseq.call rfl rfl (copy_spec stdQ Zfr (rowk kp2) (by unfold bigV; omega) (fun e => by omega) (fun b => blkOf (.slice a dim cap) = some b) (fun b o sp n' cap' e => by rw [e]; rfl)) ?_
 rintro v3 h3 c3 r3 w3 ⟨hown, hext3⟩
 have fr3 := hext3.fresh
 have le3 := hext3.c
 simp only at fr3 le3 hown
 have kp3 := Kp.ext (W := U) (h := h) (c := c) kp2 hext3 (by omega) (fun b hb q => q.elim)
 have lr3 := Lg.extR (R := R) (c := c) Zlg hext3 (fun b hb q => hvR b q)
 have lw3 := Lg.extW (W := U) (c := c) Zlg hext3 (fun b hb q => q.elim)
 have kB : ∀ b, b < c1 → h3.get b = h1.get b := fun b hb => (hext3.h b (by show b < c2; omega) (fun q => q)).trans (kA b hb)
 have l0 : 0 < c ∧ 1 < c := ⟨hg.g0.lt hf, hg.g1.lt hf⟩
 have nU0 : ¬U 0 ∧ ¬U 1 := ⟨fun q => by have := hU0 0 q; omega, fun q => by have := hU0 1 q; omega⟩
 have hg3 : Glob h3 := ⟨(kp3 0 l0.1 nU0.1).trans hg.g0, (kp3 1 l0.2 nU0.2).trans hg.g1⟩
 refine Zgo ?_
 refine Wseq.call rfl rfl (level_spec Zfr hg3 hdw R hR0) ?_
 rintro v4 h4 c4 r4 w4 ⟨⟨rfl, e4, e4'⟩, hext4⟩
 simp only at e4 e4'
 subst e4 e4'
 have lr4 := Lg.extR (R := R) (c := c) Zlg hext4 (fun b hb q => q)
 have lw4 := Lg.extW (W := U) (c := c) Zlg hext4 (fun b hb q => q.elim)
 obtain ⟨va, vk, rfl⟩ := hown.val
 obtain ⟨ow1, q1⟩ := (qm1.low fr1).keep fr1 (fun b _ hb => kB b hb)
 obtain ⟨es, n, hm, ⟨ids, hk⟩, hfit⟩ := q1.ex
 have hp4 := q1.ptr
 obtain ⟨lp, lm⟩ := q1.lt fr3
 have hlv := levelG_le dw
 generalize levelG dw = lvl at hlv
 refine Zgo ?_
 refine Wseq.st0 (to_mapUpdate (v := .pointer (some ⟨c4, 0, none⟩)) (mi_ rfl) rfl rfl rfl (hm.other (by omega)) (by omega) hk.ks) ?_
 have ownU : ∀ b, blkOf (.slice va dim vk) = some b → c2 ≤ b ∧ b < c4 := fun b hb => ⟨(hown.blk hb).1, (hown.blk hb).2.lt fr3⟩
 have q2 := (q1.keep (h' := h4.set c4 (some (.cells (nodeC (.slice va dim vk) (lvl : Int) (fun _ => .slice none 0 0))))) fr3 (fun b _ hb => get_other (by omega)))
 have q3 := q2.put (Fresh.new fr3) (id := id) (hm.other (by omega)) hk (fun x => (hfit x).keep fr3 (fun b q _ => q) (fun _ _ _ => rfl) (fun _ _ => rfl) (fun b _ hb _ _ => get_other (by omega))) hwf hout (nb := c4) (vv := .slice va dim vk) (zs := zs) (lv := (lvl : Int)) Has.same (fun q => by have := q.2; omega) ((hown.low (Nat.zero_le _)).keep fun b hb => get_other (by have := ownU b hb; omega)) (fun b hb => ⟨fun q => by have := q.2; have := ownU b hb; omega, by have := ownU b hb; omega⟩) hz hb ⟨by omega, by omega⟩
 have hL0 : ∀ b, ((U b ∨ c ≤ b ∧ b < c1) ∧ b < c1 ∨ b = c4 ∨ blkOf (.slice va dim vk) = some b) → U b ∨ c ≤ b := fun b q => by
  rcases q with ⟨q | q, _⟩ | q | q
  ·exact .inl q
  ·exact .inr q.1
  ·exact .inr (by omega)
  ·exact .inr (by have := ownU b q; omega)
 have hL1 : ∀ b, ((U b ∨ c ≤ b ∧ b < c1) ∧ b < c1 ∨ b = c4 ∨ blkOf (.slice va dim vk) = some b) → b < c4 + 1 := fun b q => by
  rcases q with ⟨_, q⟩ | q | q
  ·omega
  ·omega
  ·have := ownU b q; omega
 have hG2l : (putM (mbG id zs (lvl : Int)) G1.M).length ≤ 800 := by have := putM_len (mbG id zs (lvl : Int)) G1.M; omega
 have wm : c ≤ m ∨ U m := by
  rcases q1.mU.1 with q | q
  ·exact .inr q
  ·exact .inl q.1
 have rm : c ≤ m ∨ R m := wm.imp (fun q => q) (fun q => hUR m q)
 have rp : c ≤ p ∨ R p := by
  rcases q1.pU.1 with q | q
  ·exact .inr (hUR p q)
  ·exact .inl q.1
 have hpm : p ≠ m := fun e => by have := q1.po; rw [e, q1.mo] at this; simp at this
 change GrM ((h4.set c4 (some (.cells [.slice va dim vk, .int .i64 (lvl : Int), .slice none 0 0, .slice none 0 0, .slice none 0 0, .slice none 0 0, .slice none 0 0]))).set m (some (.map (putI .i64 id (.pointer (some ⟨c4, 0, none⟩)) n es).1 (putI .i64 id (.pointer (some ⟨c4, 0, none⟩)) n es).2))) p m mt dim _ _ at q3
 have hnode : Has ((h4.set c4 (some (.cells [.slice va dim vk, .int .i64 (lvl : Int), .slice none 0 0, .slice none 0 0, .slice none 0 0, .slice none 0 0, .slice none 0 0]))).set m (some (.map (putI .i64 id (.pointer (some ⟨c4, 0, none⟩)) n es).1 (putI .i64 id (.pointer (some ⟨c4, 0, none⟩)) n es).2))) c4 (.cells [.slice va dim vk, .int .i64 (lvl : Int), .slice none 0 0, .slice none 0 0, .slice none 0 0, .slice none 0 0, .slice none 0 0]) := Has.other (by omega) Has.same
 have kp5 : Kp h ((h4.set c4 (some (.cells [.slice va dim vk, .int .i64 (lvl : Int), .slice none 0 0, .slice none 0 0, .slice none 0 0, .slice none 0 0, .slice none 0 0]))).set m (some (.map (putI .i64 id (.pointer (some ⟨c4, 0, none⟩)) n es).1 (putI .i64 id (.pointer (some ⟨c4, 0, none⟩)) n es).2))) c U := Zkp
 have fr5 : Fresh ((h4.set c4 (some (.cells [.slice va dim vk, .int .i64 (lvl : Int), .slice none 0 0, .slice none 0 0, .slice none 0 0, .slice none 0 0, .slice none 0 0]))).set m (some (.map (putI .i64 id (.pointer (some ⟨c4, 0, none⟩)) n es).1 (putI .i64 id (.pointer (some ⟨c4, 0, none⟩)) n es).2))) (c4 + 1) := Fresh.put (by omega) (Fresh.new fr3)
 generalize (h4.set c4 (some (.cells [.slice va dim vk, .int .i64 (lvl : Int), .slice none 0 0, .slice none 0 0, .slice none 0 0, .slice none 0 0, .slice none 0 0]))).set m (some (.map (putI .i64 id (.pointer (some ⟨c4, 0, none⟩)) n es).1 (putI .i64 id (.pointer (some ⟨c4, 0, none⟩)) n es).2)) = h5 at q3 hnode kp5 fr5 ⊢
 generalize hG2 : (⟨putM (mbG id zs (lvl : Int)) G1.M, G1.L⟩ : Gr) = G2 at q3
 generalize hV0 : (fun b => (U b ∨ c ≤ b ∧ b < c1) ∧ b < c1 ∨ b = c4 ∨ blkOf (.slice va dim vk) = some b) = V0 at q3
 have hV1 : ∀ b, V0 b → U b ∨ c ≤ b := by rw [← hV0]; exact hL0
 have hV2 : ∀ b, V0 b → b < c4 + 1 := by rw [← hV0]; exact hL1
 have lrm : Lg c R (m :: p :: r4) := Zlg
 have lwm : Lg c U (m :: w4) := Zlg
 have hidM : ∃ r, getM id G2.M = some r := by
  rw [← hG2]
  exact ⟨_, by rw [getM_put]; exact if_pos rfl⟩
 have hent : 0 ≤ (entryG G1.M).2 → ∃ r, getM (entryG G1.M).1 G2.M = some r := fun hu => by
  obtain ⟨r, hr, _⟩ := entry_at w1' hu
  rw [← hG2]
  show ∃ r, getM _ (putM (mbG id zs (lvl : Int)) G1.M) = some r
  rw [getM_put]
  by_cases e : (mbG id zs (lvl : Int)).id = (entryG G1.M).1
  ·exact ⟨_, if_pos e⟩
  ·exact ⟨r, by rw [if_neg e]; exact hr⟩
 obtain ⟨hrng1, hrng2⟩ := entry_rng w1'
 have hG2l' : G2.M.length ≤ 800 := by rw [← hG2]; exact hG2l
 generalize entryG G1.M = en at hent hrng1 hrng2 ⊢
 obtain ⟨ent, up⟩ := en
 simp only at hent hrng1 hrng2
 by_cases hup : up < 0
 ·refine Zgo ?_
  refine ⟨.inr rfl, Wres.nil ⟨?_, Zex⟩⟩
  show GrM h5 p m mt dim (if up < 0 then G2 else _) (fun b => U b ∨ c ≤ b ∧ b < c4 + 1)
  rw [if_pos hup]
  exact (q3.low fr5).wide fr5 (fun b hb => (hV1 b hb.1).imp (fun e => e) (fun e => ⟨e, hb.2⟩))
 obtain ⟨upn, rfl⟩ : ∃ n : Nat, up = (n : Int) := ⟨up.toNat, by omega⟩
 have hent' := hent (by omega)
 have l0m := fun b (hb : blkOf (.slice a dim cap) = some b) => lv b hb
 have hrow5 : ∀ {hh : T AObj}, Kp h hh c U → Row hh (.slice a dim cap) dim 1 (zs.map (Value.int .i32)) := fun k => rowk k
 have hmem2 : ∀ x l y, y ∈ G2.L x l → ∃ r, getM y G2.M = some r := by obtain ⟨_, q⟩ := q3; exact q.mem
 have hRV : ∀ b, V0 b → c ≤ b ∨ R b := fun b hb => (hV1 b hb).elim (fun e => .inr (hUR b e)) (fun e => .inl e)
 refine Zgo ?_
 refine Wx.cutO (fun e s => ∃ (g : Nat → Value) (h' : T AObj) (c' : Nat) (rl' wl' : List Nat) (av : Value) (al : List Int), e = fr g [(0, .pointer (some ⟨p, 0, none⟩)), (1, .int .i64 id), (2, .slice a dim cap), (9, .int .i64 (upn : Int)), (10, .pointer (some ⟨c4, 0, none⟩)), (11, av)] K19 ∧ s = ⟨h', c', rl', wl'⟩ ∧ c4 + 1 ≤ c' ∧ Fresh h' c' ∧ Kp h h' c U ∧ Has h' c4 (.cells [.slice va dim vk, .int .i64 (lvl : Int), .slice none 0 0, .slice none 0 0, .slice none 0 0, .slice none 0 0, .slice none 0 0]) ∧ GrM h' p m mt dim G2 V0 ∧ ARow h' av al (c4 + 1) c' ∧ al = downG mt G2 zs lvl upn [ent] ∧ (∀ y ∈ al, ∃ r, getM y G2.M = some r) ∧ al.length ≤ 8 ∧ Lg c R rl' ∧ Lg c U wl') Zrs ?_ ?_
 ·refine Wx.loopF (fun k1 e s => ∃ (g : Nat → Value) (k : Nat) (z : Int) (h' : T AObj) (c' : Nat) (rl' wl' : List Nat) (av : Value) (al : List Int), e = fr g [(0, .pointer (some ⟨p, 0, none⟩)), (1, .int .i64 id), (2, .slice a dim cap), (9, .int .i64 (upn : Int)), (10, .pointer (some ⟨c4, 0, none⟩)), (11, av), (12, .int .i64 z)] K19 ∧ z = k ∧ s = ⟨h', c', rl', wl'⟩ ∧ c4 + 1 ≤ c' ∧ Fresh h' c' ∧ Kp h h' c U ∧ Has h' c4 (.cells [.slice va dim vk, .int .i64 (lvl : Int), .slice none 0 0, .slice none 0 0, .slice none 0 0, .slice none 0 0, .slice none 0 0]) ∧ GrM h' p m mt dim G2 V0 ∧ ARow h' av al (c4 + 1) c' ∧ downG mt G2 zs lvl k al = downG mt G2 zs lvl upn [ent] ∧ (∀ y ∈ al, ∃ r, getM y G2.M = some r) ∧ al.length ≤ 8 ∧ Lg c R rl' ∧ Lg c U wl' ∧ k ≤ 4 ∧ k = k1) upn K19 [(0, _), (1, _), (2, _), (9, _), (10, _), (11, _), (12, _)] ⟨_, upn, _, _, _, _, _, _, [ent], rfl, rfl, rfl, by omega, Zfr, Zkp, hnode.other (by omega), q3.keep fr5 (fun b hb hc => get_other (by omega)), ⟨_, _, rfl, Nat.le_refl _, .inr ⟨c4 + 1, 0, none, 1, _, rfl, Has.same.cel, rfl⟩, (fun b hb => by cases hb; exact ⟨Nat.le_refl _, Nat.lt_succ_self _⟩), fun q hq => by cases hq; exact .inl rfl⟩, rfl, (fun y hy => by rw [List.mem_singleton.1 hy]; exact hent'), by simp, Zlg, Zlg, by omega, rfl⟩ ?_
  rintro k1 e s ⟨g, k, z, h', c', rl', wl', av, al, rfl, hz1, rfl, hcc, hf', hkp, hnd, qm', hA, hdn, hal, hal8, hlr, hlw, hk4, rfl⟩
  subst hz1
  (refine Wx.sw (by simp only [K19, frN, frC, updN, updC, Nat.reduceEqDiff, ↓reduceIte]; rfl) ?_)
  have lnd := hnd.lt hf'
  by_cases hk : lvl < k
  rotate_left
  ·refine Zgo ?_
   exact CutQ.goF K19 [(0, _), (1, _), (2, _), (9, _), (10, _), (11, _)] ⟨_, _, _, _, _, av, al, rfl, rfl, hcc, hf', hkp, hnd, qm', hA, by rw [← hdn, downG_stop (by omega)], hal, hal8, Zlg, Zlg⟩
  obtain ⟨k, rfl⟩ : ∃ k', k = k' + 1 := ⟨k - 1, by omega⟩
  obtain ⟨oa, ca, rfl, _, hrA, hAb, _⟩ := hA
  obtain ⟨hlm, hll⟩ := look_mem (mt := mt) (q := zs) (l := k + 1) (n := 1) (fun x y => hmem2 x (k + 1) y) hal
  refine Zgo ?_
  refine Wseq.call rfl rfl (look_spec Zfr qm' hmt (hrow5 hkp) hz hb hd (l := k + 1) hk4 hrA hal (by omega) (n := 1) (by omega) hG2l' (fun b => c ≤ b ∨ R b) hRV (fun b hb => .inr (hvR b hb)) (fun b hb => .inl (by have := hAb b hb; omega))) ?_
  rintro v6 h6 c6 r6 w6 ⟨hI, hext6⟩
  have fr6 := hext6.fresh
  have le6 := hext6.c
  simp only at fr6 le6 hI
  have kp6 := Kp.ext (W := U) (h := h) (c := c) hkp hext6 (by omega) (fun b hb q => q.elim)
  have lr6 := Lg.extR (R := R) (c := c) Zlg hext6 (fun b hb q => q.elim (fun q => by omega) (fun q => q))
  have lw6 := Lg.extW (W := U) (c := c) Zlg hext6 (fun b hb q => q.elim)
  have hnd6 := hext6.hs hnd lnd (fun q => q)
  have qm6 := qm'.keep hf' (fun b _ hb => hext6.h b hb (fun q => q))
  refine Zgo ?_
  exact RoundE.goF k K19 [(0, _), (1, _), (2, _), (9, _), (10, _), (11, _), (12, .int .i64 (((k + 1 : Nat) : Int) - 1))] (by omega) ⟨_, k, _, _, _, _, _, _, lookG mt G2 zs (k + 1) al 1, rfl, by omega, rfl, by omega, fr6, kp6, hnd6, qm6, (hI.arow fr6).lo hcc, by rw [← downG_step hk]; exact hdn, hlm, by omega, lr6, lw6, by omega, rfl⟩
 rintro e s ⟨g, h', c', rl', wl', av, al, rfl, rfl, hcc, hf', hkp, hnd, qm', hA, hal0, hal, hal8, hlr, hlw⟩
 (refine Wx.sw (by simp only [K19, frN, frC, updN, updC, Nat.reduceEqDiff, ↓reduceIte]; rfl) ?_)
 have lnd := hnd.lt hf'
 show Wx _ _ _ _ _ _ _
 have hfin : (if (upn : Int) < 0 then G2 else growG mt id zs (min lvl (upn : Int).toNat) G2 (downG mt G2 zs lvl (upn : Int).toNat [ent])) = growR mt id zs (min lvl upn + 1) G2 al := by
  rw [if_neg (by omega), hal0]; rfl
 refine Zgo ?_
 refine Wx.loopF (fun k1 e s => ∃ (g : Nat → Value) (n : Nat) (z : Int) (h' : T AObj) (c' : Nat) (rl' wl' : List Nat) (av : Value) (al' : List Int) (G' : Gr) (V : Nat → Prop) (lo hi : Nat), e = fr g [(0, .pointer (some ⟨p, 0, none⟩)), (1, .int .i64 id), (2, .slice a dim cap), (11, av), (13, .int .i64 z)] K19 ∧ z = (n : Int) - 1 ∧ s = ⟨h', c', rl', wl'⟩ ∧ c4 + 1 ≤ lo ∧ hi ≤ c' ∧ c4 + 1 ≤ c' ∧ Fresh h' c' ∧ Kp h h' c U ∧ growR mt id zs n G' al' = growR mt id zs (min lvl upn + 1) G2 al ∧ G'.M = G2.M ∧ GrM h' p m mt dim G' V ∧ (∀ b, V b → U b ∨ c ≤ b) ∧ (∀ b, V b → b < c') ∧ (∀ b, V b → b < lo ∨ hi ≤ b) ∧ ARow h' av al' lo hi ∧ (∀ y ∈ al', ∃ r, getM y G2.M = some r) ∧ al'.length ≤ 8 ∧ Lg c R rl' ∧ Lg c U wl' ∧ n ≤ 5 ∧ n = k1) (min lvl upn + 1) K19 [(0, _), (1, _), (2, _), (11, _), (13, .int .i64 (min (lvl : Int) (upn : Int)))] ⟨_, min lvl upn + 1, _, _, _, _, _, av, al, G2, V0, c4 + 1, c', rfl, by omega, rfl, Nat.le_refl _, Nat.le_refl _, hcc, hf', hkp, rfl, rfl, qm', hV1, (fun b hb => by have := hV2 b hb; omega), (fun b hb => .inl (hV2 b hb)), hA, hal, hal8, Zlg, Zlg, by omega, rfl⟩ ?_
 rintro k1 e s ⟨g, n, z, h', c', rl', wl', av, al', G', V, lo, hi, rfl, hz1, rfl, hlo, hhi, hcc, hf', hkp, hgr, hGM, qm', hW1, hW2, hW3, hA, hal, hal8, hlr, hlw, hn5, rfl⟩
 (refine Wx.sw (by simp only [K19, frN, frC, updN, updC, Nat.reduceEqDiff, ↓reduceIte]; rfl) ?_)
 cases n with
 | zero =>
  refine Zgo ?_
  refine ⟨.inl rfl, Wres.nil ⟨?_, Zex⟩⟩
  show GrM h' p m mt dim (if (upn : Int) < 0 then G2 else growG mt id zs (min lvl (upn : Int).toNat) G2 (downG mt G2 zs lvl (upn : Int).toNat [ent])) (fun b => U b ∨ c ≤ b ∧ b < c')
  rw [hfin, ← hgr]
  exact (qm'.low hf').wide hf' (fun b hb => (hW1 b hb.1).imp (fun e => e) (fun e => ⟨e, hb.2⟩))
 | succ l =>
 obtain rfl : z = (l : Int) := by omega
 obtain ⟨oa, ca, rfl, _, hrA, hAb, _⟩ := hA
 have hmem' : ∀ x k y, y ∈ G'.L x k → ∃ r, getM y G'.M = some r := by obtain ⟨_, q⟩ := qm'; exact q.mem
 have hal' : ∀ y ∈ al', ∃ r, getM y G'.M = some r := by rw [hGM]; exact hal
 obtain ⟨hlm, hll⟩ := look_mem (mt := mt) (q := zs) (l := l) (n := 8) (fun x y => hmem' x l y) hal'
 have hRV' : ∀ b, V b → c ≤ b ∨ R b := fun b hb => (hW1 b hb).elim (fun e => .inr (hUR b e)) (fun e => .inl e)
 have hGl : G'.M.length ≤ 800 := by rw [hGM]; exact hG2l'
 rw [growR_step] at hgr
 refine Zgo ?_
 refine Wseq.call rfl rfl (look_spec Zfr qm' hmt (hrow5 hkp) hz hb hd (l := l) (by omega) hrA hal' (by omega) (n := 8) (by omega) hGl (fun b => c ≤ b ∨ R b) hRV' (fun b hb => .inr (hvR b hb)) (fun b hb => .inl (by have := hAb b hb; omega))) ?_
 rintro v6 h6 c6 r6 w6 ⟨hI, hext6⟩
 have fr6 := hext6.fresh
 have le6 := hext6.c
 simp only at fr6 le6 hI
 have kp6 := Kp.ext (W := U) (h := h) (c := c) hkp hext6 (by omega) (fun b hb q => q.elim)
 have lr6 := Lg.extR (R := R) (c := c) Zlg hext6 (fun b hb q => q.elim (fun q => by omega) (fun q => q))
 have lw6 := Lg.extW (W := U) (c := c) Zlg hext6 (fun b hb q => q.elim)
 have qm6 := qm'.keep hf' (fun b _ hb => hext6.h b hb (fun q => q))
 have hA6 := hI.arow fr6
 generalize lookG mt G' zs l al' 8 = L8 at hgr hlm hll hA6
 have hA6' := hA6
 obtain ⟨o6, k6, rfl, hk6, _, _, hsp6⟩ := hA6'
 have hnl : (L8.take 4).length = min 4 L8.length := List.length_take
 have hAn := hA6.take (k := (L8.take 4).length) rfl
 have hnm : ∀ y ∈ L8.take 4, ∃ r, getM y G'.M = some r := fun y hy => hlm y (List.mem_of_mem_take hy)
 have hidG : ∃ r, getM id G'.M = some r := by rw [hGM]; exact hidM
 have hGr : ⟨G'.M, joinL mt G'.M l G'.L id (L8.take 4)⟩ = (⟨G'.M, (L8.take 4).foldl (pruneL mt G'.M l) ((L8.take 4).foldl (fun L y => linkL l L id y) G'.L)⟩ : Gr) := rfl
 rw [hGr] at hgr
 refine Zgo ?_
 refine Zu (to_sliceHi (k := (L8.take 4).length) el45 rfl rfl (by omega) (by omega) hsp6) ?_
 refine Zgo ?_
 generalize hNR : L8.take 4 = NR at hnl hAn hnm hgr
 refine Wx.cutO (fun e s => ∃ (g : Nat → Value) (h3 : T AObj) (c3 : Nat) (rl' wl' : List Nat) (V3 : Nat → Prop), e = fr g [(0, .pointer (some ⟨p, 0, none⟩)), (1, .int .i64 id), (2, .slice a dim cap), (11, .slice o6 L8.length k6), (13, .int .i64 (l : Int)), (14, .slice o6 NR.length k6)] K19 ∧ s = ⟨h3, c3, rl', wl'⟩ ∧ c6 ≤ c3 ∧ Fresh h3 c3 ∧ Kp h h3 c U ∧ GrM h3 p m mt dim ⟨G'.M, NR.foldl (fun L y => linkL l L id y) G'.L⟩ V3 ∧ (∀ b, V3 b → U b ∨ c ≤ b) ∧ (∀ b, V3 b → b < c3) ∧ (∀ b, V3 b → b < c' ∨ c6 ≤ b) ∧ ARow h3 (.slice o6 L8.length k6) L8 c' c6 ∧ ARow h3 (.slice o6 NR.length k6) NR c' c6 ∧ Lg c R rl' ∧ Lg c U wl') Zrs ?_ ?_
 ·refine Wx.loopF (fun k2 e s => ∃ (g : Nat → Value) (j : Nat) (zj : Int) (h3 : T AObj) (c3 : Nat) (rl' wl' : List Nat) (V3 : Nat → Prop), e = fr g [(0, .pointer (some ⟨p, 0, none⟩)), (1, .int .i64 id), (2, .slice a dim cap), (11, .slice o6 L8.length k6), (13, .int .i64 (l : Int)), (14, .slice o6 NR.length k6), (79, .slice o6 NR.length k6), (80, .int .i64 (NR.length : Int)), (81, .int .i64 zj)] K19 ∧ zj = j ∧ s = ⟨h3, c3, rl', wl'⟩ ∧ c6 ≤ c3 ∧ Fresh h3 c3 ∧ Kp h h3 c U ∧ GrM h3 p m mt dim ⟨G'.M, (NR.take j).foldl (fun L y => linkL l L id y) G'.L⟩ V3 ∧ (∀ b, V3 b → U b ∨ c ≤ b) ∧ (∀ b, V3 b → b < c3) ∧ (∀ b, V3 b → b < c' ∨ c6 ≤ b) ∧ ARow h3 (.slice o6 L8.length k6) L8 c' c6 ∧ ARow h3 (.slice o6 NR.length k6) NR c' c6 ∧ Lg c R rl' ∧ Lg c U wl' ∧ j ≤ NR.length ∧ k2 = NR.length - j) NR.length K19 [(0, _), (1, _), (2, _), (11, _), (13, _), (14, _), (79, _), (80, _), (81, .int .i64 0)] ⟨_, 0, 0, _, _, _, _, V, rfl, rfl, rfl, Nat.le_refl _, fr6, kp6, qm6, hW1, (fun b hb => by have := hW2 b hb; omega), (fun b hb => .inl (hW2 b hb)), hA6, hAn, Zlg, Zlg, by omega, rfl⟩ ?_
  rintro k2 e s ⟨g, j, zj, h3, c3, rl3, wl3, V3, rfl, hzj, rfl, hc3, hf3, hkp3, qm3, hX1, hX2, hX3, hB1, hB2, hlr3, hlw3, hjl, rfl⟩
  (refine Wx.sw (by simp only [K19, frN, frC, updN, updC, Nat.reduceEqDiff, ↓reduceIte]; rfl) ?_)
  by_cases hj : j < NR.length
  rotate_left
  ·refine Zgo ?_
   obtain rfl : j = NR.length := by omega
   rw [List.take_length] at qm3
   exact CutQ.goF K19 [(0, _), (1, _), (2, _), (11, _), (13, _), (14, _)] ⟨_, _, _, _, _, V3, rfl, rfl, hc3, hf3, hkp3, qm3, hX1, hX2, hX3, hB1, hB2, Zlg, Zlg⟩
  have hB2' := hB2
  obtain ⟨_, _, e, _, hrN, hNb, _⟩ := hB2'
  simp only [Value.slice.injEq] at e
  obtain ⟨rfl, _, rfl⟩ := e
  obtain ⟨b1, o1, sp1, cs1, rfl, hc1, hn1⟩ := rowCell hrN (j := j * 1) (by omega) (int_nth (List.getElem?_eq_getElem hj))
  have hb1 := hNb b1 rfl
  have l1 := hc1.lt hf3
  have hst := foldl_take (fun L y => linkL l L id y) G'.L hj
  have hRV3 : ∀ b, V3 b → c ≤ b ∨ R b := fun b hb => (hX1 b hb).elim (fun e => .inr (hUR b e)) (fun e => .inl e)
  generalize hLj : (NR.take j).foldl (fun L y => linkL l L id y) G'.L = Lj at qm3 hst
  refine Zgo ?_
  refine Zu (to_indexAddr (k := j) el45 rfl rfl hzj (by omega)) ?_
  refine Zu (to_load (pl_ rfl) rfl hc1 (by omega) hn1) ?_
  refine Zgo ?_
  refine Wseq.call rfl rfl (link_spec Zfr qm3 hGl (by omega) hidG (hnm _ (List.getElem_mem hj)) (fun b => c ≤ b ∨ R b) hRV3) ?_
  rintro v7 h7 c7 r7 w7 ⟨qm7, hext7⟩
  have fr7 := hext7.fresh
  have le7 := hext7.c
  simp only at fr7 le7 qm7
  have kp7 := Kp.ext (W := U) (h := h) (c := c) hkp3 hext7 (by omega) (fun b hb q => (hX1 b q).elim (fun e => e) (fun e => by omega))
  have lr7 := Lg.extR (R := R) (c := c) Zlg hext7 (fun b hb q => q.elim (fun q => by omega) (fun q => q))
  have lw7 := Lg.extW (W := U) (c := c) Zlg hext7 (fun b hb q => (hX1 b q).elim (fun e => e) (fun e => by omega))
  have kr : ∀ b, c' ≤ b → b < c6 → h7.get b = h3.get b := fun b h1 h2 => hext7.h b (by show b < c3; omega) (fun q => by rcases hX3 b q with e | e <;> omega)
  refine Zgo ?_
  exact RoundE.goF (NR.length - (j + 1)) K19 [(0, _), (1, _), (2, _), (11, _), (13, _), (14, _), (79, _), (80, _), (81, .int .i64 (zj + 1))] (by omega) ⟨_, j + 1, zj + 1, _, _, _, _, (fun b => V3 b ∨ c3 ≤ b ∧ b < c7), rfl, by omega, rfl, by omega, fr7, kp7, by rw [hst]; exact qm7, (fun b hb => hb.elim (hX1 b) (fun e => .inr (by omega))), (fun b hb => hb.elim (fun e => by have := hX2 b e; omega) (fun e => e.2)), (fun b hb => hb.elim (hX3 b) (fun e => .inr (by omega))), hB1.keep kr, hB2.keep kr, lr7, lw7, by omega, rfl⟩
 rintro e s ⟨g, h3, c3, rl3, wl3, V3, rfl, rfl, hc3, hf3, hkp3, qm3, hX1, hX2, hX3, hB1, hB2, hlr3, hlw3⟩
 (refine Wx.sw (by simp only [K19, frN, frC, updN, updC, Nat.reduceEqDiff, ↓reduceIte]; rfl) ?_)
 refine Zgo ?_
 refine Wx.loopF (fun k2 e s => ∃ (g : Nat → Value) (j : Nat) (zj : Int) (h4 : T AObj) (c4' : Nat) (rl' wl' : List Nat) (V4 : Nat → Prop), e = fr g [(0, .pointer (some ⟨p, 0, none⟩)), (1, .int .i64 id), (2, .slice a dim cap), (11, .slice o6 L8.length k6), (13, .int .i64 (l : Int)), (14, .slice o6 NR.length k6), (91, .slice o6 NR.length k6), (92, .int .i64 (NR.length : Int)), (93, .int .i64 zj)] K19 ∧ zj = j ∧ s = ⟨h4, c4', rl', wl'⟩ ∧ c6 ≤ c4' ∧ Fresh h4 c4' ∧ Kp h h4 c U ∧ GrM h4 p m mt dim ⟨G'.M, (NR.take j).foldl (pruneL mt G'.M l) (NR.foldl (fun L y => linkL l L id y) G'.L)⟩ V4 ∧ (∀ b, V4 b → U b ∨ c ≤ b) ∧ (∀ b, V4 b → b < c4') ∧ (∀ b, V4 b → b < c' ∨ c6 ≤ b) ∧ ARow h4 (.slice o6 L8.length k6) L8 c' c6 ∧ ARow h4 (.slice o6 NR.length k6) NR c' c6 ∧ Lg c R rl' ∧ Lg c U wl' ∧ j ≤ NR.length ∧ k2 = NR.length - j) NR.length K19 [(0, _), (1, _), (2, _), (11, _), (13, _), (14, _), (91, _), (92, _), (93, .int .i64 0)] ⟨_, 0, 0, _, _, _, _, V3, rfl, rfl, rfl, hc3, hf3, hkp3, qm3, hX1, hX2, hX3, hB1, hB2, Zlg, Zlg, by omega, rfl⟩ ?_
 rintro k2 e s ⟨g, j, zj, h3, c3, rl3, wl3, V3, rfl, hzj, rfl, hc3, hf3, hkp3, qm3, hX1, hX2, hX3, hB1, hB2, hlr3, hlw3, hjl, rfl⟩
 (refine Wx.sw (by simp only [K19, frN, frC, updN, updC, Nat.reduceEqDiff, ↓reduceIte]; rfl) ?_)
 by_cases hj : j < NR.length
 rotate_left
 ·refine Zgo ?_
  obtain rfl : j = NR.length := by omega
  rw [List.take_length] at qm3
  exact RoundE.goF l K19 [(0, _), (1, _), (2, _), (11, _), (13, .int .i64 ((l : Int) - 1))] (by omega) ⟨_, l, _, _, _, _, _, _, L8, _, V3, c', c6, rfl, rfl, rfl, hcc, hc3, by omega, hf3, hkp3, hgr, hGM, qm3, hX1, hX2, hX3, hB1, by rw [← hGM]; exact hlm, hll, Zlg, Zlg, by omega, rfl⟩
 have hB2' := hB2
 obtain ⟨_, _, e, _, hrN, hNb, _⟩ := hB2'
 simp only [Value.slice.injEq] at e
 obtain ⟨rfl, _, rfl⟩ := e
 obtain ⟨b1, o1, sp1, cs1, rfl, hc1, hn1⟩ := rowCell hrN (j := j * 1) (by omega) (int_nth (List.getElem?_eq_getElem hj))
 have hb1 := hNb b1 rfl
 have l1 := hc1.lt hf3
 have hst := foldl_take (pruneL mt G'.M l) (NR.foldl (fun L y => linkL l L id y) G'.L) hj
 have hRV3 : ∀ b, V3 b → c ≤ b ∨ R b := fun b hb => (hX1 b hb).elim (fun e => .inr (hUR b e)) (fun e => .inl e)
 generalize hLj : (NR.take j).foldl (pruneL mt G'.M l) (NR.foldl (fun L y => linkL l L id y) G'.L) = Lj at qm3 hst
 refine Zgo ?_
 refine Zu (to_indexAddr (k := j) el45 rfl rfl hzj (by omega)) ?_
 refine Zu (to_load (pl_ rfl) rfl hc1 (by omega) hn1) ?_
 refine Zgo ?_
 refine Wseq.call rfl rfl (prune_spec Zfr qm3 hmt hd hGl (by omega) (hnm _ (List.getElem_mem hj)) (fun b => c ≤ b ∨ R b) hRV3) ?_
 rintro v7 h7 c7 r7 w7 ⟨qm7, hext7⟩
 have fr7 := hext7.fresh
 have le7 := hext7.c
 simp only at fr7 le7 qm7
 have kp7 := Kp.ext (W := U) (h := h) (c := c) hkp3 hext7 (by omega) (fun b hb q => (hX1 b q).elim (fun e => e) (fun e => by omega))
 have lr7 := Lg.extR (R := R) (c := c) Zlg hext7 (fun b hb q => q.elim (fun q => by omega) (fun q => q))
 have lw7 := Lg.extW (W := U) (c := c) Zlg hext7 (fun b hb q => (hX1 b q).elim (fun e => e) (fun e => by omega))
 have kr : ∀ b, c' ≤ b → b < c6 → h7.get b = h3.get b := fun b h1 h2 => hext7.h b (by show b < c3; omega) (fun q => by rcases hX3 b q with e | e <;> omega)
 refine Zgo ?_
 exact RoundE.goF (NR.length - (j + 1)) K19 [(0, _), (1, _), (2, _), (11, _), (13, _), (14, _), (91, _), (92, _), (93, .int .i64 (zj + 1))] (by omega) ⟨_, j + 1, zj + 1, _, _, _, _, (fun b => V3 b ∨ c3 ≤ b ∧ b < c7), rfl, by omega, rfl, by omega, fr7, kp7, by rw [hst]; exact qm7, (fun b hb => hb.elim (hX1 b) (fun e => .inr (by omega))), (fun b hb => hb.elim (fun e => by have := hX2 b e; omega) (fun e => e.2)), (fun b hb => hb.elim (hX3 b) (fun e => .inr (by omega))), hB1.keep kr, hB2.keep kr, lr7, lw7, by omega, rfl⟩
end
end Go.Ab.Seat
