import Derived.Test.YtofikbfljjjgeaaGreatDoorDJA
set_option linter.unusedVariables false
set_option linter.unusedSimpArgs false
section
/- Two members of a graph are linked, are parted (the abstract machine). -/
namespace Go.Ab.Seat
open Go.Extern Go.Proofs
set_option maxRecDepth 4000
section
variable {h h' : T AObj} {p m c c' : Nat} {mt : Int} {dim : Nat} {G : Gr} {U : Nat → Prop} {ow : Ow}
theorem updL_same (L : Lk) (u : Int) (l : Nat) : updL L u l (L u l) = L := by
 funext x k
 unfold updL
 split
 ·rename_i e; rw [e.1, e.2]
 ·rfl
theorem updL_at (L : Lk) (u : Int) (l : Nat) (xs : List Int) : updL L u l xs u l = xs := by unfold updL; rw [if_pos ⟨rfl, rfl⟩]
theorem updL_ne {L : Lk} {u x : Int} {l k : Nat} {xs : List Int} (h : ¬(x = u ∧ k = l)) : updL L u l xs x k = L x k := by unfold updL; rw [if_neg h]
theorem GrO.setLO (q : GrO h p m mt dim G U ow) (hf : Fresh h c) {u : Int} {r : Rc} {es : List (Value × Value × Nat)} {n vi nb : Nat} {vv : Value} {ls : Nat → Value} (hr : getM u G.M = some r) (hm : Has h m (.map es n)) (hk : ∃ ids, Keyed es n ids) (hfit : ∀ x, GFits h ow U dim G.L (getM x G.M) (valI x es)) (hfi : findI u es = some (vi, .pointer (some ⟨nb, 0, none⟩))) (hn : NdR h ow U dim G.L r nb vv ls) (hid : r.id = u) {l : Nat} (hl : l < 5)
  {v' : Value} {xs' : List Int} (hnb : Has h' nb (.cells (nodeC vv r.seq (fun i => if i = l then v' else ls i)))) (hlk : LkAt h' v' xs') {V : Nat → Prop} (hV : ∀ b, V b → c ≤ b) (hv' : ∀ b, blkOf v' = some b → V b ∨ blkOf (ls l) = some b)
  (k : ∀ b, U b → b < c → b ≠ nb → blkOf (ls l) ≠ some b → h'.get b = h.get b) (hup : Up xs') (hmem : ∀ y ∈ xs', ∃ r, getM y G.M = some r)   : GrO h' p m mt dim ⟨G.M, updL G.L u l xs'⟩ (fun b => U b ∨ V b) (fun b => if c ≤ b then (u, 2 + l) else ow b) := by
 obtain ⟨lp, lm⟩ := q.lt hf
 have lnb := hn.at_.lt hf
 have onb := hn.o
 rw [hid] at onb
 have oll : ∀ b, blkOf (ls l) = some b → U b ∧ ow b = (u, 2 + l) ∧ b < c := fun b hb => by
  obtain ⟨h1, h2⟩ := hn.ol l hl b hb
  rw [hid] at h2
  exact ⟨h1, h2, (hn.lk l hl).lt hf b hb⟩
 have kk : ∀ b, U b → b < c → ow b ≠ (u, 0) → ow b ≠ (u, 2 + l) → h'.get b = h.get b := fun b hb hc h1 h2 => k b hb hc (fun e => h1 (by rw [e]; exact onb)) (fun e => h2 (oll b e).2.1)
 refine ⟨?_, ⟨es, n, ?_, hk, fun x => ?_⟩, .inl q.pU, .inl q.mU, ?_, ?_, q.rises, q.ok, fun x k => ?_, fun x k y hy => ?_⟩
 ·exact (kk p q.pU lp (by rw [q.po]; simp) (by rw [q.po]; simp; omega)).trans q.ptr
 ·exact (kk m q.mU lm (by rw [q.mo]; simp) (by rw [q.mo]; simp; omega)).trans hm
 ·by_cases hx : x = u
  ·subst hx
   rw [hr]
   refine .inr ⟨r, _, rfl, by unfold valI; rw [hfi]; rfl, nb, vv, _, rfl, hnb, .inl hn.u, ?_, ?_, fun b hb => ?_, fun k hkl => ?_, fun k hkl b hb => ?_⟩
   ·rw [if_neg (by omega)]; exact hn.o
   ·refine hn.own.keep fun b hb => ?_
    obtain ⟨h1, h2⟩ := hn.ov b hb
    exact kk b h1 ((hn.own.blk hb).2.lt hf) (by rw [h2, hid]; simp) (by rw [h2, hid]; simp; omega)
   ·obtain ⟨h1, h2⟩ := hn.ov b hb
    have := (hn.own.blk hb).2.lt hf
    refine ⟨.inl h1, ?_⟩
    rw [if_neg (by omega)]; exact h2
   ·by_cases he : k = l
    ·subst he
     simp only [if_true]
     rw [hid, updL_at]
     exact hlk
    ·rw [if_neg he, hid]
     show LkAt h' (ls k) (updL G.L x l xs' x k)
     rw [updL_ne (fun e => he e.2), ← hid]
     refine (hn.lk k hkl).keep fun b hb => ?_
     obtain ⟨h1, h2⟩ := hn.ol k hkl b hb
     exact kk b h1 ((hn.lk k hkl).lt hf b hb) (by rw [h2, hid]; simp) (by rw [h2, hid]; simp; omega)
   ·by_cases he : k = l
    ·subst he
     simp only [if_true] at hb
     rcases hv' b hb with h1 | h1
     ·refine ⟨.inr h1, ?_⟩
      rw [if_pos (hV b h1), hid]
     ·obtain ⟨h2, h3, h4⟩ := oll b h1
      refine ⟨.inl h2, ?_⟩
      rw [if_neg (by omega), hid]; exact h3
    ·rw [if_neg he] at hb
     obtain ⟨h1, h2⟩ := hn.ol k hkl b hb
     have := (hn.lk k hkl).lt hf b hb
     refine ⟨.inl h1, ?_⟩
     rw [if_neg (by omega)]; exact h2
  ·refine (hfit x).keep hf (fun b hb _ => .inl hb) (fun b hb hc => if_neg (by omega)) (fun k hkl => updL_ne fun e => hx e.1) fun b hb hc h1 h2 => kk b hb hc (fun e => hx (by rw [← h1, e])) (fun e => hx (by rw [← h1, e]))
 ·rw [if_neg (by omega)]; exact q.po
 ·rw [if_neg (by omega)]; exact q.mo
 ·show Up (updL G.L u l xs' x k)
  by_cases e : x = u ∧ k = l
  ·rw [e.1, e.2, updL_at]; exact hup
  ·rw [updL_ne e]; exact q.up x k
 ·have hy : y ∈ updL G.L u l xs' x k := hy
  by_cases e : x = u ∧ k = l
  ·rw [e.1, e.2, updL_at] at hy; exact hmem y hy
  ·rw [updL_ne e] at hy; exact q.mem x k y hy
theorem GrO.setL (q : GrO h p m mt dim G U ow) (hf : Fresh h c) {u : Int} {r : Rc} {es : List (Value × Value × Nat)} {n vi nb : Nat} {vv : Value} {ls : Nat → Value} (hr : getM u G.M = some r) (hm : Has h m (.map es n)) (hk : ∃ ids, Keyed es n ids) (hfit : ∀ x, GFits h ow U dim G.L (getM x G.M) (valI x es)) (hfi : findI u es = some (vi, .pointer (some ⟨nb, 0, none⟩))) (hn : NdR h ow U dim G.L r nb vv ls) (hid : r.id = u) {l : Nat} (hl : l < 5)
  {v' : Value} {xs' : List Int} (hnb : Has h' nb (.cells (nodeC vv r.seq (fun i => if i = l then v' else ls i)))) (hlk : LkAt h' v' xs') {V : Nat → Prop} (hV : ∀ b, V b → c ≤ b) (hv' : ∀ b, blkOf v' = some b → V b ∨ blkOf (ls l) = some b)
  (k : ∀ b, U b → b < c → b ≠ nb → blkOf (ls l) ≠ some b → h'.get b = h.get b) (hup : Up xs') (hmem : ∀ y ∈ xs', ∃ r, getM y G.M = some r) : GrM h' p m mt dim ⟨G.M, updL G.L u l xs'⟩ (fun b => U b ∨ V b) := ⟨_, q.setLO hf hr hm hk hfit hfi hn hid hl hnb hlk hV hv' k hup hmem⟩
theorem GrO.len (q : GrO h p m mt dim G U ow) (x : Int) (l : Nat) : (G.L x l).length ≤ G.M.length := by
 have := nodup_len (a := G.L x l) (b := G.M.map Rc.id) ((q.up x l).imp fun h => by omega) fun y hy => by
  obtain ⟨r, hr⟩ := q.mem x l y hy
  obtain ⟨g1, g2⟩ := getM_mem hr
  exact List.mem_map.2 ⟨r, g1, g2⟩
 rwa [List.length_map] at this
end
theorem ba187 {sm : Nat → Option (List Value → M Value)} : buildAT (Cs sm) 187 = some (1, [.int .i64 0, .int .i64 0]) := by kernel_rfl
theorem ApartP.rx {r' w : List Nat} {x a b b' : Nat} (h : ∀ y ∈ w, y ≠ x) : ApartP ⟨[x], [], a, a⟩ ⟨r', w, b, b'⟩ := by
 refine ⟨?_, ?_, ?_, ?_, ?_⟩
 ·intro b hb; cases hb
 ·intro b hb; cases hb
 ·intro y hy hm
  exact h y hy (List.mem_singleton.1 hm)
 ·intro y _; show ¬(a ≤ y ∧ y < a); omega
 ·intro y _; show ¬(a ≤ y ∧ y < a); omega
theorem GrO.apart {h : T AObj} {p m : Nat} {mt : Int} {dim : Nat} {G : Gr} {U : Nat → Prop} {ow : Ow} {r : Rc} {nb : Nat} {vv : Value} {ls : Nat → Value} {l : Nat} (q : GrO h p m mt dim G U ow) (hn : NdR h ow U dim G.L r nb vv ls) (hl : l < 5) : (∀ b, blkOf (ls l) = some b → b ≠ p ∧ b ≠ m ∧ b ≠ nb) ∧ nb ≠ p ∧ nb ≠ m := by
 refine ⟨fun b hb => ?_, fun e => ?_, fun e => ?_⟩
 ·obtain ⟨h1, h2⟩ := hn.ol l hl b hb
  refine ⟨fun e => ?_, fun e => ?_, fun e => ?_⟩
  ·rw [e, q.po] at h2; simp only [Prod.mk.injEq] at h2; omega
  ·rw [e, q.mo] at h2; simp only [Prod.mk.injEq] at h2; omega
  ·rw [e, hn.o] at h2; simp only [Prod.mk.injEq] at h2; omega
 ·have := hn.o; rw [e, q.po] at this; simp at this
 ·have := hn.o; rw [e, q.mo] at this; simp at this
def pairV (p : Int × Int) : List Value := [.int .i64 p.1, .int .i64 p.2]
theorem pair_sub {a b : Int × Int} {i : Nat} {u v : Int} (h : [a, b][i]? = some (u, v)) : subN (0 + i * 2) 2 (pairV a ++ pairV b) = some [.int .i64 u, .int .i64 v] := by
 rcases i with _ | _ | i
 ·cases h; rfl
 ·cases h; rfl
 ·cases h
def K75 : List Nat := [0, 1, 2, 3, 9, 10, 11, 12, 19, 20, 21, 22, 45]
set_option maxHeartbeats 16000000 in
theorem link_spec {h : T AObj} {c : Nat} {rl wl : List Nat} (hf : Fresh h c) {p m dim : Nat} {mt : Int} {G : Gr} {U : Nat → Prop} (qm : GrM h p m mt dim G U) (hml : G.M.length ≤ 800) {a b : Int} {l : Nat} (hl : l < 5) (ha : ∃ r, getM a G.M = some r) (hb : ∃ r, getM b G.M = some r) (R : Nat → Prop) (hUR : ∀ b, U b → R b) :
  ∃ r s', FnTo (Cs smQ) eg 75 [.pointer (some ⟨p, 0, none⟩), .int .i64 a, .int .i64 b, .int .i64 (l : Int)] ⟨h, c, rl, wl⟩ r s' ∧ GrM s'.h p m mt dim ⟨G.M, linkL l G.L a b⟩ (fun b => U b ∨ c ≤ b ∧ b < s'.c) ∧ Ext ⟨h, c, rl, wl⟩ s' R U := by
 have hbg : big = 1048576 := rfl
 refine Fn.go (stdQ 75 rfl) ex75 fn75 km75 rfl rfl ?_
 refine Zev ?_
 refine Zgo ?_
 have hP : ∀ x ∈ [(a, b), (b, a)], (∃ r, getM x.1 G.M = some r) ∧ ∃ r, getM x.2 G.M = some r := fun x hx => by
  simp only [List.mem_cons, List.not_mem_nil, or_false] at hx
  rcases hx with rfl | rfl
  ·exact ⟨ha, hb⟩
  ·exact ⟨hb, ha⟩
 refine Zu (to_buildA ba187 rfl) ?_
 refine Zgo ?_
 refine Zu (to_buildA ba187 rfl) ?_
 refine Zgo ?_
 refine Wx.loopF (fun k1 e s => ∃ (g : Nat → Value) (i : Nat) (z : Int) (h' : T AObj) (c' : Nat) (rl' wl' : List Nat), e = fr g [(0, .pointer (some ⟨p, 0, none⟩)), (3, .int .i64 (l : Int)), (19, .slice (some ⟨c, 0, none⟩) 2 2), (20, .int .i64 2), (21, .int .i64 z)] K75 ∧ z = i ∧ s = ⟨h', c', rl', wl'⟩ ∧ c + 1 ≤ c' ∧ Fresh h' c' ∧ Kp h h' c U ∧ Has h' c (.cells (pairV (a, b) ++ pairV (b, a))) ∧ GrM h' p m mt dim ⟨G.M, ([(a, b), (b, a)].take i).foldl (fun L x => insL l L x.1 x.2) G.L⟩ (fun b => (U b ∧ b < c) ∨ c < b ∧ b < c') ∧ Lg c R rl' ∧ Lg c U wl' ∧ i ≤ 2 ∧ k1 = 2 - i) 2 K75 [(0, _), (3, _), (19, _), (20, _), (21, .int .i64 0)] ⟨_, 0, 0, _, _, _, _, rfl, rfl, rfl, Nat.le_refl _, Zfr, Zkp, Has.same, ((qm.low hf).wide hf (fun b hb => .inl hb)).keep hf (fun b hb hc => get_other (by omega)), Zlg, Zlg, by omega, rfl⟩ ?_
 rintro k1 e s ⟨g, i, z, h', c', rl', wl', rfl, hz, rfl, hcc, hf', hkp, hB, qm', hlr, hlw, hid, rfl⟩
 (refine Wx.sw (by simp only [K75, frN, frC, updN, updC, Nat.reduceEqDiff, ↓reduceIte]; rfl) ?_)
 by_cases hi : i < 2
 rotate_left
 ·refine Zgo ?_
  obtain rfl : i = 2 := by omega
  refine ⟨.inl rfl, Wres.nil ⟨qm'.wide hf' (fun b hb => hb.imp (fun q => q.1) (fun q => ⟨by omega, q.2⟩)), Zex⟩⟩
 obtain ⟨⟨u, v⟩, huv⟩ : ∃ x, [(a, b), (b, a)][i]? = some x := ⟨_, List.getElem?_eq_getElem hi⟩
 obtain ⟨⟨ru, hru⟩, rv⟩ := hP _ (List.mem_of_getElem? huv)
 have hpair := pair_sub huv
 have hstep : ([(a, b), (b, a)].take (i + 1)).foldl (fun L x => insL l L x.1 x.2) G.L = insL l (([(a, b), (b, a)].take i).foldl (fun L x => insL l L x.1 x.2) G.L) u v := by
  rw [List.take_add_one, huv, List.foldl_append]; rfl
 simp only at hru rv
 generalize hLi : ([(a, b), (b, a)].take i).foldl (fun L x => insL l L x.1 x.2) G.L = Li at qm' hstep
 obtain ⟨ow, q⟩ := qm'
 have hlen : (Li u l).length ≤ 800 := by have : (Li u l).length ≤ G.M.length := q.len u l; omega
 have hp := q.ptr
 obtain ⟨lp, lm⟩ := q.lt hf'
 obtain ⟨es, n, vi, nb, vv, ls, hm, ⟨ids, hk⟩, hfit, hfi, hn, hid2⟩ := q.at hru
 have hnb := hn.at_
 have lnb := hnb.lt hf'
 have hlk := hn.lk l hl
 rw [hid2] at hlk
 change LkAt h' (ls l) (Li u l) at hlk
 have llk := hlk.lt hf'
 have unb := hn.u
 have ulk := fun b hb => (hn.ol l hl b hb).1
 obtain ⟨ol, cl, hlv⟩ := hlk.val
 have rp : c ≤ p ∨ R p := q.pU.elim (fun q => .inr (hUR _ q.1)) (fun q => .inl (by omega))
 have rm : c ≤ m ∨ R m := q.mU.elim (fun q => .inr (hUR _ q.1)) (fun q => .inl (by omega))
 have rnb : c ≤ nb ∨ R nb := unb.elim (fun q => .inr (hUR _ q.1)) (fun q => .inl (by omega))
 have rlk : ∀ b, blkOf (ls l) = some b → c ≤ b ∨ R b := fun b hb => (ulk b hb).elim (fun q => .inr (hUR _ q.1)) (fun q => .inl (by omega))
 have lc := hB.lt hf'
 refine Zgo ?_
 refine Zu (to_indexAddr (k := i) el188 rfl rfl hz hi) ?_
 refine Zu (to_loadS ag187 rfl hB.cel lc hpair) ?_
 refine Zgo ?_
 refine Zq (to_indexAddrA (k := 0) ar187 rfl rfl rfl (by omega)) ?_
 refine Zd (to_load (pl_ rfl) rfl Has.same.cel (by omega) rfl) ?_
 refine Zgo ?_
 refine Zd (to_lookup (mi_ rfl) (ze_ rfl) rfl rfl Zhs (by omega) hk.ks (by rw [hfi])) ?_
 refine Zgo ?_
 refine Zq (to_indexAddrA (k := l) ar110 rfl rfl rfl hl) ?_
 refine Zd (to_load (pl_ rfl) rfl (hnb.cel.other (by omega) |>.other (by omega)) (by omega) (node_nth hl)) ?_
 rw [hlv]
 refine Zgo ?_
 refine Zu (to_indexAddrA (k := 1) ar187 rfl rfl rfl (by omega)) ?_
 refine Zu (to_load (pl_ rfl) rfl Has.same.cel (by omega) rfl) ?_
 refine Zgo ?_
 have kA : ∀ b, b < c' → ((h'.set c' (some (.cells [.int .i64 0, .int .i64 0]))).set c' (some (.cells [.int .i64 u, .int .i64 v]))).get b = h'.get b := fun b hb => (get_other (by omega)).trans (get_other (by omega))
 have hlkA := hlk.keep (fun b hb => kA b (llk b hb))
 rw [hlv] at hlkA
 refine Wseq.call rfl rfl (bsearch_spec Zfr hlkA.row (q.up u l) (by omega) v (fun b => c ≤ b ∨ R b) (fun b hb => rlk b (by rw [hlv]; exact hb))) ?_
 rintro v1 hA cA r1 w1 ⟨⟨rfl, e1, e2⟩, hext⟩
 simp only at e1 e2
 subst e1 e2
 have lr1 := Lg.extR (R := R) (c := c) Zlg hext (fun b hb q => q.elim (fun q => by omega) (fun q => q))
 have lw1 := Lg.extW (W := U) (c := c) Zlg hext (fun _ _ q => q.elim)
 refine Zgo ?_
 by_cases hmv : v ∈ Li u l
 ·rw [decide_eq_true hmv]
  refine Zgo ?_
  refine RoundE.goF (2 - (i + 1)) K75 [(0, _), (3, _), (19, _), (20, _), (21, .int .i64 (z + 1))] (by omega) ⟨_, i + 1, z + 1, _, _, _, _, rfl, by omega, rfl, by omega, Zfr, fun b hb hU => (kA b (by omega)).trans (hkp b hb hU), (kA c (by omega)).trans hB, ?_, lr1, lw1, by omega, rfl⟩
  rw [hstep, show insL l Li u v = Li by unfold insL insS; rw [if_pos hmv, updL_same]]
  exact (GrM.keep ⟨ow, q⟩ hf' (fun b _ hb => kA b hb)).wide hext.fresh (fun b hb => hb.imp (fun q => q) (fun q => ⟨q.1, by omega⟩))
 rw [decide_eq_false hmv]
 refine Zgo ?_
 refine Zq (to_indexAddrA (k := 0) ar187 rfl rfl rfl (by omega)) ?_
 refine Zd (to_load (pl_ rfl) rfl Has.same.cel (by omega) rfl) ?_
 refine Zgo ?_
 refine Zd (to_lookup (mi_ rfl) (ze_ rfl) rfl rfl Zhs (by omega) hk.ks (by rw [hfi])) ?_
 refine Zgo ?_
 refine Zq (to_indexAddrA (k := 1) ar187 rfl rfl rfl (by omega)) ?_
 refine Zd (to_load (pl_ rfl) rfl Has.same.cel (by omega) rfl) ?_
 refine Zgo ?_
 have hlkB : LkAt (((h'.set c' (some (.cells [.int .i64 0, .int .i64 0]))).set c' (some (.cells [.int .i64 u, .int .i64 v]))).set (c' + 1) (some (.cells [.int .i64 v]))) (.slice ol (Li u l).length cl) (Li u l) := hlkA.keep fun b hb => get_other (by have := llk b (by rw [hlv]; exact hb); omega)
 refine Wtr.call rfl rfl (lins_spec Zfr hlkB hmv (by omega) Has.same (fun b hb => by have := llk b (by rw [hlv]; exact hb); omega)) ?_
 rintro v2 h2 c2 r2 w2 ⟨⟨hlk2, hv2, hv2n⟩, hext2⟩
 have fr2 := hext2.fresh
 have le2 := hext2.c
 simp only at fr2 le2 hlk2
 obtain ⟨o2, k2, rfl⟩ := hlk2.val
 obtain ⟨ap1, ap2, ap3⟩ := q.apart hn hl
 have hw2 : ∀ y ∈ w2, blkOf (ls l) = some y := fun y hy => by
  rcases hext2.wl y hy with u | u
  ·cases u
  ·rw [hlv]; exact u.2
 have hlk0 := fun b hb => llk b hb
 have hx1 : ApartP ⟨[p], [], c' + 1, c' + 1⟩ ⟨r2, w2, c' + 1 + 1, c2⟩ := ApartP.rx fun y hy => (ap1 y (hw2 y hy)).1
 have hx2 : ApartP ⟨[m], [], c' + 1, c' + 1⟩ ⟨r2, w2, c' + 1 + 1, c2⟩ := ApartP.rx fun y hy => (ap1 y (hw2 y hy)).2.1
 have hx3 : ApartP ⟨[c'], [], c' + 1, c' + 1⟩ ⟨r2, w2, c' + 1 + 1, c2⟩ := ApartP.rx fun y hy => by have := llk y (hw2 y hy); omega
 have kp2 := Kp.ext (W := U) (h := h) (c := c) Zkp hext2 (by omega) (fun b hb q => by
  rw [← hlv] at q
  rcases ulk b q with u | u
  ·exact u.1
  ·omega)
 have lr2 := Lg.extR (R := R) (c := c) Zlg hext2 (fun b hb q => by
  rcases q with q | q
  ·omega
  ·rw [← hlv] at q
   exact (rlk b q).elim (fun e => by omega) (fun e => e))
 have lw2 := Lg.extW (W := U) (c := c) Zlg hext2 (fun b hb q => by
  rw [← hlv] at q
  rcases ulk b q with u | u
  ·exact u.1
  ·omega)
 have kB : ∀ b, b < c' → blkOf (ls l) ≠ some b → h2.get b = h'.get b := fun b hb hne => ((hext2.h b (by show b < c' + 1 + 1; omega) (fun q => hne (by rw [hlv]; exact q))).trans (get_other (by omega))).trans (kA b hb)
 have hnb2 : Has h2 nb _ := (kB nb lnb (fun e => (ap1 nb e).2.2 rfl)).trans hnb
 have wnb : c ≤ nb ∨ U nb := unb.elim (fun q => .inr q.1) (fun q => .inl (by omega))
 refine ⟨Zap, ?_⟩
 refine Zgo ?_
 refine Zq (to_indexAddrA (k := l) ar110 rfl rfl rfl hl) ?_
 ((with_reducible apply Wtr.so); rfl; exact (sz_ rfl); rfl; exact hnb2; omega; exact Zap; refine Znv ?_; refine ⟨_, _, (by (first | exact cellsA_agg _ | rfl)), rfl, node_set hl rfl, ?_⟩)
 refine Zgo ?_
 have hset := q.setL hf' hru hm ⟨_, hk⟩ hfit hfi hn hid2 hl (V := fun b => c' ≤ b ∧ b < c2) (h' := h2.set nb (some (.cells (nodeC vv ru.seq (fun i => if i = l then .slice o2 (insS v (Li u l)).length k2 else ls i))))) (v' := .slice o2 (insS v (Li u l)).length k2) (xs' := insS v (Li u l)) Has.same (hlk2.keep fun b hb => get_other (by have := hv2 b hb; omega)) (fun b hb => hb.1) (fun b hb => .inl ⟨by have := hv2 b hb; omega, hlk2.lt fr2 b hb⟩) (fun b _ hb hne hne2 => (get_other hne).trans (kB b hb hne2)) (insS_up (q.up u l)) (fun y hy => (insS_mem.1 hy).elim (fun e => by rw [e]; exact rv) (fun e => q.mem u l y e))
 refine RoundE.goF (2 - (i + 1)) K75 [(0, _), (3, _), (19, _), (20, _), (21, .int .i64 (z + 1))] (by omega) ⟨_, i + 1, z + 1, _, _, _, _, rfl, by omega, rfl, by omega, Zfr, Zkp, ?_, ?_, Zlg, Zlg, by omega, rfl⟩
 ·refine Has.other (fun e => ?_) ((kB c (by omega) fun e => ?_).trans hB)
  ·rcases unb with u | u <;> omega
  ·rcases ulk c e with u | u <;> omega
 ·rw [hstep]
  exact hset.wide (Fresh.put (by omega) fr2) (fun b hb => hb.elim (fun e => e.imp (fun e => e) (fun e => ⟨e.1, by omega⟩)) (fun e => .inr ⟨by have := e.1; omega, e.2⟩))
end Go.Ab.Seat
end
section
/- Two members of a graph are parted (the abstract machine). -/
namespace Go.Ab.Seat
open Go.Extern Go.Proofs
set_option maxRecDepth 4000
def K82 : List Nat := [0, 1, 2, 3, 9, 10, 11, 12, 19, 20, 21, 22, 44]
set_option maxHeartbeats 16000000 in
theorem part_specO {h : T AObj} {c : Nat} {rl wl : List Nat} (hf : Fresh h c) {p m dim : Nat} {mt : Int} {G : Gr} {U : Nat → Prop} {ow0 : Ow} (q0 : GrO h p m mt dim G U ow0) (hml : G.M.length ≤ 800) {a b : Int} {l : Nat} (hl : l < 5) (ha : ∃ r, getM a G.M = some r) (hb : ∃ r, getM b G.M = some r) (R : Nat → Prop) (hUR : ∀ b, U b → R b) :
  ∃ r s', FnTo (Cs smQ) eg 82 [.pointer (some ⟨p, 0, none⟩), .int .i64 a, .int .i64 b, .int .i64 (l : Int)] ⟨h, c, rl, wl⟩ r s' ∧ (∃ ow', GrO s'.h p m mt dim ⟨G.M, partL l G.L a b⟩ U ow' ∧ ∀ b, b < c → ow' b = ow0 b) ∧ Ext ⟨h, c, rl, wl⟩ s' R (fun b => U b ∧ ((ow0 b).2 = 0 ∨ (ow0 b).2 = 2 + l)) := by
 have hbg : big = 1048576 := rfl
 refine Fn.go (stdQ 82 rfl) ex82 fn82 km82 rfl rfl ?_
 refine Zev ?_
 refine Zgo ?_
 have hP : ∀ x ∈ [(a, b), (b, a)], (∃ r, getM x.1 G.M = some r) ∧ ∃ r, getM x.2 G.M = some r := fun x hx => by
  simp only [List.mem_cons, List.not_mem_nil, or_false] at hx
  rcases hx with rfl | rfl
  ·exact ⟨ha, hb⟩
  ·exact ⟨hb, ha⟩
 refine Zu (to_buildA ba187 rfl) ?_
 refine Zgo ?_
 refine Zu (to_buildA ba187 rfl) ?_
 refine Zgo ?_
 refine Wx.loopF (fun k1 e s => ∃ (g : Nat → Value) (i : Nat) (z : Int) (h' : T AObj) (c' : Nat) (rl' wl' : List Nat), e = fr g [(0, .pointer (some ⟨p, 0, none⟩)), (3, .int .i64 (l : Int)), (19, .slice (some ⟨c, 0, none⟩) 2 2), (20, .int .i64 2), (21, .int .i64 z)] K82 ∧ z = i ∧ s = ⟨h', c', rl', wl'⟩ ∧ c + 1 ≤ c' ∧ Fresh h' c' ∧ Kp h h' c (fun b => U b ∧ ((ow0 b).2 = 0 ∨ (ow0 b).2 = 2 + l)) ∧ Has h' c (.cells (pairV (a, b) ++ pairV (b, a))) ∧ (∃ ow, GrO h' p m mt dim ⟨G.M, ([(a, b), (b, a)].take i).foldl (fun L x => remL l L x.1 x.2) G.L⟩ (fun b => U b ∧ b < c) ow ∧ ∀ b, b < c → ow b = ow0 b) ∧ Lg c R rl' ∧ Lg c (fun b => U b ∧ ((ow0 b).2 = 0 ∨ (ow0 b).2 = 2 + l)) wl' ∧ i ≤ 2 ∧ k1 = 2 - i) 2 K82 [(0, _), (3, _), (19, _), (20, _), (21, .int .i64 0)] ⟨_, 0, 0, _, _, _, _, rfl, rfl, rfl, Nat.le_refl _, Zfr, Zkp, Has.same, ⟨_, (q0.low hf).keep hf (fun b hb hc => get_other (by omega)), fun _ _ => rfl⟩, Zlg, Zlg, by omega, rfl⟩ ?_
 rintro k1 e s ⟨g, i, z, h', c', rl', wl', rfl, hz, rfl, hcc, hf', hkp, hB, qm', hlr, hlw, hid, rfl⟩
 (refine Wx.sw (by simp only [K82, frN, frC, updN, updC, Nat.reduceEqDiff, ↓reduceIte]; rfl) ?_)
 by_cases hi : i < 2
 rotate_left
 ·refine Zgo ?_
  obtain rfl : i = 2 := by omega
  refine ⟨.inl rfl, Wres.nil ⟨by obtain ⟨ow, q, e⟩ := qm'; exact ⟨ow, q.wide hf' (fun b hb => hb.1), e⟩, Zex⟩⟩
 obtain ⟨⟨u, v⟩, huv⟩ : ∃ x, [(a, b), (b, a)][i]? = some x := ⟨_, List.getElem?_eq_getElem hi⟩
 obtain ⟨⟨ru, hru⟩, rv⟩ := hP _ (List.mem_of_getElem? huv)
 have hpair := pair_sub huv
 have hstep : ([(a, b), (b, a)].take (i + 1)).foldl (fun L x => remL l L x.1 x.2) G.L = remL l (([(a, b), (b, a)].take i).foldl (fun L x => remL l L x.1 x.2) G.L) u v := by
  rw [List.take_add_one, huv, List.foldl_append]; rfl
 simp only at hru rv
 generalize hLi : ([(a, b), (b, a)].take i).foldl (fun L x => remL l L x.1 x.2) G.L = Li at qm' hstep
 obtain ⟨ow, q, hoe⟩ := qm'
 have hlen : (Li u l).length ≤ 800 := by have : (Li u l).length ≤ G.M.length := q.len u l; omega
 have hp := q.ptr
 obtain ⟨lp, lm⟩ := q.lt hf'
 obtain ⟨es, n, vi, nb, vv, ls, hm, ⟨ids, hk⟩, hfit, hfi, hn, hid2⟩ := q.at hru
 have hnb := hn.at_
 have lnb := hnb.lt hf'
 have hlk := hn.lk l hl
 rw [hid2] at hlk
 change LkAt h' (ls l) (Li u l) at hlk
 have llk := hlk.lt hf'
 have unb := hn.u
 have ulk := fun b hb => (hn.ol l hl b hb).1
 have olk := fun b hb => (hn.ol l hl b hb).2
 obtain ⟨ol, cl, hlv⟩ := hlk.val
 have rp : c ≤ p ∨ R p := .inr (hUR _ q.pU.1)
 have rm : c ≤ m ∨ R m := .inr (hUR _ q.mU.1)
 have rnb : c ≤ nb ∨ R nb := .inr (hUR _ unb.1)
 have rlk : ∀ b, blkOf (ls l) = some b → c ≤ b ∨ R b := fun b hb => .inr (hUR _ (ulk b hb).1)
 have lc := hB.lt hf'
 obtain ⟨ap1, ap2, ap3⟩ := q.apart hn hl
 have hple := posI_le v (Li u l)
 have hkd : ∀ b, b < c' → blkOf (ls l) = some b → b ≠ c' := fun b hb _ => by omega
 refine Zgo ?_
 refine Zu (to_indexAddr (k := i) el188 rfl rfl hz hi) ?_
 refine Zu (to_loadS ag187 rfl hB.cel lc hpair) ?_
 refine Zgo ?_
 refine Zq (to_indexAddrA (k := 0) ar187 rfl rfl rfl (by omega)) ?_
 refine Zd (to_load (pl_ rfl) rfl Has.same.cel (by omega) rfl) ?_
 refine Zgo ?_
 refine Zd (to_lookup (mi_ rfl) (ze_ rfl) rfl rfl Zhs (by omega) hk.ks (by rw [hfi])) ?_
 refine Zgo ?_
 refine Zq (to_indexAddrA (k := l) ar110 rfl rfl rfl hl) ?_
 refine Zd (to_load (pl_ rfl) rfl (hnb.cel.other (by omega) |>.other (by omega)) (by omega) (node_nth hl)) ?_
 rw [hlv]
 refine Zgo ?_
 refine Zq (to_indexAddrA (k := 1) ar187 rfl rfl rfl (by omega)) ?_
 refine Zd (to_load (pl_ rfl) rfl Has.same.cel (by omega) rfl) ?_
 refine Zgo ?_
 have kA : ∀ b, b < c' → ((h'.set c' (some (.cells [.int .i64 0, .int .i64 0]))).set c' (some (.cells [.int .i64 u, .int .i64 v]))).get b = h'.get b := fun b hb => (get_other (by omega)).trans (get_other (by omega))
 have hlkA := hlk.keep (fun b hb => kA b (llk b hb))
 rw [hlv] at hlkA
 refine Wtr.call rfl rfl (bsearch_spec Zfr hlkA.row (q.up u l) (by omega) v (fun b => c ≤ b ∨ R b) (fun b hb => rlk b (by rw [hlv]; exact hb))) ?_
 rintro v1 hA cA r1 w1 ⟨⟨rfl, e1, e2⟩, hext⟩
 simp only at e1 e2
 subst e1 e2
 have hqt := hext.quiet (fun _ _ q => q)
 have lr1 := Lg.extR (R := R) (c := c) Zlg hext (fun b hb q => q.elim (fun q => by omega) (fun q => q))
 have lw1 := Lg.extW (W := fun b => U b ∧ ((ow0 b).2 = 0 ∨ (ow0 b).2 = 2 + l)) (c := c) Zlg hext (fun _ _ q => q.elim)
 refine ⟨Zap, ?_⟩
 refine Zgo ?_
 by_cases hmv : v ∈ Li u l
 rotate_left
 ·rw [decide_eq_false hmv]
  refine Zgo ?_
  refine RoundE.goF (2 - (i + 1)) K82 [(0, _), (3, _), (19, _), (20, _), (21, .int .i64 (z + 1))] (by omega) ⟨_, i + 1, z + 1, _, _, _, _, rfl, by omega, rfl, by omega, Zfr, fun b hb hU => (kA b (by omega)).trans (hkp b hb hU), (kA c (by omega)).trans hB, ?_, Zlg, Zlg, by omega, rfl⟩
  rw [hstep, show remL l Li u v = Li by unfold remL; rw [remS_not hmv, updL_same]]
  exact ⟨ow, (q.keep hf' (fun b _ hb => kA b hb)).wide hext.fresh (fun b hb => hb), hoe⟩
 rw [decide_eq_true hmv]
 refine Zgo ?_
 refine Zq (to_indexAddrA (k := l) ar110 rfl rfl rfl hl) ?_
 refine Zd (to_load (pl_ rfl) rfl (hnb.cel.other (by omega) |>.other (by omega)) (by omega) (node_nth hl)) ?_
 rw [hlv]
 refine Zgo ?_
 refine Wtr.call rfl rfl (ldel_spec hext.fresh hlkA (q.up u l) hmv (by omega)) ?_
 rintro v2 h2 c2 r2 w2 ⟨⟨hlk2, hv2, ec2⟩, hext2⟩
 have fr2 := hext2.fresh
 simp only at fr2 ec2 hlk2
 subst ec2
 obtain ⟨o2, k2, rfl⟩ := hlk2.val
 have hw2 : ∀ y ∈ w2, blkOf (ls l) = some y := fun y hy => by
  rcases hext2.wl y hy with u | u
  ·cases u
  ·rw [hlv]; exact u.2
 have hx1 : ApartP ⟨[nb], [], c' + 1, c' + 1⟩ ⟨r2, w2, c' + 1, c' + 1⟩ := ApartP.rx fun y hy => (ap1 y (hw2 y hy)).2.2
 have kp2 := Kp.ext (W := fun b => U b ∧ ((ow0 b).2 = 0 ∨ (ow0 b).2 = 2 + l)) (h := h) (c := c) Zkp hext2 (by show c ≤ c' + 1; omega) (fun b hb q => by
  rw [← hlv] at q
  exact ⟨(ulk b q).1, .inr (by rw [← hoe b hb, olk b q])⟩)
 have lr2 := Lg.extR (R := R) (c := c) Zlg hext2 (fun b hb q => by
  rw [← hlv] at q
  exact (rlk b q).elim (fun e => by omega) (fun e => e))
 have lw2 := Lg.extW (W := fun b => U b ∧ ((ow0 b).2 = 0 ∨ (ow0 b).2 = 2 + l)) (c := c) Zlg hext2 (fun b hb q => by
  rw [← hlv] at q
  exact ⟨(ulk b q).1, .inr (by rw [← hoe b hb, olk b q])⟩)
 have kB : ∀ b, b < c' → blkOf (ls l) ≠ some b → h2.get b = h'.get b := fun b hb hne => (hext2.h b (by show b < c' + 1; omega) (fun q => hne (by rw [hlv]; exact q))).trans (kA b hb)
 have hnb2 : Has h2 nb _ := (kB nb lnb (fun e => (ap1 nb e).2.2 rfl)).trans hnb
 have wnb : c ≤ nb ∨ (U nb ∧ ((ow0 nb).2 = 0 ∨ (ow0 nb).2 = 2 + l)) := .inr ⟨unb.1, .inl (by rw [← hoe nb unb.2, hn.o])⟩
 refine ⟨Zap, ?_⟩
 refine Zgo ?_
 refine Zq (to_indexAddrA (k := l) ar110 rfl rfl rfl hl) ?_
 ((with_reducible apply Wtr.so); rfl; exact (sz_ rfl); rfl; exact hnb2; omega; exact Zap; refine Znv ?_; refine ⟨_, _, (by (first | exact cellsA_agg _ | rfl)), rfl, node_set hl rfl, ?_⟩)
 refine Zgo ?_
 have hset := q.setLO hf' hru hm ⟨_, hk⟩ hfit hfi hn hid2 hl (V := fun _ => False) (h' := h2.set nb (some (.cells (nodeC vv ru.seq (fun i => if i = l then .slice o2 (remS v (Li u l)).length k2 else ls i))))) (v' := .slice o2 (remS v (Li u l)).length k2) (xs' := remS v (Li u l)) Has.same (hlk2.keep fun b hb => get_other (by have := (ap1 b (by rw [hlv]; exact hv2 b hb)).2.2; exact this)) (fun b hb => hb.elim) (fun b hb => .inr (by rw [hlv]; exact hv2 b hb)) (fun b _ hb hne hne2 => (get_other hne).trans (kB b hb hne2)) (remS_up (q.up u l)) (fun y hy => q.mem u l y (remS_mem.1 hy).1)
 refine RoundE.goF (2 - (i + 1)) K82 [(0, _), (3, _), (19, _), (20, _), (21, .int .i64 (z + 1))] (by omega) ⟨_, i + 1, z + 1, _, _, _, _, rfl, by omega, rfl, by omega, Zfr, Zkp, ?_, ?_, Zlg, Zlg, by omega, rfl⟩
 ·refine Has.other (fun e => ?_) ((kB c (by omega) fun e => ?_).trans hB)
  ·have := unb.2; omega
  ·have := (ulk c e).2; omega
 ·rw [hstep]
  exact ⟨_, hset.wide (Fresh.put (by omega) fr2) (fun b hb => hb.elim (fun e => e) (fun e => e.elim)), fun b hb => by rw [if_neg (by omega)]; exact hoe b hb⟩
theorem part_spec {h : T AObj} {c : Nat} {rl wl : List Nat} (hf : Fresh h c) {p m dim : Nat} {mt : Int} {G : Gr} {U : Nat → Prop} (qm : GrM h p m mt dim G U) (hml : G.M.length ≤ 800) {a b : Int} {l : Nat} (hl : l < 5) (ha : ∃ r, getM a G.M = some r) (hb : ∃ r, getM b G.M = some r) (R : Nat → Prop) (hUR : ∀ b, U b → R b) :
  ∃ r s', FnTo (Cs smQ) eg 82 [.pointer (some ⟨p, 0, none⟩), .int .i64 a, .int .i64 b, .int .i64 (l : Int)] ⟨h, c, rl, wl⟩ r s' ∧ GrM s'.h p m mt dim ⟨G.M, partL l G.L a b⟩ (fun b => U b ∨ c ≤ b ∧ b < s'.c) ∧ Ext ⟨h, c, rl, wl⟩ s' R U := by
 obtain ⟨ow, q⟩ := qm
 obtain ⟨r, s', h1, ⟨ow', h2, _⟩, h3⟩ := part_specO (rl := rl) (wl := wl) hf q hml hl ha hb R hUR
 exact ⟨r, s', h1, ⟨ow', h2.wide h3.fresh fun b hb => .inl hb⟩, h3.mono (fun _ _ q => q) (fun _ _ q => q.1)⟩
end Go.Ab.Seat
end
