import Derived.Test.YtofikbfljjjgeaaGreatDoorDJC
set_option linter.unusedVariables false
set_option linter.unusedSimpArgs false
section
/- A member's links ranked, pruned (the abstract machine). -/
namespace Go.Ab.Seat
open Go.Extern Go.Proofs
set_option maxRecDepth 4000
theorem HL.of {h : T AObj} {c b n : Nat} {l : List Ht} (hB : Has h b (.cells (flatH l))) (hc : c ≤ b) (hl : l.length = n) (hn : n ≠ 0) : HL h c (.slice (some ⟨b, 0, some 2⟩) n n) l := by
 subst hl
 exact .inr ⟨b, rfl, fun e => hn (by rw [e]; rfl), hc, hB⟩
def K145 : List Nat := [0, 1, 2, 6, 7, 9, 10, 11, 12, 13]
set_option maxHeartbeats 8000000 in
theorem ranked_spec {h : T AObj} {c : Nat} {rl wl : List Nat} (hf : Fresh h c) {p m dim : Nat} {mt : Int} {G : Gr} {U : Nat → Prop} (qm : GrM h p m mt dim G U) (hmt : mt = 1 ∨ mt = 2) (hd : dim ≤ 1000) {id : Int} (hid : ∃ r, getM id G.M = some r) {oa : Option Addr} {cap : Nat} {l : List Int} (hx : Row h (.slice oa l.length cap) l.length 1 (l.map (Value.int .i64))) (hl : ∀ x ∈ l, ∃ r, getM x G.M = some r) (hn : l.length ≤ 800) (R : Nat → Prop) (hUR : ∀ b, U b → R b) (hR : ∀ b, blkOf (.slice oa l.length cap) = some b → R b) :
  ∃ r s', FnTo (Cs smQ) eg 145 [.pointer (some ⟨p, 0, none⟩), .int .i64 id, .slice oa l.length cap] ⟨h, c, rl, wl⟩ r s' ∧ IRow s'.h c r (rankG mt G.M id l) ∧ Ext ⟨h, c, rl, wl⟩ s' R (fun _ => False) := by
 have hbg : big = 1048576 := rfl
 obtain ⟨ow, q⟩ := qm
 obtain ⟨r0, hr0⟩ := hid
 have hp := q.ptr
 obtain ⟨lp, lm⟩ := q.lt hf
 have hpR := hUR p q.pU
 have hmR := hUR m q.mU
 obtain ⟨es, n, vi, nb, vv, ls, hm, ⟨ids, hk⟩, hfit, hfi, hn0, hid0⟩ := q.at hr0
 obtain ⟨hzs, hzl, hzb, _, _⟩ := q.zs hr0
 have hnb := hn0.at_
 unfold nodeC at hnb
 have lnb := hnb.lt hf
 have rnb := hUR nb hn0.u
 have hown := hn0.own
 have hov := hn0.ov
 obtain ⟨va, vk, rfl⟩ := hown.val
 rw [hzs] at hown
 have hvr := hown.row (by rw [List.length_map]; exact hzl)
 have hhl : (l.map (hitG mt G.M (zsM G.M id))).length = l.length := List.length_map _
 refine Fn.go (stdQ 145 rfl) ex145 fn145 km145 rfl rfl ?_
 refine Zev ?_
 refine Zgo ?_
 refine Wx.loopF (fun k1 e s => ∃ (g : Nat → Value) (i : Nat) (z : Int) (lv : Value) (h' : T AObj) (c' : Nat) (rl' wl' : List Nat), e = fr g [(0, .pointer (some ⟨p, 0, none⟩)), (1, .int .i64 id), (7, lv), (10, .slice oa l.length cap), (11, .int .i64 (l.length : Int)), (12, .int .i64 z)] K145 ∧ z = i ∧ s = ⟨h', c', rl', wl'⟩ ∧ c ≤ c' ∧ Fresh h' c' ∧ Kp h h' c (fun _ => False) ∧ HL h' c lv ((l.map (hitG mt G.M (zsM G.M id))).take i) ∧ Lg c R rl' ∧ Lg c (fun _ => False) wl' ∧ i ≤ l.length ∧ k1 = l.length - i) l.length K145 [(0, _), (1, _), (7, .slice none 0 0), (10, _), (11, _), (12, .int .i64 0)] ⟨_, 0, 0, _, _, _, _, _, rfl, rfl, rfl, Nat.le_refl _, Zfr, Zkp, .inl ⟨rfl, rfl⟩, Zlg, Zlg, by omega, rfl⟩ ?_
 rintro k1 e s ⟨g, i, z, lv, h', c', rl', wl', rfl, hz, rfl, hcc, hf', hkp, hL, hlr, hlw, hid, rfl⟩
 (refine Wx.sw (by simp only [K145, frN, frC, updN, updC, Nat.reduceEqDiff, ↓reduceIte]; rfl) ?_)
 by_cases hi : i < l.length
 rotate_left
 ·obtain rfl : i = l.length := by omega
  rw [List.take_of_length_le (by omega)] at hL
  obtain ⟨ol, hlv, hrow, hlb⟩ := hL.val
  subst hlv
  refine Zgo ?_
  refine Wseq.call rfl rfl (of_spec stdQ (rfl : smQ 200 = some gIns) Zfr hrow (kk := l.length) (by rw [hhl]; omega) (by omega) (by rw [hhl]; omega) (fun b => c ≤ b ∨ R b) (fun b hb => .inl (hlb b hb))) ?_
  rintro v1 h1 c1 r1 w1 ⟨⟨y1, y2⟩, hext1⟩
  have fr1 := hext1.fresh
  have le1 := hext1.c
  simp only at fr1 le1
  have kp1 := Kp.ext (W := fun _ => False) (h := h) (c := c) Zkp hext1 (by omega) (fun _ _ q => q)
  have lr1 := Lg.extR (R := R) (c := c) Zlg hext1 (fun b hb q => q.elim (fun q => by omega) (fun q => q))
  have lw1 := Lg.extW (W := fun _ => False) (c := c) Zlg hext1 (fun _ _ q => q)
  obtain ⟨oh, ch, rfl, hch, hrow1⟩ := y1.row
  have hbl := bestOf_len l.length (l.map (hitG mt G.M (zsM G.M id)))
  refine Zgo ?_
  refine Wseq.call rfl rfl (gids_spec Zfr hrow1 (by omega) (fun b => c ≤ b) (fun b hb => by have := y2 b hb; show c ≤ b; omega)) ?_
  rintro v2 h2 c2 r2 w2 ⟨hI, hext2⟩
  have fr2 := hext2.fresh
  have le2 := hext2.c
  simp only at fr2 le2
  have kp2 := Kp.ext (W := fun _ => False) (h := h) (c := c) kp1 hext2 (by omega) (fun _ _ q => q)
  have lr2 := Lg.extR (R := R) (c := c) Zlg hext2 (fun b hb q => by omega)
  have lw2 := Lg.extW (W := fun _ => False) (c := c) Zlg hext2 (fun _ _ q => q)
  refine Zgo ?_
  exact ⟨.inr rfl, Wres.one rfl ⟨hI.low (by omega), Zex⟩⟩
 obtain ⟨rx, hrx⟩ := hl _ (List.getElem_mem hi)
 obtain ⟨b1, o1, sp1, cs1, rfl, hc1, hn1⟩ := rowCell (Row.keepF hx hf (fun b hb => hkp b hb (fun q => q))) (j := i * 1) (by omega) (int_nth (List.getElem?_eq_getElem hi))
 have hR1 := hR b1 rfl
 have l1 := hc1.lt hf'
 have kA : ∀ b, b < c → h'.get b = h.get b := fun b hb => hkp b hb (fun q => q)
 have q' := q.keep hf (fun b _ hb => kA b hb)
 have hp' := q'.ptr
 have hm' : Has h' m _ := (kA m lm).trans hm
 have hnb' : Has h' nb _ := (kA nb lnb).trans hnb
 have hlen : ((l.map (hitG mt G.M (zsM G.M id))).take i).length = i := by rw [List.length_take, hhl]; omega
 have hstep : (l.map (hitG mt G.M (zsM G.M id))).take (i + 1) = (l.map (hitG mt G.M (zsM G.M id))).take i ++ [hitG mt G.M (zsM G.M id) l[i]] := by rw [List.take_succ_eq_append_getElem (by omega), List.getElem_map]
 refine Zgo ?_
 refine Zu (to_indexAddr (k := i) el45 rfl rfl hz (by omega)) ?_
 refine Zu (to_load (pl_ rfl) rfl hc1 (by omega) hn1) ?_
 refine Zgo ?_
 refine Zu (to_lookup (mi_ rfl) (ze_ rfl) rfl rfl hm' (by omega) hk.ks (by rw [hfi])) ?_
 refine Zgo ?_
 refine Wseq.call rfl rfl (ghit_spec Zfr ⟨ow, q'⟩ hmt (Row.keepF hvr hf kA) hzl hzb hd hrx R hUR (fun b hb => hUR b (hov b hb).1)) ?_
 rintro v2 h2 c2 r2 w2 ⟨rfl, hext2⟩
 have fr2 := hext2.fresh
 have le2 := hext2.c
 simp only at fr2 le2
 have kp2 := Kp.ext (W := fun _ => False) (h := h) (c := c) Zkp hext2 (by omega) (fun _ _ q => q)
 have lr2 := Lg.extR (R := R) (c := c) Zlg hext2 (fun _ _ q => q)
 have lw2 := Lg.extW (W := fun _ => False) (c := c) Zlg hext2 (fun _ _ q => q)
 have hfl : flatH ((l.map (hitG mt G.M (zsM G.M id))).take (i + 1)) = flatH ((l.map (hitG mt G.M (zsM G.M id))).take i) ++ (hitG mt G.M (zsM G.M id) l[i]).cells := by rw [hstep, flatH_app]; unfold flatH; simp
 refine Zgo ?_
 rcases hL with ⟨rfl, e0⟩ | ⟨bl, rfl, hne, hbl, hB⟩
 ·refine Zu (to_appNil ro37 sl37 rfl rfl (k := 0) Has.same.cel (by omega) (subN_all _ _ rfl) (by omega) Zfr) ?_
  refine Zgo ?_
  have hi0 : i = 0 := by rw [e0] at hlen; exact hlen.symm
  refine RoundE.goF (l.length - (i + 1)) K145 [(0, _), (1, _), (7, _), (10, _), (11, _), (12, .int .i64 (z + 1))] (by omega) ⟨_, i + 1, z + 1, _, _, _, _, _, rfl, by omega, rfl, by omega, Zfr, Zkp, .of (by rw [hfl, e0]; exact Has.same) (by omega) (by rw [hstep, e0]; rfl) (n := 1) (by decide), Zlg, Zlg, by omega, rfl⟩
 ·have lb := hB.lt hf'
  have hB2 : Has h2 bl _ := hext2.hs hB (by omega) (fun q => q)
  refine Zu (to_appOwn ro37 sl37 rfl rfl (k := 0) Has.same.cel (by omega) (subN_all _ _ rfl) (by omega) (by omega) (hB2.other (by omega)) (by omega) (subN_all _ _ (flatH_len _).symm) (all_cons rfl (all_cons rfl all_nil)) Zfr) ?_
  refine Zgo ?_
  refine RoundE.goF (l.length - (i + 1)) K145 [(0, _), (1, _), (7, _), (10, _), (11, _), (12, .int .i64 (z + 1))] (by omega) ⟨_, i + 1, z + 1, _, _, _, _, _, rfl, by omega, rfl, by omega, Zfr, Zkp, .of (by rw [hfl]; exact Has.same) (by omega) (by rw [hstep, List.length_append]; rfl) (Nat.succ_ne_zero _), Zlg, Zlg, by omega, rfl⟩
theorem rankG_mem {mt : Int} {M : List Rc} {id x : Int} {l : List Int} (h : x ∈ rankG mt M id l) : x ∈ l := by
 unfold rankG at h
 obtain ⟨y, hy, rfl⟩ := List.mem_map.1 h
 have : ∀ (k : Nat) (l a : List Ht), y ∈ l.foldl (putB k) a → y ∈ a ∨ y ∈ l := by
  intro k l
  induction l with
  | nil => intro a h; exact .inl h
  | cons z l ih =>
   intro a h
   rcases ih _ h with h | h
   ·rcases mem_putB h with rfl | h
    ·exact .inr (List.mem_cons_self ..)
    ·exact .inl h
   ·exact .inr (List.mem_cons_of_mem _ h)
 rcases this _ _ _ hy with h | h
 ·cases h
 ·obtain ⟨z, hz, rfl⟩ := List.mem_map.1 h
  exact hz
theorem rankG_len (mt : Int) (M : List Rc) (id : Int) (l : List Int) : (rankG mt M id l).length ≤ l.length := by
 unfold rankG
 rw [List.length_map]
 have := bestOf_len l.length (l.map (hitG mt M (zsM M id)))
 rw [List.length_map] at this
 exact this
theorem most_spec {h : T AObj} {c : Nat} {rl wl : List Nat} (hf : Fresh h c) (l : Nat) : ∃ r s', FnTo (Cs smQ) eg 146 [.int .i64 (l : Int)] ⟨h, c, rl, wl⟩ r s' ∧ (r = .int .i64 (mostG l : Int) ∧ s' = ⟨h, c, rl, wl⟩) := by
 refine Fn.go (stdQ 146 rfl) ex146 fn146 km146 rfl rfl ?_
 refine Zev ?_
 unfold mostG
 by_cases hl : l = 0
 ·refine Zgo ?_
  exact ⟨.inr rfl, Wres.one rfl ⟨by rw [if_pos hl]; rfl, rfl⟩⟩
 ·refine Zgo ?_
  exact ⟨.inr rfl, Wres.one rfl ⟨by rw [if_neg hl]; rfl, rfl⟩⟩
end Go.Ab.Seat
end
section
/- A member keeps its best links (the abstract machine). -/
namespace Go.Ab.Seat
open Go.Extern Go.Proofs
set_option maxRecDepth 4000
def cutV (k : Nat) : Value → Value
 | .slice (some ⟨b, o, sp⟩) n cap => .slice (some ⟨b, o + k * 1, sp⟩) (n - k) (cap - k)
 | v => v
theorem to_cutI {h0 : T AObj} {c : Nat} {e : Env} {s : St} {d : Option Nat} {ty : TypeId} {ps : String} {af : Array Edge} {g : Option (Nat × Bool)} {x lo : Operand} {v : Value} {l : List Int} {k : Nat} {z : Int} (hI : IRow h0 c v l) (hx : evalA e x = v) (hl : evalA e lo = .int .i64 z) (hz : z = (k : Int)) (hk : k ≤ l.length) :
  OpTo (Cs smQ) eg e ⟨d, .slice 45 x (some lo) none none, ty, ps, af, g⟩ s (cutV k v) s := by
 rcases hI with ⟨rfl, rfl⟩ | ⟨b, rfl, hne, hc, hB⟩
 ·have : k = 0 := by simpa using hk
  subst this
  exact to_sliceLoNil el45 hx hl hz
 ·exact to_sliceOwn el45 hx hl hz hk (Nat.le_refl _)
theorem cut_row {h : T AObj} {c : Nat} {v : Value} {l : List Int} {k : Nat} (hI : IRow h c v l) (hk : k ≤ l.length) : ∃ od cd, cutV k v = .slice od (l.drop k).length cd ∧ Row h (.slice od (l.drop k).length cd) (l.drop k).length 1 ((l.drop k).map (Value.int .i64)) ∧ ∀ b, blkOf (.slice od (l.drop k).length cd) = some b → blkOf v = some b := by
 rcases hI with ⟨rfl, rfl⟩ | ⟨b, rfl, hne, hc, hB⟩
 ·refine ⟨none, 0, ?_, ?_, fun b hb => hb⟩
  ·rw [List.drop_nil]; rfl
  ·rw [List.drop_nil]; exact .inl ⟨rfl, rfl, _, _, rfl⟩
 ·refine ⟨some ⟨b, 0 + k * 1, some 1⟩, l.length - k, ?_, ?_, fun b hb => hb⟩
  ·rw [List.length_drop]; rfl
  ·refine .inr ⟨b, 0 + k * 1, _, _, _, rfl, hB.cel, ?_⟩
   have e : subN 0 (k + (l.length - k)) (l.map (Value.int .i64)) = some ((l.take k).map (Value.int .i64) ++ (l.drop k).map (Value.int .i64)) := by
    rw [← List.map_append, List.take_append_drop]
    exact subN_all _ _ (by rw [List.length_map]; omega)
   rw [List.length_drop, Nat.mul_one, Nat.mul_one]
   exact (subN_app e (by rw [List.length_map, List.length_take]; omega)).2
def K76 : List Nat := [0, 1, 2, 6, 8, 29, 30, 31, 32]
set_option maxHeartbeats 8000000 in
theorem prune_spec {h : T AObj} {c : Nat} {rl wl : List Nat} (hf : Fresh h c) {p m dim : Nat} {mt : Int} {G : Gr} {U : Nat → Prop} (qm : GrM h p m mt dim G U) (hmt : mt = 1 ∨ mt = 2) (hd : dim ≤ 1000) (hml : G.M.length ≤ 800) {id : Int} {l : Nat} (hl : l < 5) (hid : ∃ r, getM id G.M = some r) (R : Nat → Prop) (hUR : ∀ b, U b → R b) :
  ∃ r s', FnTo (Cs smQ) eg 76 [.pointer (some ⟨p, 0, none⟩), .int .i64 id, .int .i64 (l : Int)] ⟨h, c, rl, wl⟩ r s' ∧ GrM s'.h p m mt dim ⟨G.M, pruneL mt G.M l G.L id⟩ (fun b => U b ∨ c ≤ b ∧ b < s'.c) ∧ Ext ⟨h, c, rl, wl⟩ s' R U := by
 have hbg : big = 1048576 := rfl
 have qm0 := qm
 obtain ⟨ow, q⟩ := qm
 obtain ⟨r0, hr0⟩ := hid
 have hp := q.ptr
 obtain ⟨lp, lm⟩ := q.lt hf
 have hpR := hUR p q.pU
 have hmR := hUR m q.mU
 obtain ⟨es, n, vi, nb, vv, ls, hm, ⟨ids, hk⟩, hfit, hfi, hn0, hid0⟩ := q.at hr0
 have hnb := hn0.at_
 have lnb := hnb.lt hf
 have rnb := hUR nb hn0.u
 have hlk := hn0.lk l hl
 rw [hid0] at hlk
 have ulk := fun b hb => (hn0.ol l hl b hb).1
 have hlen := q.len id l
 obtain ⟨ol, cl, hlv⟩ := hlk.val
 rw [hlv] at hlk ulk
 refine Fn.go (stdQ 76 rfl) ex76 fn76 km76 rfl rfl ?_
 refine Zev ?_
 refine Zgo ?_
 refine Zu (to_lookup (mi_ rfl) (ze_ rfl) rfl rfl hm lm hk.ks (by rw [hfi])) ?_
 refine Zgo ?_
 refine Zu (to_indexAddrA (k := l) ar110 rfl rfl rfl hl) ?_
 refine Zu (to_load (pl_ rfl) rfl hnb.cel lnb (node_nth hl)) ?_
 rw [hlv]
 refine Wseq.call rfl rfl (ranked_spec Zfr qm0 hmt hd ⟨r0, hr0⟩ hlk.row (q.mem id l) (by omega) R hUR (fun b hb => hUR b (ulk b hb))) ?_
 rintro v1 h1 c1 r1 w1 ⟨hI, hext1⟩
 have fr1 := hext1.fresh
 have le1 := hext1.c
 simp only at fr1 le1
 have kp1 := Kp.ext (W := U) (h := h) (c := c) Zkp hext1 (by omega) (fun _ _ q => q.elim)
 have lr1 := Lg.extR (R := R) (c := c) Zlg hext1 (fun _ _ q => q)
 have lw1 := Lg.extW (W := U) (c := c) Zlg hext1 (fun _ _ q => q.elim)
 have kF : ∀ b, b < c → h1.get b = h.get b := fun b hb => hext1.h b hb (fun q => q)
 have hrm : ∀ x ∈ rankG mt G.M id (G.L id l), ∃ r, getM x G.M = some r := fun x hx => q.mem id l x (rankG_mem hx)
 have hrn := rankG_len mt G.M id (G.L id l)
 unfold pruneL
 generalize hrk : rankG mt G.M id (G.L id l) = rk at hI hrm hrn
 obtain ⟨oi, rfl, hir, hib⟩ := hI.val
 have hkk : min rk.length (mostG l) ≤ rk.length := Nat.min_le_left _ _
 obtain ⟨od, cd, hcv, hrow, hcb⟩ := cut_row hI hkk
 have hdr : rk.drop (min rk.length (mostG l)) = rk.drop (mostG l) := by
  rcases Nat.le_total rk.length (mostG l) with h | h
  ·rw [Nat.min_eq_left h, List.drop_of_length_le (by omega), List.drop_of_length_le h]
  ·rw [Nat.min_eq_right h]
 rw [hdr] at hcv hrow hcb
 have hrdl : (rk.drop (mostG l)).length ≤ 800 := by rw [List.length_drop]; omega
 refine Zgo ?_
 refine Wseq.call rfl rfl (most_spec Zfr l) ?_
 rintro v2 h2 c2 r2 w2 ⟨rfl, e2⟩
 cases e2
 refine Zgo ?_
 refine Zu (to_cutI (k := min rk.length (mostG l)) hI rfl rfl (by omega) hkk) ?_
 rw [hcv]
 generalize hrd : rk.drop (mostG l) = rd at hrow hcb hrdl
 have hrdm : ∀ x ∈ rd, ∃ r, getM x G.M = some r := fun x hx => hrm x (List.mem_of_mem_drop (by rw [hrd]; exact hx))
 have hob : ∀ b, blkOf (.slice od rd.length cd) = some b → c ≤ b ∧ b < c1 := fun b hb => ⟨hib b (hcb b hb), hI.lt fr1 b (hcb b hb)⟩
 refine Zgo ?_
 refine Wx.loopF (fun k1 e s => ∃ (g : Nat → Value) (i : Nat) (z : Int) (h' : T AObj) (c' : Nat) (rl' wl' : List Nat), e = fr g [(0, .pointer (some ⟨p, 0, none⟩)), (1, .int .i64 id), (2, .int .i64 (l : Int)), (29, .slice od rd.length cd), (30, .int .i64 (rd.length : Int)), (31, .int .i64 z)] K76 ∧ z = i ∧ s = ⟨h', c', rl', wl'⟩ ∧ c1 ≤ c' ∧ Fresh h' c' ∧ Kp h h' c U ∧ Row h' (.slice od rd.length cd) rd.length 1 (rd.map (Value.int .i64)) ∧ GrM h' p m mt dim ⟨G.M, (rd.take i).foldl (fun L x => partL l L id x) G.L⟩ (fun b => (U b ∧ b < c) ∨ c1 ≤ b ∧ b < c') ∧ Lg c R rl' ∧ Lg c U wl' ∧ i ≤ rd.length ∧ k1 = rd.length - i) rd.length K76 [(0, _), (1, _), (2, _), (29, _), (30, _), (31, .int .i64 0)] ⟨_, 0, 0, _, _, _, _, rfl, rfl, rfl, Nat.le_refl _, Zfr, Zkp, hrow, ((qm0.low hf).wide hf (fun b hb => .inl hb)).keep hf (fun b hb hc => kF b hc), Zlg, Zlg, by omega, rfl⟩ ?_
 rintro k1 e s ⟨g, i, z, h', c', rl', wl', rfl, hz, rfl, hcc, hf', hkp, hRw, qm', hlr, hlw, hid, rfl⟩
 (refine Wx.sw (by simp only [K76, frN, frC, updN, updC, Nat.reduceEqDiff, ↓reduceIte]; rfl) ?_)
 by_cases hi : i < rd.length
 rotate_left
 ·refine Zgo ?_
  obtain rfl : i = rd.length := by omega
  rw [List.take_length] at qm'
  exact ⟨.inl rfl, Wres.nil ⟨qm'.wide hf' (fun b hb => hb.imp (fun q => q.1) (fun q => ⟨by omega, q.2⟩)), Zex⟩⟩
 obtain ⟨b1, o1, sp1, cs1, rfl, hc1, hn1⟩ := rowCell hRw (j := i * 1) (by omega) (int_nth (List.getElem?_eq_getElem hi))
 obtain ⟨hb1, hb2⟩ := hob b1 rfl
 have l1 := hc1.lt hf'
 have hst := foldl_take (fun L x => partL l L id x) G.L hi
 generalize hLi : (rd.take i).foldl (fun L x => partL l L id x) G.L = Li at qm' hst
 refine Zgo ?_
 refine Zu (to_indexAddr (k := i) el45 rfl rfl hz (by omega)) ?_
 refine Zu (to_load (pl_ rfl) rfl hc1 (by omega) hn1) ?_
 refine Zgo ?_
 refine Wseq.call rfl rfl (part_spec Zfr qm' hml hl ⟨r0, hr0⟩ (hrdm _ (List.getElem_mem hi)) (fun b => c ≤ b ∨ R b) (fun b hb => hb.elim (fun q => .inr (hUR b q.1)) (fun q => .inl (by omega)))) ?_
 rintro v3 h3 c3 r3 w3 ⟨q3, hext3⟩
 have fr3 := hext3.fresh
 have le3 := hext3.c
 simp only at fr3 le3 q3
 have kp3 := Kp.ext (W := U) (h := h) (c := c) Zkp hext3 (by omega) (fun b hb q => q.elim (fun q => q.1) (fun q => by omega))
 have lr3 := Lg.extR (R := R) (c := c) Zlg hext3 (fun b hb q => q.elim (fun q => by omega) (fun q => q))
 have lw3 := Lg.extW (W := U) (c := c) Zlg hext3 (fun b hb q => q.elim (fun q => q.1) (fun q => by omega))
 have hRw3 : Row h3 (.slice (some ⟨b1, o1, sp1⟩) rd.length cd) rd.length 1 (rd.map (Value.int .i64)) := by
  rcases hRw with ⟨e0, _⟩ | ⟨b', o', sp', cap', cs', e1, e2, e3⟩
  ·omega
  ·simp only [Value.slice.injEq, Option.some.injEq, Addr.mk.injEq] at e1
   obtain ⟨⟨rfl, rfl, rfl⟩, _, rfl⟩ := e1
   exact .inr ⟨b1, o1, sp1, _, cs', rfl, hext3.cl e2 (by omega) (fun q => by rcases q with q | q <;> omega), e3⟩
 refine Zgo ?_
 refine RoundE.goF (rd.length - (i + 1)) K76 [(0, _), (1, _), (2, _), (29, _), (30, _), (31, .int .i64 (z + 1))] (by omega) ⟨_, i + 1, z + 1, _, _, _, _, rfl, by omega, rfl, by omega, fr3, kp3, hRw3, ?_, lr3, lw3, by omega, rfl⟩
 rw [hst]
 exact q3.wide fr3 (fun b hb => hb.elim (fun e => e.imp (fun e => e) (fun e => ⟨e.1, by omega⟩)) (fun e => .inr ⟨by omega, e.2⟩))
end Go.Ab.Seat
end
