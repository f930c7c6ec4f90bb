/- An index of codes: a search (the abstract machine). -/
import Derived.Test.YtofikbfljjjgeaaGreatDoorDY8
set_option linter.unusedVariables false
set_option linter.unusedSimpArgs false
namespace Go.Ab.Seat
open Go.Extern Go.Proofs
set_option maxRecDepth 4000
def hitK (mt : Int) (qs lo st : List Int) (r : Rc) : Ht := ⟨r.id, scoreZ mt qs (backZ lo st (codeZ lo st (intsV r.xs)))⟩
def candK (mt : Int) (qs lo st : List Int) (kk : Nat) (M : List Rc) : List Ht := bestOf (2 * min kk M.length + 4) (M.map (hitK mt qs lo st))
noncomputable def trueK (mt : Int) (qs : List Int) (M : List Rc) (x : Ht) : Ht := ⟨x.id, scoreZ mt qs (intsV ((getM x.id M).elim [] Rc.xs))⟩
noncomputable def hitsK (mt : Int) (qs lo st : List Int) (kk : Nat) (M : List Rc) : List Ht := bestOf kk ((candK mt qs lo st kk M).map (trueK mt qs M))
theorem flatH_set : ∀ (l : List Ht) (i : Nat) (y : Ht), i < l.length → (l[i]?.elim 0 Ht.id) = y.id → flatH (l.set i y) = (flatH l).set (i * 2 + 1) (.int .i64 y.sc)
 | [], i, _, h, _ => by simp at h
 | x :: l, 0, y, _, h => by
  have h : x.id = y.id := h
  show (Value.int .i64 y.id) :: _ :: _ = _
  rw [← h]; rfl
 | x :: l, i + 1, y, h, h2 => by
  have e := flatH_set l i y (by simpa using h) (by simpa using h2)
  show Value.int .i64 x.id :: .int .i64 x.sc :: flatH (l.set i y) = _
  rw [e, show (i + 1) * 2 + 1 = i * 2 + 1 + 2 by omega]; rfl
theorem setSc {l : List Ht} {i : Nat} {cs : List Value} {y : Ht} (hs : subN 0 (l.length * 2) cs = some (flatH l)) (hi : i < l.length) (hy : (l[i]?.elim 0 Ht.id) = y.id) : ∃ cs', setMany [.int .i64 y.sc] cs (0 + i * 2 + 1) = some cs' ∧ subN 0 ((l.set i y).length * 2) cs' = some (flatH (l.set i y)) := by
 obtain ⟨h1, h2, _⟩ := subN_some _ _ _ _ hs
 rw [subN_eq 0 _ cs h2] at hs
 have hs := Option.some.inj hs
 rw [List.drop_zero] at hs
 refine ⟨_, setMany_eq _ _ _ (by show _ + 1 ≤ _; omega) (all_cons rfl all_nil), ?_⟩
 rw [show cs.take (0 + i * 2 + 1) ++ [.int .i64 y.sc] ++ cs.drop (0 + i * 2 + 1 + [Value.int .i64 y.sc].length) = cs.set (i * 2 + 1) (.int .i64 y.sc) by
  rw [List.set_eq_take_append_cons_drop, if_pos (by omega), Nat.zero_add, List.append_assoc]; rfl]
 rw [List.length_set, subN_eq _ _ _ (by rw [List.length_set]; omega), List.drop_zero, List.take_set, hs, flatH_set l i y hi hy]
theorem idSc {l : List Ht} {i : Nat} {cs : List Value} {x : Ht} (hs : subN 0 (l.length * 2) cs = some (flatH l)) (hx : l[i]? = some x) : nth cs (0 + i * 2 + 0) = some (.int .i64 x.id) := by
 have h := sub_hit hs hx
 obtain ⟨h1, h2, _⟩ := subN_some _ _ _ _ h
 rw [subN_eq _ _ cs h2] at h
 have h := congrArg (fun l => l[0]?) (Option.some.inj h)
 rw [nth_eq]
 simpa [List.getElem?_take, List.getElem?_drop] using h
def mixT (f : Ht → Ht) (l : List Ht) (i : Nat) : List Ht := (l.take i).map f ++ l.drop i
theorem mixT_len (f : Ht → Ht) (l : List Ht) (i : Nat) : (mixT f l i).length = l.length := by
 unfold mixT; rw [List.length_append, List.length_map, List.length_take, List.length_drop]; omega
theorem mixT_at {f : Ht → Ht} {l : List Ht} {i : Nat} (hi : i < l.length) : (mixT f l i)[i]? = some l[i] := by
 unfold mixT
 rw [List.getElem?_append_right (by rw [List.length_map, List.length_take]; omega), List.length_map, List.length_take, List.getElem?_drop, show i + (i - min i l.length) = i by omega, List.getElem?_eq_getElem hi]
theorem mixT_step {f : Ht → Ht} {l : List Ht} {i : Nat} (hi : i < l.length) : (mixT f l i).set i (f l[i]) = mixT f l (i + 1) := by
 unfold mixT
 have hl : ((l.take i).map f).length = i := by rw [List.length_map, List.length_take]; omega
 rw [List.set_append, if_neg (by omega), hl, Nat.sub_self, List.drop_eq_getElem_cons hi, List.take_succ_eq_append_getElem hi, List.map_append, List.append_assoc]
 rfl
theorem mixT_all (f : Ht → Ht) (l : List Ht) : mixT f l l.length = l.map f := by
 unfold mixT; rw [List.take_length, List.drop_length, List.append_nil]
theorem codeZ_len (lo st zs : List Int) : (codeZ lo st zs).length = zs.length := by unfold codeZ; rw [List.length_map, List.length_range]
theorem backZ_len (lo st co : List Int) : (backZ lo st co).length = co.length := by unfold backZ; rw [List.length_map, List.length_range]
theorem codeZ_rng (lo st zs : List Int) (i : Nat) : 0 ≤ (codeZ lo st zs).getD i 0 ∧ (codeZ lo st zs).getD i 0 ≤ 255 := by
 unfold codeZ
 rw [rangeD]
 split
 ·exact codeI_rng lo st zs i
 ·omega
theorem backZ_bnd (lo st co : List Int) : Bnd (backZ lo st co) := fun i => by
 unfold backZ
 rw [rangeD]
 split
 ·unfold backI; omega
 ·omega
theorem putB_mem {k : Nat} {p : List Ht} {x y : Ht} (h : y ∈ putB k p x) : y ∈ p ∨ y = x := by
 unfold putB at h
 split at h
 ·exact .inl h
 ·split at h
  ·exact .inl h
  ·have h := List.mem_of_mem_take h
   rcases List.mem_append.1 h with h | h
   ·exact .inl (List.mem_of_mem_take h)
   ·rcases List.mem_cons.1 h with h | h
    ·exact .inr h
    ·exact .inl (List.mem_of_mem_drop h)
theorem bestOf_mem {k : Nat} : ∀ {l : List Ht} {y : Ht} (m : Nat), m ≤ l.length → y ∈ bestOf k (l.take m) → y ∈ l.take m
 | l, y, 0, _, h => by simp [bestOf] at h
 | l, y, m + 1, hm, h => by
  rw [bestOf_take (by omega)] at h
  rw [List.take_succ_eq_append_getElem (by omega)]
  rcases putB_mem h with h | h
  ·exact List.mem_append_left _ (bestOf_mem m (by omega) h)
  ·exact List.mem_append_right _ (List.mem_singleton.2 h)
theorem candK_mem {mt : Int} {qs lo st : List Int} {kk : Nat} {M : List Rc} {x : Ht} (h : x ∈ candK mt qs lo st kk M) : ∃ r ∈ M, x.id = r.id := by
 unfold candK at h
 rw [← List.take_length (l := M.map _)] at h
 have h := bestOf_mem _ (Nat.le_refl _) h
 rw [List.take_length] at h
 obtain ⟨r, h1, rfl⟩ := List.mem_map.1 h
 exact ⟨r, h1, rfl⟩
theorem candK_len {mt : Int} {qs lo st : List Int} {kk : Nat} {M : List Rc} : (candK mt qs lo st kk M).length ≤ M.length := by
 have := bestOf_len (2 * min kk M.length + 4) (M.map (hitK mt qs lo st))
 rwa [List.length_map] at this
def K31 : List Nat := [0, 1, 2, 6, 7, 9, 10, 16, 18, 19, 20, 21, 57, 58, 59]
set_option maxHeartbeats 16000000 in
theorem csearch_spec {h : T AObj} {c : Nat} {rl wl : List Nat} (hf : Fresh h c) {p m dim : Nat} {vl vs : Value} {mt : Int} {lo st : List Int} {M : List Rc} {U : Nat → Prop} (q : CodM h p m vl vs mt dim lo st M U) (hmt : mt = 1 ∨ mt = 2) {qa : Option Addr} {qc : Nat} {qs : List Int} (hq : Row h (.slice qa dim qc) dim 1 (qs.map (Value.int .i32))) (hqn : qs.length = dim) (hqb : Bnd qs) (hd : dim ≤ 8) (k : Int) {kk : Nat} (hk : max k 0 = (kk : Int)) (hkk : kk ≤ 400) (hn : M.length ≤ 400) (R : Nat → Prop) (hUR : ∀ b, U b → R b) (hqR : ∀ b, blkOf (.slice qa dim qc) = some b → R b) :
  ∃ r s', FnTo (Cs smQ) eg 31 [.pointer (some ⟨p, 0, none⟩), .slice qa dim qc, .int .i64 k] ⟨h, c, rl, wl⟩ r s' ∧ (Best s'.h r (hitsK mt qs lo st kk M).length (flatH (hitsK mt qs lo st kk M)) ∧ ∀ b, blkOf r = some b → c ≤ b) ∧ Ext ⟨h, c, rl, wl⟩ s' R (fun _ => False) := by
 have hp := q.ptr
 obtain ⟨lp, lm⟩ := q.lt hf
 have hpU := hUR p q.pU
 have hmU := hUR m q.mU
 have hbg : big = 1048576 := rfl
 refine Fn.go (stdQ 31 rfl) ex31 fn31 km31 rfl rfl ?_
 refine Zev ?_
 by_cases hk0 : k ≤ 0
 ·obtain rfl : kk = 0 := by omega
  have e0 : hitsK mt qs lo st 0 M = [] := by
   have := bestOf_good 0 ((candK mt qs lo st 0 M).map (trueK mt qs M)) _ (Nat.le_refl _)
   rw [List.take_length] at this
   exact List.length_eq_zero_iff.1 (by unfold hitsK; omega)
  rw [e0]
  refine Zgo ?_
  refine ⟨.inr rfl, Wres.one rfl ⟨⟨.inl ⟨rfl, rfl, rfl⟩, fun b hb => by cases hb⟩, ?_⟩⟩
  exact Zex
 refine Zgo ?_
 refine Wseq.call rfl rfl (cids_spec Zfr q (by omega)) ?_
 rintro v1 h1 c1 r1 w1 ⟨hids, hext⟩
 have kp := Kp.ext (W := fun _ => False) (h := h) (c := c) Zkp hext (by omega) (fun _ _ q => q)
 have lr := Lg.extR (R := R) (c := c) Zlg hext (fun b hb u => hUR b u)
 have lw := Lg.extW (W := fun _ => False) (c := c) Zlg hext (fun _ _ q => q)
 have fr1 := hext.fresh
 have le1 := hext.c
 simp only at le1 fr1
 obtain ⟨oi, ic, rfl⟩ := hids.val
 have hrow1 := hids.row (by rw [List.length_map, List.length_map])
 have hlen : ∀ i, i ≤ M.length → ((M.take i).map (hitK mt qs lo st)).length = i := fun i hi => by rw [List.length_map, List.length_take]; omega
 refine Zgo ?_
 refine Wx.cutO (fun e s => ∃ (g : Nat → Value) (lv : Value) (h' : T AObj) (c' : Nat) (rl' wl' : List Nat), e = fr g [(0, .pointer (some ⟨p, 0, none⟩)), (1, .slice qa dim qc), (2, .int .i64 k), (7, lv)] K31 ∧ s = ⟨h', c', rl', wl'⟩ ∧ c1 ≤ c' ∧ Fresh h' c' ∧ Kp h h' c (fun _ => False) ∧ HL h' c1 lv (M.map (hitK mt qs lo st)) ∧ Lg c R rl' ∧ Lg c (fun _ => False) wl') Zrs ?_ ?_
 ·refine Wx.loopF (fun k1 e s => ∃ (g : Nat → Value) (i : Nat) (z : Int) (lv : Value) (h' : T AObj) (c' : Nat) (rl' wl' : List Nat), e = fr g [(0, .pointer (some ⟨p, 0, none⟩)), (1, .slice qa dim qc), (2, .int .i64 k), (7, lv), (18, .slice oi M.length ic), (19, .int .i64 (M.length : Int)), (20, .int .i64 z)] K31 ∧ z = i ∧ s = ⟨h', c', rl', wl'⟩ ∧ c1 ≤ c' ∧ Fresh h' c' ∧ Kp h1 h' c1 (fun _ => False) ∧ HL h' c1 lv ((M.take i).map (hitK mt qs lo st)) ∧ Lg c R rl' ∧ Lg c (fun _ => False) wl' ∧ i ≤ M.length ∧ k1 = M.length - i) M.length K31 [(0, _), (1, _), (2, _), (7, .slice none 0 0), (18, _), (19, _), (20, .int .i64 0)] ⟨_, 0, 0, _, _, _, _, _, rfl, rfl, rfl, Nat.le_refl _, fr1, Kp.refl, .inl ⟨rfl, rfl⟩, Zlg, Zlg, by omega, rfl⟩ ?_
  rintro k1 e s ⟨g, i, z, lv, h', c', rl', wl', rfl, hz, rfl, hcc, hf', hkp, hHL, hlr, hlw, hid, rfl⟩
  (refine Wx.sw (by simp only [K31, frN, frC, updN, updC, Nat.reduceEqDiff, ↓reduceIte]; rfl) ?_)
  by_cases hi : i < M.length
  rotate_left
  ·refine Zgo ?_
   obtain rfl : i = M.length := by omega
   rw [List.take_length] at hHL
   exact CutQ.goF K31 [(0, _), (1, _), (2, _), (7, _)] ⟨_, _, _, _, _, _, rfl, rfl, hcc, hf', (fun b hb _ => (hkp b (by omega) (fun q => q)).trans (kp b hb (fun q => q))), hHL, hlr, hlw⟩
  have hrow' := Row.keepF hrow1 fr1 (fun b hb => hkp b hb (fun q => q))
  have hgid : ((M.map Rc.id).map (Value.int .i64))[i]? = some (.int .i64 M[i].id) := by
   rw [List.getElem?_map, List.getElem?_map, List.getElem?_eq_getElem hi]; rfl
  obtain ⟨b1, o1, sp1, cs1, rfl, hc1, hn1⟩ := rowCell hrow' (j := i * 1) (by omega) (by rw [Nat.mul_one]; exact hgid)
  have hb1 : c ≤ b1 := by
   rcases hids with ⟨e, _⟩ | ⟨b', sp', cap', e, _, g, _⟩
   ·simp only [Value.slice.injEq] at e; cases e.1
   ·simp only [Value.slice.injEq, Option.some.injEq, Addr.mk.injEq] at e; rw [e.1.1]; exact g
  have l1 := hc1.lt hf'
  have kph : Kp h h' c (fun _ => False) := fun b hb _ => (hkp b (by omega) (fun q => q)).trans (kp b hb (fun q => q))
  have hq0 := Row.keepF hq hf (fun b hb => kph b hb (fun q => q))
  have q' := q.keep hf (fun b _ hb => kph b hb (fun q => q))
  have hp' := q'.ptr
  obtain ⟨es, n, hm', ⟨ids, h2⟩, h3⟩ := q'.ex
  obtain ⟨lp', lm'⟩ := q'.lt hf'
  obtain ⟨zs, hzs, hzl, hzb⟩ := q.ok M[i] (List.getElem_mem hi)
  have e5 : intsV M[i].xs = zs := by rw [hzs]; exact intsV_ints zs
  have e6 : M[i].xs.length = dim := by rw [hzs]; show (zs.map _).length = _; rw [List.length_map, hzl]
  obtain ⟨v, cv, hv1, hv2, hv3⟩ : ∃ v cv, valI M[i].id es = some (.agg ⟨[v, cv]⟩) ∧ Own h' 0 cv dim ((codeZ lo st zs).map (Value.int .u8)) ∧ ∀ b, blkOf cv = some b → U b := by
   rcases h3 M[i].id with ⟨e1, _⟩ | ⟨r, v, e1, e2, w, cw, rfl, e3, e4, e7, e8⟩
   ·exact absurd rfl (getM_none.1 e1 M[i] (List.getElem_mem hi))
   ·rw [getM_some q.rises (List.getElem_mem hi) rfl] at e1
    cases e1
    rw [e5, e6] at e4
    exact ⟨w, cw, e2, e4, fun b hb => (e8 b hb).1⟩
  obtain ⟨va, vk, rfl⟩ := hv2.val
  obtain ⟨vi, hv4⟩ := valI_some hv1
  have hvr := hv2.row (by rw [List.length_map, codeZ_len]; exact hzl)
  refine Zgo ?_
  refine Zu (to_indexAddr (k := i) el45 rfl rfl hz (by omega)) ?_
  refine Zu (to_load (pl_ rfl) rfl hc1 (by omega) hn1) ?_
  refine Zgo ?_
  refine Zd (to_lookup (mi_ rfl) (ze_ rfl) rfl rfl hm' lm' h2.ks (by rw [hv4])) ?_
  refine Zgo ?_
  have hcl : (codeZ lo st zs).length = dim := by rw [codeZ_len, hzl]
  have hbk := q'.book
  refine Wtr.call rfl rfl (qback_spec Zfr hbk hd hcl hvr (codeZ_rng lo st zs) R (fun b hb => hUR b hb.1) (fun b hb => hUR b (hv3 b hb))) ?_
  rintro v2 h2' c2 r2 w2 ⟨⟨bb, rfl, hbb, hbc⟩, hext2⟩
  have hqt2 := hext2.quiet (fun _ _ q => q)
  have kp2 := Kp.ext (W := fun _ => False) (h := h1) (c := c1) hkp hext2 (by omega) (fun _ _ q => q)
  have lr2 := Lg.extR (R := R) (c := c) Zlg hext2 (fun _ _ q => q)
  have lw2 := Lg.extW (W := fun _ => False) (c := c) Zlg hext2 (fun _ _ q => q)
  have fr2 := hext2.fresh
  have le2 := hext2.c
  simp only at le2 fr2 hbc
  have lbb := hbc.lt fr2
  refine ⟨Zap, ?_⟩
  have hq2 := Row.keepF hq0 hf' (fun b hb => hext2.get hb (fun q => q))
  have hHL2 : HL h2' c1 lv ((M.take i).map (hitK mt qs lo st)) := hHL.imp (fun q => q) (fun ⟨b, f1, f2, f3, f4⟩ => ⟨b, f1, f2, f3, hext2.hs f4 (f4.lt hf') (fun q => q)⟩)
  refine Zgo ?_
  refine Wtr.call rfl rfl (score_spec stdQ Zfr hmt hqn (by rw [backZ_len, hcl]) hq2 (.inr ⟨bb, 0, _, _, _, rfl, hbc.cel, subN_all _ _ (by rw [List.length_map, backZ_len, hcl, Nat.mul_one])⟩) hqb (backZ_bnd _ _ _) (by omega) (fun b => R b ∨ b = bb) (fun b hb => hb.elim (fun q => .inl (hqR b q)) (fun q => .inr (by simpa [blkOf] using q.symm)))) ?_
  rintro v h3' c3 r3 w3 ⟨⟨rfl, e1, e2⟩, hext3⟩
  simp only at e1 e2
  subst e1 e2
  have hqt := hext3.quiet (fun _ _ q => q)
  have lr3 := Lg.extR (R := R) (c := c) Zlg hext3 (fun b hb q => q.elim (fun q => q) (fun q => by omega))
  have lw3 := Lg.extW (W := fun _ => False) (c := c) Zlg hext3 (fun _ _ q => q)
  refine ⟨Zap, ?_⟩
  have hhit : (M.take (i + 1)).map (hitK mt qs lo st) = (M.take i).map (hitK mt qs lo st) ++ [⟨M[i].id, scoreZ mt qs (backZ lo st (codeZ lo st zs))⟩] := by
   rw [List.take_succ_eq_append_getElem hi, List.map_append]
   show _ ++ [hitK mt qs lo st M[i]] = _
   unfold hitK
   rw [e5]
  have hfl : flatH ((M.take (i + 1)).map (hitK mt qs lo st)) = flatH ((M.take i).map (hitK mt qs lo st)) ++ [.int .i64 M[i].id, .int .i64 (scoreZ mt qs (backZ lo st (codeZ lo st zs)))] := by rw [hhit, flatH_app]; rfl
  have hl0 := hlen i (by omega)
  have hl1 := hlen (i + 1) (by omega)
  rcases hHL2 with ⟨rfl, hnil⟩ | ⟨bl, rfl, hne, hbl, hbc2⟩
  ·refine Zgo ?_
   refine Zd (to_appNil ro37 sl37 rfl rfl (k := 0) Has.same.cel (by omega) (subN_all _ _ rfl) (by omega) Zfr) ?_
   refine Zgo ?_
   refine RoundE.goF (M.length - (i + 1)) K31 [(0, _), (1, _), (2, _), (7, _), (18, _), (19, _), (20, .int .i64 (z + 1))] (by omega) ⟨_, i + 1, z + 1, _, _, _, _, _, rfl, by omega, rfl, by omega, Zfr, Zkp, ?_, Zlg, Zlg, by omega, rfl⟩
   have hi0 : i = 0 := by rw [hnil] at hl0; simpa using hl0.symm
   refine .inr ⟨c3 + 1, ?_, ?_, by omega, ?_⟩
   ·rw [hl1, hi0]
   ·intro e; rw [e] at hl1; simp at hl1
   ·rw [hfl, hnil]; exact Has.same
  ·have l3 := hbc2.lt fr2
   refine Zgo ?_
   refine Zd (to_appOwn ro37 sl37 rfl rfl (k := 0) Has.same.cel (by omega) (subN_all _ _ rfl) (by omega) (by omega) (hbc2.other (by omega)) (by omega) (subN_all _ _ (flatH_len _).symm) (all_cons rfl (all_cons rfl all_nil)) Zfr) ?_
   refine Zgo ?_
   refine RoundE.goF (M.length - (i + 1)) K31 [(0, _), (1, _), (2, _), (7, _), (18, _), (19, _), (20, .int .i64 (z + 1))] (by omega) ⟨_, i + 1, z + 1, _, _, _, _, _, rfl, by omega, rfl, by omega, Zfr, Zkp, ?_, Zlg, Zlg, by omega, rfl⟩
   refine .inr ⟨c3 + 1, ?_, ?_, by omega, ?_⟩
   ·rw [hl1, hl0]
   ·intro e; rw [e] at hl1; simp at hl1
   ·rw [hfl]; exact Has.same
 ·rintro e s ⟨g, lv, h', c', rl', wl', rfl, rfl, hcc, hf', hkp, hHL, hlr, hlw⟩
  (refine Wx.sw (by simp only [K31, frN, frC, updN, updC, Nat.reduceEqDiff, ↓reduceIte]; rfl) ?_)
  obtain ⟨oa, rfl, hrow, hge⟩ := hHL.val
  have hl2 : (M.map (hitK mt qs lo st)).length = M.length := List.length_map ..
  refine Zgo ?_
  refine Wseq.call rfl rfl (of_spec stdQ rfl Zfr hrow (k := 2 * min k ((M.map (hitK mt qs lo st)).length : Int) + 4) (kk := 2 * min kk M.length + 4) (by omega) (by omega) (by omega) (fun b => c1 ≤ b) hge) ?_
  rintro v2 h2 c2 r2 w2 ⟨⟨g1, g2⟩, hext2⟩
  have kp2 := Kp.ext (W := fun _ => False) (h := h) (c := c) Zkp hext2 (by omega) (fun _ _ q => q)
  have lr2 := Lg.extR (R := R) (c := c) Zlg hext2 (fun b hb u => by omega)
  have lw2 := Lg.extW (W := fun _ => False) (c := c) Zlg hext2 (fun _ _ q => q)
  have fr2 := hext2.fresh
  have le2 := hext2.c
  simp only at le2 fr2 g1
  have hcl := candK_len (mt := mt) (qs := qs) (lo := lo) (st := st) (kk := kk) (M := M)
  have hcm := @candK_mem mt qs lo st kk M
  have hH : hitsK mt qs lo st kk M = bestOf kk ((candK mt qs lo st kk M).map (trueK mt qs M)) := rfl
  change Best h2 v2 (candK mt qs lo st kk M).length (flatH (candK mt qs lo st kk M)) at g1
  generalize hcd : candK mt qs lo st kk M = cd at g1 hcl hcm hH
  have g2' : ∀ b, blkOf v2 = some b → c' ≤ b := g2
  obtain ⟨ov, cv, rfl, hgv⟩ : ∃ ov cv, v2 = .slice ov cd.length cv ∧ ((cd = [] ∧ ov = none ∧ cv = 0) ∨ ∃ b cs, ov = some ⟨b, 0, some 2⟩ ∧ cd.length ≤ cv ∧ c' ≤ b ∧ Has h2 b (.cells cs) ∧ subN 0 (cd.length * 2) cs = some (flatH cd)) := by
   rcases g1 with ⟨rfl, h5, h6⟩ | ⟨b, cap, cs, rfl, h5, h6, h7, h8⟩
   ·exact ⟨_, _, by rw [h5], .inl ⟨List.length_eq_zero_iff.1 h5, rfl, rfl⟩⟩
   ·exact ⟨_, _, rfl, .inr ⟨b, cs, rfl, h6, g2' b rfl, h7, h8⟩⟩
  refine Zgo ?_
  refine Wx.cutO (fun e s => ∃ (g : Nat → Value) (h' : T AObj) (rl' wl' : List Nat), e = fr g [(2, .int .i64 k), (7, .slice ov cd.length cv)] K31 ∧ s = ⟨h', c2, rl', wl'⟩ ∧ Fresh h' c2 ∧ Kp h h' c (fun _ => False) ∧ Row h' (.slice ov cd.length cv) cd.length 2 (flatH (cd.map (trueK mt qs M))) ∧ Lg c R rl' ∧ Lg c (fun _ => False) wl') Zrs ?_ ?_
  ·refine Wx.loopF (fun k1 e s => ∃ (g : Nat → Value) (i : Nat) (z : Int) (h' : T AObj) (rl' wl' : List Nat), e = fr g [(0, .pointer (some ⟨p, 0, none⟩)), (1, .slice qa dim qc), (2, .int .i64 k), (7, .slice ov cd.length cv), (57, .int .i64 (cd.length : Int)), (58, .int .i64 z)] K31 ∧ z = i ∧ s = ⟨h', c2, rl', wl'⟩ ∧ Fresh h' c2 ∧ Kp h h' c (fun _ => False) ∧ ((cd = [] ∧ ov = none ∧ cv = 0) ∨ ∃ b cs, ov = some ⟨b, 0, some 2⟩ ∧ cd.length ≤ cv ∧ c ≤ b ∧ Has h' b (.cells cs) ∧ subN 0 ((mixT (trueK mt qs M) cd i).length * 2) cs = some (flatH (mixT (trueK mt qs M) cd i))) ∧ Lg c R rl' ∧ Lg c (fun _ => False) wl' ∧ i ≤ cd.length ∧ k1 = cd.length - i) cd.length K31 [(0, _), (1, _), (2, _), (7, _), (57, _), (58, .int .i64 0)] ⟨_, 0, 0, _, _, _, rfl, rfl, rfl, Zfr, Zkp, hgv.imp (fun q => q) (fun ⟨b, cs, f1, f2, f3, f4, f5⟩ => ⟨b, cs, f1, f2, by omega, f4, f5⟩), Zlg, Zlg, by omega, rfl⟩ ?_
   rintro k1 e s ⟨g, i, z, h', rl', wl', rfl, hz, rfl, hf', hkp, hB, hlr, hlw, hid, rfl⟩
   (refine Wx.sw (by simp only [K31, frN, frC, updN, updC, Nat.reduceEqDiff, ↓reduceIte]; rfl) ?_)
   by_cases hi : i < cd.length
   rotate_left
   ·refine Zgo ?_
    obtain rfl : i = cd.length := by omega
    refine CutQ.goF K31 [(2, _), (7, _)] ⟨_, _, _, _, rfl, rfl, hf', hkp, ?_, hlr, hlw⟩
    rcases hB with ⟨f1, rfl, rfl⟩ | ⟨b, cs, rfl, f2, f3, f4, f5⟩
    ·subst f1; exact .inl ⟨rfl, rfl, _, _, rfl⟩
    ·rw [mixT_all, List.length_map] at f5
     exact .inr ⟨b, 0, _, _, _, rfl, f4.cel, f5⟩
   obtain ⟨b, cs, rfl, f2, f3, f4, f5⟩ : ∃ b cs, ov = some ⟨b, 0, some 2⟩ ∧ cd.length ≤ cv ∧ c ≤ b ∧ Has h' b (.cells cs) ∧ subN 0 ((mixT (trueK mt qs M) cd i).length * 2) cs = some (flatH (mixT (trueK mt qs M) cd i)) := by
    rcases hB with ⟨f1, _⟩ | f
    ·subst f1; simp at hi
    ·exact f
   have lb := f4.lt hf'
   obtain ⟨r, hr, hrid⟩ := hcm (List.getElem_mem hi)
   have hml := mixT_len (trueK mt qs M) cd i
   have hn1 := idSc f5 (mixT_at hi)
   obtain ⟨cs', hs1, hs2⟩ := setSc (i := i) (y := trueK mt qs M cd[i]) f5 (by rw [hml]; exact hi) (by rw [mixT_at hi]; rfl)
   rw [mixT_step hi] at hs2
   have hq0 := Row.keepF hq hf (fun b hb => hkp b hb (fun q => q))
   have q' := q.keep hf (fun b _ hb => hkp b hb (fun q => q))
   have hp' := q'.ptr
   obtain ⟨es, n, hm', ⟨ids, h2⟩, h3⟩ := q'.ex
   obtain ⟨lp', lm'⟩ := q'.lt hf'
   obtain ⟨zs, hzs, hzl, hzb⟩ := q.ok r hr
   have e5 : intsV r.xs = zs := by rw [hzs]; exact intsV_ints zs
   have e6 : r.xs.length = dim := by rw [hzs]; show (zs.map _).length = _; rw [List.length_map, hzl]
   have e7 : r.xs = zs.map (Value.int .i32) := by rw [hzs]
   have etr : trueK mt qs M cd[i] = ⟨cd[i].id, scoreZ mt qs zs⟩ := by
    unfold trueK
    rw [hrid, getM_some q.rises hr rfl]
    show Ht.mk _ (scoreZ mt qs (intsV r.xs)) = _
    rw [e5]
   rw [etr] at hs1
   obtain ⟨v, cv2, hv1, hv2, hv3⟩ : ∃ v cv, valI cd[i].id es = some (.agg ⟨[v, cv]⟩) ∧ Own h' 0 v dim (zs.map (Value.int .i32)) ∧ ∀ b, blkOf v = some b → U b := by
    rw [hrid]
    rcases h3 r.id with ⟨e1, _⟩ | ⟨r', v, e1, e2, w, cw, rfl, e3, e4, e8, e9⟩
    ·exact absurd rfl (getM_none.1 e1 r hr)
    ·rw [getM_some q.rises hr rfl] at e1
     cases e1
     rw [e6, e7] at e3
     exact ⟨w, cw, e2, e3, fun b hb => (e8 b hb).1⟩
   obtain ⟨va, vk, rfl⟩ := hv2.val
   obtain ⟨vi, hv4⟩ := valI_some hv1
   have hvr := hv2.row (by rw [List.length_map]; exact hzl)
   refine Zgo ?_
   refine Zq (to_indexAddr (k := i) el37 rfl rfl hz hi) ?_
   refine Zgo ?_
   refine Zd (to_load (pl_ rfl) rfl f4.cel (by omega) hn1) ?_
   refine Zgo ?_
   refine Zd (to_lookup (mi_ rfl) (ze_ rfl) rfl rfl hm' lm' h2.ks (by rw [hv4])) ?_
   refine Zgo ?_
   refine Wtr.call rfl rfl (score_spec stdQ Zfr hmt hqn hzl hq0 hvr hqb hzb (by omega) R (fun b hb => hb.elim (hqR b) (fun u => hUR b (hv3 b u)))) ?_
   rintro v h3' c3 r3 w3 ⟨⟨rfl, e1, e2⟩, hext3⟩
   simp only at e1 e2
   subst e1 e2
   have hqt := hext3.quiet (fun _ _ q => q)
   have lr3 := Lg.extR (R := R) (c := c) Zlg hext3 (fun b hb q => q)
   have lw3 := Lg.extW (W := fun _ => False) (c := c) Zlg hext3 (fun _ _ q => q)
   refine ⟨Zap, ?_⟩
   refine Zgo ?_
   refine Zq (to_indexAddr (k := i) el37 rfl rfl hz hi) ?_
   refine Zgo ?_
   ((with_reducible apply Wtr.so); rfl; exact (sz_ rfl); rfl; exact f4; omega; exact Zap; refine Znv ?_; refine ⟨_, _, (by (first | exact cellsA_agg _ | rfl)), rfl, hs1, ?_⟩)
   refine Zgo ?_
   refine RoundE.goF (cd.length - (i + 1)) K31 [(0, _), (1, _), (2, _), (7, _), (57, _), (58, .int .i64 (z + 1))] (by omega) ⟨_, i + 1, z + 1, _, _, _, rfl, by omega, rfl, Zfr, Zkp, .inr ⟨b, _, rfl, f2, f3, Has.same, hs2⟩, Zlg, Zlg, by omega, rfl⟩
  ·rintro e s ⟨g, h', rl', wl', rfl, rfl, hf', hkp, hR2, hlr, hlw⟩
   (refine Wx.sw (by simp only [K31, frN, frC, updN, updC, Nat.reduceEqDiff, ↓reduceIte]; rfl) ?_)
   have hge2 : ∀ b, blkOf (.slice ov cd.length cv) = some b → c ≤ b := fun b hb => by have := g2' b hb; omega
   have hll : cd.length = (cd.map (trueK mt qs M)).length := (List.length_map ..).symm
   rw [hll] at hR2 hge2 ⊢
   refine Zgo ?_
   refine Wseq.call rfl rfl (of_spec stdQ rfl Zfr (l := cd.map (trueK mt qs M)) hR2 hk (by omega) (by omega) (fun b => c ≤ b) hge2) ?_
   rw [← hH]
   rintro v3 h3 c3 r3 w3 ⟨⟨k1, k2⟩, hext3⟩
   have kp3 := Kp.ext (W := fun _ => False) (h := h) (c := c) Zkp hext3 (by omega) (fun _ _ q => q)
   have lr3 := Lg.extR (R := R) (c := c) Zlg hext3 (fun b hb u => by omega)
   have lw3 := Lg.extW (W := fun _ => False) (c := c) Zlg hext3 (fun _ _ q => q)
   have fr3 := hext3.fresh
   have le3 := hext3.c
   simp only at le3 fr3
   refine Zgo ?_
   refine ⟨.inr rfl, Wres.one rfl ⟨⟨k1, fun b hb => by have := k2 b hb; omega⟩, ?_⟩⟩
   exact Zex
end Go.Ab.Seat
