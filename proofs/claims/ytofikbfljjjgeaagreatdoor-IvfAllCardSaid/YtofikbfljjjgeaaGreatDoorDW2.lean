import Derived.Test.YtofikbfljjjgeaaGreatDoorDN0
import Derived.Test.YtofikbfljjjgeaaGreatDoorDT8
import Derived.Test.YtofikbfljjjgeaaGreatDoorDF4
import Derived.Test.YtofikbfljjjgeaaGreatDoorDW0
import Derived.Test.YtofikbfljjjgeaaGreatDoorDP1
set_option linter.unusedVariables false
set_option linter.unusedSimpArgs false
section
/- Is a number among some? An index of lists: a search (the abstract machine). -/
namespace Go.Ab.Seat
open Go.Extern Go.Proofs
set_option maxRecDepth 4000
def EX (oa : Option Addr) (n cap : Nat) (x z : Int) (j5 j9 j16 : Value) : L :=
 .cons 1 (.int .i64 x) (.cons 0 (.slice oa n cap) (.cons 4 (.int .i64 0) (.cons 7 (.int .i64 (n : Int)) (.cons 8 (.int .i64 z) (.cons 5 j5 (.cons 9 j9 (.cons 16 j16 .nil)))))))
set_option maxHeartbeats 4000000 in
theorem indexI_spec {h : T AObj} {c : Nat} {rl wl : List Nat} (hf : Fresh h c) {oa : Option Addr} {cap n : Nat} {l : List Int} (hln : l.length = n) (hl : Row h (.slice oa n cap) n 1 (l.map (Value.int .i64))) (hn : n ≤ 1000) (x : Int) (R : Nat → Prop) (hR : ∀ b, blkOf (.slice oa n cap) = some b → R b) :
  ∃ r s', FnTo (Cs smQ) eg 188 [.slice oa n cap, .int .i64 x] ⟨h, c, rl, wl⟩ r s' ∧ ((∃ z : Int, r = .int .i64 z ∧ (0 ≤ z ↔ x ∈ l)) ∧ s'.h = h ∧ s'.c = c) ∧ Ext ⟨h, c, rl, wl⟩ s' R (fun _ => False) := by
 refine Fn.go (stdQ 188 rfl) ex188 fn188 km188 rfl rfl ?_
 refine Zev ?_
 refine Zgo ?_
 refine Wx.loopE (fun k1 e s => ∃ (i : Nat) (z : Int) (j5 j9 j16 : Value) (rl' wl' : List Nat), e = EX oa n cap x z j5 j9 j16 ∧ z = i ∧ s = ⟨h, c, rl', wl'⟩ ∧ x ∉ l.take i ∧ Lg c R rl' ∧ Lg c (fun _ => False) wl' ∧ i ≤ n ∧ k1 = n - i) n (EX oa n cap x 0 top top top) Zrs ?_ ?_ ?_
 ·unfold EX
  exact Zek
 ·exact ⟨0, 0, _, _, _, _, _, rfl, rfl, rfl, List.not_mem_nil, Zlg, Zlg, by omega, rfl⟩
 ·rintro k1 e s ⟨i, z, j5, j9, j16, rl', wl', rfl, hz, rfl, hnm, hlr, hlw, hid, rfl⟩
  unfold EX
  by_cases hi : i < n
  ·have hil : i < l.length := by omega
   have hgi : (l.map (Value.int .i64))[i]? = some (.int .i64 l[i]) := by rw [List.getElem?_map, List.getElem?_eq_getElem hil]; rfl
   obtain ⟨b1, o1, sp1, cs1, rfl, hc1, hn1⟩ := rowCell hl (j := i * 1) (by omega) (by rw [Nat.mul_one]; exact hgi)
   have l1 := hc1.lt hf
   have rb := hR b1 rfl
   by_cases hx : x = l[i]
   ·refine Zgo ?_
    refine Zu (to_indexAddr (k := i) el45 rfl rfl hz (by omega)) ?_
    refine Zu (to_load (pl_ rfl) rfl hc1 (by omega) hn1) ?_
    refine Zgo ?_
    refine ⟨.inr rfl, Wres.one rfl ⟨⟨⟨z, rfl, ?_⟩, rfl, rfl⟩, ?_⟩⟩
    ·exact ⟨fun _ => hx ▸ List.getElem_mem hil, fun _ => by omega⟩
    ·exact Zex
   ·refine Zgo ?_
    refine Zu (to_indexAddr (k := i) el45 rfl rfl hz (by omega)) ?_
    refine Zu (to_load (pl_ rfl) rfl hc1 (by omega) hn1) ?_
    refine Zgo ?_
    refine RoundE.go (n - (i + 1)) (EX _ n cap x (z + 1) _ _ _) (by omega) Zek ⟨i + 1, z + 1, _, _, _, _, _, rfl, by omega, rfl, ?_, Zlg, Zlg, by omega, rfl⟩
    rw [List.take_succ_eq_append_getElem hil]
    intro hm
    rcases List.mem_append.1 hm with hm | hm
    ·exact hnm hm
    ·exact hx (List.mem_singleton.1 hm)
  ·refine Zgo ?_
   refine ⟨.inr rfl, Wres.one rfl ⟨⟨⟨-1, rfl, ?_⟩, rfl, rfl⟩, ?_⟩⟩
   ·rw [List.take_of_length_le (by omega)] at hnm
    exact ⟨fun h => by omega, fun h => absurd h hnm⟩
   ·exact Zex
theorem containsI_spec {h : T AObj} {c : Nat} {rl wl : List Nat} (hf : Fresh h c) {oa : Option Addr} {cap n : Nat} {l : List Int} (hln : l.length = n) (hl : Row h (.slice oa n cap) n 1 (l.map (Value.int .i64))) (hn : n ≤ 1000) (x : Int) (R : Nat → Prop) (hR : ∀ b, blkOf (.slice oa n cap) = some b → R b) :
  ∃ r s', FnTo (Cs smQ) eg 134 [.slice oa n cap, .int .i64 x] ⟨h, c, rl, wl⟩ r s' ∧ (r = .bool (decide (x ∈ l)) ∧ s'.h = h ∧ s'.c = c) ∧ Ext ⟨h, c, rl, wl⟩ s' R (fun _ => False) := by
 refine Fn.go (stdQ 134 rfl) ex134 fn134 km134 rfl rfl ?_
 refine Zev ?_
 refine Zgo ?_
 refine Wseq.call rfl rfl (indexI_spec Zfr hln hl hn x R hR) ?_
 rintro v1 h1 c1 r1 w1 ⟨⟨⟨z, rfl, hz⟩, e1, e2⟩, hext⟩
 simp only at e1 e2
 subst e1 e2
 have lr := Lg.extR (R := R) (c := c1) Zlg hext (fun _ _ q => q)
 have lw := Lg.extW (W := fun _ => False) (c := c1) Zlg hext (fun _ _ q => q)
 by_cases h0 : 0 ≤ z
 ·refine Zgo ?_
  refine ⟨.inr rfl, Wres.one rfl ⟨⟨?_, rfl, rfl⟩, ?_⟩⟩
  ·rw [decide_eq_true (hz.1 h0)]; rfl
  ·exact Zex
 ·refine Zgo ?_
  refine ⟨.inr rfl, Wres.one rfl ⟨⟨?_, rfl, rfl⟩, ?_⟩⟩
  ·rw [decide_eq_false (fun q => h0 (hz.2 q))]; rfl
  ·exact Zex
theorem Wseq.appI {all os : List Oper} {loc kept : L} {h : T AObj} {c : Nat} {rl wl : List Nat} {Q : Env → St → Prop} {d : Nat} {ty : TypeId} {ps : String} {af : Array Edge} {g : Option (Nat × Bool)} {a x : Operand} {v : Value} {c0 ob cap : Nat} {sp : Option Nat} {y : Int} {l : List Int}
  (hw : wantedA all (.mk loc kept) ⟨some d, .call ⟨.builtin .append, #[a, x], #[45, 45]⟩, ty, ps, af, g⟩ = some true) (ha : evalA (.mk loc kept) a = v) (hx : evalA (.mk loc kept) x = .slice (some ⟨ob, 0, sp⟩) 1 cap) (hHI : HI h c0 v l) (hb : Has h ob (.cells [.int .i64 y])) (hob : c0 ≤ ob) (hn : l.length ≤ 10000) (hf : Fresh h c) (hc0 : c0 ≤ c)
  (k : ∀ h2 rl2 wl2, Fresh h2 (c + 1) → Kp h h2 c (fun b => blkOf v = some b) → Has h2 c (.cells ((l ++ [y]).map (Value.int .i64))) → (∀ b ∈ rl2, b ∈ rl ∨ c0 ≤ b) → (∀ b ∈ wl2, b ∈ wl ∨ c0 ≤ b) → Wseq (Cs smQ) eg all os (.mk (.cons d (.slice (some ⟨c, 0, some 1⟩) (l.length + 1) (l.length + 1)) loc) kept) ⟨h2, c + 1, rl2, wl2⟩ Q) :
  Wseq (Cs smQ) eg all (⟨some d, .call ⟨.builtin .append, #[a, x], #[45, 45]⟩, ty, ps, af, g⟩ :: os) (.mk loc kept) ⟨h, c, rl, wl⟩ Q := by
 have lo := hb.lt hf
 have hbg : big = 1048576 := rfl
 rcases hHI with ⟨rfl, rfl⟩ | ⟨bl, rfl, hne, hbl, hbc⟩
 ·refine Wseq.stg hw (to_appNil (k := 0) ro45 sl45 ha hx hb.cel lo (subN_all _ _ rfl) (by omega) hf) (k _ _ _ Zfr Zkp Has.same ?_ (fun b hb => .inl hb))
  intro b hb
  rcases List.mem_cons.1 hb with rfl | hb
  ·exact .inr hob
  ·exact .inl hb
 ·have l3 := hbc.lt hf
  refine Wseq.stg hw (to_appOwn (k := 0) ro45 sl45 ha hx hb.cel lo (subN_all _ _ rfl) (by omega) (by omega) hbc l3 (subN_all _ _ (by simp)) (all_cons rfl all_nil) hf) (k _ _ _ Zfr Zkp ?_ ?_ ?_)
  ·rw [List.map_append]; exact Has.same
  ·intro b hb
   rcases List.mem_cons.1 hb with rfl | hb
   ·exact .inr hbl
   ·rcases List.mem_cons.1 hb with rfl | hb
    ·exact .inr hob
    ·exact .inl hb
  ·intro b hb
   rcases List.mem_cons.1 hb with rfl | hb
   ·exact .inr hbl
   ·exact .inl hb
def nearN (n : Nat) : Nat := if n = 0 then 1 else min n 2
def nearL (mid : List (List Int)) (qs : List Int) : List Int := (ordZ mid qs ++ [0]).take (nearN mid.length)
def hitsI (mt : Int) (qs : List Int) (mid : List (List Int)) (M : List Rc) : List Ht := hitsM mt qs (M.filter fun r => decide (r.seq ∈ nearL mid qs))
theorem nearN_le (n : Nat) : nearN n ≤ n + 1 ∧ nearN n ≤ 2 := by unfold nearN; split <;> omega
theorem nearL_len (mid : List (List Int)) (qs : List Int) : (nearL mid qs).length = nearN mid.length := by
 have := nearN_le mid.length
 unfold nearL
 rw [List.length_take, List.length_append, ordZ_len]
 show min _ (mid.length + 1) = _
 omega
def EN (p : Nat) (qa : Option Addr) (dim qc : Nat) (k : Int) (b nn n : Nat) (j27 : Value) : L :=
 .cons 2 (.int .i64 k) (.cons 1 (.slice qa dim qc) (.cons 0 (.pointer (some ⟨p, 0, none⟩)) (.cons 6 (.slice none 0 0) (.cons 13 (.bool false) (.cons 7 (.slice (some ⟨b, 0, some 1⟩) nn (n + 1)) (.cons 27 j27 .nil))))))
def EIs (p : Nat) (qa : Option Addr) (dim qc : Nat) (k : Int) (b nn n : Nat) (j27 lv : Value) (oi : Option Addr) (mn ic : Nat) (z : Int) (j10 j11 j40 j52 : Value) : L :=
 .cons 2 (.int .i64 k) (.cons 1 (.slice qa dim qc) (.cons 0 (.pointer (some ⟨p, 0, none⟩)) (.cons 6 (.slice none 0 0) (.cons 13 (.bool false) (.cons 7 (.slice (some ⟨b, 0, some 1⟩) nn (n + 1)) (.cons 27 j27 (.cons 8 lv (.cons 37 (.slice oi mn ic) (.cons 38 (.int .i64 (mn : Int)) (.cons 39 (.int .i64 z) (.cons 10 j10 (.cons 11 j11 (.cons 40 j40 (.cons 52 j52 .nil))))))))))))))
set_option maxHeartbeats 8000000 in
theorem isearch_spec {h : T AObj} {c : Nat} {rl wl : List Nat} (hf : Fresh h c) {p m dim : Nat} {mv : Value} {mt : Int} {mid : List (List Int)} {M : List Rc} {U : Nat → Prop} (q : IvfM h p m mv mt dim mid M U) (hmn : mid.length ≤ 12) (hmt : mt = 1 ∨ mt = 2) {qa : Option Addr} {qc : Nat} {qs : List Int} (hq : Row h (.slice qa dim qc) dim 1 (qs.map (Value.int .i32))) (hqn : qs.length = dim) (hqb : Bnd qs) (hd : dim ≤ 1000) (k : Int) {kk : Nat} (hk : max k 0 = (kk : Int)) (hkk : kk ≤ 1000) (hn : M.length ≤ 800) (R : Nat → Prop) (hUR : ∀ b, U b → R b) (hqR : ∀ b, blkOf (.slice qa dim qc) = some b → R b) :
  ∃ r s', FnTo (Cs smQ) eg 70 [.pointer (some ⟨p, 0, none⟩), .slice qa dim qc, .int .i64 k] ⟨h, c, rl, wl⟩ r s' ∧ (Best s'.h r (bestOf kk (hitsI mt qs mid M)).length (flatH (bestOf kk (hitsI mt qs mid M))) ∧ ∀ b, blkOf r = some b → c ≤ b) ∧ Ext ⟨h, c, rl, wl⟩ s' R (fun _ => False) := by
 have hp := q.ptr
 obtain ⟨lp, lm⟩ := q.lt hf
 have hpU := hUR p q.pU
 have hmU := hUR m q.mU
 obtain ⟨oa1, cap1, rfl⟩ := q.mids.val
 refine Fn.go (stdQ 70 rfl) ex70 fn70 km70 rfl rfl ?_
 refine Zev ?_
 refine Zgo ?_
 refine Wseq.call rfl rfl (order_spec Zfr q.mids hmn hd hq hqn hqb R (fun b u => hUR b u.1) hqR) ?_
 rintro v1 h1 c1 r1 w1 ⟨hHI, hext⟩
 have kp := Kp.ext (W := fun _ => False) (h := h) (c := c) Zkp hext (by omega) (fun _ _ q => q)
 have lr := Lg.extR (R := R) (c := c) Zlg hext (fun b hb u => u)
 have lw := Lg.extW (W := fun _ => False) (c := c) Zlg hext (fun _ _ q => q)
 have fr1 := hext.fresh
 have le1 := hext.c
 simp only at le1 fr1 hHI
 have hol := ordZ_len mid qs
 refine Zgo ?_
 refine Wseq.appI (v := v1) rfl rfl rfl (l := ordZ mid qs) (c0 := c) (y := 0) (hHI.imp (fun q => q) (fun ⟨b, e1, e2, e3, e4⟩ => ⟨b, e1, e2, e3, e4.other (by have := e4.lt fr1; omega)⟩)) Has.same (by omega) (by omega) Zfr (by omega) ?_
 intro h2 rl2 wl2 fr2 kp2 hN hrl2 hwl2
 have kp2' : Kp h h2 c (fun _ => False) := fun b hb _ => by
  rw [kp2 b (by omega) (fun q => ?_), get_other (by omega)]
  ·exact kp b hb (fun q => q)
  ·rcases hHI with ⟨e, _⟩ | ⟨b', e, _, e3, _⟩
   ·rw [e] at q; cases q
   ·rw [e] at q
    have q' : b' = b := by simpa [blkOf] using q
    omega
 have lr2 : Lg c R rl2 := fun b hb => (hrl2 b hb).elim (fun u => lr b u) (fun u => .inl u)
 have lw2 : Lg c (fun _ => False) wl2 := fun b hb => (hwl2 b hb).elim (fun u => lw b u) (fun u => .inl u)
 have hp2 : Has h2 p (.cells [.int .i64 mt, .slice oa1 mid.length cap1, .map (some m)]) := (kp2' p lp (fun q => q)).trans hp
 rw [hol]
 refine Zgo ?_
 have hnn := nearN_le mid.length
 have hlen : ∀ l : List Rc, (hitsI mt qs mid l).length ≤ l.length := fun l => by unfold hitsI hitsM; rw [List.length_map]; exact List.length_filter_le _ _
 refine Wx.cut (fun e s => ∃ (j27 : Value) (rl' : List Nat), e = EN p qa dim qc k (c1 + 1) (nearN mid.length) mid.length j27 ∧ s = ⟨h2, c1 + 2, rl', wl2⟩ ∧ Lg c R rl') Zrs ?_ ?_
 ·by_cases h0 : mid.length = 0
  ·have e1 : nearN mid.length = mid.length + 1 := by unfold nearN; rw [if_pos h0]; omega
   refine Zgo ?_
   exact CutQ.go (EN p qa dim qc k (c1 + 1) (nearN mid.length) mid.length _) (by unfold EN; rw [e1]; exact Zek) ⟨_, _, rfl, rfl, Zlg⟩
  ·have e1 : nearN mid.length = min mid.length 2 := by unfold nearN; rw [if_neg h0]
   refine Zgo ?_
   refine Zu (to_sliceHi (k := nearN mid.length) el45 rfl rfl (by rw [e1]; omega) (by omega) (fun a ha => by cases ha; exact .inr rfl)) ?_
   refine Zgo ?_
   exact CutQ.go (EN p qa dim qc k (c1 + 1) (nearN mid.length) mid.length _) (by unfold EN; exact Zek) ⟨_, _, rfl, rfl, Zlg⟩
 ·rintro e s ⟨j27, rl3, rfl, rfl, lr3⟩
  unfold EN
  have q2 := q.keep hf (fun b _ hb => kp2' b hb (fun q => q))
  have hnr : Row h2 (.slice (some ⟨c1 + 1, 0, some 1⟩) (nearN mid.length) (mid.length + 1)) (nearN mid.length) 1 ((nearL mid qs).map (Value.int .i64)) := by
   refine .inr ⟨c1 + 1, 0, some 1, _, _, rfl, hN.cel, ?_⟩
   rw [subN_eq _ _ _ (by rw [List.length_map, List.length_append, ordZ_len]; show _ ≤ mid.length + 1; omega), List.drop_zero, Nat.mul_one]
   unfold nearL
   rw [List.map_take]
  refine Zgo ?_
  refine Wseq.call rfl rfl (iids_spec Zfr q2 (by omega)) ?_
  rintro v3 h3 c3 r3 w3 ⟨hids, hext3⟩
  have kp3 := Kp.ext (W := fun _ => False) (h := h) (c := c) kp2' hext3 (by omega) (fun _ _ q => q)
  have lr4 := Lg.extR (R := R) (c := c) lr3 hext3 (fun b hb u => hUR b u)
  have lw4 := Lg.extW (W := fun _ => False) (c := c) lw2 hext3 (fun _ _ q => q)
  have fr3 := hext3.fresh
  have le3 := hext3.c
  simp only at le3 fr3
  obtain ⟨oi, ic, rfl⟩ := hids.val
  have hrow1 := hids.row (by rw [List.length_map, List.length_map])
  have hnr3 := Row.keepF hnr fr2 (fun b hb => hext3.get hb (fun q => q))
  have hst : ∀ i (hi : i < M.length), hitsI mt qs mid (M.take (i + 1)) = hitsI mt qs mid (M.take i) ++ (if M[i].seq ∈ nearL mid qs then [hitR mt qs M[i]] else []) := fun i hi => by
   unfold hitsI hitsM
   rw [List.take_succ_eq_append_getElem hi, List.filter_append, List.map_append]
   by_cases hm : M[i].seq ∈ nearL mid qs
   ·rw [if_pos hm, List.filter_cons_of_pos (by simpa using hm)]; rfl
   ·rw [if_neg hm, List.filter_cons_of_neg (by simpa using hm)]; rfl
  have hbg : big = 1048576 := rfl
  refine Zgo ?_
  refine Wx.cutO (fun e s => ∃ (lv j10 j11 j40 j52 : Value) (h' : T AObj) (c' : Nat) (rl' wl' : List Nat), e = EIs p qa dim qc k (c1 + 1) (nearN mid.length) mid.length j27 lv oi M.length ic M.length j10 j11 j40 j52 ∧ s = ⟨h', c', rl', wl'⟩ ∧ c3 ≤ c' ∧ Fresh h' c' ∧ Kp h h' c (fun _ => False) ∧ HL h' c3 lv (hitsI mt qs mid M) ∧ Lg c R rl' ∧ Lg c (fun _ => False) wl') Zrs ?_ ?_
  ·refine Wx.loopE (fun k1 e s => ∃ (i : Nat) (z : Int) (lv j10 j11 j40 j52 : Value) (h' : T AObj) (c' : Nat) (rl' wl' : List Nat), e = EIs p qa dim qc k (c1 + 1) (nearN mid.length) mid.length j27 lv oi M.length ic z j10 j11 j40 j52 ∧ z = i ∧ s = ⟨h', c', rl', wl'⟩ ∧ c3 ≤ c' ∧ Fresh h' c' ∧ Kp h3 h' c3 (fun _ => False) ∧ HL h' c3 lv (hitsI mt qs mid (M.take i)) ∧ Lg c R rl' ∧ Lg c (fun _ => False) wl' ∧ i ≤ M.length ∧ k1 = M.length - i) M.length (EIs p qa dim qc k (c1 + 1) (nearN mid.length) mid.length j27 (.slice none 0 0) oi M.length ic 0 top top top top) Zrs ?_ ?_ ?_
   ·unfold EIs
    exact Zek
   ·exact ⟨0, 0, _, _, _, _, _, _, _, _, _, rfl, rfl, rfl, Nat.le_refl _, fr3, Kp.refl, .inl ⟨rfl, rfl⟩, Zlg, Zlg, by omega, rfl⟩
   ·rintro k1 e s ⟨i, z, lv, j10, j11, j40, j52, h', c', rl', wl', rfl, hz, rfl, hcc, hf', hkp, hHL, hlr, hlw, hid, rfl⟩
    unfold EIs
    by_cases hi : i < M.length
    ·have hrow' := Row.keepF hrow1 fr3 (fun b hb => hkp b hb (fun q => q))
     have hnr' := Row.keepF hnr3 fr3 (fun b hb => hkp b hb (fun q => q))
     have hgid : ((M.map Rc.id).map (Value.int .i64))[i]? = some (.int .i64 M[i].id) := by
      rw [List.getElem?_map, List.getElem?_map, List.getElem?_eq_getElem hi]; rfl
     obtain ⟨b1, o1, sp1, cs1, rfl, hc1, hn1⟩ := rowCell hrow' (j := i * 1) (by omega) (by rw [Nat.mul_one]; exact hgid)
     have hb1 : c ≤ b1 := by
      rcases hids with ⟨e, _⟩ | ⟨b', sp', cap', e, _, g, _⟩
      ·simp only [Value.slice.injEq] at e; cases e.1
      ·simp only [Value.slice.injEq, Option.some.injEq, Addr.mk.injEq] at e; rw [e.1.1]; omega
     have l1 := hc1.lt hf'
     have kph : Kp h h' c (fun _ => False) := fun b hb _ => (hkp b (by omega) (fun q => q)).trans (kp3 b hb (fun q => q))
     have hq0 := Row.keepF hq hf (fun b hb => kph b hb (fun q => q))
     have q' := q.keep hf (fun b _ hb => kph b hb (fun q => q))
     have hp' := q'.ptr
     obtain ⟨es, n, hm', ⟨ids, h2k⟩, h3k⟩ := q'.ex
     obtain ⟨lp', lm'⟩ := q'.lt hf'
     obtain ⟨zs, hzs, hzl, hzb⟩ := q.ok M[i] (List.getElem_mem hi)
     obtain ⟨v, hv1, hv2, hv3⟩ : ∃ v, valI M[i].id es = some (.agg ⟨[v, .int .i64 M[i].seq]⟩) ∧ Own h' 0 v dim (zs.map (Value.int .i32)) ∧ ∀ b, blkOf v = some b → U b := by
      rcases h3k M[i].id with ⟨e1, _⟩ | ⟨r, v, e1, e2, w, rfl, e3, e4⟩
      ·exact absurd rfl (getM_none.1 e1 M[i] (List.getElem_mem hi))
      ·rw [getM_some q.rises (List.getElem_mem hi) rfl] at e1
       cases e1
       have e5 : M[i].xs = zs.map (Value.int .i32) := by rw [hzs]
       rw [e5, List.length_map, hzl] at e3
       exact ⟨w, e2, e3, fun b hb => (e4 b hb).1⟩
     obtain ⟨va, vk, rfl⟩ := hv2.val
     obtain ⟨vi, hv4⟩ := valI_some hv1
     have hvr := hv2.row (by rw [List.length_map]; exact hzl)
     have hsi := hst i hi
     have hhr : hitR mt qs M[i] = ⟨M[i].id, scoreZ mt qs zs⟩ := by
      have e5 : M[i].xs = zs.map (Value.int .i32) := by rw [hzs]
      unfold hitR
      rw [e5, intsV_ints]
     have hl2 := hlen (M.take i)
     have hl3 : (M.take i).length = i := by rw [List.length_take]; omega
     refine Zgo ?_
     refine Zu (to_indexAddr (k := i) el45 rfl rfl hz (by omega)) ?_
     refine Zu (to_load (pl_ rfl) rfl hc1 (by omega) hn1) ?_
     refine Zgo ?_
     refine Zu (to_lookup (mi_ rfl) (ze_ rfl) rfl rfl hm' lm' h2k.ks (by rw [hv4])) ?_
     refine Zgo ?_
     have kA : ∀ b, b < c' → ((h'.set c' (some (.cells [.slice none 0 0, .int .i64 0]))).set c' (some (.cells [.slice va dim vk, .int .i64 M[i].seq]))).get b = h'.get b := fun b hb => by rw [get_other (by omega), get_other (by omega)]
     refine Wseq.call rfl rfl (containsI_spec Zfr (nearL_len mid qs) (Row.keepF hnr' hf' kA) (by omega) M[i].seq (fun b => b = c1 + 1) (fun b hb => by cases hb; rfl)) ?_
     rintro v5 h5 c5 r5 w5 ⟨⟨rfl, e1, e2⟩, hext5⟩
     simp only at e1 e2
     subst e1 e2
     have lr5 := Lg.extR (R := R) (c := c) Zlg hext5 (fun b hb u => by omega)
     have lw5 := Lg.extW (W := fun _ => False) (c := c) Zlg hext5 (fun _ _ q => q)
     by_cases hin : M[i].seq ∈ nearL mid qs
     ·rw [decide_eq_true hin]
      rw [if_pos hin, hhr] at hsi
      refine Zgo ?_
      refine Wtr.call rfl rfl (score_spec stdQ Zfr hmt hqn hzl (Row.keepF hq0 hf' kA) (Row.keepF hvr hf' kA) hqb hzb hd R (fun b hb => hb.elim (hqR b) (fun u => hUR b (hv3 b u)))) ?_
      rintro v h6 c6 r6 w6 ⟨⟨rfl, e1, e2⟩, hext6⟩
      simp only at e1 e2
      subst e1 e2
      have hqt := hext6.quiet (fun _ _ q => q)
      have lr6 := Lg.extR (R := R) (c := c) Zlg hext6 (fun _ _ q => q)
      have lw6 := Lg.extW (W := fun _ => False) (c := c) Zlg hext6 (fun _ _ q => q)
      refine ⟨Zap, ?_⟩
      have hfl : flatH (hitsI mt qs mid (M.take (i + 1))) = flatH (hitsI mt qs mid (M.take i)) ++ [.int .i64 M[i].id, .int .i64 (scoreZ mt qs zs)] := by rw [hsi, flatH_app]; rfl
      have hl4 : (hitsI mt qs mid (M.take (i + 1))).length = (hitsI mt qs mid (M.take i)).length + 1 := by rw [hsi, List.length_append]; rfl
      rcases hHL with ⟨rfl, hnil⟩ | ⟨bl, rfl, hne, hbl, hbc⟩
      ·refine Zgo ?_
       refine Zd (to_appNil ro37 sl37 rfl rfl (k := 0) Has.same.cel (by omega) (subN_all _ _ rfl) (by omega) Zfr) ?_
       refine Zgo ?_
       refine RoundE.go (M.length - (i + 1)) (EIs p qa dim qc k (c1 + 1) (nearN mid.length) mid.length j27 _ _ M.length ic (z + 1) _ _ _ _) (by omega) Zek ⟨i + 1, z + 1, _, _, _, _, _, _, _, _, _, rfl, by omega, rfl, by omega, Zfr, Zkp, ?_, Zlg, Zlg, by omega, rfl⟩
       refine .inr ⟨c' + 2, ?_, ?_, by omega, ?_⟩
       ·rw [hl4, hnil]; rfl
       ·intro e; rw [e] at hl4; cases hl4
       ·rw [hfl, hnil]; exact Has.same
      ·have l3 := hbc.lt hf'
       refine Zgo ?_
       refine Zd (to_appOwn ro37 sl37 rfl rfl (k := 0) Has.same.cel (by omega) (subN_all _ _ rfl) (by omega) (by omega) Zhs (by omega) (subN_all _ _ (flatH_len _).symm) (all_cons rfl (all_cons rfl all_nil)) Zfr) ?_
       refine Zgo ?_
       refine RoundE.go (M.length - (i + 1)) (EIs p qa dim qc k (c1 + 1) (nearN mid.length) mid.length j27 _ _ M.length ic (z + 1) _ _ _ _) (by omega) Zek ⟨i + 1, z + 1, _, _, _, _, _, _, _, _, _, rfl, by omega, rfl, by omega, Zfr, Zkp, ?_, Zlg, Zlg, by omega, rfl⟩
       refine .inr ⟨c' + 2, ?_, ?_, by omega, ?_⟩
       ·rw [hl4]
       ·intro e; rw [e] at hl4; cases hl4
       ·rw [hfl]; exact Has.same
     ·rw [decide_eq_false hin]
      rw [if_neg hin, List.append_nil] at hsi
      refine Zgo ?_
      refine RoundE.go (M.length - (i + 1)) (EIs p qa dim qc k (c1 + 1) (nearN mid.length) mid.length j27 lv _ M.length ic (z + 1) _ _ _ _) (by omega) Zek ⟨i + 1, z + 1, _, _, _, _, _, _, _, _, _, rfl, by omega, rfl, by omega, Zfr, Zkp, ?_, Zlg, Zlg, by omega, rfl⟩
      rw [hsi]
      rcases hHL with hHL | ⟨bl, e1, e2, e3, e4⟩
      ·exact .inl hHL
      ·exact .inr ⟨bl, e1, e2, e3, (e4.other (by have := e4.lt hf'; omega)).other (by have := e4.lt hf'; omega)⟩
    ·refine Zgo ?_
     obtain rfl : i = M.length := by omega
     subst hz
     rw [List.take_length] at hHL
     exact CutQ.go (EIs p qa dim qc k (c1 + 1) (nearN mid.length) mid.length j27 lv oi M.length ic M.length _ _ _ _) Zek ⟨_, _, _, _, _, _, _, _, _, rfl, rfl, hcc, hf', (fun b hb _ => (hkp b (by omega) (fun q => q)).trans (kp3 b hb (fun q => q))), hHL, Zlg, Zlg⟩
  ·rintro e s ⟨lv, j10, j11, j40, j52, h', c', rl', wl', rfl, rfl, hcc, hf', hkp, hHL, hlr, hlw⟩
   unfold EIs
   obtain ⟨oa, rfl, hrow, hge⟩ := hHL.val
   have hl2 := hlen M
   refine Zgo ?_
   refine Wseq.call rfl rfl (of_spec stdQ rfl Zfr hrow hk hkk (by omega) (fun b => c3 ≤ b) hge) ?_
   rintro v h2 c2 r2 w2 ⟨⟨g1, g2⟩, hext2⟩
   have kp2 := Kp.ext (W := fun _ => False) (h := h) (c := c) Zkp hext2 (by omega) (fun _ _ q => q)
   have lr2 := Lg.extR (R := R) (c := c) Zlg hext2 (fun b hb u => by omega)
   have lw2 := Lg.extW (W := fun _ => False) (c := c) Zlg hext2 (fun _ _ q => q)
   have fr2 := hext2.fresh
   have le2 := hext2.c
   simp only at le2 fr2
   refine Zgo ?_
   refine ⟨.inr rfl, Wres.one rfl ⟨⟨g1, fun b hb => by have := g2 b hb; omega⟩, ?_⟩⟩
   exact Zex
end Go.Ab.Seat
end
section
/- The law's Face of an index of lists (the abstract machine). -/
namespace Go.Ab.Seat
open Go.Extern Go.Proofs
set_option maxRecDepth 4000
theorem IvfM.wide {h : T AObj} {p m dim c : Nat} {mv : Value} {mt : Int} {mid : List (List Int)} {M : List Rc} {U U' : Nat → Prop} (q : IvfM h p m mv mt dim mid M U) (hf : Fresh h c) (k : ∀ b, U b → U' b) : IvfM h p m mv mt dim mid M U' := by
 obtain ⟨es, n, h1, h2, h3⟩ := q.ex
 exact ⟨q.ptr, q.mids.keep hf (fun b hb => ⟨k b hb.1, hb.2⟩) (fun b hb hc _ => rfl), ⟨es, n, h1, h2, fun x => (h3 x).keep hf k fun b hb hc _ _ => rfl⟩, k _ q.pU, k _ q.mU, q.ne, q.rises, q.ok⟩
theorem ivecN_spec {h : T AObj} {c : Nat} {rl wl : List Nat} (hf : Fresh h c) {p m dim : Nat} {mv : Value} {mt : Int} {mid : List (List Int)} {M : List Rc} {U : Nat → Prop} (q : IvfM h p m mv mt dim mid M U) {id : Int} (hr0 : getM id M = none) :
  ∃ r s', FnTo (Cs smQ) eg 180 [.pointer (some ⟨p, 0, none⟩), .int .i64 id] ⟨h, c, rl, wl⟩ r s' ∧ (∃ w, r = .tuple #[w, .bool false] ∧ Own s'.h c w 0 []) ∧ Ext ⟨h, c, rl, wl⟩ s' U (fun _ => False) := by
 obtain ⟨es, n, hm, ⟨ids, h2⟩, h3⟩ := q.ex
 have hp := q.ptr
 obtain ⟨lp, lm⟩ := q.lt hf
 have hpU := q.pU
 have hmU := q.mU
 obtain ⟨oa1, cap1, rfl⟩ := q.mids.val
 have hfi : findI id es = none := by
  rcases h3 id with ⟨e1, e2⟩ | ⟨r, v, e1, e2, _⟩
  ·exact valI_none.1 e2
  ·rw [hr0] at e1; cases e1
 have hv : (match findI id es with | some p => p.2 | none => .agg ⟨[.slice none 0 0, .int .i64 0]⟩) = Value.agg ⟨[.slice none 0 0, .int .i64 0]⟩ := by rw [hfi]
 have hs : (findI id es).isSome = false := by rw [hfi]; rfl
 refine Fn.go (stdQ 180 rfl) ex180 fn180 km180 rfl rfl ?_
 refine Zev ?_
 refine Zgo ?_
 refine Zu (to_lookupOk (mi_ rfl) (ze_ rfl) rfl rfl hm (by omega) h2.ks hv hs) ?_
 refine Zgo ?_
 refine Wseq.call rfl rfl (copy_spec stdQ Zfr (xs := []) (.inl ⟨rfl, rfl, _, _, rfl⟩) (by unfold bigV; omega) (fun e => ⟨_, _, rfl, fun _ => rfl⟩) U (fun b o sp n' cap e => by cases e)) ?_
 rintro w h1 c1 r1 w1 ⟨hw, hext⟩
 have fr1 := hext.fresh
 have le1 := hext.c
 simp only at le1 fr1 hw
 have kp := Kp.ext (W := fun _ => False) (h := h) (c := c) Zkp hext (by omega) (fun _ _ q => q)
 have lr := Lg.extR (R := U) (c := c) Zlg hext (fun _ _ q => q)
 have lw := Lg.extW (W := fun _ => False) (c := c) Zlg hext (fun _ _ q => q)
 refine Zgo ?_
 refine ⟨.inr rfl, Wres.two rfl rfl ⟨⟨w, rfl, hw.low (by omega)⟩, ?_⟩⟩
 exact Zex
def faceIs (p : Nat) : List Value := [.pointer none, .pointer (some ⟨p, 0, none⟩), .pointer none, .pointer none]
def faceI (p : Nat) : Value := .agg ⟨[.pointer none, .pointer (some ⟨p, 0, none⟩), .pointer none, .pointer none]⟩
section
variable {h : T AObj} {c : Nat} {rl wl : List Nat} {p m dim : Nat} {mv : Value} {mt : Int} {mid : List (List Int)} {M : List Rc} {U : Nat → Prop}
theorem ifput_spec (hf : Fresh h c) (q : IvfM h p m mv mt dim mid M U) (hmn : mid.length ≤ 12) (id : Int) (hid : -9223372036854775808 ≤ id ∧ id ≤ 9223372036854775807)
  {a : Option Addr} {cap : Nat} {zs : List Int} (hv : Row h (.slice a dim cap) dim 1 (zs.map (Value.int .i32))) (hx : zs.length = dim) (hb : Bnd zs) (hd : 1 ≤ dim) (hd' : dim ≤ 1000) (bs : Nat → Prop) (hbs : ∀ b, blkOf (.slice a dim cap) = some b → bs b) (hbm : ¬bs m) (kd k dw : Int) (oa : Option Addr) (on oc : Nat) :
  ∃ r s', FnTo (Cs smQ) eg 119 [faceI p, opF kd id k oa on oc dw, .slice a dim cap] ⟨h, c, rl, wl⟩ r s' ∧ IvfM s'.h p m mv mt dim mid (putM (mbI id zs (listZ mid zs)) M) (fun b => U b ∨ c ≤ b ∧ b < s'.c) ∧ Ext ⟨h, c, rl, wl⟩ s' (fun b => U b ∨ bs b) (fun b => b = m) := by
 obtain ⟨lp, lm⟩ := q.lt hf
 refine Fn.go (stdQ 119 rfl) ex119 fn119 km119 rfl rfl ?_
 intro e he
 unfold faceI opF at he
 (simp (decide := true) only [kz] at he; subst he)
 refine Zgo ?_
 refine Wseq.call rfl rfl (iput_spec Zfr (q.keep hf (fun b _ hb => (get_other (by omega)).trans (get_other (by omega)))) hmn id hid (Row.keepF hv hf (fun b hb => (get_other (by omega)).trans (get_other (by omega)))) hx hb hd hd' bs hbs hbm) ?_
 rintro v1 h1 c1 r1 w1 ⟨q1, hext⟩
 have fr1 := hext.fresh
 have le1 := hext.c
 simp only at le1 fr1 q1
 have kp := Kp.ext (W := fun b => b = m) (h := h) (c := c) Zkp hext (by omega) (fun _ _ q => q)
 have lr := Lg.extR (R := fun b => U b ∨ bs b) (c := c) Zlg hext (fun _ _ q => q)
 have lw := Lg.extW (W := fun b => b = m) (c := c) Zlg hext (fun _ _ q => q)
 refine Zgo ?_
 refine ⟨.inl rfl, Wres.nil ⟨q1.wide fr1 fun b hb => hb.imp (fun x => x) (fun x => ⟨by omega, x.2⟩), ?_⟩⟩
 exact Zex
theorem ifdel_spec (hf : Fresh h c) (q : IvfM h p m mv mt dim mid M U) (id : Int) :
  ∃ r s', FnTo (Cs smQ) eg 120 [faceI p, .int .i64 id] ⟨h, c, rl, wl⟩ r s' ∧ (r = .bool (getM id M).isSome ∧ IvfM s'.h p m mv mt dim mid (delM id M) U) ∧ Ext ⟨h, c, rl, wl⟩ s' U (fun b => b = m) := by
 obtain ⟨lp, lm⟩ := q.lt hf
 refine Fn.go (stdQ 120 rfl) ex120 fn120 km120 rfl rfl ?_
 intro e he
 unfold faceI at he
 (simp (decide := true) only [kz] at he; subst he)
 refine Zgo ?_
 refine Wseq.call rfl rfl (idel_spec Zfr (q.keep hf (fun b _ hb => get_other (by omega))) id) ?_
 rintro v1 h1 c1 r1 w1 ⟨⟨rfl, q1⟩, hext⟩
 have fr1 := hext.fresh
 have le1 := hext.c
 simp only at le1 fr1 q1
 have kp := Kp.ext (W := fun b => b = m) (h := h) (c := c) Zkp hext (by omega) (fun _ _ q => q)
 have lr := Lg.extR (R := U) (c := c) Zlg hext (fun _ _ q => q)
 have lw := Lg.extW (W := fun b => b = m) (c := c) Zlg hext (fun _ _ q => q)
 refine Zgo ?_
 refine ⟨.inr rfl, Wres.one rfl ⟨⟨rfl, q1⟩, ?_⟩⟩
 exact Zex
theorem ifids_spec (hf : Fresh h c) (q : IvfM h p m mv mt dim mid M U) (hn : M.length ≤ 1000) :
  ∃ r s', FnTo (Cs smQ) eg 124 [faceI p] ⟨h, c, rl, wl⟩ r s' ∧ Own s'.h c r M.length ((M.map Rc.id).map (Value.int .i64)) ∧ Ext ⟨h, c, rl, wl⟩ s' U (fun _ => False) := by
 obtain ⟨lp, lm⟩ := q.lt hf
 refine Fn.go (stdQ 124 rfl) ex124 fn124 km124 rfl rfl ?_
 intro e he
 unfold faceI at he
 (simp (decide := true) only [kz] at he; subst he)
 refine Zgo ?_
 refine Wseq.call rfl rfl (iids_spec Zfr (q.keep hf (fun b _ hb => get_other (by omega))) hn) ?_
 rintro v1 h1 c1 r1 w1 ⟨hids, hext⟩
 have fr1 := hext.fresh
 have le1 := hext.c
 simp only at le1 fr1 hids
 have kp := Kp.ext (W := fun _ => False) (h := h) (c := c) Zkp hext (by omega) (fun _ _ q => q)
 have lr := Lg.extR (R := U) (c := c) Zlg hext (fun _ _ q => q)
 have lw := Lg.extW (W := fun _ => False) (c := c) Zlg hext (fun _ _ q => q)
 refine Zgo ?_
 refine ⟨.inr rfl, Wres.one rfl ⟨hids.low (by omega), ?_⟩⟩
 exact Zex
theorem ifvec_spec (hf : Fresh h c) (q : IvfM h p m mv mt dim mid M U) (hd1 : 1 ≤ dim) (hd : dim ≤ 1000) (id : Int) :
  ∃ r s', FnTo (Cs smQ) eg 122 [faceI p, .int .i64 id] ⟨h, c, rl, wl⟩ r s' ∧ (∃ w, r = .tuple #[w, .bool (getM id M).isSome] ∧ Tells s'.h w dim (getM id M)) ∧ Ext ⟨h, c, rl, wl⟩ s' U (fun _ => False) := by
 obtain ⟨lp, lm⟩ := q.lt hf
 refine Fn.go (stdQ 122 rfl) ex122 fn122 km122 rfl rfl ?_
 intro e he
 unfold faceI at he
 (simp (decide := true) only [kz] at he; subst he)
 refine Zgo ?_
 cases hg : getM id M with
 | none =>
  refine Wseq.call rfl rfl (ivecN_spec Zfr (q.keep hf (fun b _ hb => get_other (by omega))) hg) ?_
  rintro v1 h1 c1 r1 w1 ⟨⟨w, rfl, hw⟩, hext⟩
  have fr1 := hext.fresh
  have le1 := hext.c
  simp only at le1 fr1 hw
  have kp := Kp.ext (W := fun _ => False) (h := h) (c := c) Zkp hext (by omega) (fun _ _ q => q)
  have lr := Lg.extR (R := U) (c := c) Zlg hext (fun _ _ q => q)
  have lw := Lg.extW (W := fun _ => False) (c := c) Zlg hext (fun _ _ q => q)
  obtain ⟨wa, wk, rfl⟩ := hw.val
  refine Zgo ?_
  refine ⟨.inr rfl, Wres.two rfl rfl ⟨⟨_, rfl, .inl ⟨rfl, wa, wk, rfl, hw.row rfl⟩⟩, ?_⟩⟩
  exact Zex
 | some r0 =>
  refine Wseq.call rfl rfl (ivec_spec Zfr (q.keep hf (fun b _ hb => get_other (by omega))) hd1 hd hg) ?_
  rintro v1 h1 c1 r1 w1 ⟨⟨w, rfl, hw⟩, hext⟩
  have fr1 := hext.fresh
  have le1 := hext.c
  simp only at le1 fr1 hw
  have kp := Kp.ext (W := fun _ => False) (h := h) (c := c) Zkp hext (by omega) (fun _ _ q => q)
  have lr := Lg.extR (R := U) (c := c) Zlg hext (fun _ _ q => q)
  have lw := Lg.extW (W := fun _ => False) (c := c) Zlg hext (fun _ _ q => q)
  obtain ⟨wa, wk, rfl⟩ := hw.val
  obtain ⟨zs, e6, e7, _⟩ := q.ok r0 (getM_mem hg).1
  have exs : r0.xs = zs.map (Value.int .i32) := by rw [e6]
  refine Zgo ?_
  refine ⟨.inr rfl, Wres.two rfl rfl ⟨⟨_, rfl, .inr ⟨r0, zs, wa, wk, rfl, exs, e7, rfl, hw.row (by rw [exs, List.length_map, e7])⟩⟩, ?_⟩⟩
  exact Zex
theorem ifsearch_spec (hf : Fresh h c) (q : IvfM h p m mv mt dim mid M U) (hmn : mid.length ≤ 12) (hmt : mt = 1 ∨ mt = 2) {qa : Option Addr} {qc : Nat} {qs : List Int} (hq : Row h (.slice qa dim qc) dim 1 (qs.map (Value.int .i32))) (hqn : qs.length = dim) (hqb : Bnd qs) (hd : dim ≤ 1000) (k : Int) {kk : Nat} (hk : max k 0 = (kk : Int)) (hkk : kk ≤ 1000) (hn : M.length ≤ 800) (R : Nat → Prop) (hUR : ∀ b, U b → R b) (hqR : ∀ b, blkOf (.slice qa dim qc) = some b → R b) :
  ∃ r s', FnTo (Cs smQ) eg 121 [faceI p, .slice qa dim qc, .int .i64 k] ⟨h, c, rl, wl⟩ r s' ∧ (Best s'.h r (bestOf kk (hitsI mt qs mid M)).length (flatH (bestOf kk (hitsI mt qs mid M))) ∧ ∀ b, blkOf r = some b → c ≤ b) ∧ Ext ⟨h, c, rl, wl⟩ s' R (fun _ => False) := by
 obtain ⟨lp, lm⟩ := q.lt hf
 refine Fn.go (stdQ 121 rfl) ex121 fn121 km121 rfl rfl ?_
 intro e he
 unfold faceI at he
 (simp (decide := true) only [kz] at he; subst he)
 refine Zgo ?_
 refine Wseq.call rfl rfl (isearch_spec Zfr (q.keep hf (fun b _ hb => get_other (by omega))) hmn hmt (Row.keepF hq hf (fun b hb => get_other (by omega))) hqn hqb hd k hk hkk hn R hUR hqR) ?_
 rintro v1 h1 c1 r1 w1 ⟨⟨g1, g2⟩, hext⟩
 have fr1 := hext.fresh
 have le1 := hext.c
 simp only at le1 fr1 g1
 have kp := Kp.ext (W := fun _ => False) (h := h) (c := c) Zkp hext (by omega) (fun _ _ q => q)
 have lr := Lg.extR (R := R) (c := c) Zlg hext (fun _ _ q => q)
 have lw := Lg.extW (W := fun _ => False) (c := c) Zlg hext (fun _ _ q => q)
 refine Zgo ?_
 refine ⟨.inr rfl, Wres.one rfl ⟨⟨g1, fun b hb => by have := g2 b hb; omega⟩, ?_⟩⟩
 exact Zex
end
end Go.Ab.Seat
end
section
/- The best ones of some, whichever order they come in; the nearest middle (plain). -/
namespace Go.Ab.Seat
open Go.Extern Go.Proofs
theorem iH_take (x : Ht) : ∀ (p : List Ht) (k : Nat), iH x (p.take k) = min (iH x p) k
 | [], k => by simp [iH]
 | y :: p, 0 => by simp [iH]
 | y :: p, k + 1 => by
  have h := iH_take x p k
  unfold iH at h ⊢
  rw [List.take_succ_cons, List.takeWhile_cons, List.takeWhile_cons]
  cases lessH y x
  ·simp
  ·simp only [if_true, List.length_cons]; omega
theorem take_ins {α : Type} (p : List α) (x : α) {i k : Nat} (hi : i ≤ p.length) (hk : i < k) : ((p.take k).take i ++ x :: (p.take k).drop i).take k = (p.take i ++ x :: p.drop i).take k := by
 have e1 : (p.take k).take i = p.take i := by rw [List.take_take, Nat.min_eq_left (by omega)]
 rw [e1, List.drop_take]
 obtain ⟨j, rfl⟩ : ∃ j, k = i + j + 1 := ⟨k - i - 1, by omega⟩
 have hl : (p.take i).length = i := by rw [List.length_take]; omega
 have e2 : ((p.drop i).take (j + 1)).take j = (p.drop i).take j := by rw [List.take_take, Nat.min_eq_left (by omega)]
 rw [List.take_append, List.take_append, hl, show i + j + 1 - i = j + 1 by omega, List.take_succ_cons, List.take_succ_cons, e2]
theorem putB_cut {k : Nat} {p : List Ht} {x : Ht} (hx : ∀ y ∈ p, y.id ≠ x.id) : putB k (p.take k) x = (insB x p).take k := by
 have h1 : (p.take k).any (fun y => decide (y.id = x.id)) = false := by
  rw [List.any_eq_false]
  intro y hy
  simpa using hx y (List.mem_of_mem_take hy)
 have h2 := iH_le x p
 unfold putB
 rw [h1, if_neg (by decide), iH_take]
 by_cases hk : k ≤ iH x p
 ·rw [if_pos (by omega)]
  unfold insB
  rw [List.take_append_of_le_length (by rw [List.length_take]; omega), List.take_take, Nat.min_eq_left hk]
 ·rw [if_neg (by omega), Nat.min_eq_left (by omega)]
  exact take_ins p x h2 (by omega)
theorem bestOf_cut {k : Nat} {l : List Ht} (hd : (l.map Ht.id).Nodup) : ∀ m, m ≤ l.length → bestOf k (l.take m) = (bestOf l.length (l.take m)).take k
 | 0, _ => by simp [bestOf]
 | m + 1, hm => by
  obtain ⟨h1, _⟩ := bestOf_ord (k := l.length) hd m (by omega) (by omega)
  have h3 : ∀ y ∈ bestOf l.length (l.take m), y.id ≠ (l[m]'(by omega)).id := fun y hy => ids_ne hd (by omega) y (h1.mem_iff.1 hy)
  have h4 : (bestOf l.length (l.take m)).length = m := by rw [h1.length_eq, List.length_take]; omega
  rw [bestOf_take (by omega), bestOf_take (by omega), putB_ins h3 (by omega), bestOf_cut hd m (by omega), putB_cut h3]
theorem ord_unique : ∀ {a b : List Ht}, Ord a → Ord b → a.Perm b → a = b
 | [], b, _, _, h => by rw [List.nil_perm.1 h]
 | x :: a, [], _, _, h => by have := h.length_eq; simp at this
 | x :: a, y :: b, h1, h2, h => by
  obtain ⟨p1, p2⟩ := List.pairwise_cons.1 h1
  obtain ⟨q1, q2⟩ := List.pairwise_cons.1 h2
  have hxy : x = y := by
   rcases List.mem_cons.1 (h.mem_iff.1 (List.mem_cons_self ..)) with e | hx
   ·exact e
   ·rcases List.mem_cons.1 (h.mem_iff.2 (List.mem_cons_self ..)) with e | hy
    ·exact e.symm
    ·have h5 := lessH_asymm (q1 x hx)
     rw [p1 y hy] at h5
     cases h5
  subst hxy
  rw [ord_unique p2 q2 ((List.perm_cons x).1 h)]
theorem bestOf_perm {k : Nat} {a b : List Ht} (hd : (a.map Ht.id).Nodup) (h : a.Perm b) : bestOf k a = bestOf k b := by
 have hb : (b.map Ht.id).Nodup := (h.map Ht.id).nodup_iff.1 hd
 have e1 := bestOf_cut (k := k) hd a.length (Nat.le_refl _)
 have e2 := bestOf_cut (k := k) hb b.length (Nat.le_refl _)
 obtain ⟨p1, p2⟩ := bestOf_ord (k := a.length) hd a.length (Nat.le_refl _) (Nat.le_refl _)
 obtain ⟨q1, q2⟩ := bestOf_ord (k := b.length) hb b.length (Nat.le_refl _) (Nat.le_refl _)
 rw [List.take_length] at e1 e2 p1 p2 q1 q2
 rw [e1, e2, ord_unique p2 q2 ((p1.trans h).trans q1.symm)]
def hitJ (mid : List (List Int)) (qs : List Int) (i : Nat) : Ht := ⟨(i : Int), scoreZ 1 (mid.getD i []) qs⟩
theorem hitJ_mem {mid : List (List Int)} {qs : List Int} {i : Nat} (hi : i < mid.length) : hitJ mid qs i ∈ hitO qs mid := List.mem_map.2 ⟨i, List.mem_range.2 hi, rfl⟩
theorem hitJ_of {mid : List (List Int)} {qs : List Int} {x : Ht} (h : x ∈ hitO qs mid) : ∃ i, i < mid.length ∧ x = hitJ mid qs i := by
 obtain ⟨i, h1, rfl⟩ := List.mem_map.1 h
 exact ⟨i, List.mem_range.1 h1, rfl⟩
theorem near_char {mid : List (List Int)} {qs : List Int} {j : Nat} (hj : j < mid.length) (h : ∀ i, i < mid.length → lessH (hitJ mid qs i) (hitJ mid qs j) = false) : nearZ mid qs = (j : Int) := by
 have h0 := hitO_len qs mid
 have hd := hitO_nodup qs mid
 obtain ⟨p1, p2⟩ := bestOf_ord (k := mid.length) hd (hitO qs mid).length (Nat.le_refl _) (by omega)
 rw [List.take_length] at p1 p2
 unfold nearZ ordZ
 rw [if_neg (by omega)]
 have hl : (bestOf mid.length (hitO qs mid)).length = mid.length := by rw [p1.length_eq, h0]
 cases hb : bestOf mid.length (hitO qs mid) with
 | nil => rw [hb] at hl; simp at hl; omega
 | cons x l =>
  rw [hb] at p1 p2
  obtain ⟨i, hi, rfl⟩ := hitJ_of (p1.mem_iff.1 (List.mem_cons_self ..))
  show (i : Int) = j
  rcases List.mem_cons.1 (p1.mem_iff.2 (hitJ_mem (qs := qs) hj)) with e | hm
  ·have := congrArg Ht.id e
   exact this.symm
  ·have h1 := (List.pairwise_cons.1 p2).1 _ hm
   rw [h i hi] at h1
   cases h1
def NearUp (mid : List (List Int)) (qs : List Int) (i : Nat) (z : Int) : Prop := (i = 0 ∧ z = -1) ∨ ∃ j : Nat, z = (j : Int) ∧ j < i ∧ ∀ i', i' < i → lessH (hitJ mid qs i') (hitJ mid qs j) = false
theorem NearUp.end {mid : List (List Int)} {qs : List Int} {z : Int} (h : NearUp mid qs mid.length z) : nearZ mid qs = z := by
 rcases h with ⟨h1, rfl⟩ | ⟨j, rfl, h2, h3⟩
 ·unfold nearZ; rw [if_pos h1]
 ·exact near_char h2 h3
theorem NearUp.take {mid : List (List Int)} {qs : List Int} {i : Nat} : NearUp mid qs (i + 1) (i : Int) ↔ ∀ i', i' < i → lessH (hitJ mid qs i') (hitJ mid qs i) = false := by
 constructor
 ·rintro (⟨h1, _⟩ | ⟨j, h1, h2, h3⟩) i' hi
  ·cases h1
  ·obtain rfl : j = i := by omega
   exact h3 i' (by omega)
 ·intro h
  refine .inr ⟨i, rfl, by omega, fun i' hi => ?_⟩
  rcases Nat.lt_or_ge i' i with q | q
  ·exact h i' q
  ·obtain rfl : i' = i := by omega
   rw [lessH_not]; omega
theorem NearUp.up {mid : List (List Int)} {qs : List Int} {i : Nat} {j : Nat} (h : NearUp mid qs i (j : Int)) : NearUp mid qs (i + 1) (if scoreZ 1 (mid.getD i []) qs < scoreZ 1 (mid.getD j []) qs then (i : Int) else (j : Int)) := by
 rcases h with ⟨_, h⟩ | ⟨j', h1, h2, h3⟩
 ·omega
 obtain rfl : j' = j := by omega
 split
 ·rename_i q
  rw [NearUp.take]
  intro i' hi
  have h4 := h3 i' hi
  rw [lessH_not] at h4 ⊢
  unfold hitJ at h4 ⊢
  dsimp only at h4 ⊢
  omega
 ·rename_i q
  refine .inr ⟨j', rfl, by omega, fun i' hi => ?_⟩
  rcases Nat.lt_or_ge i' i with q2 | q2
  ·exact h3 i' q2
  ·obtain rfl : i' = i := by omega
   rw [lessH_not]
   unfold hitJ
   dsimp only
   omega
end Go.Ab.Seat
end
