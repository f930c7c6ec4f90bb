import Derived.Test.YtcnfbfiakkjabaaGreatDoorDT3
import Derived.Test.YtcnfbfiakkjabaaGreatDoorDX1
set_option linter.unusedVariables false
set_option linter.unusedSimpArgs false
section
/- The reference's best ones (the abstract machine). -/
namespace Go.Ab.Seat
open Go.Extern Go.Proofs
set_option linter.unusedSimpArgs false
set_option linter.unusedVariables false
set_option maxRecDepth 4000
set_option pp.deepTerms false
set_option pp.deepTerms.threshold 6

theorem putB_ord {k : Nat} {p : List Ht} {x : Ht} (h : Ord p) : Ord (putB k p x) := by
  unfold putB
  cases ha : p.any (fun y => decide (y.id = x.id))
  · rw [if_neg (by decide)]
    split
    · exact h
    · have h2 : ∀ y ∈ p, y.id ≠ x.id := fun y hy => by
        have := List.any_eq_false.1 ha y hy
        simpa using this
      exact (insB_ord h h2).sublist (List.take_sublist _ _)
  · rw [if_pos rfl]; exact h
theorem putB_lek {k : Nat} {p : List Ht} {x : Ht} (h : p.length ≤ k) : (putB k p x).length ≤ k := by
  unfold putB
  split
  · exact h
  · split
    · exact h
    · rw [List.length_take]; omega
theorem bestOf_good (k : Nat) (l : List Ht) : ∀ m, m ≤ l.length → Ord (bestOf k (l.take m)) ∧ (bestOf k (l.take m)).length ≤ k
  | 0, _ => by rw [List.take_zero]; exact ⟨List.Pairwise.nil, Nat.zero_le _⟩
  | m + 1, hm => by
    obtain ⟨h1, h2⟩ := bestOf_good k l m (by omega)
    rw [bestOf_take (by omega)]
    exact ⟨putB_ord h1, putB_lek h2⟩

def ERb (k : Int) (oa : Option Addr) (n cap : Nat) (lv : Value) (z : Int) (j6 j10 : Value) : L :=
  .cons 0 (.int .i64 k) (.cons 1 (.slice oa n cap) (.cons 4 (.slice none 0 0) (.cons 5 lv (.cons 8 (.int .i64 (n : Int)) (.cons 9 (.int .i64 z) (.cons 6 j6 (.cons 10 j10 .nil)))))))

set_option maxHeartbeats 4000000 in
theorem rbest_spec {h : T AObj} {c : Nat} {rl wl : List Nat} (hf : Fresh h c) {k : Int} {kk : Nat} (hk : max k 0 = (kk : Int)) (hkk : kk ≤ 1000) {oa : Option Addr} {cap : Nat} {l : List Ht} (hx : Row h (.slice oa l.length cap) l.length 2 (flatH l)) (hn : l.length ≤ 800) (R : Nat → Prop) (hR : ∀ x, blkOf (.slice oa l.length cap) = some x → R x) :
    ∃ r s', FnTo (Cs smQ) eg 115 [.int .i64 k, .slice oa l.length cap] ⟨h, c, rl, wl⟩ r s' ∧ (Best s'.h r (bestOf kk l).length (flatH (bestOf kk l)) ∧ ∀ b, blkOf r = some b → c ≤ b) ∧ Ext ⟨h, c, rl, wl⟩ s' R (fun _ => False) := by
  refine Fn.go (stdQ 115 rfl) ex115 fn115 km115 rfl rfl ?_
  refine Zev ?_
  refine Zgo ?_
  refine Wx.loopE (fun k1 e s => ∃ (i : Nat) (z : Int) (lv j6 j10 : Value) (h' : T AObj) (c' : Nat) (rl' wl' : List Nat), e = ERb k oa l.length cap lv z j6 j10 ∧ z = i ∧ s = ⟨h', c', rl', wl'⟩ ∧ c ≤ c' ∧ Fresh h' c' ∧ Kp h h' c (fun _ => False) ∧ Best h' lv (bestOf kk (l.take i)).length (flatH (bestOf kk (l.take i))) ∧ (∀ b, blkOf lv = some b → c ≤ b) ∧ Lg c R rl' ∧ Lg c (fun _ => False) wl' ∧ i ≤ l.length ∧ k1 = l.length - i) l.length (ERb k oa l.length cap (.slice none 0 0) 0 top top) Zrs ?_ ?_ ?_
  · unfold ERb
    exact Zek
  · exact ⟨0, 0, _, _, _, _, _, _, _, rfl, rfl, rfl, Nat.le_refl _, Zfr, Zkp, .inl ⟨rfl, rfl, rfl⟩, (fun b q => by cases q), Zlg, Zlg, by omega, rfl⟩
  · rintro k1 e s ⟨i, z, lv, j6, j10, h', c', rl', wl', rfl, hz, rfl, hcc, hf', hkp, hB, hBb, hlr, hlw, hid, rfl⟩
    unfold ERb
    by_cases hi : i < l.length
    · have hx' := Row.keepF hx hf (fun b hb => hkp b hb (fun q => q))
      have hxi : l[i]? = some l[i] := List.getElem?_eq_getElem hi
      rcases hx' with ⟨q, _⟩ | ⟨bl, o, sp, cap', cs, e, hcl, hsub⟩
      · omega
      simp only [Value.slice.injEq, true_and] at e
      obtain ⟨rfl, rfl⟩ := e
      have lbl := hcl.lt hf'
      have rb := hR bl rfl
      have hs2 := sub_hit hsub hxi
      obtain ⟨g1, g2⟩ := bestOf_good kk l i hid
      obtain ⟨olv, clv, rfl, _, _⟩ := hB.row
      refine Zgo ?_
      ((with_reducible apply Wseq.stg); rfl; exact to_indexAddr (k := i) el32 rfl rfl hz hi)
      ((with_reducible apply Wseq.stg); rfl; exact to_loadS (ag_ rfl) rfl hcl (by omega) hs2)
      refine Wseq.call rfl rfl (pb_spec Zfr hk hkk hB g1 g2 l[i] (fun b => c ≤ b) hBb) ?_
      rintro v2 h2 c2 r2 w2 ⟨⟨v', bb, rfl, hB2, hv2⟩, hext⟩
      have fr2 := hext.fresh
      have le2 := hext.c
      simp only at fr2 le2 hB2
      have kp2 := Kp.ext (W := fun _ => False) (h := h) (c := c) hkp hext (by omega) (fun _ _ q => q)
      have lr2 := Lg.extR (R := R) (c := c) Zlg hext (fun b hb q => by omega)
      have lw2 := Lg.extW (W := fun _ => False) (c := c) Zlg hext (fun _ _ q => q)
      rw [← bestOf_take hi] at hB2
      refine Zgo ?_
      refine RoundE.go (l.length - (i + 1)) (ERb k _ l.length cap v' (z + 1) _ _) (by omega) Zek ⟨i + 1, z + 1, _, _, _, _, _, _, _, rfl, by omega, rfl, by omega, fr2, kp2, hB2, fun b q => (hv2 b q).elim (fun u => by omega) (hBb b), lr2, lw2, by omega, rfl⟩
    · refine Zgo ?_
      obtain rfl : i = l.length := by omega
      rw [List.take_length] at hB
      refine ⟨.inr rfl, Wres.one rfl ⟨⟨hB, hBb⟩, ?_⟩⟩
      exact Zex
end Go.Ab.Seat
end
section
/- The reference's index: a hit, a search (the abstract machine). -/
namespace Go.Ab.Seat
open Go.Extern Go.Proofs
set_option linter.unusedSimpArgs false
set_option linter.unusedVariables false
set_option maxRecDepth 4000
set_option pp.deepTerms false
set_option pp.deepTerms.threshold 6

set_option maxHeartbeats 4000000 in
theorem rhit_spec {h : T AObj} {c : Nat} {rl wl : List Nat} (hf : Fresh h c) {p dim : Nat} {mt dm : Int} {M : List Rc} {U0 : Nat → Prop} (q : RefX h p mt dm dim M U0) (hml : M.length ≤ 900) (hmt : mt = 1 ∨ mt = 2) {qa : Option Addr} {qc : Nat} {qs : List Int} (hq : Row h (.slice qa dim qc) dim 1 (qs.map (Value.int .i32))) (hqn : qs.length = dim) (hqb : Bnd qs) (hd : dim ≤ 1000) {id : Int} {r0 : Rc} (hr0 : getM id M = some r0) (R : Nat → Prop) (hUR : ∀ b, U0 b → R b) (hqR : ∀ b, blkOf (.slice qa dim qc) = some b → R b) :
    ∃ r s', FnTo (Cs smQ) eg 106 [.pointer (some ⟨p, 0, none⟩), .slice qa dim qc, .int .i64 id] ⟨h, c, rl, wl⟩ r s' ∧ r = hitv id (scoreZ mt qs (intsV r0.xs)) ∧ Ext ⟨h, c, rl, wl⟩ s' R (fun _ => False) := by
  obtain ⟨⟨lv, l, h1, h2, h3, h4, h5⟩, h6, h7, h8⟩ := _root_.id q
  have hpc := h1.lt hf
  have hpR := hUR p h6
  have hll : l.length = M.length := by rw [← h5, List.length_map]
  rcases h2 with ⟨rfl, rfl⟩ | ⟨bl, rfl, hlne, hbl⟩
  · rw [← h5] at hr0; cases hr0
  have lbl := hbl.lt hf
  have rbl := hUR bl (h3 bl rfl).1
  refine Fn.go (stdQ 106 rfl) ex106 fn106 km106 rfl rfl ?_
  refine Zev ?_
  have hp1 := h1
  unfold refC at hp1
  refine Zgo ?_
  refine Wtr.call rfl rfl (at_spec Zfr (h1.other (by omega)) hlne (hbl.other (by omega)) (by omega) (id := id) (by rw [h5, hr0]; simp) R hpR rbl) ?_
  rintro v1 hA c1 r1 w1 ⟨⟨⟨k, x, rfl, hk, hxi, hg⟩, e1, e2⟩, hext⟩
  simp only at e1 e2
  have hqt := hext.quiet (fun _ _ q => q)
  have lr := Lg.extR (R := R) (c := c) Zlg hext (fun _ _ q => q)
  have lw := Lg.extW (W := fun _ => False) (c := c) Zlg hext (fun _ _ q => q)
  subst e1 e2
  refine ⟨Zap, ?_⟩
  rw [h5, hr0] at hg
  obtain rfl : r0 = x.rc := Option.some.inj hg
  obtain ⟨o1, o2⟩ := h4 x (List.mem_of_getElem? hk)
  obtain ⟨zs, hzs, hzl, hzb⟩ := h8 x.rc (getM_mem hr0).1
  have hxs : x.xs = zs.map (Value.int .i32) := hzs
  obtain ⟨va, vk, hv⟩ := o1.val
  obtain ⟨g0, g1⟩ := on_nth (sub_on hk)
  rw [hv] at g1 o1 o2
  have hlx : x.xs.length = dim := by rw [hxs, List.length_map, hzl]
  rw [hlx] at g1 o1 o2
  rw [hxs] at o1
  have hvr := o1.row (by rw [List.length_map]; exact hzl)
  have kA : ∀ b, b < c → (h.set c (some (.cells [.int .i64 0, .int .i64 0]))).get b = h.get b := fun b hb => get_other (by omega)
  refine Zgo ?_
  ((with_reducible apply Wtr.stx); rfl; exact to_load (pl_ rfl) rfl (hbl.cel.other (by omega)) (by omega) g1; exact Zap)
  refine Wtr.call rfl rfl (rscore_spec Zfr hmt hqn hzl (Row.keepF hq hf kA) (Row.keepF hvr hf kA) hqb hzb hd R (fun b hb => hb.elim (hqR b) (fun u => hUR b (o2 b u).1))) ?_
  rintro v2 hB c2 r2 w2 ⟨⟨rfl, e1, e2⟩, hext2⟩
  simp only at e1 e2
  have hqt2 := hext2.quiet (fun _ _ q => q)
  have lr2 := Lg.extR (R := R) (c := c) Zlg hext2 (fun _ _ q => q)
  have lw2 := Lg.extW (W := fun _ => False) (c := c) Zlg hext2 (fun _ _ q => q)
  subst e1 e2
  refine ⟨Zap, ?_⟩
  refine Zgo ?_
  refine ⟨.inr rfl, Wres.cell rfl (ag_ rfl) Has.same.cel (by omega) (by rfl) ⟨?_, ?_⟩⟩
  · show hitv id (scoreZ mt qs zs) = hitv id (scoreZ mt qs (intsV x.xs))
    rw [hxs, intsV_ints]
  · exact Zex

def ESf (p : Nat) (qa : Option Addr) (dim qc : Nat) (k : Int) (lv : Value) (oi : Option Addr) (n : Nat) (z : Int) (j9 j33 : Value) : L :=
  .cons 0 (.pointer (some ⟨p, 0, none⟩)) (.cons 1 (.slice qa dim qc) (.cons 2 (.int .i64 k) (.cons 6 (.slice none 0 0) (.cons 7 lv (.cons 26 (.int .i64 1) (.cons 27 (.bool true) (.cons 30 (.slice oi n n) (.cons 31 (.int .i64 (n : Int)) (.cons 32 (.int .i64 z) (.cons 9 j9 (.cons 33 j33 .nil)))))))))))

set_option maxHeartbeats 8000000 in
theorem rsearch_spec {h : T AObj} {c : Nat} {rl wl : List Nat} (hf : Fresh h c) {p dim : Nat} {mt dm : Int} {M : List Rc} {U0 : Nat → Prop} (q : RefX h p mt dm dim M U0) (hml : M.length ≤ 800) (hmt : mt = 1 ∨ mt = 2) {qa : Option Addr} {qc : Nat} {qs : List Int} (hq : Row h (.slice qa dim qc) dim 1 (qs.map (Value.int .i32))) (hqn : qs.length = dim) (hqb : Bnd qs) (hd : dim ≤ 1000) (k : Int) {kk : Nat} (hk : max k 0 = (kk : Int)) (hkk : kk ≤ 1000) (R : Nat → Prop) (hUR : ∀ b, U0 b → R b) (hqR : ∀ b, blkOf (.slice qa dim qc) = some b → R b) :
    ∃ r s', FnTo (Cs smQ) eg 62 [.pointer (some ⟨p, 0, none⟩), .slice qa dim qc, .int .i64 k] ⟨h, c, rl, wl⟩ r s' ∧ (Best s'.h r (bestOf kk (hitsM mt qs M)).length (flatH (bestOf kk (hitsM mt qs M))) ∧ ∀ b, blkOf r = some b → c ≤ b) ∧ Ext ⟨h, c, rl, wl⟩ s' R (fun _ => False) := by
  obtain ⟨⟨lv, l, h1, h2, h3, h4, h5⟩, h6, h7, h8⟩ := _root_.id q
  have hpc := h1.lt hf
  have hpR := hUR p h6
  have hll : l.length = M.length := by rw [← h5, List.length_map]
  refine Fn.go (stdQ 62 rfl) ex62 fn62 km62 rfl rfl ?_
  refine Zev ?_
  have hp1 := h1
  unfold refC at hp1
  refine Zgo ?_
  refine Wseq.call rfl rfl (rids_spec Zfr h1 h2 (by omega) R hpR (fun b q => hUR b (h3 b q).1)) ?_
  rintro v1 hA c1 r1 w1 ⟨hids, hext⟩
  have fr1 := hext.fresh
  have le1 := hext.c
  simp only at fr1 le1 hids
  have kp := Kp.ext (W := fun _ => False) (h := h) (c := c) Zkp hext (by omega) (fun _ _ q => q)
  have lr := Lg.extR (R := R) (c := c) Zlg hext (fun _ _ q => q)
  have lw := Lg.extW (W := fun _ => False) (c := c) Zlg hext (fun _ _ q => q)
  obtain ⟨oi, rfl, hrow1, hib⟩ := hids.val
  rw [List.length_map, hll] at hrow1
  rw [List.length_map, hll]
  have hids2 : l.map On.id = M.map Rc.id := by rw [← h5, List.map_map]; rfl
  rw [hids2] at hrow1
  have hbg : big = 1048576 := rfl
  have hlen : ∀ i, i ≤ M.length → (hitsM mt qs (M.take i)).length = i := fun i hi => by unfold hitsM; rw [List.length_map, List.length_take]; omega
  refine Zgo ?_
  refine Wx.loopE (fun k1 e s => ∃ (i : Nat) (z : Int) (lv j9 j33 : Value) (h' : T AObj) (c' : Nat) (rl' wl' : List Nat), e = ESf p qa dim qc k lv oi M.length z j9 j33 ∧ z = i ∧ s = ⟨h', c', rl', wl'⟩ ∧ c1 ≤ c' ∧ Fresh h' c' ∧ Kp hA h' c1 (fun _ => False) ∧ HL h' c1 lv (hitsM mt qs (M.take i)) ∧ Lg c R rl' ∧ Lg c (fun _ => False) wl' ∧ i ≤ M.length ∧ k1 = M.length - i) M.length (ESf p qa dim qc k (.slice none 0 0) oi M.length 0 top top) Zrs ?_ ?_ ?_
  · unfold ESf
    exact Zek
  · exact ⟨0, 0, _, _, _, _, _, _, _, rfl, rfl, rfl, Nat.le_refl _, fr1, Kp.refl, .inl ⟨rfl, rfl⟩, Zlg, Zlg, by omega, rfl⟩
  · rintro k1 e s ⟨i, z, lv, j9, j33, h', c', rl', wl', rfl, hz, rfl, hcc, hf', hkp, hHL, hlr, hlw, hid, rfl⟩
    unfold ESf
    have kph : Kp h h' c (fun _ => False) := fun b hb _ => (hkp b (by omega) (fun q => q)).trans (kp b hb (fun q => q))
    by_cases hi : i < M.length
    · have hrow' := Row.keepF hrow1 fr1 (fun b hb => hkp b hb (fun q => q))
      have hgid : ((M.map Rc.id).map (Value.int .i64))[i]? = some (.int .i64 M[i].id) := by
        rw [List.getElem?_map, List.getElem?_map, List.getElem?_eq_getElem hi]; rfl
      obtain ⟨b1, o1, sp1, cs1, rfl, hc1, hn1⟩ := rowCell hrow' (j := i * 1) (by omega) (by rw [Nat.mul_one]; exact hgid)
      have hb1 := hib b1 rfl
      have l1 := hc1.lt hf'
      have hq0 := Row.keepF hq hf (fun b hb => kph b hb (fun q => q))
      have q' := q.keep hf (fun b _ hb => kph b hb (fun q => q))
      have hgm := getM_some q.rises (List.getElem_mem hi) rfl
      refine Zgo ?_
      ((with_reducible apply Wseq.stg); rfl; exact to_indexAddr (k := i) el35 rfl rfl hz (by omega))
      ((with_reducible apply Wseq.stg); rfl; exact to_load (pl_ rfl) rfl hc1 (by omega) hn1)
      refine Zgo ?_
      refine Wseq.call rfl rfl (rhit_spec Zfr q' (by omega) hmt hq0 hqn hqb hd hgm R hUR hqR) ?_
      rintro v2 hB c2 r2 w2 ⟨rfl, hext2⟩
      have fr2 := hext2.fresh
      have le2 := hext2.c
      simp only at fr2 le2
      have kp2 := Kp.ext (W := fun _ => False) (h := hA) (c := c1) hkp hext2 (by omega) (fun _ _ q => q)
      have lr2 := Lg.extR (R := R) (c := c) Zlg hext2 (fun _ _ q => q)
      have lw2 := Lg.extW (W := fun _ => False) (c := c) Zlg hext2 (fun _ _ q => q)
      have hhit : hitsM mt qs (M.take (i + 1)) = hitsM mt qs (M.take i) ++ [⟨M[i].id, scoreZ mt qs (intsV M[i].xs)⟩] := by
        unfold hitsM
        rw [List.take_succ_eq_append_getElem hi, List.map_append]
        rfl
      have hfl : flatH (hitsM mt qs (M.take (i + 1))) = flatH (hitsM mt qs (M.take i)) ++ [.int .i64 M[i].id, .int .i64 (scoreZ mt qs (intsV M[i].xs))] := by rw [hhit, flatH_app]; rfl
      have hl0 := hlen i (by omega)
      have hl1 := hlen (i + 1) (by omega)
      unfold hitv
      rcases hHL with ⟨rfl, hnil⟩ | ⟨bl, rfl, hne, hbl, hbc⟩
      · refine Zgo ?_
        ((with_reducible apply Wseq.stg); rfl; exact to_appNil ro32 sl32 rfl rfl (k := 0) Has.same.cel (by omega) (subN_all _ _ rfl) (by omega) Zfr)
        refine Zgo ?_
        refine RoundE.go (M.length - (i + 1)) (ESf p qa dim qc k _ _ M.length (z + 1) _ _) (by omega) Zek ⟨i + 1, z + 1, _, _, _, _, _, _, _, rfl, by omega, rfl, by omega, Zfr, Zkp, ?_, Zlg, Zlg, by omega, rfl⟩
        have hi0 : i = 0 := by rw [hnil] at hl0; simpa using hl0.symm
        refine .inr ⟨c2 + 1, ?_, ?_, by omega, ?_⟩
        · rw [hl1, hi0]
        · intro e; rw [e] at hl1; simp at hl1
        · rw [hfl, hnil]; exact Has.same
      · have l3 := hbc.lt hf'
        have hbc2 := hext2.hs hbc l3 (fun q => q)
        refine Zgo ?_
        ((with_reducible apply Wseq.stg); rfl; exact to_appOwn ro32 sl32 rfl rfl (k := 0) Has.same.cel (by omega) (subN_all _ _ rfl) (by omega) (by omega) (hbc2.other (by omega)) (by omega) (subN_all _ _ (flatH_len _).symm) (all_cons rfl (all_cons rfl all_nil)) Zfr)
        refine Zgo ?_
        refine RoundE.go (M.length - (i + 1)) (ESf p qa dim qc k _ _ M.length (z + 1) _ _) (by omega) Zek ⟨i + 1, z + 1, _, _, _, _, _, _, _, rfl, by omega, rfl, by omega, Zfr, Zkp, ?_, Zlg, Zlg, by omega, rfl⟩
        refine .inr ⟨c2 + 1, ?_, ?_, by omega, ?_⟩
        · rw [hl1, hl0]
        · intro e; rw [e] at hl1; simp at hl1
        · rw [hfl]; exact Has.same
    · obtain rfl : i = M.length := by omega
      rw [List.take_length] at hHL
      obtain ⟨oa, rfl, hrow, hge⟩ := hHL.val
      have hl2 := hlen M.length (Nat.le_refl _)
      rw [List.take_length] at hl2
      refine Zgo ?_
      refine Wseq.call rfl rfl (rbest_spec Zfr hk hkk hrow (by omega) (fun b => c1 ≤ b) hge) ?_
      rintro v h2' c2 r2 w2 ⟨⟨g1, g2⟩, hext2⟩
      have kp2 := Kp.ext (W := fun _ => False) (h := h) (c := c) kph hext2 (by omega) (fun _ _ q => q)
      have lr2 := Lg.extR (R := R) (c := c) Zlg hext2 (fun b hb u => by omega)
      have lw2 := Lg.extW (W := fun _ => False) (c := c) Zlg hext2 (fun _ _ q => q)
      have fr2 := hext2.fresh
      have le2 := hext2.c
      simp only at le2 fr2
      refine Zgo ?_
      refine ⟨.inr rfl, Wres.one rfl ⟨⟨g1, fun b hb => by have := g2 b hb; omega⟩, ?_⟩⟩
      exact Zex
end Go.Ab.Seat
end
