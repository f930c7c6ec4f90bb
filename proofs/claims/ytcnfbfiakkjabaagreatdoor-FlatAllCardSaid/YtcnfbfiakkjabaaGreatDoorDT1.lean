import Derived.Test.YtcnfbfiakkjabaaGreatDoorDF6
import Derived.Test.YtcnfbfiakkjabaaGreatDoorDF3
import Derived.Test.YtcnfbfiakkjabaaGreatDoorDF5
import Derived.Test.YtcnfbfiakkjabaaGreatDoorDF1
set_option linter.unusedVariables false
set_option linter.unusedSimpArgs false
section
/- A flat index: one is let go; the ids; a search (the abstract machine). -/
namespace Go.Ab.Seat
open Go.Extern Go.Proofs
set_option linter.unusedSimpArgs false
set_option linter.unusedVariables false
set_option maxRecDepth 4000
set_option pp.deepTerms false
set_option pp.deepTerms.threshold 6

theorem fdel_spec {h : T AObj} {c : Nat} {rl wl : List Nat} (hf : Fresh h c) {p m dim : Nat} {mt : Int} {M : List Rc} {U : Nat → Prop} (q : FlatM h p m mt dim M U) (id : Int) :
    ∃ r s', FnTo (Cs smQ) eg 22 [.pointer (some ⟨p, 0, none⟩), .int .i64 id] ⟨h, c, rl, wl⟩ r s' ∧ (r = .bool (getM id M).isSome ∧ FlatM s'.h p m mt dim (delM id M) U) ∧ Ext ⟨h, c, rl, wl⟩ s' U (fun b => b = m) := by
  obtain ⟨es, n, hm, ⟨ids, h2⟩, h3⟩ := q.ex
  have hp := q.ptr
  obtain ⟨lp, lm⟩ := q.lt hf
  have hpU := q.pU
  have hmU := q.mU
  have his : (findI id es).isSome = (getM id M).isSome := by
    rcases h3 id with ⟨e1, e2⟩ | ⟨r, v, e1, e2, _⟩
    · rw [e1, valI_none.1 e2]; rfl
    · obtain ⟨i, e3⟩ := valI_some e2
      rw [e1, e3]; rfl
  refine Fn.go (stdQ 22 rfl) ex22 fn22 km22 rfl rfl ?_
  refine Zev ?_
  refine Zgo ?_
  ((with_reducible apply Wseq.stg); rfl; exact to_lookupOk (mi_ rfl) (ze_ rfl) rfl rfl hm (by omega) h2.ks rfl his)
  refine Zgo ?_
  refine Wseq.st0 (to_delete (mi_ rfl) rfl rfl hm (by omega) h2.ks) ?_
  refine Zgo ?_
  refine ⟨.inr rfl, Wres.one rfl ⟨⟨rfl, ?_⟩, ?_⟩⟩
  · obtain ⟨ids', k1, _, _⟩ := h2.del id
    refine ⟨Has.other (fun e => q.ne e) hp, ⟨_, _, Has.same, ⟨_, k1⟩, fun x => ?_⟩, hpU, hmU, q.ne, q.rises.filter _, fun r hr => q.ok r (List.mem_filter.1 hr).1⟩
    rw [getM_del, valI_del h2]
    by_cases hxi : x = id
    · rw [if_pos hxi, if_pos hxi]; exact .inl ⟨rfl, rfl⟩
    · rw [if_neg hxi, if_neg hxi]
      exact (h3 x).keep hf (fun b hb => hb) fun b _ hc _ hm => get_other hm
  · exact Zex

theorem fids_spec {h : T AObj} {c : Nat} {rl wl : List Nat} (hf : Fresh h c) {p m dim : Nat} {mt : Int} {M : List Rc} {U : Nat → Prop} (q : FlatM h p m mt dim M U) (hn : M.length ≤ 1000) :
    ∃ r s', FnTo (Cs smQ) eg 17 [.pointer (some ⟨p, 0, none⟩)] ⟨h, c, rl, wl⟩ r s' ∧ Own s'.h c r M.length ((M.map Rc.id).map (Value.int .i64)) ∧ Ext ⟨h, c, rl, wl⟩ s' U (fun _ => False) := by
  obtain ⟨es, n, hm, ⟨ids, h2⟩, h3⟩ := q.ex
  have hp := q.ptr
  obtain ⟨lp, lm⟩ := q.lt hf
  have hpU := q.pU
  have hmU := q.mU
  have hs := FlatM.ids h2 q.rises h3
  have hlen : ids.length = M.length := by
    have := congrArg List.length hs
    rw [(sortI_perm ids).length_eq, List.length_map] at this
    exact this
  have hk := h2.keyInts
  refine Fn.go (stdQ 17 rfl) ex17 fn17 km17 rfl rfl ?_
  refine Zev ?_
  refine Zgo ?_
  refine Wseq.call rfl rfl (keys_spec stdQ Zfr) ?_
  rintro v1 h1 c1 r1 w1 ⟨rfl, e1⟩
  cases e1
  cases ids with
  | nil =>
    obtain rfl : M = [] := by cases M with | nil => rfl | cons _ _ => simp at hlen
    refine Wseq.call rfl rfl (sorted_none Zfr Zhs Zhs hk) ?_
    rintro v1 h1 c1 r1 w1 ⟨rfl, e1⟩
    cases e1
    refine Zgo ?_
    refine ⟨.inr rfl, Wres.one rfl ⟨.inl ⟨rfl, rfl, rfl⟩, ?_⟩⟩
    exact Zex
  | cons x0 xs0 =>
    refine Wseq.call rfl rfl (sorted_some Zfr Zhs Zhs hk (by omega)) ?_
    rintro v1 h1 c1 r1 w1 ⟨rfl, e1⟩
    cases e1
    rw [hs, hlen]
    refine Zgo ?_
    refine ⟨.inr rfl, Wres.one rfl ⟨.inr ⟨c + 1, _, _, rfl, Nat.le_refl _, by omega, Has.same⟩, ?_⟩⟩
    exact Zex

/-- The numbers in a row. -/
def intsV (xs : List Value) : List Int := xs.map fun v => match v with | .int _ z => z | _ => 0
theorem intsV_ints (zs : List Int) : intsV (zs.map (Value.int .i32)) = zs := by
  unfold intsV
  rw [List.map_map]
  exact List.map_id zs
/-- The members' hits. -/
def hitR (mt : Int) (qs : List Int) (r : Rc) : Ht := ⟨r.id, scoreZ mt qs (intsV r.xs)⟩
def hitsM (mt : Int) (qs : List Int) (M : List Rc) : List Ht := M.map (hitR mt qs)

def HL (h : T AObj) (c0 : Nat) (v : Value) (l : List Ht) : Prop := (v = .slice none 0 0 ∧ l = []) ∨ ∃ b, v = .slice (some ⟨b, 0, some 2⟩) l.length l.length ∧ l ≠ [] ∧ c0 ≤ b ∧ Has h b (.cells (flatH l))
theorem HL.val {h : T AObj} {c : Nat} {v : Value} {l : List Ht} (x : HL h c v l) : ∃ oa, v = .slice oa l.length l.length ∧ Row h v l.length 2 (flatH l) ∧ ∀ b, blkOf v = some b → c ≤ b := by
  rcases x with ⟨rfl, rfl⟩ | ⟨b, rfl, _, h1, h2⟩
  · exact ⟨_, rfl, .inl ⟨rfl, rfl, _, _, rfl⟩, fun b hb => by cases hb⟩
  · exact ⟨_, rfl, .inr ⟨b, 0, _, _, _, rfl, h2.cel, subN_all _ _ (flatH_len l).symm⟩, fun b hb => by cases hb; exact h1⟩

def EFs (p : Nat) (qa : Option Addr) (dim qc : Nat) (k : Int) (lv : Value) (oi : Option Addr) (n ic : Nat) (z : Int) (j9 j14 : Value) : L :=
  .cons 0 (.pointer (some ⟨p, 0, none⟩)) (.cons 1 (.slice qa dim qc) (.cons 2 (.int .i64 k) (.cons 6 (.slice none 0 0) (.cons 7 lv (.cons 11 (.slice oi n ic) (.cons 12 (.int .i64 (n : Int)) (.cons 13 (.int .i64 z) (.cons 9 j9 (.cons 14 j14 .nil)))))))))

set_option maxHeartbeats 4000000 in
theorem fsearch_spec {h : T AObj} {c : Nat} {rl wl : List Nat} (hf : Fresh h c) {p m dim : Nat} {mt : Int} {M : List Rc} {U : Nat → Prop} (q : FlatM h p m mt dim M U) (hmt : mt = 1 ∨ mt = 2) {qa : Option Addr} {qc : Nat} {qs : List Int} (hq : Row h (.slice qa dim qc) dim 1 (qs.map (Value.int .i32))) (hqn : qs.length = dim) (hqb : Bnd qs) (hd : dim ≤ 1000) (k : Int) {kk : Nat} (hk : max k 0 = (kk : Int)) (hkk : kk ≤ 1000) (hn : M.length ≤ 800) (R : Nat → Prop) (hUR : ∀ b, U b → R b) (hqR : ∀ b, blkOf (.slice qa dim qc) = some b → R b) :
    ∃ r s', FnTo (Cs smQ) eg 15 [.pointer (some ⟨p, 0, none⟩), .slice qa dim qc, .int .i64 k] ⟨h, c, rl, wl⟩ r s' ∧ (Best s'.h r (bestOf kk (hitsM mt qs M)).length (flatH (bestOf kk (hitsM mt qs M))) ∧ ∀ b, blkOf r = some b → c ≤ b) ∧ Ext ⟨h, c, rl, wl⟩ s' R (fun _ => False) := by
  have hp := q.ptr
  obtain ⟨lp, lm⟩ := q.lt hf
  have hpU := hUR p q.pU
  have hmU := hUR m q.mU
  refine Fn.go (stdQ 15 rfl) ex15 fn15 km15 rfl rfl ?_
  refine Zev ?_
  refine Zgo ?_
  refine Wseq.call rfl rfl (fids_spec Zfr q (by omega)) ?_
  rintro v1 h1 c1 r1 w1 ⟨hids, hext⟩
  have kp := Kp.ext (W := fun _ => False) (h := h) (c := c) Zkp hext (by omega) (fun _ _ q => q)
  have lr := Lg.extR (R := R) (c := c) Zlg hext (fun b hb u => hUR b u)
  have lw := Lg.extW (W := fun _ => False) (c := c) Zlg hext (fun _ _ q => q)
  have fr1 := hext.fresh
  have le1 := hext.c
  simp only at le1 fr1
  obtain ⟨oi, ic, rfl⟩ := hids.val
  have hrow1 := hids.row (by rw [List.length_map, List.length_map])
  have hlen : ∀ i, i ≤ M.length → (hitsM mt qs (M.take i)).length = i := fun i hi => by unfold hitsM; rw [List.length_map, List.length_take]; omega
  refine Zgo ?_
  refine Wx.cutO (fun e s => ∃ (lv j9 j14 : Value) (h' : T AObj) (c' : Nat) (rl' wl' : List Nat), e = EFs p qa dim qc k lv oi M.length ic M.length j9 j14 ∧ s = ⟨h', c', rl', wl'⟩ ∧ c1 ≤ c' ∧ Fresh h' c' ∧ Kp h h' c (fun _ => False) ∧ HL h' c1 lv (hitsM mt qs M) ∧ Lg c R rl' ∧ Lg c (fun _ => False) wl') Zrs ?_ ?_
  · refine Wx.loopE (fun k1 e s => ∃ (i : Nat) (z : Int) (lv j9 j14 : Value) (h' : T AObj) (c' : Nat) (rl' wl' : List Nat), e = EFs p qa dim qc k lv oi M.length ic z j9 j14 ∧ z = i ∧ s = ⟨h', c', rl', wl'⟩ ∧ c1 ≤ c' ∧ Fresh h' c' ∧ Kp h1 h' c1 (fun _ => False) ∧ HL h' c1 lv (hitsM mt qs (M.take i)) ∧ Lg c R rl' ∧ Lg c (fun _ => False) wl' ∧ i ≤ M.length ∧ k1 = M.length - i) M.length (EFs p qa dim qc k (.slice none 0 0) oi M.length ic 0 top top) Zrs ?_ ?_ ?_
    · unfold EFs
      exact Zek
    · exact ⟨0, 0, _, _, _, _, _, _, _, rfl, rfl, rfl, Nat.le_refl _, fr1, Kp.refl, .inl ⟨rfl, rfl⟩, Zlg, Zlg, by omega, rfl⟩
    · rintro k1 e s ⟨i, z, lv, j9, j14, h', c', rl', wl', rfl, hz, rfl, hcc, hf', hkp, hHL, hlr, hlw, hid, rfl⟩
      unfold EFs
      by_cases hi : i < M.length
      · have hrow' := Row.keepF hrow1 fr1 (fun b hb => hkp b hb (fun q => q))
        have hgid : ((M.map Rc.id).map (Value.int .i64))[i]? = some (.int .i64 M[i].id) := by
          rw [List.getElem?_map, List.getElem?_map, List.getElem?_eq_getElem hi]; rfl
        obtain ⟨b1, o1, sp1, cs1, rfl, hc1, hn1⟩ := rowCell hrow' (j := i * 1) (by omega) (by rw [Nat.mul_one]; exact hgid)
        have hb1 : c ≤ b1 := by
          rcases hids with ⟨e, _⟩ | ⟨b', sp', cap', e, _, g, _⟩
          · simp only [Value.slice.injEq] at e; cases e.1
          · simp only [Value.slice.injEq, Option.some.injEq, Addr.mk.injEq] at e; rw [e.1.1]; exact g
        have l1 := hc1.lt hf'
        have kph : Kp h h' c (fun _ => False) := fun b hb _ => (hkp b (by omega) (fun q => q)).trans (kp b hb (fun q => q))
        have hq0 := Row.keepF hq hf (fun b hb => kph b hb (fun q => q))
        have q' := q.keep hf (fun b _ hb => kph b hb (fun q => q))
        have hp' := q'.ptr
        obtain ⟨es, n, hm', ⟨ids, h2⟩, h3⟩ := q'.ex
        obtain ⟨lp', lm'⟩ := q'.lt hf'
        obtain ⟨zs, hzs, hzl, hzb⟩ := q.ok M[i] (List.getElem_mem hi)
        obtain ⟨v, hv1, hv2, hv3⟩ : ∃ v, valI M[i].id es = some v ∧ Own h' 0 v dim (zs.map (Value.int .i32)) ∧ ∀ b, blkOf v = some b → U b := by
          rcases h3 M[i].id with ⟨e1, _⟩ | ⟨r, v, e1, e2, e3, e4⟩
          · exact absurd rfl (getM_none.1 e1 M[i] (List.getElem_mem hi))
          · rw [getM_some q.rises (List.getElem_mem hi) rfl] at e1
            cases e1
            rw [hzs, List.length_map, hzl] at e3
            exact ⟨v, e2, e3, fun b hb => (e4 b hb).1⟩
        obtain ⟨va, vk, rfl⟩ := hv2.val
        obtain ⟨vi, hv4⟩ := valI_some hv1
        have hvr := hv2.row (by rw [List.length_map]; exact hzl)
        refine Zgo ?_
        ((with_reducible apply Wseq.stg); rfl; exact to_indexAddr (k := i) el35 rfl rfl hz (by omega))
        ((with_reducible apply Wseq.stg); rfl; exact to_load (pl_ rfl) rfl hc1 (by omega) hn1)
        refine Zgo ?_
        ((with_reducible apply Wtr.stx); rfl; exact to_lookup (mi_ rfl) (ze_ rfl) rfl rfl hm' lm' h2.ks (by rw [hv4]); exact Zap)
        refine Wtr.call rfl rfl (score_spec stdQ Zfr hmt hqn hzl hq0 hvr hqb hzb hd R (fun b hb => hb.elim (hqR b) (fun u => hUR b (hv3 b u)))) ?_
        rintro v h2' c2 r2 w2 ⟨⟨rfl, e1, e2⟩, hext2⟩
        simp only at e1 e2
        subst e1 e2
        have hqt := hext2.quiet (fun _ _ q => q)
        have lr2 := Lg.extR (R := R) (c := c) Zlg hext2 (fun _ _ q => q)
        have lw2 := Lg.extW (W := fun _ => False) (c := c) Zlg hext2 (fun _ _ q => q)
        refine ⟨Zap, ?_⟩
        have hhit : hitsM mt qs (M.take (i + 1)) = hitsM mt qs (M.take i) ++ [⟨M[i].id, scoreZ mt qs zs⟩] := by
          unfold hitsM
          rw [List.take_succ_eq_append_getElem hi, List.map_append]
          show _ ++ [hitR mt qs M[i]] = _
          unfold hitR
          rw [hzs, intsV_ints]
        have hfl : flatH (hitsM mt qs (M.take (i + 1))) = flatH (hitsM mt qs (M.take i)) ++ [.int .i64 M[i].id, .int .i64 (scoreZ mt qs zs)] := by rw [hhit, flatH_app]; rfl
        have hl0 := hlen i (by omega)
        have hl1 := hlen (i + 1) (by omega)
        have hbg : big = 1048576 := rfl
        rcases hHL with ⟨rfl, hnil⟩ | ⟨bl, rfl, hne, hbl, hbc⟩
        · refine Zgo ?_
          ((with_reducible apply Wtr.stx); rfl; exact to_appNil ro32 sl32 rfl rfl (k := 0) Has.same.cel (by omega) (subN_all _ _ rfl) (by omega) Zfr; exact Zap)
          refine Zgo ?_
          refine RoundE.go (M.length - (i + 1)) (EFs p qa dim qc k _ _ M.length ic (z + 1) _ _) (by omega) Zek ⟨i + 1, z + 1, _, _, _, _, _, _, _, rfl, by omega, rfl, by omega, Zfr, Zkp, ?_, Zlg, Zlg, by omega, rfl⟩
          have hi0 : i = 0 := by rw [hnil] at hl0; simpa using hl0.symm
          refine .inr ⟨c2 + 1, ?_, ?_, by omega, ?_⟩
          · rw [hl1, hi0]
          · intro e; rw [e] at hl1; simp at hl1
          · rw [hfl, hnil]; exact Has.same
        · have l3 := hbc.lt hf'
          refine Zgo ?_
          ((with_reducible apply Wtr.stx); rfl; exact to_appOwn ro32 sl32 rfl rfl (k := 0) Has.same.cel (by omega) (subN_all _ _ rfl) (by omega) (by omega) (hbc.other (by omega)) (by omega) (subN_all _ _ (flatH_len _).symm) (all_cons rfl (all_cons rfl all_nil)) Zfr; exact Zap)
          refine Zgo ?_
          refine RoundE.go (M.length - (i + 1)) (EFs p qa dim qc k _ _ M.length ic (z + 1) _ _) (by omega) Zek ⟨i + 1, z + 1, _, _, _, _, _, _, _, rfl, by omega, rfl, by omega, Zfr, Zkp, ?_, Zlg, Zlg, by omega, rfl⟩
          refine .inr ⟨c2 + 1, ?_, ?_, by omega, ?_⟩
          · rw [hl1, hl0]
          · intro e; rw [e] at hl1; simp at hl1
          · rw [hfl]; exact Has.same
      · refine Zgo ?_
        obtain rfl : i = M.length := by omega
        subst hz
        rw [List.take_length] at hHL
        exact CutQ.go (EFs p qa dim qc k lv oi M.length ic M.length _ _) Zek ⟨_, _, _, _, _, _, _, rfl, rfl, hcc, hf', (fun b hb _ => (hkp b (by omega) (fun q => q)).trans (kp b hb (fun q => q))), hHL, Zlg, Zlg⟩
  · rintro e s ⟨lv, j9, j14, h', c', rl', wl', rfl, rfl, hcc, hf', hkp, hHL, hlr, hlw⟩
    unfold EFs
    obtain ⟨oa, rfl, hrow, hge⟩ := hHL.val
    have hl2 := hlen M.length (Nat.le_refl _)
    rw [List.take_length] at hl2
    refine Zgo ?_
    refine Wseq.call rfl rfl (of_spec stdQ rfl Zfr hrow hk hkk (by omega) (fun b => c1 ≤ b) hge) ?_
    rintro v h2 c2 r2 w2 ⟨⟨g1, g2⟩, hext2⟩
    have kp2 := Kp.ext (W := fun _ => False) (h := h) (c := c) Zkp hext2 (by omega) (fun _ _ q => q)
    have lr2 := Lg.extR (R := R) (c := c) Zlg hext2 (fun b hb u => by omega)
    have lw2 := Lg.extW (W := fun _ => False) (c := c) Zlg hext2 (fun _ _ q => q)
    have fr2 := hext2.fresh
    have le2 := hext2.c
    simp only at le2 fr2
    refine Zgo ?_
    refine ⟨.inr rfl, Wres.one rfl ⟨⟨g1, fun b hb => by have := g2 b hb; omega⟩, ?_⟩⟩
    exact Zex
end Go.Ab.Seat
end
section
/- The reference's index is read (the abstract machine). -/
namespace Go.Ab.Seat
open Go.Extern Go.Proofs
set_option linter.unusedSimpArgs false
set_option linter.unusedVariables false
set_option maxRecDepth 4000
set_option pp.deepTerms false
set_option pp.deepTerms.threshold 6

/-- A member of the reference's index. -/
structure On where
  id : Int
  vec : Value
  xs : List Value
def On.cells (x : On) : List Value := [.int .i64 x.id, x.vec, .int .i64 0, .slice none 0 0, .slice none 0 0, .slice none 0 0, .slice none 0 0, .slice none 0 0]
def On.rc (x : On) : Rc := ⟨x.id, x.xs, .empty, 0, false⟩
def flatO (l : List On) : List Value := l.flatMap On.cells
theorem flatO_len (l : List On) : (flatO l).length = l.length * 8 := by
  induction l with
  | nil => rfl
  | cons x l ih => unfold flatO at ih ⊢; rw [List.flatMap_cons, List.length_append, ih]; simp [On.cells]; omega
theorem flatO_app (a b : List On) : flatO (a ++ b) = flatO a ++ flatO b := by unfold flatO; rw [List.flatMap_append]
theorem sub_on {l : List On} {i : Nat} {x : On} (hx : l[i]? = some x) : subN (0 + i * 8) 8 (flatO l) = some x.cells := by
  obtain ⟨hi, rfl⟩ := List.getElem?_eq_some_iff.1 hx
  have h := subN_all (flatO l) (l.length * 8) (flatO_len l).symm
  have h1 : flatO l = flatO (l.take i) ++ (l[i].cells ++ flatO (l.drop (i + 1))) := by
    conv => lhs; rw [show l = l.take i ++ (l[i] :: l.drop (i + 1)) by simp]
    rw [flatO_app]; rfl
  conv at h => rhs; rw [h1]
  have h2 : subN 0 (i * 8 + (8 + (l.length - (i + 1)) * 8)) (flatO l) = some (flatO (l.take i) ++ (l[i].cells ++ flatO (l.drop (i + 1)))) := by rw [← h]; congr 1; omega
  exact (subN_app (subN_app h2 (by rw [flatO_len, List.length_take]; omega)).2 rfl).1
theorem on_nth {cs : List Value} {o : Nat} {x : On} (h : subN o 8 cs = some x.cells) : nth cs (o + 0) = some (.int .i64 x.id) ∧ nth cs (o + 1) = some x.vec := by
  have := (subN_some _ _ _ _ h).2.2
  refine ⟨?_, ?_⟩
  · rw [nth_eq, ← this 0 (by omega)]; rfl
  · rw [nth_eq, ← this 1 (by omega)]; rfl

def LRow8 (h : T AObj) (v : Value) (l : List On) : Prop := (v = .slice none 0 0 ∧ l = []) ∨ ∃ b, v = .slice (some ⟨b, 0, some 8⟩) l.length l.length ∧ l ≠ [] ∧ Has h b (.cells (flatO l))
theorem LRow8.val {h : T AObj} {v : Value} {l : List On} (x : LRow8 h v l) : ∃ a, v = .slice a l.length l.length := by
  rcases x with ⟨rfl, rfl⟩ | ⟨b, rfl, _, _⟩
  · exact ⟨_, rfl⟩
  · exact ⟨_, rfl⟩
/-- What the index's struct has in its cells. -/
def refC (mt dm : Int) (lv : Value) : List Value := [.int .i64 1, .int .i64 mt, .int .i64 dm, lv, .slice none 0 0, .slice none 0 0, .slice none 0 0]

/-- The reference's index (that looks at all) of the call's own. -/
structure RefX (h : T AObj) (p : Nat) (mt dm : Int) (dim : Nat) (M : List Rc) (U : Nat → Prop) : Prop where
  ex : ∃ lv l, Has h p (.cells (refC mt dm lv)) ∧ LRow8 h lv l ∧ (∀ b, blkOf lv = some b → U b ∧ b ≠ p) ∧ (∀ x ∈ l, Own h 0 x.vec x.xs.length x.xs ∧ ∀ b, blkOf x.vec = some b → U b ∧ b ≠ p ∧ blkOf lv ≠ some b) ∧ l.map On.rc = M
  pU : U p
  rises : Rises M
  ok : ∀ r ∈ M, ∃ zs : List Int, r.xs = zs.map (Value.int .i32) ∧ zs.length = dim ∧ Bnd zs

theorem RefX.keep {h h' : T AObj} {c p dim : Nat} {mt dm : Int} {M : List Rc} {U : Nat → Prop} (q : RefX h p mt dm dim M U) (hf : Fresh h c) (k : ∀ b, U b → b < c → h'.get b = h.get b) : RefX h' p mt dm dim M U := by
  obtain ⟨⟨lv, l, h1, h2, h3, h4, h5⟩, h6, h7, h8⟩ := q
  refine ⟨⟨lv, l, (k p h6 (h1.lt hf)).trans h1, ?_, h3, fun x hx => ⟨(h4 x hx).1.keep fun b hb => k b ((h4 x hx).2 b hb).1 (((h4 x hx).1.blk hb).2.lt hf), (h4 x hx).2⟩, h5⟩, h6, h7, h8⟩
  rcases h2 with h2 | ⟨b, rfl, hne, h2⟩
  · exact .inl h2
  · exact .inr ⟨b, rfl, hne, (k b (h3 b rfl).1 (h2.lt hf)).trans h2⟩
theorem RefX.wide {h : T AObj} {p dim : Nat} {mt dm : Int} {M : List Rc} {U U' : Nat → Prop} (q : RefX h p mt dm dim M U) (k : ∀ b, U b → U' b) : RefX h p mt dm dim M U' := by
  obtain ⟨⟨lv, l, h1, h2, h3, h4, h5⟩, h6, h7, h8⟩ := q
  exact ⟨⟨lv, l, h1, h2, fun b hb => ⟨k b (h3 b hb).1, (h3 b hb).2⟩, fun x hx => ⟨(h4 x hx).1, fun b hb => ⟨k b ((h4 x hx).2 b hb).1, ((h4 x hx).2 b hb).2⟩⟩, h5⟩, k _ h6, h7, h8⟩
theorem RefX.new {h : T AObj} {p dim : Nat} {mt dm : Int} (hp : Has h p (.cells (refC mt dm (.slice none 0 0)))) : RefX h p mt dm dim [] (fun b => b = p) := ⟨⟨_, [], hp, .inl ⟨rfl, rfl⟩, (fun b hb => by cases hb), (fun x hx => by cases hx), rfl⟩, rfl, Rises.nil, fun r hr => by cases hr⟩

theorem getM_skip {id : Int} : ∀ {rs : List Rc} {i : Nat}, (∀ r ∈ rs.take i, r.id ≠ id) → getM id rs = getM id (rs.drop i)
  | rs, 0, _ => rfl
  | [], i + 1, _ => rfl
  | r :: rs, i + 1, h => by
    have h1 := h r (List.mem_cons_self ..)
    rw [getM, if_neg h1, List.drop_succ_cons]
    exact getM_skip fun x hx => h x (List.mem_cons_of_mem _ hx)
theorem getM_at {id : Int} {rs : List Rc} {i : Nat} {x : Rc} (h : ∀ r ∈ rs.take i, r.id ≠ id) (hx : rs[i]? = some x) (hi : x.id = id) : getM id rs = some x := by
  obtain ⟨h1, rfl⟩ := List.getElem?_eq_some_iff.1 hx
  rw [getM_skip h, List.drop_eq_getElem_cons h1, getM, if_pos hi]
theorem take_snoc {rs : List Rc} {i : Nat} {x : Rc} (hx : rs[i]? = some x) : rs.take (i + 1) = rs.take i ++ [x] := by rw [List.take_add_one, hx]; rfl

def EP (p : Nat) (id : Int) (n : Nat) (z : Int) (j5 j12 j23 : Value) : L :=
  .cons 0 (.pointer (some ⟨p, 0, none⟩)) (.cons 1 (.int .i64 id) (.cons 4 (.int .i64 0) (.cons 5 j5 (.cons 10 (.int .i64 (n : Int)) (.cons 11 (.int .i64 z) (.cons 12 j12 (.cons 23 j23 .nil)))))))

theorem place_spec {h : T AObj} {c : Nat} {rl wl : List Nat} (hf : Fresh h c) {p : Nat} {mt dm : Int} {lv : Value} {l : List On} (hp : Has h p (.cells (refC mt dm lv))) (hl : LRow8 h lv l) (hb : l.length ≤ 1000) (id : Int) (R : Nat → Prop) (hRp : R p) (hRl : ∀ b, blkOf lv = some b → R b) :
    ∃ r s', FnTo (Cs smQ) eg 103 [.pointer (some ⟨p, 0, none⟩), .int .i64 id] ⟨h, c, rl, wl⟩ r s' ∧ (((getM id (l.map On.rc) = none ∧ r = .int .i64 (-1)) ∨ ∃ (k : Nat) (x : On), r = .int .i64 (k : Int) ∧ l[k]? = some x ∧ x.id = id ∧ getM id (l.map On.rc) = some x.rc) ∧ s'.h = h ∧ s'.c = c) ∧ Ext ⟨h, c, rl, wl⟩ s' R (fun _ => False) := by
  obtain ⟨oa, rfl⟩ := hl.val
  have hpc := hp.lt hf
  generalize hn : l.length = n at *
  refine Fn.go (stdQ 103 rfl) ex103 fn103 km103 rfl rfl ?_
  refine Zev ?_
  unfold refC at hp
  refine Zgo ?_
  refine Wx.loopE (fun k1 e s => ∃ (i : Nat) (z : Int) (rl' : List Nat) (j5 j12 j23 : Value), e = EP p id n z j5 j12 j23 ∧ z = i ∧ s = ⟨h, c, rl', []⟩ ∧ Lg c R rl' ∧ (∀ r ∈ (l.map On.rc).take i, r.id ≠ id) ∧ i ≤ n ∧ k1 = n - i) n (EP p id n 0 top top top) Zrs ?_ ?_ ?_
  · unfold EP
    exact Zek
  · exact ⟨0, 0, _, _, _, _, rfl, rfl, rfl, Zlg, (fun r hr => by cases hr), by omega, rfl⟩
  · rintro k1 e s ⟨i, z, rl', j5, j12, j23, rfl, hz, rfl, hlr, hno, hin, rfl⟩
    unfold EP
    by_cases hi : i < n
    · have hxi : l[i]? = some l[i] := List.getElem?_eq_getElem (by omega)
      have hri : (l.map On.rc)[i]? = some l[i].rc := by rw [List.getElem?_map, hxi]; rfl
      rcases hl with ⟨_, rfl⟩ | ⟨bl, e, hne, hbl⟩
      · cases hxi
      obtain rfl : oa = some ⟨bl, 0, some 8⟩ := by simp only [Value.slice.injEq] at e; exact e.1
      obtain ⟨g0, g1⟩ := on_nth (sub_on hxi)
      have l1 := hbl.lt hf
      have rb := hRl bl rfl
      generalize l[i] = y at *
      by_cases hid : y.id = id
      · refine Zgo ?_
        ((with_reducible apply Wseq.stg); rfl; exact to_indexAddr (k := i) el148 rfl rfl hz (by omega))
        refine Zgo ?_
        ((with_reducible apply Wseq.stg); rfl; exact to_load (pl_ rfl) rfl hbl.cel (by omega) g0)
        refine Zgo ?_
        refine ⟨.inr rfl, Wres.one rfl ⟨⟨.inr ⟨i, y, by rw [hz]; rfl, hxi, hid, getM_at hno hri hid⟩, rfl, rfl⟩, ?_⟩⟩
        exact Zex
      · refine Zgo ?_
        ((with_reducible apply Wseq.stg); rfl; exact to_indexAddr (k := i) el148 rfl rfl hz (by omega))
        refine Zgo ?_
        ((with_reducible apply Wseq.stg); rfl; exact to_load (pl_ rfl) rfl hbl.cel (by omega) g0)
        refine Zgo ?_
        refine RoundE.go (n - (i + 1)) (EP p id n (z + 1) _ _ _) (by omega) Zek ⟨i + 1, z + 1, _, _, _, _, rfl, by omega, rfl, Zlg, fun x hx => ?_, by omega, rfl⟩
        rw [take_snoc hri] at hx
        rcases List.mem_append.1 hx with hx | hx
        · exact hno x hx
        · obtain rfl := List.mem_singleton.1 hx
          exact hid
    · refine Zgo ?_
      refine ⟨.inr rfl, Wres.one rfl ⟨⟨.inl ⟨?_, rfl⟩, rfl, rfl⟩, ?_⟩⟩
      · rw [List.take_of_length_le (by rw [List.length_map]; omega)] at hno
        exact getM_none.2 hno
      · exact Zex
end Go.Ab.Seat
end
