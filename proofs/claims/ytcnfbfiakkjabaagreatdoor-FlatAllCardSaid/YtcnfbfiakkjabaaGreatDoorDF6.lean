import Derived.Test.YtcnfbfiakkjabaaGreatDoorDF1
set_option linter.unusedVariables false
set_option linter.unusedSimpArgs false
section
/- A score; an id among hits (the abstract machine). -/
namespace Go.Ab.Seat
open Go.Extern Go.Proofs
set_option linter.unusedSimpArgs false
set_option linter.unusedVariables false
set_option maxRecDepth 4000
set_option pp.deepTerms false
set_option pp.deepTerms.threshold 6
variable {sm : Nat → Option (List Value → M Value)}

def termZ (m x y : Int) : Int := if m = 1 then (x - y) * (x - y) else -(x * y)
def scoreN (m : Int) (zs ys : List Int) : Nat → Int
  | 0 => 0
  | i + 1 => scoreN m zs ys i + termZ m (zs.getD i 0) (ys.getD i 0)
def scoreZ (m : Int) (zs ys : List Int) : Int := scoreN m zs ys zs.length
def Bnd (zs : List Int) : Prop := ∀ i, -1048576 ≤ zs.getD i 0 ∧ zs.getD i 0 ≤ 1048576

theorem mul_bnd {a b : Int} {k : Int} (hk : 0 ≤ k) (ha : -k ≤ a ∧ a ≤ k) (hb : -k ≤ b ∧ b ≤ k) : -(k * k) ≤ a * b ∧ a * b ≤ k * k := by
  have h1 : (a * b).natAbs ≤ (k * k).natAbs := by
    rw [Int.natAbs_mul, Int.natAbs_mul]
    exact Nat.mul_le_mul (by omega) (by omega)
  have h2 : 0 ≤ k * k := Int.mul_nonneg hk hk
  omega

theorem term_bnd {m x y : Int} (hx : -1048576 ≤ x ∧ x ≤ 1048576) (hy : -1048576 ≤ y ∧ y ≤ 1048576) : (-4398046511104 ≤ (x - y) * (x - y) ∧ (x - y) * (x - y) ≤ 4398046511104) ∧ (-4398046511104 ≤ x * y ∧ x * y ≤ 4398046511104) ∧ -4398046511104 ≤ termZ m x y ∧ termZ m x y ≤ 4398046511104 := by
  have h1 := mul_bnd (a := x - y) (b := x - y) (k := 2097152) (by omega) (by omega) (by omega)
  have h2 := mul_bnd (a := x) (b := y) (k := 1048576) (by omega) hx hy
  refine ⟨by omega, by omega, ?_⟩
  unfold termZ
  split <;> omega

theorem score_bnd {m : Int} {zs ys : List Int} (hx : Bnd zs) (hy : Bnd ys) : ∀ i : Nat, -(4398046511104 * (i : Int)) ≤ scoreN m zs ys i ∧ scoreN m zs ys i ≤ 4398046511104 * (i : Int) := by
  intro i
  induction i with
  | zero => exact ⟨by simp [scoreN], by simp [scoreN]⟩
  | succ i ih =>
    have := (term_bnd (m := m) (hx i) (hy i)).2.2
    unfold scoreN
    omega

def ESc (m : Int) (a : Option Addr) (n k : Nat) (b : Option Addr) (k' : Nat) (s z : Int) (j8 j9 j10 j17 j29 j30 j41 : Value) : L :=
  .cons 0 (.int .i64 m) (.cons 1 (.slice a n k) (.cons 2 (.slice b n k') (.cons 6 (.int .i64 0) (.cons 7 (.int .i64 s) (.cons 15 (.int .i64 (n : Int)) (.cons 16 (.int .i64 z) (.cons 8 j8 (.cons 9 j9 (.cons 10 j10 (.cons 17 j17 (.cons 29 j29 (.cons 30 j30 (.cons 41 j41 .nil)))))))))))))

set_option maxHeartbeats 4000000 in
theorem score_spec (H : Std sm) {h : T AObj} {c : Nat} {rl wl : List Nat} (hf : Fresh h c) {m : Int} (hm : m = 1 ∨ m = 2) {a b : Option Addr} {n k k' : Nat} {zs ys : List Int} (hn : zs.length = n) (hn' : ys.length = n) (hx : Row h (.slice a n k) n 1 (zs.map (Value.int .i32))) (hy : Row h (.slice b n k') n 1 (ys.map (Value.int .i32))) (bx : Bnd zs) (by_ : Bnd ys) (hb : n ≤ 1000) (R : Nat → Prop) (hR : ∀ x, blkOf (.slice a n k) = some x ∨ blkOf (.slice b n k') = some x → R x) :
    ∃ r s', FnTo (Cs sm) eg 47 [.int .i64 m, .slice a n k, .slice b n k'] ⟨h, c, rl, wl⟩ r s' ∧ (r = .int .i64 (scoreZ m zs ys) ∧ s'.h = h ∧ s'.c = c) ∧ Ext ⟨h, c, rl, wl⟩ s' R (fun _ => False) := by
  refine Fn.go (H 47 rfl) ex47 fn47 km47 rfl rfl ?_
  refine Zev ?_
  refine Zgo ?_
  simp only [Int.min_self]
  refine Wx.cutO (fun e s => ∃ (j8 j9 j10 j17 j29 j30 j41 : Value) (rl' : List Nat), e = ESc m a n k b k' (scoreZ m zs ys) n j8 j9 j10 j17 j29 j30 j41 ∧ s = ⟨h, c, rl', []⟩ ∧ Lg c R rl') Zrs ?_ ?_
  · refine Wx.loopE (fun k1 e s => ∃ (i : Nat) (z : Int) (j8 j9 j10 j17 j29 j30 j41 : Value) (rl' : List Nat), e = ESc m a n k b k' (scoreN m zs ys i) z j8 j9 j10 j17 j29 j30 j41 ∧ z = i ∧ s = ⟨h, c, rl', []⟩ ∧ Lg c R rl' ∧ i ≤ n ∧ k1 = n - i) n (ESc m a n k b k' 0 0 top top top top top top top) Zrs ?_ ?_ ?_
    · unfold ESc
      exact Zek
    · exact ⟨0, 0, _, _, _, _, _, _, _, _, rfl, rfl, rfl, Zlg, by omega, rfl⟩
    · rintro k1 e s ⟨i, z, j8, j9, j10, j17, j29, j30, j41, rl', rfl, hz, rfl, hlr, hid, rfl⟩
      unfold ESc
      by_cases hi : i < n
      · have hzs : (zs.map (Value.int .i32))[i]? = some (.int .i32 (zs.getD i 0)) := by
          rw [List.getElem?_map, List.getD_eq_getElem?_getD, List.getElem?_eq_getElem (by omega : i < zs.length)]; rfl
        have hys : (ys.map (Value.int .i32))[i]? = some (.int .i32 (ys.getD i 0)) := by
          rw [List.getElem?_map, List.getD_eq_getElem?_getD, List.getElem?_eq_getElem (by omega : i < ys.length)]; rfl
        obtain ⟨b1, o1, sp1, cs1, rfl, hc1, hn1⟩ := rowCell hx (j := i * 1) (by omega) (by rw [Nat.mul_one]; exact hzs)
        obtain ⟨b2, o2, sp2, cs2, rfl, hc2, hn2⟩ := rowCell hy (j := i * 1) (by omega) (by rw [Nat.mul_one]; exact hys)
        have hR1 := hR b1 (.inl rfl)
        have hR2 := hR b2 (.inr rfl)
        have l1 := hc1.lt hf
        have l2 := hc2.lt hf
        have q1 := bx i
        have q2 := by_ i
        have q3 := score_bnd (m := m) bx by_ i
        obtain ⟨t1, t2, _⟩ := term_bnd (m := m) q1 q2
        refine Zgo ?_
        ((with_reducible apply Wtr.stq); rfl; exact to_indexAddr (k := i) el24 rfl rfl hz (by omega))
        ((with_reducible apply Wtr.stx); rfl; exact to_load (pl_ rfl) rfl hc1 (by omega) hn1; exact Zap)
        refine Zgo ?_
        ((with_reducible apply Wtr.stq); rfl; exact to_indexAddr (k := i) el24 rfl rfl hz (by omega))
        ((with_reducible apply Wtr.stx); rfl; exact to_load (pl_ rfl) rfl hc2 (by omega) hn2; exact Zap)
        refine Zgo ?_
        simp only [wrapA_i64 (show (-9223372036854775808 : Int) ≤ zs.getD i 0 by omega) (by omega), wrapA_i64 (show (-9223372036854775808 : Int) ≤ ys.getD i 0 by omega) (by omega)]
        rcases hm with rfl | rfl
        · refine Zgo ?_
          refine RoundE.go (n - (i + 1)) (ESc 1 _ n k _ k' (scoreN 1 zs ys (i + 1)) (z + 1) _ _ _ _ _ _ _) (by omega) Zek ⟨i + 1, z + 1, _, _, _, _, _, _, _, _, rfl, by omega, rfl, Zlg, by omega, rfl⟩
        · refine Zgo ?_
          have e : scoreN 2 zs ys (i + 1) = scoreN 2 zs ys i - zs.getD i 0 * ys.getD i 0 := by
            show _ + termZ 2 _ _ = _
            unfold termZ
            rw [if_neg (by decide)]; omega
          refine RoundE.go (n - (i + 1)) (ESc 2 _ n k _ k' (scoreN 2 zs ys i - zs.getD i 0 * ys.getD i 0) (z + 1) _ _ _ _ _ _ _) (by omega) Zek ⟨i + 1, z + 1, _, _, _, _, _, _, _, _, (by rw [e]; rfl), by omega, rfl, Zlg, by omega, rfl⟩
      · refine Zgo ?_
        obtain rfl : i = n := by omega
        subst hz
        have e : scoreZ m zs ys = scoreN m zs ys i := by unfold scoreZ; rw [hn]
        exact CutQ.go (ESc m a i k b k' (scoreN m zs ys i) i _ _ _ _ _ _ _) Zek ⟨_, _, _, _, _, _, _, _, (by rw [e]; rfl), rfl, Zlg⟩
  · rintro e s ⟨j8, j9, j10, j17, j29, j30, j41, rl', rfl, rfl, hlr⟩
    unfold ESc
    refine Zgo ?_
    refine ⟨.inr rfl, Wres.one rfl ⟨⟨rfl, rfl, rfl⟩, ?_⟩⟩
    exact Zex
end Go.Ab.Seat
end
section
/- A flat index: its members as a rising list (the abstract machine). -/
namespace Go.Ab.Seat
open Go.Extern Go.Proofs
set_option linter.unusedSimpArgs false
set_option linter.unusedVariables false
set_option maxRecDepth 4000
set_option pp.deepTerms false
set_option pp.deepTerms.threshold 6

/-- A member. -/
abbrev mbR (id : Int) (zs : List Int) : Rc := ⟨id, zs.map (Value.int .i32), .empty, 0, false⟩
/-- A member and what the map has of it. -/
def FRep (h : T AObj) (p m : Nat) (U : Nat → Prop) (r : Rc) (v : Value) : Prop := Own h 0 v r.xs.length r.xs ∧ ∀ b, blkOf v = some b → U b ∧ b ≠ p ∧ b ≠ m
def FFits (h : T AObj) (p m : Nat) (U : Nat → Prop) (o : Option Rc) (w : Option Value) : Prop := (o = none ∧ w = none) ∨ ∃ r v, o = some r ∧ w = some v ∧ FRep h p m U r v

/-- A flat index that has just the list's members. -/
structure FlatM (h : T AObj) (p m : Nat) (mt : Int) (dim : Nat) (M : List Rc) (U : Nat → Prop) : Prop where
  ptr : Has h p (.cells [.int .i64 mt, .map (some m)])
  ex : ∃ es n, Has h m (.map es n) ∧ (∃ ids, Keyed es n ids) ∧ ∀ x, FFits h p m U (getM x M) (valI x es)
  pU : U p
  mU : U m
  ne : p ≠ m
  rises : Rises M
  ok : ∀ r ∈ M, ∃ zs : List Int, r.xs = zs.map (Value.int .i32) ∧ zs.length = dim ∧ Bnd zs

theorem FRep.keep {h h' : T AObj} {p m c : Nat} {U U' : Nat → Prop} {r : Rc} {v : Value} (x : FRep h p m U r v) (hf : Fresh h c) (hU : ∀ b, U b → U' b) (k : ∀ b, U b → b < c → b ≠ p → b ≠ m → h'.get b = h.get b) : FRep h' p m U' r v :=
  ⟨x.1.keep fun b hb => k b (x.2 b hb).1 ((x.1.blk hb).2.lt hf) (x.2 b hb).2.1 (x.2 b hb).2.2, fun b hb => ⟨hU b (x.2 b hb).1, (x.2 b hb).2⟩⟩
theorem FFits.keep {h h' : T AObj} {p m c : Nat} {U U' : Nat → Prop} {o : Option Rc} {w : Option Value} (x : FFits h p m U o w) (hf : Fresh h c) (hU : ∀ b, U b → U' b) (k : ∀ b, U b → b < c → b ≠ p → b ≠ m → h'.get b = h.get b) : FFits h' p m U' o w := by
  rcases x with x | ⟨r, v, h1, h2, h3⟩
  · exact .inl x
  · exact .inr ⟨r, v, h1, h2, h3.keep hf hU k⟩
theorem FlatM.keep {h h' : T AObj} {c p m dim : Nat} {mt : Int} {M : List Rc} {U : Nat → Prop} (q : FlatM h p m mt dim M U) (hf : Fresh h c) (k : ∀ b, U b → b < c → h'.get b = h.get b) : FlatM h' p m mt dim M U := by
  obtain ⟨es, n, h1, h2, h3⟩ := q.ex
  exact ⟨(k p q.pU (q.ptr.lt hf)).trans q.ptr, ⟨es, n, (k m q.mU (h1.lt hf)).trans h1, h2, fun x => (h3 x).keep hf (fun _ q => q) fun b hb hc _ _ => k b hb hc⟩, q.pU, q.mU, q.ne, q.rises, q.ok⟩
theorem FlatM.wide {h : T AObj} {p m dim : Nat} {mt : Int} {M : List Rc} {U U' : Nat → Prop} (q : FlatM h p m mt dim M U) (k : ∀ b, U b → U' b) : FlatM h p m mt dim M U' := by
  obtain ⟨es, n, h1, h2, h3⟩ := q.ex
  refine ⟨q.ptr, ⟨es, n, h1, h2, fun x => ?_⟩, k _ q.pU, k _ q.mU, q.ne, q.rises, q.ok⟩
  rcases h3 x with h3 | ⟨r, v, e1, e2, e3, e4⟩
  · exact .inl h3
  · exact .inr ⟨r, v, e1, e2, e3, fun b hb => ⟨k b (e4 b hb).1, (e4 b hb).2⟩⟩
theorem FlatM.lt {h : T AObj} {c p m dim : Nat} {mt : Int} {M : List Rc} {U : Nat → Prop} (q : FlatM h p m mt dim M U) (hf : Fresh h c) : p < c ∧ m < c := by
  obtain ⟨es, n, h1, h2, h3⟩ := q.ex
  exact ⟨q.ptr.lt hf, h1.lt hf⟩
theorem FlatM.new {h : T AObj} {p m dim : Nat} {mt : Int} (hp : Has h p (.cells [.int .i64 mt, .map (some m)])) (hm : Has h m (.map [] 0)) (hne : p ≠ m) : FlatM h p m mt dim [] (fun b => b = p ∨ b = m) :=
  ⟨hp, ⟨[], 0, hm, ⟨[], .nil 0⟩, fun x => .inl ⟨rfl, rfl⟩⟩, .inl rfl, .inr rfl, hne, Rises.nil, fun r hr => by cases hr⟩

/-- The keys are the members' ids. -/
theorem FlatM.ids {h : T AObj} {p m : Nat} {U : Nat → Prop} {M : List Rc} {n : Nat} {es : List (Value × Value × Nat)} {ids : List Int} (hk : Keyed es n ids) (hr : Rises M) (hv : ∀ x, FFits h p m U (getM x M) (valI x es)) : sortI ids = M.map Rc.id := by
  refine rises_ext (sortI_rises hk.nodup) hr.ids fun x => ?_
  rw [(sortI_perm ids).mem_iff]
  constructor
  · intro hx
    rcases hv x with ⟨_, h4⟩ | ⟨r, v, h4, _, _⟩
    · exact absurd hx ((findI_none_iff hk.keys).1 (valI_none.1 h4))
    · obtain ⟨h5, h6⟩ := getM_mem h4
      exact List.mem_map.2 ⟨r, h5, h6⟩
  · intro hx
    obtain ⟨r, h5, rfl⟩ := List.mem_map.1 hx
    refine Classical.byContradiction fun hn => ?_
    rcases hv r.id with ⟨h4, _⟩ | ⟨r', v, _, h4, _⟩
    · exact absurd rfl (getM_none.1 h4 r h5)
    · rw [valI_none.2 ((findI_none_iff hk.keys).2 hn)] at h4
      cases h4

theorem fput_spec {h : T AObj} {c : Nat} {rl wl : List Nat} (hf : Fresh h c) {p m dim : Nat} {mt : Int} {M : List Rc} {U : Nat → Prop} (q : FlatM h p m mt dim M U) (id : Int) (hid : -9223372036854775808 ≤ id ∧ id ≤ 9223372036854775807)
    {a : Option Addr} {cap : Nat} {zs : List Int} (hv : Row h (.slice a dim cap) dim 1 (zs.map (Value.int .i32))) (hx : zs.length = dim) (hb : Bnd zs) (hd : 1 ≤ dim) (hd' : dim ≤ 1000) (bs : Nat → Prop) (hbs : ∀ b o sp, a = some ⟨b, o, sp⟩ → bs b) (hbm : ¬bs m) :
    ∃ r s', FnTo (Cs smQ) eg 12 [.pointer (some ⟨p, 0, none⟩), .int .i64 id, .slice a dim cap] ⟨h, c, rl, wl⟩ r s' ∧ FlatM s'.h p m mt dim (putM (mbR id zs) M) (fun b => U b ∨ c ≤ b ∧ b < s'.c) ∧ Ext ⟨h, c, rl, wl⟩ s' (fun b => U b ∨ bs b) (fun b => b = m) := by
  obtain ⟨es, n, hm, ⟨ids, h2⟩, h3⟩ := q.ex
  have hp := q.ptr
  obtain ⟨lp, lm⟩ := q.lt hf
  have hpU := q.pU
  have hmU := q.mU
  refine Fn.go (stdQ 12 rfl) ex12 fn12 km12 rfl rfl ?_
  refine Zev ?_
  refine Zgo ?_
  refine Wtr.call rfl rfl (copy_spec stdQ Zfr hv (by unfold bigV; omega) (fun e => by omega) bs (fun b o sp n' cap e => hbs b o sp (by simp only [Value.slice.injEq] at e; exact e.1))) ?_
  rintro v h1 c1 r1 w1 ⟨hown, hext⟩
  have hq := hext.quiet (fun _ _ q => q)
  have kp := Kp.ext (W := fun b => b = m) (h := h) (c := c) Zkp hext (by omega) (fun _ _ q => q.elim)
  have lr := Lg.extR (R := fun b => U b ∨ bs b) (c := c) Zlg hext (fun b _ hb => .inr hb)
  have lw := Lg.extW (W := fun b => b = m) (c := c) Zlg hext (fun b _ hb => hb.elim)
  have fr1 := hext.fresh
  have le1 := hext.c
  simp only at le1 fr1
  have hm1 : Has h1 m (.map es n) := hext.hs hm lm (fun q => q)
  have hp1 := hext.hs hp lp (fun q => q)
  have hrm : ∀ b ∈ r1, b ≠ m := fun b hb => by
    rcases hext.rl b hb with u | u
    · exact absurd u List.not_mem_nil
    · exact fun e => hbm (e ▸ u.2)
  refine ⟨Zap, ?_⟩
  refine Zgo ?_
  refine Wtr.op (s1 := ⟨h1.set m (some (.map (putI .i64 id v n es).1 (putI .i64 id v n es).2)), c1, [m], [m]⟩) rfl (to_mapUpdate (mi_ rfl) rfl rfl rfl hm1 (hm1.lt fr1) h2.ks) ?_ ?_
  · exact Zap
  dsimp only [put]
  refine Zgo ?_
  refine ⟨.inl rfl, Wres.nil ⟨?_, ?_⟩⟩
  · obtain ⟨va, vk, rfl⟩ := hown.val
    refine ⟨Has.other (fun e => q.ne e) hp1, ⟨_, _, Has.same, ⟨_, h2.put (by unfold wfI; rw [decide_eq_true hid.1, decide_eq_true hid.2]; rfl) _⟩, fun x => ?_⟩, .inl hpU, .inl hmU, q.ne, q.rises.put _, fun r hr => ?_⟩
    · rw [getM_put, valI_put h2]
      by_cases hxi : id = x
      · rw [if_pos hxi, if_pos hxi.symm]
        refine .inr ⟨_, _, rfl, rfl, ?_, fun b hb => ?_⟩
        · show Own _ 0 _ (zs.map (Value.int .i32)).length _
          rw [List.length_map, hx]
          exact (hown.low (Nat.zero_le _)).keep fun b hb => get_other (by have := (hown.blk hb).1; omega)
        · obtain ⟨u1, u2⟩ := hown.blk hb
          have := u2.lt fr1
          exact ⟨.inr ⟨u1, this⟩, by omega, by omega⟩
      · rw [if_neg hxi, if_neg fun e => hxi e.symm]
        exact (h3 x).keep hf (fun b hb => .inl hb) fun b _ hc _ hm => (get_other hm).trans (kp b hc hm)
    · rcases mem_putM hr with rfl | hr
      · exact ⟨zs, rfl, hx, hb⟩
      · exact q.ok r hr
  · exact Zex
end Go.Ab.Seat
end
