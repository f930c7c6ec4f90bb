import Derived.Test.YtcnfbfiakkjabaaGreatDoorDV2
set_option linter.unusedVariables false
set_option linter.unusedSimpArgs false
section
/- FlatOrder: the run answers true (the abstract machine). -/
namespace Go.Ab.Seat
open Go.Extern Go.Proofs
set_option linter.unusedSimpArgs false
set_option linter.unusedVariables false
set_option maxRecDepth 4000
set_option pp.deepTerms false
set_option pp.deepTerms.threshold 6

/-- The lowest bit. -/
def and1 (z : Int) : Int := (((BitVec.ofInt 64 z).toNat % 2 : Nat) : Int)
theorem and1_or (z : Int) : and1 z = 0 ∨ and1 z = 1 := by unfold and1; omega
theorem to_and1 {C : Ctx} {e : Env} {s : St} {d : Option Nat} {ty t t2 : TypeId} {ps : String} {af : Array Edge} {g : Option (Nat × Bool)} {x y : Operand} {z : Int} (hx : evalA e x = .int .i64 z) (hy : evalA e y = .int .i64 1) :
    OpTo C eg e ⟨d, .binOp .and t x y t2, ty, ps, af, g⟩ s (.int .i64 (and1 z)) s :=
  to_bin hx hy (by
    have h : ((BitVec.ofInt 64 z &&& BitVec.ofInt 64 1).toNat : Int) = and1 z := by
      unfold and1
      rw [BitVec.toNat_and, show (BitVec.ofInt 64 1).toNat = 1 by decide, Nat.and_one_is_mod]
    show some (Value.int .i64 (wrapA .i64 ((BitVec.ofInt 64 z &&& BitVec.ofInt 64 1).toNat : Int))) = _
    rw [h, wrapA_i64 (by have := and1_or z; omega) (by have := and1_or z; omega)])

theorem rises_getM : ∀ {a b : List Rc}, Rises a → Rises b → (∀ x, getM x a = getM x b) → a = b
  | [], [], _, _, _ => rfl
  | [], y :: b, _, _, h => by
    have := h y.id
    rw [getM, getM, if_pos rfl] at this
    cases this
  | x :: a, [], _, _, h => by
    have := h x.id
    rw [getM, getM, if_pos rfl] at this
    cases this
  | x :: a, y :: b, ha, hb, h => by
    obtain ⟨a1, a2⟩ := List.pairwise_cons.1 ha
    obtain ⟨b1, b2⟩ := List.pairwise_cons.1 hb
    have hxy : x = y := by
      rcases Int.lt_trichotomy x.id y.id with q | q | q
      · have e := h x.id
        rw [getM, if_pos rfl, getM, if_neg (by omega), getM_none.2 fun r hr => by have := b1 r hr; omega] at e
        cases e
      · have e := h x.id
        rw [getM, if_pos rfl, getM, if_pos q.symm] at e
        exact Option.some.inj e
      · have e := h y.id
        rw [getM, if_neg (by omega), getM, if_pos rfl, getM_none.2 fun r hr => by have := a1 r hr; omega] at e
        cases e
    subst hxy
    congr 1
    refine rises_getM a2 b2 fun z => ?_
    have e := h z
    by_cases hz : x.id = z
    · rw [getM_none.2 fun r hr => by have := a1 r hr; omega, getM_none.2 fun r hr => by have := b1 r hr; omega]
    · rw [getM, if_neg hz, getM, if_neg hz] at e
      exact e

theorem getM_len {M : List Rc} {n : Nat} (hr : Rises M) (h : ∀ x : Int, x < 1 ∨ (n : Int) < x → getM x M = none) : M.length ≤ n := by
  have := rises_len (n := (n : Int)) (lo := 1) hr.ids (fun x hx => by
    obtain ⟨r, h1, rfl⟩ := List.mem_map.1 hx
    have h2 := getM_some hr h1 rfl
    refine Classical.byContradiction fun hq => ?_
    rw [h r.id (by omega)] at h2
    cases h2) (by omega)
  rw [List.length_map] at this
  omega

theorem Bnd_vecZ (zs : List Int) (dim : Nat) : Bnd (vecZ zs dim) := by
  intro i
  unfold vecZ
  rw [List.getD_eq_getElem?_getD, List.getElem?_map]
  cases h : (List.range dim)[i]? with
  | none => simp
  | some j =>
    show -1048576 ≤ clampZ _ ∧ clampZ _ ≤ 1048576
    unfold clampZ
    omega

/-- An index of the call's own beside another one. -/
structure Two (h : T AObj) (c : Nat) (pa ma pb mb : Nat) (mt : Int) (dim : Nat) (A B : List Rc) : Prop where
  ex : ∃ Ua Ub : Nat → Prop, FlatM h pa ma mt dim A Ua ∧ FlatM h pb mb mt dim B Ub ∧ ¬Ua mb ∧ ¬Ub ma ∧ ma < c ∧ mb < c

theorem FlatM.hm {h : T AObj} {p m dim : Nat} {mt : Int} {M : List Rc} {U : Nat → Prop} (q : FlatM h p m mt dim M U) : ∃ es n, Has h m (.map es n) := by
  obtain ⟨es, n, h1, _⟩ := q.ex
  exact ⟨es, n, h1⟩
theorem notMap {h : T AObj} {b : Nat} {cs : List Value} {m n : Nat} {es : List (Value × Value × Nat)} (h1 : Has h b (.cells cs)) (h2 : Has h m (.map es n)) : b ≠ m := by
  rintro rfl
  unfold Has at h1 h2
  rw [h1] at h2
  cases h2

/-- One is put into one of the two. -/
theorem Two.putA {h : T AObj} {c : Nat} {rl wl : List Nat} (hf : Fresh h c) {pa ma pb mb dim : Nat} {mt : Int} {A B : List Rc} (t : Two h c pa ma pb mb mt dim A B) (id : Int) (hid : -9223372036854775808 ≤ id ∧ id ≤ 9223372036854775807) {bi : Nat} {zs : List Int} (hv : Has h bi (.cells (zs.map (Value.int .i32)))) (hz : zs.length = dim) (hb : Bnd zs) (hd : 1 ≤ dim) (hd' : dim ≤ 1000) :
    ∃ r s', FnTo (Cs smQ) eg 12 [.pointer (some ⟨pa, 0, none⟩), .int .i64 id, .slice (some ⟨bi, 0, none⟩) dim dim] ⟨h, c, rl, wl⟩ r s' ∧ Two s'.h s'.c pa ma pb mb mt dim (putM (mbR id zs) A) B ∧ (∃ es n, Has h ma (.map es n)) ∧ Ext ⟨h, c, rl, wl⟩ s' (fun _ => True) (fun b => b = ma) := by
  obtain ⟨Ua, Ub, qa, qb, u1, u2, l1, l2⟩ := t.ex
  obtain ⟨es, n, hma⟩ := qa.hm
  have hrow : Row h (.slice (some ⟨bi, 0, none⟩) dim dim) dim 1 (zs.map (Value.int .i32)) := .inr ⟨bi, 0, none, dim, _, rfl, hv.cel, subN_all _ _ (by rw [List.length_map]; omega)⟩
  obtain ⟨r, s', e1, e2, e3⟩ := fput_spec (rl := rl) (wl := wl) hf qa id hid hrow hz hb hd hd' (fun b => b = bi) (fun b o sp e => by cases e; rfl) (fun e => notMap hv hma e.symm)
  have hc := e3.c
  simp only at hc
  refine ⟨r, s', e1, ⟨_, Ub, e2, qb.keep hf fun b hb hc => e3.h b hc (fun e => u2 (e ▸ hb)), ?_, u2, by omega, by omega⟩, ⟨es, n, hma⟩, e3.mono (fun _ _ _ => trivial) fun _ _ q => q⟩
  rintro (q | q)
  · exact u1 q
  · omega
theorem Two.swap {h : T AObj} {c : Nat} {pa ma pb mb dim : Nat} {mt : Int} {A B : List Rc} (t : Two h c pa ma pb mb mt dim A B) : Two h c pb mb pa ma mt dim B A := by
  obtain ⟨Ua, Ub, qa, qb, u1, u2, l1, l2⟩ := t.ex
  exact ⟨Ub, Ua, qb, qa, u2, u1, l2, l1⟩
theorem Two.keep {h h' : T AObj} {c c' : Nat} {pa ma pb mb dim : Nat} {mt : Int} {A B : List Rc} (t : Two h c pa ma pb mb mt dim A B) (hf : Fresh h c) (hc : c ≤ c') (k : ∀ b, b < c → h'.get b = h.get b) : Two h' c' pa ma pb mb mt dim A B := by
  obtain ⟨Ua, Ub, qa, qb, u1, u2, l1, l2⟩ := t.ex
  exact ⟨Ua, Ub, qa.keep hf fun b _ hb => k b hb, qb.keep hf fun b _ hb => k b hb, u1, u2, by omega, by omega⟩
end Go.Ab.Seat
end
section
/- The best one of some; a score of nought (plain lists). -/
namespace Go.Ab.Seat
open Go.Extern Go.Proofs
set_option linter.unusedVariables false

theorem lessH_iff {a b : Ht} : lessH a b = true ↔ a.sc < b.sc ∨ a.sc = b.sc ∧ a.id < b.id := by
  unfold lessH
  split
  · rw [decide_eq_true_eq]; omega
  · rw [decide_eq_true_eq]; omega
theorem lessH_not {a b : Ht} : lessH a b = false ↔ b.sc < a.sc ∨ a.sc = b.sc ∧ b.id ≤ a.id := by
  rw [← Bool.not_eq_true, lessH_iff]; omega

/-- The best one of some unlike ones. -/
theorem bestOf_one : ∀ (l : List Ht), (l.map Ht.id).Nodup → l ≠ [] → ∃ b ∈ l, bestOf 1 l = [b] ∧ ∀ x ∈ l, lessH x b = false := by
  intro l
  suffices h : ∀ n, n ≤ l.length → (l.map Ht.id).Nodup → 0 < n → ∃ b ∈ l.take n, bestOf 1 (l.take n) = [b] ∧ ∀ x ∈ l.take n, lessH x b = false by
    intro hn hne
    have := h l.length (Nat.le_refl _) hn (List.length_pos_iff.2 hne)
    rw [List.take_length] at this
    exact this
  intro n
  induction n with
  | zero => intro _ _ h; omega
  | succ n ih =>
    intro hn hd _
    have hlt : n < l.length := by omega
    rw [bestOf_take hlt, List.take_succ_eq_append_getElem hlt]
    rcases Nat.eq_zero_or_pos n with rfl | hpos
    · refine ⟨l[0], by simp, rfl, fun x hx => ?_⟩
      have : x = l[0] := by simpa using hx
      rw [this, lessH_not]; omega
    · obtain ⟨b, hb, e, hm⟩ := ih (by omega) hd hpos
      have hne : b.id ≠ l[n].id := by
        obtain ⟨j, hj⟩ := List.mem_iff_getElem?.1 hb
        rw [List.getElem?_take] at hj
        split at hj
        · rename_i hjn
          intro he
          have h1 : (l.map Ht.id)[j]? = some b.id := by rw [List.getElem?_map, hj]; rfl
          have h2 : (l.map Ht.id)[n]? = some b.id := by rw [List.getElem?_map, List.getElem?_eq_getElem hlt, he]; rfl
          obtain ⟨a1, a2⟩ := List.getElem?_eq_some_iff.1 h1
          obtain ⟨b1, b2⟩ := List.getElem?_eq_some_iff.1 h2
          have := (List.getElem_inj hd).1 (a2.trans b2.symm)
          omega
        · cases hj
      rw [e]
      have hany : [b].any (fun y => decide (y.id = l[n].id)) = false := by simp [hne]
      unfold putB
      rw [hany, if_neg (by decide)]
      cases hl : lessH b l[n] with
      | true =>
        have hi : iH l[n] [b] = 1 := by unfold iH; rw [List.takeWhile_cons, hl]; rfl
        rw [hi, if_pos (Nat.le_refl _)]
        refine ⟨b, List.mem_append_left _ hb, rfl, fun x hx => ?_⟩
        rcases List.mem_append.1 hx with hx | hx
        · exact hm x hx
        · rw [List.mem_singleton.1 hx, lessH_not]
          rw [lessH_iff] at hl; omega
      | false =>
        have hi : iH l[n] [b] = 0 := by unfold iH; rw [List.takeWhile_cons, hl]; rfl
        rw [hi, if_neg (by omega)]
        refine ⟨l[n], List.mem_append_right _ (List.mem_singleton.2 rfl), rfl, fun x hx => ?_⟩
        rcases List.mem_append.1 hx with hx | hx
        · have h1 := hm x hx
          rw [lessH_not] at h1 hl ⊢
          omega
        · rw [List.mem_singleton.1 hx, lessH_not]; omega

theorem sq_nonneg (a : Int) : 0 ≤ a * a := by
  rcases Int.le_total 0 a with h | h
  · exact Int.mul_nonneg h h
  · have := Int.mul_nonneg (a := -a) (b := -a) (by omega) (by omega)
    rwa [Int.neg_mul_neg] at this
theorem score_nonneg (zs ys : List Int) : ∀ n, 0 ≤ scoreN 1 zs ys n := by
  intro n
  induction n with
  | zero => exact Int.le_refl _
  | succ n ih =>
    unfold scoreN termZ
    rw [if_pos rfl]
    have := sq_nonneg (zs.getD n 0 - ys.getD n 0)
    omega
theorem score_self (zs : List Int) : scoreZ 1 zs zs = 0 := by
  unfold scoreZ
  suffices h : ∀ n, scoreN 1 zs zs n = 0 from h _
  intro n
  induction n with
  | zero => rfl
  | succ n ih => unfold scoreN termZ; rw [if_pos rfl, ih, Int.sub_self]; rfl
theorem score_zero {zs ys : List Int} (hl : zs.length = ys.length) (h : scoreZ 1 zs ys = 0) : zs = ys := by
  unfold scoreZ at h
  have key : ∀ n, scoreN 1 zs ys n = 0 → ∀ i, i < n → zs.getD i 0 = ys.getD i 0 := by
    intro n
    induction n with
    | zero => intro _ i hi; omega
    | succ n ih =>
      intro hn i hi
      unfold scoreN termZ at hn
      rw [if_pos rfl] at hn
      have h1 := sq_nonneg (zs.getD n 0 - ys.getD n 0)
      have h2 := score_nonneg zs ys n
      rcases Nat.lt_or_ge i n with q | q
      · exact ih (by omega) i q
      · obtain rfl : i = n := by omega
        have h3 : (zs.getD i 0 - ys.getD i 0) * (zs.getD i 0 - ys.getD i 0) = 0 := by omega
        rcases Int.mul_eq_zero.1 h3 with h | h <;> omega
  refine List.ext_getElem hl fun i h1 h2 => ?_
  have := key _ h i h1
  rw [List.getD_eq_getElem?_getD, List.getD_eq_getElem?_getD, List.getElem?_eq_getElem h1, List.getElem?_eq_getElem h2] at this
  exact this

theorem hits_nodup {mt : Int} {qs : List Int} {M : List Rc} (h : Rises M) : ((hitsM mt qs M).map Ht.id).Nodup := by
  have e : (hitsM mt qs M).map Ht.id = M.map Rc.id := by unfold hitsM; rw [List.map_map]; rfl
  rw [e]
  exact h.ids.imp fun h => by omega
end Go.Ab.Seat
end
