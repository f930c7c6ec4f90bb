/- Hits put in order by a closure: slices.SortFunc of a dozen or fewer (the abstract machine). -/
import Derived.Test.YtcnfbfiakkjabaaGreatDoorDG0
import Derived.Test.YtcnfbfiakkjabaaGreatDoorE51
set_option linter.unusedVariables false
set_option linter.unusedSimpArgs false
namespace Go.Ab
section
variable {C : Ctx} {eg : TypeId → Bool} {all os : List Oper} {loc kept : L} {h : T AObj} {c : Nat} {rl wl : List Nat} {Q : Env → St → Prop} {d : Nat} {ty : TypeId} {ps : String} {af : Array Edge} {g : Option (Nat × Bool)} {bef : List Nat} {done : List (Nat × Fp)} {j : Nat}
theorem Wtr.callV {f : Nat} {fo : Operand} {first cap : Array Value} {ar : Array Operand} {ts : Array TypeId} {args : List Value} {P : Value → St → Prop} (hw : wantedA all (.mk loc kept) ⟨some d, .call ⟨.value fo, ar, ts⟩, ty, ps, af, g⟩ = some true) (hf : evalA (.mk loc kept) fo = .func (.func f) first cap) (ha : mapA (evalA (.mk loc kept)) ar.toList = args)
    (hc : ∃ v s', FnTo C eg f (app first.toList (app args cap.toList)) ⟨h, c, [], []⟩ v s' ∧ P v s') (k : ∀ v h' c' r1 w1, P v ⟨h', c', r1, w1⟩ → (∀ p ∈ done, ordB bef j p.1 = true ∨ ApartP p.2 ⟨r1, w1, c, c'⟩) ∧ Wtr C eg all bef ((j, ⟨r1, w1, c, c'⟩) :: done) (j + 1) os (.mk (.cons d v loc) kept) ⟨h', c', r1 ++ rl, w1 ++ wl⟩ Q) :
    Wtr C eg all bef done j (⟨some d, .call ⟨.value fo, ar, ts⟩, ty, ps, af, g⟩ :: os) (.mk loc kept) ⟨h, c, rl, wl⟩ Q := by
  obtain ⟨v, ⟨h', c', r1, w1⟩, h1, h2⟩ := hc
  obtain ⟨k1, k2⟩ := k v h' c' r1 w1 h2
  exact Wtr.op hw (OpTo.ofCallV hf ha h1) k1 k2
end
end Go.Ab
namespace Go.Ab.Seat
open Go.Extern Go.Proofs
set_option linter.unusedSimpArgs false
set_option linter.unusedVariables false
set_option maxRecDepth 4000
set_option pp.deepTerms false
set_option pp.deepTerms.threshold 6
variable {sm : Nat → Option (List Value → M Value)}

/-- What means.Order hands over. -/
theorem cmp_spec (H : Std sm) {h : T AObj} {c : Nat} {rl wl : List Nat} (hf : Fresh h c) (a b : Ht) :
    ∃ r s', FnTo (Cs sm) eg 92 [hitv a.id a.sc, hitv b.id b.sc] ⟨h, c, rl, wl⟩ r s' ∧ r = .int .i64 (if lessH a b then -1 else 1) ∧ Ext ⟨h, c, rl, wl⟩ s' (fun _ => False) (fun _ => False) := by
  refine Fn.go (H 92 rfl) ex92 fn92 km92 rfl rfl ?_
  intro e he
  (simp (decide := true) only [kz] at he; subst he)
  (repeat (first | (with_reducible refine Then.go ?_) | (with_reducible refine Wx.seq ?_) | (with_reducible refine Wx.reg ?_) | ((with_reducible refine Wseq.nil ?_); intro e he; (simp (decide := true) only [kz] at he; subst he)) | ((with_reducible apply Wseq.as); rfl; (intro v hv; (simp (decide := true) only [kw] at hv); subst hv)) | ((with_reducible apply Wseq.bx); rfl; exact (by ((repeat (apply Fresh.put; omega)); (first | (assumption) | (exact Fresh.up (by assumption) (by omega))))); (intro v hv; (simp (decide := true) only [kw] at hv); subst hv); refine ⟨_, (by ((exact cellsA_agg _))), ?_⟩) | ((with_reducible apply Wseq.stg (op := Op.load _ _)); rfl; exact to_loadS (ag_ rfl) rfl (by (repeat (first | (exact Has.same.cel) | (apply Cel.other; omega)))) (by omega) (by rfl))))
  refine Wseq.call rfl rfl (less_spec H (by ((repeat (apply Fresh.put; omega)); ((exact Fresh.up (by assumption) (by omega))))) a b) ?_
  rintro v h1 c1 r1 w1 ⟨rfl, hext⟩
  have q1 := hext.c
  dsimp only at q1
  have hf1 : Fresh h1 c1 := hext.fresh
  have kp := Kp.ext (W := fun _ => False) (h := h) (c := c) (by (repeat (first | (exact Kp.refl) | (apply Kp.set; (focus (left; omega)))))) hext (by omega) (fun _ _ q => q)
  have lr := Lg.extR (R := fun _ => False) (c := c) (by (repeat (first | (exact Lg.nil) | (apply Lg.cons; (focus (left; omega)))))) hext (fun _ _ q => q)
  have lw := Lg.extW (W := fun _ => False) (c := c) (by (repeat ((exact Lg.nil)))) hext (fun _ _ q => q)
  cases hl : lessH a b
  · (repeat (first | (with_reducible refine Then.go ?_) | (with_reducible refine Wx.seq ?_) | (with_reducible refine Wx.skip ?_) | (with_reducible refine Wx.ret ?_) | (with_reducible refine Wx.reg ?_) | (refine Wx.condF rfl (by rfl) ?_) | ((with_reducible refine Wseq.nil ?_); intro e he; (simp (decide := true) only [kz] at he; subst he)) | ((with_reducible apply Wseq.as); rfl; (intro v hv; (simp (decide := true) only [kw] at hv); subst hv))))
    refine ⟨.inr rfl, Wres.one rfl ⟨rfl, ?_⟩⟩
    (dsimp only; exact Ext.of (by omega) (by ((repeat (apply Fresh.put; omega)); ((assumption)))) (by (repeat ((assumption)))) (by (repeat ((assumption)))) (by (repeat ((assumption)))))
  · (repeat (first | (with_reducible refine Then.go ?_) | (with_reducible refine Then.rt ?_) | (with_reducible refine Wx.seq ?_) | (with_reducible refine Wx.ret ?_) | (with_reducible refine Wx.reg ?_) | (refine Wx.condT rfl (by rfl) ?_) | ((with_reducible refine Wseq.nil ?_); intro e he; (simp (decide := true) only [kz] at he; subst he)) | ((with_reducible apply Wseq.as); rfl; (intro v hv; (simp (decide := true) only [kw] at hv); subst hv))))
    refine ⟨.inr rfl, Wres.one rfl ⟨rfl, ?_⟩⟩
    (dsimp only; exact Ext.of (by omega) (by ((repeat (apply Fresh.put; omega)); ((assumption)))) (by (repeat ((assumption)))) (by (repeat ((assumption)))) (by (repeat ((assumption)))))

/-- One more put among some that stand in order. -/
def insB (x : Ht) (p : List Ht) : List Ht := p.take (iH x p) ++ x :: p.drop (iH x p)
theorem putB_ins {k : Nat} {p : List Ht} {x : Ht} (hx : ∀ y ∈ p, y.id ≠ x.id) (hk : p.length < k) : putB k p x = insB x p := by
  have h1 : p.any (fun y => decide (y.id = x.id)) = false := by
    rw [List.any_eq_false]
    intro y hy
    simpa using hx y hy
  have h2 := iH_le x p
  unfold putB insB
  rw [h1, if_neg (by decide), if_neg (by omega), List.take_of_length_le (by rw [List.length_append, List.length_take, List.length_cons, List.length_drop]; omega)]
theorem insB_cons (x y : Ht) (p : List Ht) : insB x (y :: p) = if lessH y x then y :: insB x p else x :: y :: p := by
  cases hl : lessH y x <;> simp [insB, iH, List.takeWhile_cons, hl]
theorem lessH_trans {a b c : Ht} (h1 : lessH a b = true) (h2 : lessH b c = true) : lessH a c = true := by
  rw [lessH_iff] at *; omega
theorem lessH_total {a b : Ht} (h1 : lessH a b = false) (h2 : a.id ≠ b.id) : lessH b a = true := by
  rw [lessH_not] at h1; rw [lessH_iff]; omega
theorem lessH_asymm {a b : Ht} (h1 : lessH a b = true) : lessH b a = false := by
  rw [lessH_iff] at h1; rw [lessH_not]; omega

/-- Hits in order, unlike. -/
def Ord (p : List Ht) : Prop := p.Pairwise (fun a b => lessH a b = true)
theorem insB_perm (x : Ht) : ∀ p : List Ht, (insB x p).Perm (x :: p)
  | [] => .refl _
  | y :: p => by
    rw [insB_cons]
    split
    · exact ((insB_perm x p).cons y).trans (List.Perm.swap x y p)
    · exact .refl _
theorem insB_ord {x : Ht} : ∀ {p : List Ht}, Ord p → (∀ y ∈ p, y.id ≠ x.id) → Ord (insB x p)
  | [], _, _ => List.pairwise_cons.2 ⟨fun _ h => absurd h List.not_mem_nil, List.Pairwise.nil⟩
  | y :: p, ho, hx => by
    obtain ⟨h1, h2⟩ := List.pairwise_cons.1 ho
    rw [insB_cons]
    cases hl : lessH y x
    · rw [if_neg (by decide)]
      have h3 := lessH_total hl (hx y List.mem_cons_self)
      refine List.pairwise_cons.2 ⟨fun z hz => ?_, ho⟩
      rcases List.mem_cons.1 hz with rfl | hz
      · exact h3
      · exact lessH_trans h3 (h1 z hz)
    · rw [if_pos rfl]
      refine List.pairwise_cons.2 ⟨fun z hz => ?_, insB_ord h2 fun z hz => hx z (List.mem_cons_of_mem _ hz)⟩
      rcases List.mem_cons.1 ((insB_perm x p).mem_iff.1 hz) with rfl | hz
      · exact hl
      · exact h1 z hz

theorem ids_ne {l : List Ht} {i : Nat} (hd : (l.map Ht.id).Nodup) (hi : i < l.length) : ∀ y ∈ l.take i, y.id ≠ l[i].id := by
  intro y hy e
  obtain ⟨j, hj⟩ := List.mem_iff_getElem?.1 hy
  rw [List.getElem?_take] at hj
  split at hj
  · rename_i hji
    obtain ⟨q1, q2⟩ := List.getElem?_eq_some_iff.1 hj
    have := (List.getElem_inj (h₀ := by rw [List.length_map]; exact q1) (h₁ := by rw [List.length_map]; exact hi) hd).1 (by rw [List.getElem_map, List.getElem_map, q2, e])
    omega
  · cases hj
/-- So many of the first, in order. -/
theorem bestOf_ord {k : Nat} {l : List Ht} (hd : (l.map Ht.id).Nodup) : ∀ m, m ≤ l.length → m ≤ k → (bestOf k (l.take m)).Perm (l.take m) ∧ Ord (bestOf k (l.take m))
  | 0, _, _ => by
    rw [List.take_zero]
    exact ⟨.refl _, List.Pairwise.nil⟩
  | m + 1, hm, hk => by
    obtain ⟨h1, h2⟩ := bestOf_ord (k := k) hd m (by omega) (by omega)
    have h3 : ∀ y ∈ bestOf k (l.take m), y.id ≠ (l[m]'(by omega)).id := fun y hy => ids_ne hd (by omega) y (h1.mem_iff.1 hy)
    have h4 : (bestOf k (l.take m)).length = m := by rw [h1.length_eq, List.length_take]; omega
    rw [bestOf_take (by omega), putB_ins h3 (by omega), List.take_succ_eq_append_getElem (by omega)]
    exact ⟨(insB_perm _ _).trans ((h1.cons _).trans (List.perm_append_singleton _ _).symm), insB_ord h2 h3⟩
theorem bestOf_len_eq {k : Nat} {l : List Ht} (hd : (l.map Ht.id).Nodup) {m : Nat} (hm : m ≤ l.length) (hk : m ≤ k) : (bestOf k (l.take m)).length = m := by
  rw [(bestOf_ord hd m hm hk).1.length_eq, List.length_take]; omega
/-- Where one stands that is put among some. -/
theorem insB_at {x : Ht} {A q : List Ht} (ho : Ord (A ++ q)) (hx : ∀ y ∈ A ++ q, y.id ≠ x.id) (hq : ∀ y ∈ q, lessH x y = true) (hA : ∀ y, A.getLast? = some y → lessH x y = false) : insB x (A ++ q) = A ++ x :: q := by
  have h : iH x (A ++ q) = A.length := by
    refine iH_at (fun y hy => ?_) (fun y hy => ?_) (by rw [List.length_append]; omega)
    · rw [List.take_left] at hy
      obtain ⟨A', z, rfl⟩ : ∃ A' z, A = A' ++ [z] := by
        have hne : A ≠ [] := by rintro rfl; cases hy
        exact ⟨A.dropLast, A.getLast hne, (List.dropLast_concat_getLast hne).symm⟩
      have hz := lessH_total (hA z (by simp)) (by have := hx z (by simp); omega)
      rcases List.mem_append.1 hy with hy | hy
      · have h1 := List.pairwise_append.1 (List.pairwise_append.1 ho).1
        exact lessH_trans (h1.2.2 y hy z (by simp)) hz
      · rw [List.mem_singleton.1 hy]; exact hz
    · rw [List.getElem?_append_right (Nat.le_refl _), Nat.sub_self] at hy
      exact lessH_asymm (hq y (List.mem_of_getElem? hy))
  unfold insB
  rw [h, List.take_left, List.drop_left]

theorem setH {A B : List Ht} {y x : Ht} : setMany [.int .i64 y.id, .int .i64 y.sc] (flatH (A ++ x :: B)) (0 + A.length * 2) = some (flatH (A ++ y :: B)) := by
  rw [setMany_eq _ _ _ (by rw [flatH_len, List.length_append, List.length_cons]; simp; omega) (by intro v hv; simp only [List.mem_cons, List.not_mem_nil, or_false] at hv; rcases hv with rfl | rfl <;> rfl)]
  have e1 : 0 + A.length * 2 = A.length * 2 := by omega
  have e2 : 0 + A.length * 2 + [Value.int .i64 y.id, .int .i64 y.sc].length = (A.length + 1) * 2 := by simp; omega
  rw [e2, e1, flatH_take, flatH_drop, List.take_left]
  have e3 : (A ++ x :: B).drop (A.length + 1) = B := by
    rw [show A ++ x :: B = (A ++ [x]) ++ B by simp, show A.length + 1 = (A ++ [x]).length by simp, List.drop_left]
  rw [e3, flatH_app]
  show some (flatH A ++ [Value.int .i64 y.id, .int .i64 y.sc] ++ flatH B) = some (flatH A ++ flatH (y :: B))
  rw [List.append_assoc]; rfl
theorem subH {A B : List Ht} {x : Ht} : subN (0 + A.length * 2) 2 (flatH (A ++ x :: B)) = some [.int .i64 x.id, .int .i64 x.sc] :=
  sub_hit (subN_all _ _ (by rw [flatH_len])) (by rw [List.getElem?_append_right (Nat.le_refl _), Nat.sub_self]; rfl)

def EI (b n : Nat) (i : Int) (j9 j14 j34 : Value) : L :=
  .cons 3 (.func (.func 92) #[] #[]) (.cons 2 (.int .i64 (n : Int)) (.cons 1 (.int .i64 0) (.cons 0 (.slice (some ⟨b, 0, none⟩) n n) (.cons 8 (.int .i64 i) (.cons 9 j9 (.cons 14 j14 (.cons 34 j34 .nil)))))))

set_option maxHeartbeats 4000000 in
theorem isort_spec (H : Std sm) {h : T AObj} {c : Nat} {rl wl : List Nat} (hf : Fresh h c) {b n : Nat} {l : List Ht} (hb : Has h b (.cells (flatH l))) (hn : l.length = n) (hn' : n ≤ 1000) (hd : (l.map Ht.id).Nodup) :
    ∃ r s', FnTo (Cs sm) eg 208 [.slice (some ⟨b, 0, none⟩) n n, .int .i64 0, .int .i64 (n : Int), .func (.func 92) #[] #[]] ⟨h, c, rl, wl⟩ r s' ∧ Has s'.h b (.cells (flatH (bestOf n l))) ∧ Ext ⟨h, c, rl, wl⟩ s' (fun x => x = b) (fun x => x = b) := by
  have lb := hb.lt hf
  refine Fn.go (H 208 rfl) ex208 fn208 km208 rfl rfl ?_
  intro e he
  (simp (decide := true) only [kz] at he; subst he)
  (repeat (first | (with_reducible refine Then.go ?_) | (with_reducible refine Wx.seq ?_) | (with_reducible refine Wx.block ?_) | (with_reducible refine Wx.reg ?_) | ((with_reducible refine Wseq.nil ?_); intro e he; (simp (decide := true) only [kz] at he; subst he)) | ((with_reducible apply Wseq.mv); rfl; (intro v hv; (simp (decide := true) only [kw] at hv); subst hv)) | ((with_reducible apply Wseq.as); rfl; (intro v hv; (simp (decide := true) only [kw] at hv); subst hv)) | ((with_reducible apply Wseq.stg (op := Op.binOp BinOp.add _ _ _ _)); rfl; exact to_add rfl rfl (by omega) (by omega))))
  refine Wx.loopE (fun k1 e s => ∃ (i : Nat) (z : Int) (j9 j14 j34 : Value) (h' : T AObj) (c' : Nat) (rl' wl' : List Nat), e = EI b n z j9 j14 j34 ∧ z = i ∧ s = ⟨h', c', rl', wl'⟩ ∧ Fresh h' c' ∧ c ≤ c' ∧ Kp h h' c (fun x => x = b) ∧ Has h' b (.cells (flatH (bestOf n (l.take i) ++ l.drop i))) ∧ Lg c (fun x => x = b) rl' ∧ Lg c (fun x => x = b) wl' ∧ k1 = n - i) (n - 1) (EI b n 1 top top top) (by (repeat (first | (exact Resp.fn) | (apply Resp.out)))) ?_ ?_ ?_
  · unfold EI
    (refine EqK.of ?_ ?_ <;> (repeat (first | (exact all_nil) | (apply all_cons; rfl))))
  · refine ⟨1, 1, _, _, _, _, _, _, _, rfl, rfl, rfl, (by ((repeat (apply Fresh.put; omega)); ((assumption)))), by omega, (by (repeat ((exact Kp.refl)))), ?_, (by (repeat ((exact Lg.nil)))), (by (repeat ((exact Lg.nil)))), rfl⟩
    have : bestOf n (l.take 1) ++ l.drop 1 = l := by
      cases l with
      | nil => rfl
      | cons x r =>
        have : bestOf n ((x :: r).take 1) = [x] := by
          show putB n [] x = [x]
          rw [putB_ins (fun _ h => absurd h List.not_mem_nil) (by rw [← hn]; simp)]; rfl
        rw [this]; rfl
    rw [this]; exact hb
  · rintro k1 e s ⟨i, z, j9, j14, j34, h', c', rl', wl', rfl, hz, rfl, hf', hcc, hkp, hB, hlr, hlw, rfl⟩
    unfold EI
    by_cases hi : i < n
    · have hp2 := bestOf_ord (k := n) hd i (by omega) (by omega)
      have hp3 := bestOf_len_eq (k := n) hd (m := i) (by omega) (by omega)
      have hp4 : bestOf n (l.take (i + 1)) = insB (l[i]'(by omega)) (bestOf n (l.take i)) := by
        rw [bestOf_take (by omega), putB_ins (fun y hy => ids_ne hd (by omega) y (hp2.1.mem_iff.1 hy)) (by omega)]
      have hp5 : ∀ y ∈ bestOf n (l.take i), y.id ≠ (l[i]'(by omega)).id := fun y hy => ids_ne hd (by omega) y (hp2.1.mem_iff.1 hy)
      have hp6 : l.drop i = l[i]'(by omega) :: l.drop (i + 1) := List.drop_eq_getElem_cons (by omega)
      rw [hp6] at hB
      clear hp6
      revert hB hp4 hp5
      generalize (l[i]'(by omega)) = x
      intro hB hp4 hp5
      have hp2' := hp2.2
      clear hp2
      revert hB hp4 hp5 hp2' hp3
      generalize bestOf n (l.take i) = p
      intro hp3 hB hp4 hp5 hp2'
      (repeat (first | (with_reducible refine Then.go ?_) | (with_reducible refine Wx.seq ?_) | (with_reducible refine Wx.skip ?_) | (with_reducible refine Wx.block ?_) | (with_reducible refine Wx.reg ?_) | (refine Wx.condT rfl (by rfl) ?_) | ((with_reducible refine Wseq.nil ?_); intro e he; (simp (decide := true) only [kz] at he; subst he)) | ((with_reducible apply Wseq.mv); rfl; (intro v hv; (simp (decide := true) only [kw] at hv); subst hv)) | ((with_reducible apply Wseq.as); rfl; (intro v hv; (simp (decide := true) only [kw] at hv); subst hv)) | ((with_reducible apply Wseq.stg (op := Op.binOp BinOp.lss _ _ _ _)); rfl; exact to_lssT rfl rfl (by omega))))
      refine Wx.loopE (fun k1 e s => ∃ (A q : List Ht) (z9 : Int) (j14 j34 : Value) (h2 : T AObj) (c2 : Nat) (rl2 wl2 : List Nat), e = EI b n z (.int .i64 z9) j14 j34 ∧ z9 = A.length ∧ s = ⟨h2, c2, rl2, wl2⟩ ∧ Fresh h2 c2 ∧ c ≤ c2 ∧ Kp h h2 c (fun x => x = b) ∧ Has h2 b (.cells (flatH (A ++ x :: (q ++ l.drop (i + 1))))) ∧ p = A ++ q ∧ (∀ y ∈ q, lessH x y = true) ∧ Lg c (fun x => x = b) rl2 ∧ Lg c (fun x => x = b) wl2 ∧ k1 = A.length) p.length (EI b n z (.int .i64 z) (.bool true) j34) (by (repeat (first | (exact Resp.fn) | (apply Resp.then) | (apply Resp.out) | (apply Resp.round)))) ?_ ?_ ?_
      · unfold EI
        (refine EqK.of ?_ ?_ <;> (repeat (first | (exact all_nil) | (apply all_cons; rfl))))
      · exact ⟨p, [], z, _, _, _, _, _, _, rfl, by omega, rfl, hf', hcc, hkp, hB, (List.append_nil p).symm, fun _ h => absurd h List.not_mem_nil, hlr, hlw, rfl⟩
      · rintro k1 e s ⟨A, q, z9, j14, j34, h2, c2, rl2, wl2, rfl, hz9, rfl, hf2, hcc2, hkp2, hB2, hpq, hq, hlr2, hlw2, rfl⟩
        unfold EI
        rcases List.eq_nil_or_concat A with rfl | ⟨A', y, hAA⟩
        · simp only [List.length_nil] at hz9
          (repeat (first | (with_reducible refine Then.go ?_) | (with_reducible refine Then.ex ?_) | (with_reducible refine Out.go ?_) | (with_reducible refine Out.hit ?_) | (with_reducible refine Wx.seq ?_) | (with_reducible refine Wx.exit ?_) | (with_reducible refine Wx.reg ?_) | (refine Wx.dreg rfl ?_) | (with_reducible refine RoundE.ex ?_) | (refine Wx.condF rfl (by rfl) ?_) | ((with_reducible refine Wseq.nil ?_); intro e he; (simp (decide := true) only [kz] at he; subst he)) | ((with_reducible apply Wseq.mv); rfl; (intro v hv; (simp (decide := true) only [kw] at hv); subst hv)) | ((with_reducible apply Wseq.as); rfl; (intro v hv; (simp (decide := true) only [kw] at hv); subst hv)) | ((with_reducible apply Wseq.stg (op := Op.binOp BinOp.add _ _ _ _)); rfl; exact to_add rfl rfl (by omega) (by omega)) | ((with_reducible refine Wtr.nil ?_); intro e he; (simp (decide := true) only [kz] at he; subst he)) | ((with_reducible apply Wtr.mv); rfl; (intro v hv; (simp (decide := true) only [kw] at hv); subst hv)) | ((with_reducible apply Wtr.pkF); rfl; rfl; (intro v hv; (simp (decide := true) only [kw] at hv); subst hv)) | ((with_reducible apply Wtr.stq (op := Op.binOp BinOp.gtr _ _ _ _)); rfl; exact to_gtrF rfl rfl (by omega)) | (refine Wtr.no rfl ?_)))
          refine RoundE.go (n - (i + 1)) (EI b n (z + 1) _ _ _) (by omega) (by (refine EqK.of ?_ ?_ <;> (repeat (first | (exact all_nil) | (apply all_cons; rfl))))) ⟨i + 1, z + 1, _, _, _, _, _, _, _, rfl, by omega, rfl, hf2, hcc2, hkp2, ?_, hlr2, hlw2, rfl⟩
          have e : insB x p = x :: q := by
            rw [hpq]
            exact insB_at (A := []) (by rw [← hpq]; exact hp2') (by rw [← hpq]; exact hp5) hq (fun y hy => by cases hy)
          rw [hp4, e]
          exact hB2
        · obtain rfl : A = A' ++ [y] := by rw [hAA]; simp
          clear hAA
          have hA1 : (A' ++ [y]).length = A'.length + 1 := by simp
          have hB3 : Has h2 b (.cells (flatH (A' ++ y :: x :: (q ++ l.drop (i + 1))))) := by
            have e : A' ++ [y] ++ x :: (q ++ l.drop (i + 1)) = A' ++ y :: x :: (q ++ l.drop (i + 1)) := by simp
            rwa [e] at hB2
          have hs1 : subN (0 + (A'.length + 1) * 2) 2 (flatH (A' ++ y :: x :: (q ++ l.drop (i + 1)))) = some [.int .i64 x.id, .int .i64 x.sc] := by
            have := subH (A := A' ++ [y]) (x := x) (B := q ++ l.drop (i + 1))
            rwa [hA1, List.append_assoc] at this
          have hs2 : subN (0 + A'.length * 2) 2 (flatH (A' ++ y :: x :: (q ++ l.drop (i + 1)))) = some [.int .i64 y.id, .int .i64 y.sc] := subH
          have hlen : A'.length + 1 + q.length = i := by rw [← hp3, hpq]; simp; omega
          have lb2 := hB3.lt hf2
          (repeat (first | (with_reducible refine Wx.seq ?_) | (refine Wx.dreg rfl ?_) | ((with_reducible apply Wtr.mv); rfl; (intro v hv; (simp (decide := true) only [kw] at hv); subst hv)) | ((with_reducible apply Wtr.stq (op := Op.binOp BinOp.gtr _ _ _ _)); rfl; exact to_gtrT rfl rfl (by omega))))
          ((with_reducible apply Wtr.stq); (focus rfl); (focus (exact to_indexAddr (k := A'.length + 1) el32 rfl rfl (by omega) (by omega))))
          ((with_reducible apply Wtr.stx); (focus rfl); (focus (exact to_loadS (ag_ rfl) rfl hB3.cel (by omega) hs1)); repeat ((exact all_nil)))
          (repeat (first | ((with_reducible apply Wtr.mv); rfl; (intro v hv; (simp (decide := true) only [kw] at hv); subst hv)) | ((with_reducible apply Wtr.stq (op := Op.binOp BinOp.sub _ _ _ _)); rfl; exact to_sub rfl rfl (by omega) (by omega))))
          ((with_reducible apply Wtr.stq); (focus rfl); (focus (exact to_indexAddr (k := A'.length) el32 rfl rfl (by omega) (by omega))))
          ((with_reducible apply Wtr.stx); (focus rfl); (focus (exact to_loadS (ag_ rfl) rfl hB3.cel (by omega) hs2)); (focus (repeat (first | (exact all_nil) | (apply all_cons; (focus ((right; exact ApartP.rr))))))))
          cases hl : lessH x y
          · refine Wtr.callV rfl rfl rfl (cmp_spec H (by ((repeat (apply Fresh.put; omega)); ((assumption)))) x y) ?_
            rintro v h3 c3 r3 w3 ⟨rfl, hext⟩
            have hqt := hext.quiet (fun _ _ q => q)
            have kp3 := Kp.ext (W := fun x => x = b) (h := h) (c := c) (by (repeat ((assumption)))) hext (by omega) (fun _ _ q => q.elim)
            have lr3 := Lg.extR (R := fun x => x = b) (c := c) (by (repeat ((exact Lg.nil)))) hext (fun _ _ q => q.elim)
            have lw3 := Lg.extW (W := fun x => x = b) (c := c) (by (repeat ((exact Lg.nil)))) hext (fun _ _ q => q.elim)
            have fr3 := hext.fresh
            have le3 := hext.c
            simp only at le3 fr3
            have hB4 := hext.hs hB3 lb2 (fun q => q)
            rw [hl]
            simp only [Bool.false_eq_true, ↓reduceIte]
            refine ⟨(by (repeat (first | (exact all_nil) | (apply all_cons; (focus ((left; dsimp only; decide +kernel))))))), ?_⟩
            (repeat (first | (with_reducible refine Then.go ?_) | (with_reducible refine Then.ex ?_) | (with_reducible refine Out.go ?_) | (with_reducible refine Out.hit ?_) | (with_reducible refine Wx.exit ?_) | (with_reducible refine Wx.reg ?_) | (with_reducible refine RoundE.ex ?_) | (refine Wx.condF rfl (by rfl) ?_) | ((with_reducible refine Wseq.nil ?_); intro e he; (simp (decide := true) only [kz] at he; subst he)) | ((with_reducible apply Wseq.mv); rfl; (intro v hv; (simp (decide := true) only [kw] at hv); subst hv)) | ((with_reducible apply Wseq.as); rfl; (intro v hv; (simp (decide := true) only [kw] at hv); subst hv)) | ((with_reducible apply Wseq.stg (op := Op.binOp BinOp.add _ _ _ _)); rfl; exact to_add rfl rfl (by omega) (by omega)) | ((with_reducible refine Wtr.nil ?_); intro e he; (simp (decide := true) only [kz] at he; subst he)) | ((with_reducible apply Wtr.pkT); rfl; rfl; (intro v hv; (simp (decide := true) only [kw] at hv); subst hv)) | ((with_reducible apply Wtr.stq (op := Op.binOp BinOp.lss _ _ _ _)); rfl; exact to_lssF rfl rfl (by omega))))
            refine RoundE.go (n - (i + 1)) (EI b n (z + 1) _ _ _) (by omega) (by (refine EqK.of ?_ ?_ <;> (repeat (first | (exact all_nil) | (apply all_cons; rfl))))) ⟨i + 1, z + 1, _, _, _, _, _, _, _, rfl, by omega, rfl, fr3, by omega, kp3, ?_, (by (repeat (first | (exact Lg.nil) | (assumption) | (apply Lg.cons; (focus ((right; (exact rfl))))) | (apply Lg.app)))), (by (repeat (first | (exact Lg.nil) | (assumption) | (apply Lg.app)))), rfl⟩
            have e : insB x p = A' ++ y :: x :: q := by
              rw [hpq, insB_at (by rw [← hpq]; exact hp2') (by rw [← hpq]; exact hp5) hq (fun y' hy => by
                rw [List.getLast?_concat] at hy
                cases hy; exact hl)]
              simp
            rw [hp4, e, List.append_assoc]
            exact hB4
          · refine Wtr.callV rfl rfl rfl (cmp_spec H (by ((repeat (apply Fresh.put; omega)); ((assumption)))) x y) ?_
            rintro v h3 c3 r3 w3 ⟨rfl, hext⟩
            have hqt := hext.quiet (fun _ _ q => q)
            have kp3 := Kp.ext (W := fun x => x = b) (h := h) (c := c) (by (repeat ((assumption)))) hext (by omega) (fun _ _ q => q.elim)
            have lr3 := Lg.extR (R := fun x => x = b) (c := c) (by (repeat ((exact Lg.nil)))) hext (fun _ _ q => q.elim)
            have lw3 := Lg.extW (W := fun x => x = b) (c := c) (by (repeat ((exact Lg.nil)))) hext (fun _ _ q => q.elim)
            have fr3 := hext.fresh
            have le3 := hext.c
            simp only at le3 fr3
            have hB4 := hext.hs hB3 lb2 (fun q => q)
            have hset1 : setMany [.int .i64 y.id, .int .i64 y.sc] (flatH (A' ++ y :: x :: (q ++ l.drop (i + 1)))) (0 + (A'.length + 1) * 2) = some (flatH (A' ++ y :: y :: (q ++ l.drop (i + 1)))) := by
              have := setH (A := A' ++ [y]) (B := q ++ l.drop (i + 1)) (y := y) (x := x)
              rwa [hA1, List.append_assoc, List.append_assoc] at this
            have hset2 : setMany [.int .i64 x.id, .int .i64 x.sc] (flatH (A' ++ y :: y :: (q ++ l.drop (i + 1)))) (0 + A'.length * 2) = some (flatH (A' ++ x :: y :: (q ++ l.drop (i + 1)))) := setH
            rw [hl]
            simp only [↓reduceIte]
            refine ⟨(by (repeat (first | (exact all_nil) | (apply all_cons; (focus ((left; dsimp only; decide +kernel))))))), ?_⟩
            (repeat (first | (with_reducible refine Then.go ?_) | (with_reducible refine Wx.seq ?_) | (with_reducible refine Wx.skip ?_) | (with_reducible refine Wx.block ?_) | (refine Wx.dreg rfl ?_) | (refine Wx.condT rfl (by rfl) ?_) | ((with_reducible refine Wtr.nil ?_); intro e he; (simp (decide := true) only [kz] at he; subst he)) | ((with_reducible apply Wtr.mv); rfl; (intro v hv; (simp (decide := true) only [kw] at hv); subst hv)) | ((with_reducible apply Wtr.pkT); rfl; rfl; (intro v hv; (simp (decide := true) only [kw] at hv); subst hv)) | ((with_reducible apply Wtr.stq (op := Op.binOp BinOp.lss _ _ _ _)); rfl; exact to_lssT rfl rfl (by omega)) | ((with_reducible apply Wtr.stq (op := Op.binOp BinOp.sub _ _ _ _)); rfl; exact to_sub rfl rfl (by omega) (by omega))))
            ((with_reducible apply Wtr.stq); (focus rfl); (focus (exact to_indexAddr (k := A'.length) el32 rfl rfl (by omega) (by omega))))
            ((with_reducible apply Wtr.stx); (focus rfl); (focus (exact to_loadS (ag_ rfl) rfl hB4.cel (by omega) hs2)); repeat ((exact all_nil)))
            (repeat (((with_reducible apply Wtr.mv); rfl; (intro v hv; (simp (decide := true) only [kw] at hv); subst hv))))
            ((with_reducible apply Wtr.stq); (focus rfl); (focus (exact to_indexAddr (k := A'.length + 1) el32 rfl rfl (by omega) (by omega))))
            ((with_reducible apply Wtr.stx); (focus rfl); (focus (exact to_loadS (ag_ rfl) rfl hB4.cel (by omega) hs1)); (focus (repeat (first | (exact all_nil) | (apply all_cons; (focus ((right; exact ApartP.rr))))))))
            skip
            ((with_reducible apply Wtr.stq); (focus rfl); (focus (exact to_indexAddr (k := A'.length + 1) el32 rfl rfl (by omega) (by omega))))
            ((with_reducible apply Wtr.so); rfl; exact (sz_ rfl); rfl; exact hB4; omega; (focus (repeat (first | (exact all_nil) | (apply all_cons; (focus ((left; dsimp only; decide +kernel))))))); (intro v hv; (simp (decide := true) only [kw] at hv); subst hv); refine ⟨_, _, (by ((exact cellsA_agg _))), rfl, hset1, ?_⟩)
            skip
            ((with_reducible apply Wtr.stq); (focus rfl); (focus (exact to_indexAddr (k := A'.length) el32 rfl rfl (by omega) (by omega))))
            ((with_reducible apply Wtr.so); rfl; exact (sz_ rfl); rfl; exact Has.same; omega; (focus (repeat (first | (exact all_nil) | (apply all_cons; (focus ((left; dsimp only; decide +kernel))))))); (intro v hv; (simp (decide := true) only [kw] at hv); subst hv); refine ⟨_, _, (by ((exact cellsA_agg _))), rfl, hset2, ?_⟩)
            (repeat (first | (with_reducible refine Then.go ?_) | (with_reducible refine Out.go ?_) | (with_reducible refine Wx.reg ?_) | ((with_reducible refine Wseq.nil ?_); intro e he; (simp (decide := true) only [kz] at he; subst he)) | ((with_reducible apply Wseq.mv); rfl; (intro v hv; (simp (decide := true) only [kw] at hv); subst hv)) | ((with_reducible apply Wseq.as); rfl; (intro v hv; (simp (decide := true) only [kw] at hv); subst hv)) | ((with_reducible apply Wseq.stg (op := Op.binOp BinOp.sub _ _ _ _)); rfl; exact to_sub rfl rfl (by omega) (by omega)) | ((with_reducible refine Wtr.nil ?_); intro e he; (simp (decide := true) only [kz] at he; subst he))))
            refine RoundE.go A'.length (EI b n z (.int .i64 (z9 - 1)) _ _) (by omega) (by (refine EqK.of ?_ ?_ <;> (repeat (first | (exact all_nil) | (apply all_cons; rfl))))) ⟨A', y :: q, z9 - 1, _, _, _, _, _, _, rfl, by omega, rfl, (by ((repeat (apply Fresh.put; omega)); ((assumption)))), by omega, (by (repeat (first | (assumption) | (apply Kp.set; (focus ((right; (exact rfl)))))))), Has.same, by rw [hpq]; simp, fun y' hy => ?_, (by (repeat (first | (exact Lg.nil) | (assumption) | (apply Lg.cons; (focus ((right; (exact rfl))))) | (apply Lg.app)))), (by (repeat (first | (exact Lg.nil) | (assumption) | (apply Lg.cons; (focus ((right; (exact rfl))))) | (apply Lg.app)))), rfl⟩
            rcases List.mem_cons.1 hy with rfl | hy
            · exact hl
            · exact hq y' hy
    · (repeat (first | (with_reducible refine Then.go ?_) | (with_reducible refine Then.ex ?_) | (with_reducible refine Out.hit ?_) | (with_reducible refine Wx.seq ?_) | (with_reducible refine Wx.exit ?_) | (with_reducible refine Wx.reg ?_) | (with_reducible refine RoundE.ex ?_) | (refine Wx.condF rfl (by rfl) ?_) | ((with_reducible refine Wseq.nil ?_); intro e he; (simp (decide := true) only [kz] at he; subst he)) | ((with_reducible apply Wseq.mv); rfl; (intro v hv; (simp (decide := true) only [kw] at hv); subst hv)) | ((with_reducible apply Wseq.stg (op := Op.binOp BinOp.lss _ _ _ _)); rfl; exact to_lssF rfl rfl (by omega))))
      refine ⟨.inl rfl, Wres.nil ⟨?_, ?_⟩⟩
      · rw [List.take_of_length_le (by omega), List.drop_of_length_le (by omega), List.append_nil] at hB
        exact hB
      · (dsimp only; exact Ext.of (by omega) (by ((repeat (apply Fresh.put; omega)); ((assumption)))) (by (repeat ((assumption)))) (by (repeat ((assumption)))) (by (repeat ((assumption)))))
end Go.Ab.Seat
