import Derived.Test.YtcnfbfiakkjabaaGreatDoorE10
set_option linter.unusedVariables false
set_option linter.unusedSimpArgs false
section
/- The operations of the abstract machine against the model's. Part 8: arithmetic, strings, the choice. -/
namespace Go.Ab
section ops
variable {G : Nat} {C : Ctx} {eg : TypeId → Bool} {P : Program} {ι : Iota} {s : St} {w : World}

theorem bits_run {op : BinOp} {k : IntKind} {x y n : Int} (h : bitsA op k x y = some n) : (Op.intBits op k x y).run P w = .ok (.int k n) w := by
  cases op <;> first
    | (simp only [bitsA, wrapA_eq, Option.some.injEq] at h; subst h; rfl)
    | cases h

theorem guard_int (op : BinOp) (t : TypeId) (x y : Operand) (j k : IntKind) (m n : Int) : (eqGuard op t x y (.int j m) (.int k n)).run P w = .ok () w := by
  cases op <;> rfl

theorem guard_str (op : BinOp) (t : TypeId) (x y : Operand) (a b : ByteArray) : (eqGuard op t x y (.string a) (.string b)).run P w = .ok () w := by
  cases op <;> rfl

theorem arith_run {op : BinOp} (t : TypeId) {k : IntKind} {x y : Int} {v : Value} (h : arithA op k x y = some v) : (binOp op t (.int k x) (.int k y)).run P w = .ok v w := by
  have hk : ¬ (k ≠ k) := by simp
  have bits : ∀ o : BinOp, (match bitsA o k x y with | some n => some (Value.int k n) | none => none) = some v → (Op.intBits o k x y).run P w = .ok v w := by
    intro o hh
    cases hb : bitsA o k x y with
    | none => rw [hb] at hh; cases hh
    | some n =>
      rw [hb] at hh
      simp only [Option.some.injEq] at hh
      subst hh
      exact bits_run hb
  cases op with
  | add => simp only [arithA, wrapA_eq, Option.some.injEq] at h; subst h; show Sem.run P (if k ≠ k then _ else _) w = _; rw [if_neg hk]; rfl
  | sub => simp only [arithA, wrapA_eq, Option.some.injEq] at h; subst h; show Sem.run P (if k ≠ k then _ else _) w = _; rw [if_neg hk]; rfl
  | mul => simp only [arithA, wrapA_eq, Option.some.injEq] at h; subst h; show Sem.run P (if k ≠ k then _ else _) w = _; rw [if_neg hk]; rfl
  | quo =>
    simp only [arithA] at h
    by_cases hy : y = 0
    · rw [decide_eq_true hy] at h; cases h
    · rw [decide_eq_false hy] at h
      simp only [wrapA_eq, Option.some.injEq] at h; subst h; show Sem.run P (if k ≠ k then _ else Op.intDiv _ k x y) w = _; rw [if_neg hk]; unfold Op.intDiv; rw [if_neg hy]; rfl
  | rem =>
    simp only [arithA] at h
    by_cases hy : y = 0
    · rw [decide_eq_true hy] at h; cases h
    · rw [decide_eq_false hy] at h
      simp only [Option.some.injEq] at h; subst h; show Sem.run P (if k ≠ k then _ else Op.intDiv _ k x y) w = _; rw [if_neg hk]; unfold Op.intDiv; rw [if_neg hy]; rfl
  | and => have := bits .and h; show Sem.run P (if k ≠ k then _ else _) w = _; rw [if_neg hk]; exact this
  | or => have := bits .or h; show Sem.run P (if k ≠ k then _ else _) w = _; rw [if_neg hk]; exact this
  | xor => have := bits .xor h; show Sem.run P (if k ≠ k then _ else _) w = _; rw [if_neg hk]; exact this
  | andNot => have := bits .andNot h; show Sem.run P (if k ≠ k then _ else _) w = _; rw [if_neg hk]; exact this
  | shl => cases h
  | shr => cases h
  | eql => simp only [arithA, Option.some.injEq] at h; subst h; show Sem.run P (if k ≠ k then _ else _) w = _; rw [if_neg hk, ← beq_decide]; rfl
  | neq => simp only [arithA, Option.some.injEq] at h; subst h; show Sem.run P (if k ≠ k then _ else _) w = _; rw [if_neg hk, ← beq_decide]; rfl
  | lss => simp only [arithA, Option.some.injEq] at h; subst h; show Sem.run P (if k ≠ k then _ else _) w = _; rw [if_neg hk]; rfl
  | leq => simp only [arithA, Option.some.injEq] at h; subst h; show Sem.run P (if k ≠ k then _ else _) w = _; rw [if_neg hk]; rfl
  | gtr => simp only [arithA, Option.some.injEq] at h; subst h; show Sem.run P (if k ≠ k then _ else _) w = _; rw [if_neg hk]; rfl
  | geq => simp only [arithA, Option.some.injEq] at h; subst h; show Sem.run P (if k ≠ k then _ else _) w = _; rw [if_neg hk]; rfl

theorem arith_VR {op : BinOp} {k : IntKind} {x y : Int} {v : Value} (h : arithA op k x y = some v) : VR ι v v := by
  cases op <;> simp only [arithA] at h <;> (try split at h) <;> first | (cases h; done) | (cases h; first | exact .int _ _ | exact .bool _)

theorem shift_VR {op : BinOp} {k : IntKind} {x y : Int} {v : Value} (h : shiftA op k x y = some v) : VR ι v v := by
  cases y with
  | negSucc m => cases h
  | ofNat m => cases op <;> first | (cases h; done) | (cases h; exact .int _ _)

theorem str_VR {op : BinOp} {x y : ByteArray} {v : Value} (h : strA op x y = some v) : VR ι v v := by
  cases op <;> simp only [strA] at h <;> (try split at h) <;> first | (cases h; done) | (cases h; first | exact .string _ | exact .bool _)

theorem shift_run {op : BinOp} {j k : IntKind} {x y : Int} {v : Value} (h : shiftA op j x y = some v) : (Op.shift op j x k y).run P w = .ok v w := by
  cases y with
  | negSucc m => cases h
  | ofNat m =>
    have hn : ¬ (Int.ofNat m < 0) := by have : (0 : Int) ≤ Int.ofNat m := Int.natCast_nonneg m; omega
    unfold Op.shift
    rw [if_neg hn]
    cases op <;> first
      | (cases h; done)
      | (simp only [shiftA, wrapA_eq, Option.some.injEq] at h; subst h; simp only [Int.ofNat_eq_natCast, Int.toNat_natCast, Int.natCast_pow]; rfl)

theorem str_run {op : BinOp} (t : TypeId) {x y : ByteArray} {v : Value} (h : strA op x y = some v) : (binOp op t (.string x) (.string y)).run P w = .ok v w := by
  have e : (binOp op t (.string x) (.string y)) = Op.stringOp op x y := by cases op <;> rfl
  rw [e]
  unfold Op.stringOp
  simp only [ByteArray.toList_eq]
  cases op with
  | add =>
    simp only [strA] at h
    cases hb : Nat.ble (x.size + y.size) big with
    | false => rw [hb] at h; cases h
    | true =>
      rw [hb] at h
      simp only [Option.some.injEq] at h
      subst h
      have hle := ble_iff.1 hb
      have : ¬ (((x.size + y.size : Nat) : Int) > IntKind.i64.max) := by
        have : IntKind.i64.max = 9223372036854775807 := rfl
        rw [this]
        unfold big at hle
        omega
      simp only
      rw [if_neg this]
      rfl
  | _ => first
    | (cases h; done)
    | (simp only [strA, eqBytes_eq, Option.some.injEq] at h; subst h; rfl)

/-- What '==' that looks into the values is let by. -/
theorem eq_shape (ok : C.Ok eg P) {t : TypeId} {x y : Operand} {a a' b b' : Value} {r : Bool} {n : Nat} (ha : VR ι a a') (hb : VR ι b b') (hg : guardA eg t x y a b = true) (he : eqA C eg (n + 1) t a b = some r)
    (hi : ∀ j m k n, a = .int j m → b = .int k n → False) (hs : ∀ m n, a = .string m → b = .string n → False) :
    (∀ o : BinOp, (eqGuard o t x y a' b').run P w = .ok () w) ∧ binOp .eql t a' b' = (do pure (.bool (← Op.equal t a' b'))) ∧ binOp .neq t a' b' = (do pure (.bool (!(← Op.equal t a' b')))) := by
  simp only [eqA] at he
  cases hd : C.und t with
  | none => simp [hd] at he
  | some u =>
    simp only [hd] at he
    split at he
    case h_2 => exact (hi _ _ _ _ rfl rfl).elim
    case h_3 => exact (hs _ _ rfl rfl).elim
    case h_8 =>
      cases ha; cases hb
      refine ⟨fun o => ?_, rfl, rfl⟩
      have hc : (isConstA x || isConstA y) = true := hg
      cases x <;> cases y <;> first
        | (exfalso; simp [isConstA] at hc; done)
        | (cases o <;> rfl)
    case h_12 =>
      cases ha; cases hb
      refine ⟨fun o => ?_, rfl, rfl⟩
      have hc : (!eg t) = true := hg
      exact run_eqGuard_agg w o t x y _ _ (ok.eg t (by simpa using hc)).1
    all_goals first | (cases he; done) | (cases ha <;> cases hb <;> exact ⟨fun o => by cases o <;> rfl, rfl, rfl⟩)

theorem sim_bin (ok : C.Ok eg P) (hr : HR G ι s.h w.heap) (op : BinOp) (t : TypeId) (x y : Operand) {a a' b b' : Value} (ha : VR ι a a') (hb : VR ι b b') :
    SimV G P ι s w (M.lift (opBin C eg op t x y a b)) (do eqGuard op t x y a' b'; binOp op t a' b') := by
  refine SimV.lift hr fun v h => ?_
  -- '==' that looks into the values
  have eqs : ∀ r, guardA eg t x y a b = true → eqA C eg 100 t a b = some r → (∀ j m k n, a = .int j m → b = .int k n → False) → (∀ m n, a = .string m → b = .string n → False) →
      (do eqGuard .eql t x y a' b'; binOp .eql t a' b').run P w = .ok (.bool r) w ∧ (do eqGuard .neq t x y a' b'; binOp .neq t a' b').run P w = .ok (.bool !r) w := by
    intro r hg he hi hs
    have hq : (Op.equal t a' b').run P w = .ok r w := eq_run ok 100 Op.maxDepth t a b a' b' r (by decide) ha hb he
    obtain ⟨hgu, e1, e2⟩ := eq_shape (P := P) (w := w) (n := 99) ok ha hb hg he hi hs
    constructor
    · simp only [Sem.run_bind, hgu, Result.andThen_ok, e1, hq, Sem.run_pure]
    · simp only [Sem.run_bind, hgu, Result.andThen_ok, e2, hq, Sem.run_pure]
  unfold opBin at h
  split at h
  · rename_i j m k n
    cases ha; cases hb
    refine ⟨v, ?_, ?_⟩
    · simp only [Sem.run_bind, guard_int, Result.andThen_ok]
      split at h
      · exact shift_run (k := k) h
      · exact shift_run (k := k) h
      · by_cases hjk : j = k
        · subst hjk
          rw [decide_eq_true rfl] at h
          exact arith_run t h
        · rw [decide_eq_false hjk] at h; cases h
    · split at h
      · exact shift_VR h
      · exact shift_VR h
      · split at h
        · exact arith_VR h
        · cases h
  · cases ha; cases hb
    refine ⟨v, ?_, str_VR h⟩
    simp only [Sem.run_bind, guard_str, Result.andThen_ok]
    exact str_run t h
  · rename_i j m k
    unfold leastGtr at h
    split at h
    · rename_i x
      cases ha
      cases hb with
      | least _ c hkc =>
        by_cases hj : j = .i64
        · subst hj
          rw [decide_eq_true rfl, Bool.true_and] at h
          cases hx : Nat.ble x k with
          | false => rw [hx] at h; cases h
          | true =>
            rw [hx] at h
            simp only [Option.some.injEq] at h
            subst h
            have hle := ble_iff.1 hx
            refine ⟨.bool false, ?_, .bool _⟩
            simp only [Sem.run_bind, guard_int, Result.andThen_ok]
            have : arithA .gtr .i64 (Int.ofNat x) (c : Int) = some (.bool false) := by
              simp only [arithA, Option.some.injEq, Value.bool.injEq, decide_eq_false_iff_not]
              have : (Int.ofNat x) = (x : Int) := rfl
              omega
            exact arith_run t this
        · rw [decide_eq_false hj] at h; cases h
    · cases h
  · rename_i a b hi hs _
    split at h
    · split at h
      · rename_i hg
        split at h
        · rename_i r he
          simp only [Option.some.injEq] at h
          subst h
          exact ⟨_, (eqs r hg he (fun j m k n e f => hi j m k n e f) (fun m n e f => hs m n e f)).1, .bool _⟩
        · cases h
      · cases h
    · split at h
      · rename_i hg
        split at h
        · rename_i r he
          simp only [Option.some.injEq] at h
          subst h
          exact ⟨_, (eqs r hg he (fun j m k n e f => hi j m k n e f) (fun m n e f => hs m n e f)).2, .bool _⟩
        · cases h
      · cases h
    · cases h

theorem sim_un (hr : HR G ι s.h w.heap) (op : UnOp) {a a' : Value} (ha : VR ι a a') : SimV G P ι s w (M.lift (opUn op a)) (Op.unary op a') := by
  refine SimV.lift hr fun v h => ?_
  unfold opUn at h
  split at h
  · cases ha
    simp only [wrapA_eq, Option.some.injEq] at h
    subst h
    exact ⟨_, rfl, .int _ _⟩
  · cases ha
    split at h
    · rename_i r hb
      simp only [Option.some.injEq] at h
      subst h
      exact ⟨_, bits_run (op := .xor) hb, .int _ _⟩
    · cases h
  · cases ha
    simp only [Option.some.injEq] at h
    subst h
    exact ⟨_, rfl, .bool _⟩
  · cases h

end ops
end Go.Ab
end
section
/- A run of the abstract machine looks at the blocks it logs, and at no others. -/
namespace Go.Ab

/-- The blocks that a run touches. -/
def Touch (r w : List Nat) (lo hi b : Nat) : Prop := b ∈ r ∨ b ∈ w ∨ (lo ≤ b ∧ b < hi)

structure LocalR {α : Type} (m : M α) (s : St) (a : α) (s' : St) (r w : List Nat) : Prop where
  rl : s'.rl = r ++ s.rl
  wl : s'.wl = w ++ s.wl
  cle : s.c ≤ s'.c
  rlt : ∀ b ∈ r, b < s'.c
  wlt : ∀ b ∈ w, b < s'.c
  keep : ∀ b, b ∉ w → ¬(s.c ≤ b ∧ b < s'.c) → s'.h.get b = s.h.get b
  move : ∀ t : St, t.c = s.c → (∀ b, Touch r w s.c s'.c b → t.h.get b = s.h.get b) →
    ∃ h', m t = some (a, ⟨h', s'.c, r ++ t.rl, w ++ t.wl⟩) ∧ (∀ b, Touch r w s.c s'.c b → h'.get b = s'.h.get b) ∧
      (∀ b, b ∉ w → ¬(s.c ≤ b ∧ b < s'.c) → h'.get b = t.h.get b)

def Local {α : Type} (m : M α) : Prop := ∀ s a s', m s = some (a, s') → ∃ r w, LocalR m s a s' r w

section loc
variable {α β : Type}

theorem getO_eq {s : St} {b : Nat} {o : AObj} (h : s.h.get b = some o) (hb : b < s.c) : getO b s = some (o, ⟨s.h, s.c, b :: s.rl, s.wl⟩) := by
  obtain ⟨h0, c, rl, wl⟩ := s
  show Bool.rec (motive := fun _ => Option (AObj × St)) (Option.rec (motive := fun _ => Option (AObj × St)) none (fun o => some (o, ⟨h0, c, b :: rl, wl⟩)) (h0.get b)) none (Nat.ble c b) = _
  rw [ble_false.2 hb]
  simp only at h
  rw [h]

theorem putO_eq {s : St} {b : Nat} {o : Option AObj} {x : AObj} (h : s.h.get b = some x) (hb : b < s.c) : putO b o s = some ((), ⟨s.h.set b o, s.c, s.rl, b :: s.wl⟩) := by
  obtain ⟨h0, c, rl, wl⟩ := s
  show Bool.rec (motive := fun _ => Option (Unit × St)) (Option.rec (motive := fun _ => Option (Unit × St)) none (fun _ => (h0.set b o).force fun h => some ((), ⟨h, c, rl, b :: wl⟩)) (h0.get b)) none (Nat.ble c b) = _
  rw [ble_false.2 hb]
  simp only at h
  rw [h]
  simp only [T.force_eq]

theorem newO_eq {s : St} {o : AObj} (h : s.h.get s.c = none) : newO o s = some (s.c, ⟨s.h.set s.c (some o), s.c + 1, s.rl, s.wl⟩) := by
  obtain ⟨h0, c, rl, wl⟩ := s
  show Option.rec (motive := fun _ => Option (Nat × St)) ((h0.set c (some o)).force fun h => some (c, ⟨h, Nat.add c 1, rl, wl⟩)) (fun _ => none) (h0.get c) = _
  simp only at h
  rw [h]
  simp only [T.force_eq]

theorem Local.ret (a : α) : Local (M.ret a) := by
  intro s b s' h
  obtain ⟨rfl, rfl⟩ := ret_some h
  exact ⟨[], [], rfl, rfl, Nat.le_refl _, by simp, by simp, fun _ _ _ => rfl, fun t ht hh => ⟨t.h, by rw [← ht]; rfl, hh, fun _ _ _ => rfl⟩⟩

theorem Local.fail : Local (M.fail : M α) := fun _ _ _ h => (fail_some h).elim

theorem Local.lift (x : Option α) : Local (M.lift x) := by
  cases x with
  | none => intro s b s' h; cases h
  | some a => exact Local.ret a

theorem bind_eq {m : M α} {f : α → M β} {s s1 : St} {a : α} (h : m s = some (a, s1)) : m.bind f s = f a s1 := by
  show Option.rec (motive := fun _ => Option (β × St)) none (fun p => Prod.rec (motive := fun _ => Option (β × St)) (fun a s => f a s) p) (m s) = _
  rw [h]

theorem Local.bind {m : M α} {f : α → M β} (hm : Local m) (hf : ∀ a, Local (f a)) : Local (m.bind f) := by
  intro s b s2 h
  obtain ⟨a, s1, h1, h2⟩ := bind_some h
  obtain ⟨r1, w1, L1⟩ := hm s a s1 h1
  obtain ⟨r2, w2, L2⟩ := hf a s1 b s2 h2
  have c1 := L1.cle
  have c2 := L2.cle
  refine ⟨r2 ++ r1, w2 ++ w1, ?_, ?_, by omega, ?_, ?_, ?_, ?_⟩
  · rw [L2.rl, L1.rl, List.append_assoc]
  · rw [L2.wl, L1.wl, List.append_assoc]
  · intro b hb
    rcases List.mem_append.1 hb with hb | hb
    · exact L2.rlt b hb
    · exact Nat.lt_of_lt_of_le (L1.rlt b hb) c2
  · intro b hb
    rcases List.mem_append.1 hb with hb | hb
    · exact L2.wlt b hb
    · exact Nat.lt_of_lt_of_le (L1.wlt b hb) c2
  · intro b hb hc
    simp only [List.mem_append, not_or] at hb
    rw [L2.keep b hb.1 (by omega), L1.keep b hb.2 (by omega)]
  · intro t ht hh
    have up1 : ∀ b, Touch r1 w1 s.c s1.c b → Touch (r2 ++ r1) (w2 ++ w1) s.c s2.c b := by
      intro b hb
      rcases hb with hb | hb | hb
      · exact .inl (List.mem_append_right _ hb)
      · exact .inr (.inl (List.mem_append_right _ hb))
      · exact .inr (.inr (by omega))
    have up2 : ∀ b, Touch r2 w2 s1.c s2.c b → Touch (r2 ++ r1) (w2 ++ w1) s.c s2.c b := by
      intro b hb
      rcases hb with hb | hb | hb
      · exact .inl (List.mem_append_left _ hb)
      · exact .inr (.inl (List.mem_append_left _ hb))
      · exact .inr (.inr (by omega))
    obtain ⟨g1, e1, p1, q1⟩ := L1.move t ht fun b hb => hh b (up1 b hb)
    obtain ⟨g2, e2, p2, q2⟩ := L2.move ⟨g1, s1.c, r1 ++ t.rl, w1 ++ t.wl⟩ rfl fun b hb => by
      show g1.get b = _
      by_cases hw : b ∈ w1 ∨ (s.c ≤ b ∧ b < s1.c)
      · exact p1 b (.inr hw)
      · simp only [not_or] at hw
        rw [q1 b hw.1 hw.2, L1.keep b hw.1 hw.2]
        exact hh b (up2 b hb)
    refine ⟨g2, ?_, ?_, ?_⟩
    · rw [bind_eq e1, e2]
      simp only [List.append_assoc]
    · intro b hb
      by_cases h2 : Touch r2 w2 s1.c s2.c b
      · exact p2 b h2
      · simp only [Touch, not_or] at h2
        rw [q2 b h2.2.1 h2.2.2, L2.keep b h2.2.1 h2.2.2]
        refine p1 b ?_
        rcases hb with hb | hb | hb
        · exact .inl ((List.mem_append.1 hb).resolve_left h2.1)
        · exact .inr (.inl ((List.mem_append.1 hb).resolve_left h2.2.1))
        · exact .inr (.inr (by omega))
    · intro b hb hc
      simp only [List.mem_append, not_or] at hb
      rw [q2 b hb.1 (by omega)]
      show g1.get b = _
      exact q1 b hb.2 (by omega)

theorem Local.getO (b : Nat) : Local (getO b) := by
  intro s o s' h
  obtain ⟨h1, h2, rfl⟩ := getO_some h
  refine ⟨[b], [], rfl, rfl, Nat.le_refl _, by simpa using h2, by simp, fun _ _ _ => rfl, fun t ht hh => ⟨t.h, ?_, hh, fun _ _ _ => rfl⟩⟩
  rw [getO_eq ((hh b (.inl (by simp))).trans h1) (by rw [ht]; exact h2), ht]
  rfl

theorem Local.putO (b : Nat) (o : Option AObj) : Local (putO b o) := by
  intro s a s' h
  obtain ⟨⟨x, h1⟩, h2, rfl⟩ := putO_some h
  refine ⟨[], [b], rfl, rfl, Nat.le_refl _, by simp, by simpa using h2, fun k hk _ => ?_, fun t ht hh => ⟨t.h.set b o, ?_, ?_, ?_⟩⟩
  · show (s.h.set b o).get k = _
    rw [T.get_set, if_neg (by simpa using hk)]
  · rw [putO_eq ((hh b (.inr (.inl (by simp)))).trans h1) (by rw [ht]; exact h2), ht]
    rfl
  · intro k hk
    show _ = (s.h.set b o).get k
    rw [T.get_set, T.get_set]
    split
    · rfl
    · exact hh k hk
  · intro k hk _
    rw [T.get_set, if_neg (by simpa using hk)]

theorem Local.newO (o : AObj) : Local (newO o) := by
  intro s a s' h
  obtain ⟨h1, rfl, rfl⟩ := newO_some h
  refine ⟨[], [], rfl, rfl, Nat.le_succ _, by simp, by simp, fun k _ hk => ?_, fun t ht hh => ⟨t.h.set s.c (some o), ?_, ?_, ?_⟩⟩
  · show (s.h.set s.c (some o)).get k = _
    rw [T.get_set, if_neg (by simp only at hk; omega)]
  · rw [newO_eq (by rw [ht]; exact (hh s.c (.inr (.inr ⟨Nat.le_refl _, Nat.lt_succ_self _⟩))).trans h1), ht]
    rfl
  · intro k hk
    show _ = (s.h.set s.c (some o)).get k
    rw [T.get_set, T.get_set]
    split
    · rfl
    · exact hh k hk
  · intro k _ hk
    rw [T.get_set, if_neg (by simp only at hk; omega)]

theorem told_some {m : M α} {s s' : St} {p : α × Fp} (h : told m s = some (p, s')) :
    ∃ s1, m ⟨s.h, s.c, [], []⟩ = some (p.1, s1) ∧ p.2 = ⟨s1.rl, s1.wl, s.c, s1.c⟩ ∧ s' = ⟨s1.h, s1.c, s1.rl ++ s.rl, s1.wl ++ s.wl⟩ := by
  obtain ⟨h0, c, rl, wl⟩ := s
  have h' : Option.rec (motive := fun _ => Option ((α × Fp) × St)) none
      (fun p => Prod.rec (motive := fun _ => Option ((α × Fp) × St)) (fun a s1 =>
        St.rec (motive := fun _ => Option ((α × Fp) × St)) (fun h1 c1 rl1 wl1 => some ((a, ⟨rl1, wl1, c, c1⟩), ⟨h1, c1, app rl1 rl, app wl1 wl⟩)) s1) p)
      (m ⟨h0, c, [], []⟩) = some (p, s') := h
  cases hm : m ⟨h0, c, [], []⟩ with
  | none => rw [hm] at h'; cases h'
  | some q =>
    rw [hm] at h'
    obtain ⟨a, h1, c1, rl1, wl1⟩ := q
    simp only [app_eq, Option.some.injEq, Prod.mk.injEq] at h'
    obtain ⟨rfl, rfl⟩ := h'
    exact ⟨_, rfl, rfl, rfl⟩

theorem told_eq {m : M α} {s s1 : St} {a : α} (h : m ⟨s.h, s.c, [], []⟩ = some (a, s1)) : told m s = some ((a, ⟨s1.rl, s1.wl, s.c, s1.c⟩), ⟨s1.h, s1.c, s1.rl ++ s.rl, s1.wl ++ s.wl⟩) := by
  obtain ⟨h0, c, rl, wl⟩ := s
  show Option.rec (motive := fun _ => Option ((α × Fp) × St)) none
      (fun p => Prod.rec (motive := fun _ => Option ((α × Fp) × St)) (fun a s1 =>
        St.rec (motive := fun _ => Option ((α × Fp) × St)) (fun h1 c1 rl1 wl1 => some ((a, ⟨rl1, wl1, c, c1⟩), ⟨h1, c1, app rl1 rl, app wl1 wl⟩)) s1) p)
      (m ⟨h0, c, [], []⟩) = _
  simp only at h
  rw [h]
  simp only [app_eq]

theorem framed_some {m : M α} {s s' : St} {a : α} (h : framed m s = some (a, s')) :
    ∃ s1, m ⟨s.h, s.c, [], []⟩ = some (a, s1) ∧ s' = ⟨s1.h, s1.c, s1.rl.filter (fun b => decide (b < s.c)) ++ s.rl, s1.wl.filter (fun b => decide (b < s.c)) ++ s.wl⟩ := by
  obtain ⟨h0, c, rl, wl⟩ := s
  have h' : Option.rec (motive := fun _ => Option (α × St)) none
      (fun p => Prod.rec (motive := fun _ => Option (α × St)) (fun a s1 =>
        St.rec (motive := fun _ => Option (α × St)) (fun h1 c1 rl1 wl1 => some (a, ⟨h1, c1, below c rl1 rl, below c wl1 wl⟩)) s1) p)
      (m ⟨h0, c, [], []⟩) = some (a, s') := h
  cases hm : m ⟨h0, c, [], []⟩ with
  | none => rw [hm] at h'; cases h'
  | some q =>
    rw [hm] at h'
    obtain ⟨a, h1, c1, rl1, wl1⟩ := q
    simp only [below_eq, Option.some.injEq, Prod.mk.injEq] at h'
    obtain ⟨rfl, rfl⟩ := h'
    exact ⟨_, rfl, rfl⟩

theorem framed_eq {m : M α} {s s1 : St} {a : α} (h : m ⟨s.h, s.c, [], []⟩ = some (a, s1)) :
    framed m s = some (a, ⟨s1.h, s1.c, s1.rl.filter (fun b => decide (b < s.c)) ++ s.rl, s1.wl.filter (fun b => decide (b < s.c)) ++ s.wl⟩) := by
  obtain ⟨h0, c, rl, wl⟩ := s
  show Option.rec (motive := fun _ => Option (α × St)) none
      (fun p => Prod.rec (motive := fun _ => Option (α × St)) (fun a s1 =>
        St.rec (motive := fun _ => Option (α × St)) (fun h1 c1 rl1 wl1 => some (a, ⟨h1, c1, below c rl1 rl, below c wl1 wl⟩)) s1) p)
      (m ⟨h0, c, [], []⟩) = _
  simp only at h
  rw [h]
  simp only [below_eq]

theorem Local.told {m : M α} (hm : Local m) : Local (told m) := by
  intro s p s' h
  obtain ⟨s1, h1, h2, rfl⟩ := told_some h
  obtain ⟨r, w, L⟩ := hm _ _ _ h1
  have er : s1.rl = r := by rw [L.rl]; simp
  have ew : s1.wl = w := by rw [L.wl]; simp
  refine ⟨r, w, by rw [er], by rw [ew], L.cle, L.rlt, L.wlt, L.keep, fun t ht hh => ?_⟩
  obtain ⟨h', e, p1, q1⟩ := L.move ⟨t.h, t.c, [], []⟩ ht hh
  refine ⟨h', ?_, p1, q1⟩
  rw [told_eq e]
  obtain ⟨pa, pf⟩ := p
  simp only at h2
  subst h2
  simp only [List.append_nil, er, ew, ht]

theorem Local.framed {m : M α} (hm : Local m) : Local (framed m) := by
  intro s a s' h
  obtain ⟨s1, h1, rfl⟩ := framed_some h
  obtain ⟨r, w, L⟩ := hm _ _ _ h1
  have er : s1.rl = r := by rw [L.rl]; simp
  have ew : s1.wl = w := by rw [L.wl]; simp
  have cle : s.c ≤ s1.c := L.cle
  have up : ∀ b, Touch r w s.c s1.c b ↔ Touch (r.filter fun b => decide (b < s.c)) (w.filter fun b => decide (b < s.c)) s.c s1.c b := by
    intro b
    simp only [Touch, List.mem_filter, decide_eq_true_eq]
    constructor
    · rintro (hb | hb | hb)
      · have := L.rlt b hb
        by_cases hc : b < s.c
        · exact .inl ⟨hb, hc⟩
        · exact .inr (.inr (by omega))
      · have := L.wlt b hb
        by_cases hc : b < s.c
        · exact .inr (.inl ⟨hb, hc⟩)
        · exact .inr (.inr (by omega))
      · exact .inr (.inr hb)
    · rintro (hb | hb | hb)
      · exact .inl hb.1
      · exact .inr (.inl hb.1)
      · exact .inr (.inr hb)
  refine ⟨r.filter fun b => decide (b < s.c), w.filter fun b => decide (b < s.c), by rw [er], by rw [ew], cle, ?_, ?_, ?_, fun t ht hh => ?_⟩
  · intro b hb; exact L.rlt b (List.mem_filter.1 hb).1
  · intro b hb; exact L.wlt b (List.mem_filter.1 hb).1
  · intro b hb hc
    have hb' : b ∉ w := fun hw => by
      have := L.wlt b hw
      simp only [List.mem_filter, decide_eq_true_eq] at hb
      by_cases hlt : b < s.c
      · exact hb ⟨hw, hlt⟩
      · simp only at hc; omega
    exact L.keep b hb' hc
  · obtain ⟨h', e, p1, q1⟩ := L.move ⟨t.h, t.c, [], []⟩ ht fun b hb => hh b ((up b).1 hb)
    refine ⟨h', ?_, fun b hb => p1 b ((up b).2 hb), ?_⟩
    · rw [framed_eq e]
      simp only [List.append_nil, ht]
    · intro b hb hc
      have hb' : b ∉ w := fun hw => by
        have := L.wlt b hw
        simp only [List.mem_filter, decide_eq_true_eq] at hb
        by_cases hlt : b < s.c
        · exact hb ⟨hw, hlt⟩
        · simp only at hc; omega
      exact q1 b hb' hc

end loc
end Go.Ab
end
