/- The operations of the abstract machine against the model's. Part 8: arithmetic, strings, the choice. -/
import Derived.Test.YtofikbfljjjgeaaGreatDoorE10
set_option linter.unusedVariables false
set_option linter.unusedSimpArgs false
namespace Go.Ab
section ops
variable {G : Nat} {C : Ctx} {eg : TypeId → Bool} {P : Program} {ι : Iota} {s : St} {w : World}
theorem bits_run {op : BinOp} {k : IntKind} {x y n : Int} (h : bitsA op k x y = some n) : (Op.intBits op k x y).run P w = .ok (.int k n) w := by
 cases op <;> first
  | (simp only [bitsA, wrapA_eq, Option.some.injEq] at h; subst h; rfl)
  | cases h
theorem guard_int (op : BinOp) (t : TypeId) (x y : Operand) (j k : IntKind) (m n : Int) : (eqGuard op t x y (.int j m) (.int k n)).run P w = .ok () w := by
 cases op <;> rfl
theorem guard_str (op : BinOp) (t : TypeId) (x y : Operand) (a b : ByteArray) : (eqGuard op t x y (.string a) (.string b)).run P w = .ok () w := by
 cases op <;> rfl
theorem arith_run {op : BinOp} (t : TypeId) {k : IntKind} {x y : Int} {v : Value} (h : arithA op k x y = some v) : (binOp op t (.int k x) (.int k y)).run P w = .ok v w := by
 have hk : ¬ (k ≠ k) := by simp
 have bits : ∀ o : BinOp, (match bitsA o k x y with | some n => some (Value.int k n) | none => none) = some v → (Op.intBits o k x y).run P w = .ok v w := by
  intro o hh
  cases hb : bitsA o k x y with
  | none => rw [hb] at hh; cases hh
  | some n =>
   rw [hb] at hh
   simp only [Option.some.injEq] at hh
   subst hh
   exact bits_run hb
 cases op with
 | add => simp only [arithA, wrapA_eq, Option.some.injEq] at h; subst h; show Sem.run P (if k ≠ k then _ else _) w = _; rw [if_neg hk]; rfl
 | sub => simp only [arithA, wrapA_eq, Option.some.injEq] at h; subst h; show Sem.run P (if k ≠ k then _ else _) w = _; rw [if_neg hk]; rfl
 | mul => simp only [arithA, wrapA_eq, Option.some.injEq] at h; subst h; show Sem.run P (if k ≠ k then _ else _) w = _; rw [if_neg hk]; rfl
 | quo =>
  simp only [arithA] at h
  by_cases hy : y = 0
  ·rw [decide_eq_true hy] at h; cases h
  ·rw [decide_eq_false hy] at h
   simp only [wrapA_eq, Option.some.injEq] at h; subst h; show Sem.run P (if k ≠ k then _ else Op.intDiv _ k x y) w = _; rw [if_neg hk]; unfold Op.intDiv; rw [if_neg hy]; rfl
 | rem =>
  simp only [arithA] at h
  by_cases hy : y = 0
  ·rw [decide_eq_true hy] at h; cases h
  ·rw [decide_eq_false hy] at h
   simp only [Option.some.injEq] at h; subst h; show Sem.run P (if k ≠ k then _ else Op.intDiv _ k x y) w = _; rw [if_neg hk]; unfold Op.intDiv; rw [if_neg hy]; rfl
 | and => have := bits .and h; show Sem.run P (if k ≠ k then _ else _) w = _; rw [if_neg hk]; exact this
 | or => have := bits .or h; show Sem.run P (if k ≠ k then _ else _) w = _; rw [if_neg hk]; exact this
 | xor => have := bits .xor h; show Sem.run P (if k ≠ k then _ else _) w = _; rw [if_neg hk]; exact this
 | andNot => have := bits .andNot h; show Sem.run P (if k ≠ k then _ else _) w = _; rw [if_neg hk]; exact this
 | shl => cases h
 | shr => cases h
 | eql => simp only [arithA, Option.some.injEq] at h; subst h; show Sem.run P (if k ≠ k then _ else _) w = _; rw [if_neg hk, ← beq_decide]; rfl
 | neq => simp only [arithA, Option.some.injEq] at h; subst h; show Sem.run P (if k ≠ k then _ else _) w = _; rw [if_neg hk, ← beq_decide]; rfl
 | lss => simp only [arithA, Option.some.injEq] at h; subst h; show Sem.run P (if k ≠ k then _ else _) w = _; rw [if_neg hk]; rfl
 | leq => simp only [arithA, Option.some.injEq] at h; subst h; show Sem.run P (if k ≠ k then _ else _) w = _; rw [if_neg hk]; rfl
 | gtr => simp only [arithA, Option.some.injEq] at h; subst h; show Sem.run P (if k ≠ k then _ else _) w = _; rw [if_neg hk]; rfl
 | geq => simp only [arithA, Option.some.injEq] at h; subst h; show Sem.run P (if k ≠ k then _ else _) w = _; rw [if_neg hk]; rfl
theorem arith_VR {op : BinOp} {k : IntKind} {x y : Int} {v : Value} (h : arithA op k x y = some v) : VR ι v v := by
 cases op <;> simp only [arithA] at h <;> (try split at h) <;> first | (cases h; done) | (cases h; first | exact .int _ _ | exact .bool _)
theorem shift_VR {op : BinOp} {k : IntKind} {x y : Int} {v : Value} (h : shiftA op k x y = some v) : VR ι v v := by
 cases y with
 | negSucc m => cases h
 | ofNat m => cases op <;> first | (cases h; done) | (cases h; exact .int _ _)
theorem str_VR {op : BinOp} {x y : ByteArray} {v : Value} (h : strA op x y = some v) : VR ι v v := by
 cases op <;> simp only [strA] at h <;> (try split at h) <;> first | (cases h; done) | (cases h; first | exact .string _ | exact .bool _)
theorem shift_run {op : BinOp} {j k : IntKind} {x y : Int} {v : Value} (h : shiftA op j x y = some v) : (Op.shift op j x k y).run P w = .ok v w := by
 cases y with
 | negSucc m => cases h
 | ofNat m =>
  have hn : ¬ (Int.ofNat m < 0) := by have : (0 : Int) ≤ Int.ofNat m := Int.natCast_nonneg m; omega
  unfold Op.shift
  rw [if_neg hn]
  cases op <;> first
   | (cases h; done)
   | (simp only [shiftA, wrapA_eq, Option.some.injEq] at h; subst h; simp only [Int.ofNat_eq_natCast, Int.toNat_natCast, Int.natCast_pow]; rfl)
theorem str_run {op : BinOp} (t : TypeId) {x y : ByteArray} {v : Value} (h : strA op x y = some v) : (binOp op t (.string x) (.string y)).run P w = .ok v w := by
 have e : (binOp op t (.string x) (.string y)) = Op.stringOp op x y := by cases op <;> rfl
 rw [e]
 unfold Op.stringOp
 simp only [ByteArray.toList_eq]
 cases op with
 | add =>
  simp only [strA] at h
  cases hb : Nat.ble (x.size + y.size) big with
  | false => rw [hb] at h; cases h
  | true =>
   rw [hb] at h
   simp only [Option.some.injEq] at h
   subst h
   have hle := ble_iff.1 hb
   have : ¬ (((x.size + y.size : Nat) : Int) > IntKind.i64.max) := by
    have : IntKind.i64.max = 9223372036854775807 := rfl
    rw [this]
    unfold big at hle
    omega
   simp only
   rw [if_neg this]
   rfl
 | _ => first
  | (cases h; done)
  | (simp only [strA, eqBytes_eq, Option.some.injEq] at h; subst h; rfl)
theorem eq_shape (ok : C.Ok eg P) {t : TypeId} {x y : Operand} {a a' b b' : Value} {r : Bool} {n : Nat} (ha : VR ι a a') (hb : VR ι b b') (hg : guardA eg t x y a b = true) (he : eqA C eg (n + 1) t a b = some r)
  (hi : ∀ j m k n, a = .int j m → b = .int k n → False) (hs : ∀ m n, a = .string m → b = .string n → False) :
  (∀ o : BinOp, (eqGuard o t x y a' b').run P w = .ok () w) ∧ binOp .eql t a' b' = (do pure (.bool (← Op.equal t a' b'))) ∧ binOp .neq t a' b' = (do pure (.bool (!(← Op.equal t a' b')))) := by
 simp only [eqA] at he
 cases hd : C.und t with
 | none => simp [hd] at he
 | some u =>
  simp only [hd] at he
  split at he
  case h_2 => exact (hi _ _ _ _ rfl rfl).elim
  case h_3 => exact (hs _ _ rfl rfl).elim
  case h_8 =>
   cases ha; cases hb
   refine ⟨fun o => ?_, rfl, rfl⟩
   have hc : (isConstA x || isConstA y) = true := hg
   cases x <;> cases y <;> first
    | (exfalso; simp [isConstA] at hc; done)
    | (cases o <;> rfl)
  case h_12 =>
   cases ha; cases hb
   refine ⟨fun o => ?_, rfl, rfl⟩
   have hc : (!eg t) = true := hg
   exact run_eqGuard_agg w o t x y _ _ (ok.eg t (by simpa using hc)).1
  all_goals first | (cases he; done) | (cases ha <;> cases hb <;> exact ⟨fun o => by cases o <;> rfl, rfl, rfl⟩)
theorem sim_bin (ok : C.Ok eg P) (hr : HR G ι s.h w.heap) (op : BinOp) (t : TypeId) (x y : Operand) {a a' b b' : Value} (ha : VR ι a a') (hb : VR ι b b') :
  SimV G P ι s w (M.lift (opBin C eg op t x y a b)) (do eqGuard op t x y a' b'; binOp op t a' b') := by
 refine SimV.lift hr fun v h => ?_
 -- '==' that looks into the values
 have eqs : ∀ r, guardA eg t x y a b = true → eqA C eg 100 t a b = some r → (∀ j m k n, a = .int j m → b = .int k n → False) → (∀ m n, a = .string m → b = .string n → False) →
   (do eqGuard .eql t x y a' b'; binOp .eql t a' b').run P w = .ok (.bool r) w ∧ (do eqGuard .neq t x y a' b'; binOp .neq t a' b').run P w = .ok (.bool !r) w := by
  intro r hg he hi hs
  have hq : (Op.equal t a' b').run P w = .ok r w := eq_run ok 100 Op.maxDepth t a b a' b' r (by decide) ha hb he
  obtain ⟨hgu, e1, e2⟩ := eq_shape (P := P) (w := w) (n := 99) ok ha hb hg he hi hs
  constructor
  ·simp only [Sem.run_bind, hgu, Result.andThen_ok, e1, hq, Sem.run_pure]
  ·simp only [Sem.run_bind, hgu, Result.andThen_ok, e2, hq, Sem.run_pure]
 unfold opBin at h
 split at h
 ·rename_i j m k n
  cases ha; cases hb
  refine ⟨v, ?_, ?_⟩
  ·simp only [Sem.run_bind, guard_int, Result.andThen_ok]
   split at h
   ·exact shift_run (k := k) h
   ·exact shift_run (k := k) h
   ·by_cases hjk : j = k
    ·subst hjk
     rw [decide_eq_true rfl] at h
     exact arith_run t h
    ·rw [decide_eq_false hjk] at h; cases h
  ·split at h
   ·exact shift_VR h
   ·exact shift_VR h
   ·split at h
    ·exact arith_VR h
    ·cases h
 ·cases ha; cases hb
  refine ⟨v, ?_, str_VR h⟩
  simp only [Sem.run_bind, guard_str, Result.andThen_ok]
  exact str_run t h
 ·rename_i j m k
  unfold leastGtr at h
  split at h
  ·rename_i x
   cases ha
   cases hb with
   | least _ c hkc =>
    by_cases hj : j = .i64
    ·subst hj
     rw [decide_eq_true rfl, Bool.true_and] at h
     cases hx : Nat.ble x k with
     | false => rw [hx] at h; cases h
     | true =>
      rw [hx] at h
      simp only [Option.some.injEq] at h
      subst h
      have hle := ble_iff.1 hx
      refine ⟨.bool false, ?_, .bool _⟩
      simp only [Sem.run_bind, guard_int, Result.andThen_ok]
      have : arithA .gtr .i64 (Int.ofNat x) (c : Int) = some (.bool false) := by
       simp only [arithA, Option.some.injEq, Value.bool.injEq, decide_eq_false_iff_not]
       have : (Int.ofNat x) = (x : Int) := rfl
       omega
      exact arith_run t this
    ·rw [decide_eq_false hj] at h; cases h
  ·cases h
 ·rename_i a b hi hs _
  split at h
  ·split at h
   ·rename_i hg
    split at h
    ·rename_i r he
     simp only [Option.some.injEq] at h
     subst h
     exact ⟨_, (eqs r hg he (fun j m k n e f => hi j m k n e f) (fun m n e f => hs m n e f)).1, .bool _⟩
    ·cases h
   ·cases h
  ·split at h
   ·rename_i hg
    split at h
    ·rename_i r he
     simp only [Option.some.injEq] at h
     subst h
     exact ⟨_, (eqs r hg he (fun j m k n e f => hi j m k n e f) (fun m n e f => hs m n e f)).2, .bool _⟩
    ·cases h
   ·cases h
  ·cases h
theorem sim_un (hr : HR G ι s.h w.heap) (op : UnOp) {a a' : Value} (ha : VR ι a a') : SimV G P ι s w (M.lift (opUn op a)) (Op.unary op a') := by
 refine SimV.lift hr fun v h => ?_
 unfold opUn at h
 split at h
 ·cases ha
  simp only [wrapA_eq, Option.some.injEq] at h
  subst h
  exact ⟨_, rfl, .int _ _⟩
 ·cases ha
  split at h
  ·rename_i r hb
   simp only [Option.some.injEq] at h
   subst h
   exact ⟨_, bits_run (op := .xor) hb, .int _ _⟩
  ·cases h
 ·cases ha
  simp only [Option.some.injEq] at h
  subst h
  exact ⟨_, rfl, .bool _⟩
 ·cases h
end ops
end Go.Ab
