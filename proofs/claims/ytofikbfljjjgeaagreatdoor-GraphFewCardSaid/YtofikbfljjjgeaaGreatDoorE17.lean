import Derived.Test.YtofikbfljjjgeaaGreatDoorE15
set_option linter.unusedVariables false
set_option linter.unusedSimpArgs false
section
/- A region that draws its order, part 2: what holds of a set of operations that have run. -/
namespace Go.Ab
theorem rd_put (e : Env) (dst : Option Nat) (v : Value) (t : Nat) : rd (put e dst v) t = if dst = some t then v else rd e t := by
  cases dst with
  | none => simp [put]
  | some d =>
    obtain ⟨loc, kept⟩ := e
    show Bool.rec (motive := fun _ => Value) (rd (.mk loc kept) t) v (Nat.beq d t) = _
    cases h : Nat.beq d t with
    | true => rw [if_pos (by rw [beq_iff.1 h])]
    | false => rw [if_neg (by simpa using beq_false.1 h)]
def EnvR (ι : Iota) (e : Env) (a : Act) : Prop := ∀ t, VR ι (rd e t) (a.tmps.getD t undef)
theorem EnvR.mono {ι ι' : Iota} (hi : ι.le ι') {e : Env} {a : Act} (h : EnvR ι e a) : EnvR ι' e a := fun t => (h t).mono hi
theorem put_getD {a : Act} {dst : Option Nat} (h : ∀ d, dst = some d → d < a.tmps.size) (v : Value) (t : Nat) :
    (a.put dst v).tmps.getD t undef = if dst = some t then v else a.tmps.getD t undef := by
  cases dst with
  | none => simp [Act.put]
  | some d =>
    have hd := h d rfl
    show (a.tmps.setIfInBounds d v).getD t undef = _
    by_cases e : d = t
    · subst e
      rw [if_pos rfl, Array.getD_eq_getD_getElem?, Array.getElem?_setIfInBounds_self_of_lt hd]; rfl
    · rw [if_neg (by simpa using e), Array.getD_eq_getD_getElem?, Array.getElem?_setIfInBounds_ne e, Array.getD_eq_getD_getElem?]
theorem put_size (a : Act) (dst : Option Nat) (v : Value) : (a.put dst v).tmps.size = a.tmps.size := by
  cases dst <;> simp [Act.put]
theorem put_defers' (a : Act) (dst : Option Nat) (v : Value) : (a.put dst v).defers = a.defers := by
  cases dst <;> rfl
theorem EnvR.put {ι : Iota} {e : Env} {a : Act} (h : EnvR ι e a) {dst : Option Nat} (hd : ∀ d, dst = some d → d < a.tmps.size) {v v' : Value} (hv : VR ι v v') : EnvR ι (Ab.put e dst v) (a.put dst v') := by
  intro t
  rw [rd_put, put_getD hd]
  split
  · exact hv
  · exact h t
noncomputable def operandOk (G : Nat) (x : Operand) : Bool :=
  match x with
  | .const v => flat 30 v
  | .global g => Nat.blt g G
  | _ => true
theorem evalA_VR {G : Nat} {ι : Iota} {h : T AObj} {H : Array Obj} (hr : HR G ι h H) {x : Operand} (hx : operandOk G x = true) {e : Env} {a : Act} (ht : ∀ t, x = .tmp t → VR ι (rd e t) (a.tmps.getD t undef)) :
    VR ι (evalA e x) (a.eval x) := by
  cases x with
  | tmp t => exact ht t rfl
  | const v => exact flat_VR ι 30 v hx
  | global g =>
    obtain ⟨L, hL, h1, h2⟩ := hr.glob g (blt_iff.1 hx)
    have := VR.ptr (ι := ι) g 0 L hL
    rw [h1, h2] at this
    exact this
  | func f => exact .func _ _ _ _ _ rfl rfl (by intro i x y hh; simp at hh) (by intro i x y hh; simp at hh)
noncomputable def clearOk (C : Ctx) (o : Op) : Bool :=
  match o with
  | .call c =>
    match c.callee with
    | .builtin .clear => (match nth c.argTypes.toList 0 with | some t => (C.und t).isSome | none => true)
    | _ => true
  | _ => true
noncomputable def operOk (C : Ctx) (G n : Nat) (o : Oper) : Bool :=
  allB (operandOk G) o.op.operands.toList && (match o.dst with | none => true | some d => Nat.blt d n) && clearOk C o.op
theorem operOk.operand {C : Ctx} {G n : Nat} {o : Oper} (h : operOk C G n o = true) {x : Operand} (hx : x ∈ o.op.operands) : operandOk G x = true := by
  unfold operOk at h
  rw [Bool.and_eq_true, Bool.and_eq_true, allB_eq, List.all_eq_true] at h
  exact h.1.1 x (Array.mem_toList_iff.2 hx)
theorem operOk.dst {C : Ctx} {G n : Nat} {o : Oper} (h : operOk C G n o = true) {d : Nat} (hd : o.dst = some d) : d < n := by
  unfold operOk at h
  rw [Bool.and_eq_true, Bool.and_eq_true] at h
  have := h.1.2
  rw [hd] at this
  exact blt_iff.1 this
theorem wanted_eq {ι : Iota} {ops : Array Oper} {e : Env} {a : Act} {o : Oper} {g : Bool} (h : wantedA ops.toList e o = some g)
    (ht : ∀ t, t ∈ o.looksAt ops → VR ι (rd e t) (a.tmps.getD t undef)) : Region.wanted o (yielded ops a.tmps) = g := by
  unfold wantedA at h
  unfold Region.wanted
  cases hg : o.guard with
  | none => rw [hg] at h; simp only [Option.some.injEq] at h; exact h
  | some p =>
    obtain ⟨j, want⟩ := p
    rw [hg] at h
    simp only at h ⊢
    unfold metA at h
    rw [nth_eq, Array.getElem?_toList] at h
    unfold yielded
    cases hj : ops[j]? with
    | none => rw [hj] at h; simp only [Option.some.injEq] at h; subst h; rfl
    | some q =>
      rw [hj] at h
      simp only at h
      cases hd : q.dst with
      | none => rw [hd] at h; simp only [Option.some.injEq] at h; subst h; simp [hd]
      | some d =>
        rw [hd] at h
        simp only at h
        have hv := ht d (by unfold Oper.looksAt; rw [hg]; simp [hj, hd])
        simp only [Option.bind_some, hd]
        rw [Array.getD_eq_getD_getElem?] at hv
        split at h
        · rename_i b hb
          rw [hb] at hv
          simp only [Option.some.injEq] at h
          subst h
          cases hq : a.tmps[d]? with
          | none => rw [hq] at hv; cases hv
          | some x => rw [hq] at hv; simp only [Option.getD_some] at hv; cases hv; simp
        · rename_i b hb
          rw [hb] at hv
          simp only [Option.some.injEq] at h
          subst h
          cases hq : a.tmps[d]? with
          | none => rfl
          | some x => rw [hq] at hv; simp only [Option.getD_some] at hv; cases hv; rfl
        · cases h
def Wr (S : Nat → St) (F : Nat → Fp) (k b : Nat) : Prop := b ∈ (F k).w ∨ ((S k).c ≤ b ∧ b < (S (k + 1)).c)
def Tc (S : Nat → St) (F : Nat → Fp) (k b : Nat) : Prop := Touch (F k).r (F k).w (S k).c (S (k + 1)).c b
theorem Wr.tc {S : Nat → St} {F : Nat → Fp} {k b : Nat} (h : Wr S F k b) : Tc S F k b := .inr h
structure StepL (C : Ctx) (eg : TypeId → Bool) (rec : Rec) (e : Env) (s : St) (v : Value) (f : Fp) (s' : St) (o : Oper) : Prop where
  cle : s.c ≤ s'.c
  rlt : ∀ b ∈ f.r, b < s'.c
  wlt : ∀ b ∈ f.w, b < s'.c
  keep : ∀ b, b ∉ f.w → ¬(s.c ≤ b ∧ b < s'.c) → s'.h.get b = s.h.get b
theorem TrStep.l {C : Ctx} {eg : TypeId → Bool} {rec : Rec} {all : List Oper} {e e' : Env} {s s' : St} {v : Value} {f : Fp} {o : Oper} (hs : SmLocal C) (hr : RecLocal rec)
    (h : TrStep C eg rec all e s v f e' s' o) : StepL C eg rec e s v f s' o := by
  rcases h.run with ⟨_, h2⟩ | ⟨_, _, h3, h4, h5, h6⟩
  · obtain ⟨r, w, L⟩ := local_opRun hs hr e o _ _ _ h2
    have er : f.r = r := by have := L.rl; simpa using this
    have ew : f.w = w := by have := L.wl; simpa using this
    exact ⟨L.cle, by rw [er]; exact L.rlt, by rw [ew]; exact L.wlt, by rw [ew]; exact L.keep⟩
  · exact ⟨by omega, by simp [h3], by simp [h4], fun b _ _ => by rw [h5]⟩
theorem TrStep.move {C : Ctx} {eg : TypeId → Bool} {rec : Rec} {all : List Oper} {e e' : Env} {s s' : St} {v : Value} {f : Fp} {o : Oper} (hs : SmLocal C) (hr : RecLocal rec)
    (h : TrStep C eg rec all e s v f e' s' o) (hw : wantedA all e o = some true) (g : T AObj) (hg : ∀ b, Touch f.r f.w s.c s'.c b → g.get b = s.h.get b) :
    ∃ h', opRun C eg rec e o ⟨g, s.c, [], []⟩ = some (v, ⟨h', s'.c, f.r, f.w⟩) ∧ (∀ b, Touch f.r f.w s.c s'.c b → h'.get b = s'.h.get b) ∧ (∀ b, b ∉ f.w → ¬(s.c ≤ b ∧ b < s'.c) → h'.get b = g.get b) := by
  rcases h.run with ⟨_, h2⟩ | ⟨h1, _⟩
  · obtain ⟨r, w, L⟩ := local_opRun hs hr e o _ _ _ h2
    have er : f.r = r := by have := L.rl; simpa using this
    have ew : f.w = w := by have := L.wl; simpa using this
    rw [er, ew] at hg ⊢
    obtain ⟨h', a, b, c⟩ := L.move ⟨g, s.c, [], []⟩ rfl hg
    exact ⟨h', by simpa using a, b, c⟩
  · rw [h1] at hw; cases hw
structure Reg (C : Ctx) (eg : TypeId → Bool) (rec : Rec) (ops : Array Oper) (E : Nat → Env) (S : Nat → St) (V : Nat → Value) (F : Nat → Fp) : Prop where
  tr : ∀ k o, ops[k]? = some o → TrStep C eg rec ops.toList (E k) (S k) (V k) (F k) (E (k + 1)) (S (k + 1)) o
  l : ∀ k o, ops[k]? = some o → StepL C eg rec (E k) (S k) (V k) (F k) (S (k + 1)) o
  ni : ∀ i j, i < j → j < ops.size → Bef (Region.before ops).toList j i ∨ ∀ b, (Wr S F i b → ¬Tc S F j b) ∧ (Wr S F j b → ¬Tc S F i b)
  ap : ∀ i j oi oj, i < j → ops[i]? = some oi → ops[j]? = some oj → Bef (Region.before ops).toList j i ∨ Oper.apart ops oi oj = true
  back : ∀ (k : Nat) o, ops[k]? = some o → ∀ e ∈ o.after, Region.binds .any e = true → e.on < k
open Classical in
noncomputable def hpt (S : Nat → St) (F : Nat → Fp) (D : Nat → Bool) : Nat → Nat → Option AObj
  | 0, b => (S 0).h.get b
  | k + 1, b => if D k = true ∧ Wr S F k b then (S (k + 1)).h.get b else hpt S F D k b
open Classical in
noncomputable def ept (ops : Array Oper) (E : Nat → Env) (V : Nat → Value) (D : Nat → Bool) : Nat → Nat → Value
  | 0, t => rd (E 0) t
  | k + 1, t => if D k = true ∧ (ops[k]?).bind (·.dst) = some t then V k else ept ops E V D k t
section reg
variable {C : Ctx} {eg : TypeId → Bool} {rec : Rec} {ops : Array Oper} {E : Nat → Env} {S : Nat → St} {V : Nat → Value} {F : Nat → Fp} {D : Nat → Bool} {i : Nat} {oi : Oper}
theorem Reg.mono (R : Reg C eg rec ops E S V F) : ∀ {j : Nat}, i ≤ j → j ≤ ops.size → (S i).c ≤ (S j).c := by
  intro j hij
  induction j with
  | zero => intro _; have : i = 0 := by omega
            subst this; exact Nat.le_refl _
  | succ j ih =>
    intro hj
    rcases Nat.lt_or_ge i (j + 1) with h | h
    · have := ih (by omega) (by omega)
      have := (R.l j ops[j] (Array.getElem?_eq_getElem (by omega))).cle
      omega
    · have : i = j + 1 := by omega
      subst this; exact Nat.le_refl _
structure Next (ops : Array Oper) (D : Nat → Bool) (i : Nat) (oi : Oper) : Prop where
  closed : Closed ops D
  op : ops[i]? = some oi
  no : D i = false
  pre : ∀ e ∈ oi.after, Region.binds .any e = true → D e.on = true
theorem Next.lt (N : Next ops D i oi) : i < ops.size := (Array.getElem?_eq_some_iff.1 N.op).1
theorem Next.before (N : Next ops D i oi) (R : Reg C eg rec ops E S V F) {k : Nat} (h : Bef (Region.before ops).toList i k) : D k = true :=
  closed_bef R.back N.closed i k h fun o ho => by rw [N.op] at ho; cases ho; exact N.pre
theorem Next.behind (N : Next ops D i oi) (R : Reg C eg rec ops E S V F) {k : Nat} (hk : D k = true) (h : Bef (Region.before ops).toList k i) : False := by
  have := closed_bef R.back N.closed k i h fun o ho => fun e he hb => N.closed k o ho hk e he hb
  rw [N.no] at this; cases this
theorem Next.heap (N : Next ops D i oi) (R : Reg C eg rec ops E S V F) {b : Nat} (hb : Tc S F i b) : ∀ k, k ≤ ops.size → hpt S F D k b = (S (Nat.min k i)).h.get b := by
  intro k
  induction k with
  | zero => intro _; simp [hpt]
  | succ k ih =>
    intro hk
    have ih := ih (by omega)
    have hok : ops[k]? = some ops[k] := Array.getElem?_eq_getElem (by omega)
    unfold hpt
    rcases Nat.lt_trichotomy k i with h | h | h
    · have e1 : Nat.min k i = k := Nat.min_eq_left (by omega)
      have e2 : Nat.min (k + 1) i = k + 1 := Nat.min_eq_left (by omega)
      rw [e1] at ih
      rw [e2]
      by_cases hw : Wr S F k b
      · rcases R.ni k i h N.lt with hh | hh
        · rw [if_pos ⟨N.before R hh, hw⟩]
        · exact absurd hb ((hh b).1 hw)
      · rw [if_neg (fun q => hw q.2), ih]
        simp only [Wr, not_or] at hw
        exact ((R.l k _ hok).keep b hw.1 hw.2).symm
    · subst h
      have e1 : Nat.min k k = k := Nat.min_eq_left (by omega)
      have e2 : Nat.min (k + 1) k = k := Nat.min_eq_right (by omega)
      rw [e1] at ih
      rw [e2, if_neg (fun q => by rw [N.no] at q; cases q.1), ih]
    · have e1 : Nat.min k i = i := Nat.min_eq_right (by omega)
      have e2 : Nat.min (k + 1) i = i := Nat.min_eq_right (by omega)
      rw [e1] at ih
      rw [e2]
      by_cases hw : D k = true ∧ Wr S F k b
      · rcases R.ni i k h (by omega) with hh | hh
        · exact (N.behind R hw.1 hh).elim
        · exact absurd hb ((hh b).2 hw.2)
      · rw [if_neg hw, ih]
theorem Next.heap_in (N : Next ops D i oi) (R : Reg C eg rec ops E S V F) {b : Nat} (hb : Wr S F i b) : ∀ k, i < k → k ≤ ops.size → hpt S F (fun j => D j || j == i) k b = (S (i + 1)).h.get b := by
  intro k
  induction k with
  | zero => intro h; omega
  | succ k ih =>
    intro hi hk
    unfold hpt
    by_cases h : k = i
    · subst h
      rw [if_pos ⟨by simp, hb⟩]
    · have ih := ih (by omega) (by omega)
      by_cases hw : (D k || k == i) = true ∧ Wr S F k b
      · have hD : D k = true := by have := hw.1; simpa [h] using this
        rcases R.ni i k (by omega) (by omega) with hh | hh
        · exact (N.behind R hD hh).elim
        · exact absurd hb.tc ((hh b).2 hw.2)
      · rw [if_neg hw, ih]
theorem Next.heap_out (N : Next ops D i oi) {b : Nat} (hb : ¬Wr S F i b) : ∀ k, hpt S F (fun j => D j || j == i) k b = hpt S F D k b := by
  intro k
  induction k with
  | zero => rfl
  | succ k ih =>
    unfold hpt
    by_cases h : k = i
    · subst h
      rw [if_neg (fun q => hb q.2), if_neg (fun q => hb q.2), ih]
    · have : (D k || k == i) = D k := by simp [h]
      rw [this, ih]
theorem Reg.heap_all (R : Reg C eg rec ops E S V F) (hD : ∀ k, k < ops.size → D k = true) (b : Nat) : ∀ k, k ≤ ops.size → hpt S F D k b = (S k).h.get b := by
  intro k
  induction k with
  | zero => intro _; rfl
  | succ k ih =>
    intro hk
    have ih := ih (by omega)
    have hok : ops[k]? = some ops[k] := Array.getElem?_eq_getElem (by omega)
    unfold hpt
    by_cases hw : Wr S F k b
    · rw [if_pos ⟨hD k (by omega), hw⟩]
    · rw [if_neg (fun q => hw q.2), ih]
      simp only [Wr, not_or] at hw
      exact ((R.l k _ hok).keep b hw.1 hw.2).symm
theorem Next.env (N : Next ops D i oi) (R : Reg C eg rec ops E S V F) {t : Nat} (ht : t ∈ oi.looksAt ops) : ∀ k, k ≤ ops.size → ept ops E V D k t = rd (E (Nat.min k i)) t := by
  intro k
  induction k with
  | zero => intro _; simp [ept]
  | succ k ih =>
    intro hk
    have ih := ih (by omega)
    have hok : ops[k]? = some ops[k] := Array.getElem?_eq_getElem (by omega)
    unfold ept
    rw [hok, Option.bind_some]
    rcases Nat.lt_trichotomy k i with h | h | h
    · have e1 : Nat.min k i = k := Nat.min_eq_left (by omega)
      have e2 : Nat.min (k + 1) i = k + 1 := Nat.min_eq_left (by omega)
      rw [e1] at ih
      rw [e2, (R.tr k _ hok).env, rd_put]
      by_cases hw : ops[k].dst = some t
      · rcases R.ap k i _ _ h hok N.op with hh | hh
        · rw [if_pos ⟨N.before R hh, hw⟩, if_pos hw]
        · exact absurd ht ((Oper.apart_spec hh).1 t hw)
      · rw [if_neg (fun q => hw q.2), if_neg hw, ih]
    · subst h
      have e1 : Nat.min k k = k := Nat.min_eq_left (by omega)
      have e2 : Nat.min (k + 1) k = k := Nat.min_eq_right (by omega)
      rw [e1] at ih
      rw [e2, if_neg (fun q => by rw [N.no] at q; cases q.1), ih]
    · have e1 : Nat.min k i = i := Nat.min_eq_right (by omega)
      have e2 : Nat.min (k + 1) i = i := Nat.min_eq_right (by omega)
      rw [e1] at ih
      rw [e2]
      by_cases hw : D k = true ∧ ops[k].dst = some t
      · rcases R.ap i k _ _ h N.op hok with hh | hh
        · exact (N.behind R hw.1 hh).elim
        · exact absurd ht ((Oper.apart_spec hh).2.2 t hw.2)
      · rw [if_neg hw, ih]
theorem Next.env_in (N : Next ops D i oi) (R : Reg C eg rec ops E S V F) {t : Nat} (ht : oi.dst = some t) : ∀ k, i < k → k ≤ ops.size → ept ops E V (fun j => D j || j == i) k t = V i := by
  intro k
  induction k with
  | zero => intro h; omega
  | succ k ih =>
    intro hi hk
    have hok : ops[k]? = some ops[k] := Array.getElem?_eq_getElem (by omega)
    unfold ept
    by_cases h : k = i
    · subst h
      rw [if_pos ⟨by simp, by rw [N.op]; exact ht⟩]
    · have ih := ih (by omega) (by omega)
      rw [hok, Option.bind_some]
      by_cases hw : (D k || k == i) = true ∧ ops[k].dst = some t
      · have hD : D k = true := by have := hw.1; simpa [h] using this
        rcases R.ap i k _ _ (by omega) N.op hok with hh | hh
        · exact (N.behind R hD hh).elim
        · exact absurd hw.2 ((Oper.apart_spec hh).2.1 t ht)
      · rw [if_neg hw, ih]
theorem Next.env_out (N : Next ops D i oi) {t : Nat} (ht : oi.dst ≠ some t) : ∀ k, ept ops E V (fun j => D j || j == i) k t = ept ops E V D k t := by
  intro k
  induction k with
  | zero => rfl
  | succ k ih =>
    unfold ept
    by_cases h : k = i
    · subst h
      rw [N.op, Option.bind_some, if_neg (fun q => ht q.2), if_neg (fun q => ht q.2), ih]
    · have : (D k || k == i) = D k := by simp [h]
      rw [this, ih]
theorem Reg.env_all (R : Reg C eg rec ops E S V F) (hD : ∀ k, k < ops.size → D k = true) (t : Nat) : ∀ k, k ≤ ops.size → ept ops E V D k t = rd (E k) t := by
  intro k
  induction k with
  | zero => intro _; rfl
  | succ k ih =>
    intro hk
    have ih := ih (by omega)
    have hok : ops[k]? = some ops[k] := Array.getElem?_eq_getElem (by omega)
    unfold ept
    rw [hok, Option.bind_some, (R.tr k _ hok).env, rd_put]
    by_cases hw : ops[k].dst = some t
    · rw [if_pos ⟨hD k (by omega), hw⟩, if_pos hw]
    · rw [if_neg (fun q => hw q.2), if_neg hw, ih]
end reg
end Go.Ab
end
section
/- A region that draws its order, part 3: its weakest precondition. -/
namespace Go.Ab
def SoundOp (C : Ctx) (eg : TypeId → Bool) (P : Program) (G n : Nat) (rec : Rec) : Prop :=
  ∀ (e : Env) (o : Oper) (s s' : St) (v : Value) (ι : Iota) (w : World) (a : Act) (K : Act → World → Prop) (Q : Exit → Act → World → Prop),
    operOk C G n o = true → opRun C eg rec e o s = some (v, s') → (∀ x ∈ o.op.operands, VR ι (evalA e x) (a.eval x)) → HR G ι s.h w.heap →
    (∀ b, s.c ≤ b → b < s'.c → ι b = none) → (∀ v' w' ι', VR ι' v v' → Post G ι ι' s s' w w' → K (a.put o.dst v') w') → o.wp P a w K Q
theorem HR.congr {G : Nat} {ι : Iota} {h h' : T AObj} {H : Array Obj} (e : ∀ b, h'.get b = h.get b) (hr : HR G ι h H) : HR G ι h' H where
  obj := fun b o hb => hr.obj b o (by rw [← e]; exact hb)
  inj := fun b1 b2 o1 o2 L1 L2 h1 h2 => hr.inj b1 b2 o1 o2 L1 L2 (by rw [← e]; exact h1) (by rw [← e]; exact h2)
  lt := hr.lt
  glob := hr.glob
theorem Owned.congr {ι : Iota} {h h' : T AObj} {k : Nat} (e : ∀ b, h'.get b = h.get b) (q : Owned ι h' k) : Owned ι h k := by
  obtain ⟨b, o, L, h1, h2⟩ := q
  exact ⟨b, o, L, by rw [← e]; exact h1, h2⟩
theorem Post.congr {G : Nat} {ι ι' : Iota} {s s' t : St} {w w' : World} (e : ∀ b, t.h.get b = s'.h.get b) (c : t.c = s'.c) (h : Post G ι ι' s s' w w') : Post G ι ι' s t w w' where
  ext := h.ext
  new := fun b hb hc => h.new b hb (by rw [c] at hc; exact hc)
  hr := h.hr.congr e
  os := h.os
  tape := h.tape
  output := h.output
  size := h.size
  frame := h.frame
  own := fun k hk ho => h.own k hk (ho.congr e)
  cle := by rw [c]; exact h.cle
theorem Post.join {G : Nat} {ι ι' ι2 : Iota} {s s1 t t' : St} {w w' w2 : World} {N : Nat} (h : Post G ι ι' s ⟨s1.h, N, [], []⟩ w w') (k : Post G ι' ι2 t t' w' w2) (ht : t.h = s1.h) (h1 : s.c ≤ t.c) (h2 : t'.c ≤ N) :
    Post G ι ι2 s ⟨t'.h, N, [], []⟩ w w2 where
  ext := Iota.le_trans h.ext k.ext
  new := fun b hb hc => by
    have := k.cle
    exact k.new b (h.new b hb hc) (by simp only at hc; omega)
  hr := k.hr
  os := k.os.trans h.os
  tape := k.tape.trans h.tape
  output := k.output.trans h.output
  size := Nat.le_trans h.size k.size
  frame := fun x hx ho => by
    have hs := h.size
    rw [k.frame x (by omega) (fun q => ho (h.own x hx (by rw [ht] at q; exact q))), h.frame x hx ho]
  own := fun x hx ho => h.own x hx (by have := k.own x (Nat.lt_of_lt_of_le hx h.size) ho; rw [ht] at this; exact this)
  cle := h.cle
section
variable {C : Ctx} {eg : TypeId → Bool} {P : Program} {G n : Nat} {rec : Rec} {ops : Array Oper} {E : Nat → Env} {S : Nat → St} {V : Nat → Value} {F : Nat → Fp}
structure Inv (G : Nat) (ops : Array Oper) (E : Nat → Env) (S : Nat → St) (V : Nat → Value) (F : Nat → Fp) (n : Nat) (df : List Deferred) (ι : Iota) (w : World) (D : Nat → Bool) (ι' : Iota) (h' : T AObj) (a' : Act) (w' : World) : Prop where
  post : Post G ι ι' (S 0) ⟨h', (S ops.size).c, [], []⟩ w w'
  heap : ∀ b, h'.get b = hpt S F D ops.size b
  env : ∀ t, VR ι' (ept ops E V D ops.size t) (a'.tmps.getD t undef)
  fresh : ∀ b, ι b = none → (∀ k, k < ops.size → D k = true → ¬((S k).c ≤ b ∧ b < (S (k + 1)).c)) → ι' b = none
  size : a'.tmps.size = n
  defers : a'.defers = df
theorem Inv.step {df : List Deferred} {ι ι' : Iota} {w w' : World} {D : Nat → Bool} {h' : T AObj} {a' : Act} {i : Nat} {oi : Oper} (hs : SmLocal C) (hrl : RecLocal rec) (sound : SoundOp C eg P G n rec) (R : Reg C eg rec ops E S V F)
    (N : Next ops D i oi) (hok : operOk C G n oi = true) (frs : ∀ b, (S 0).c ≤ b → b < (S ops.size).c → ι b = none) (I : Inv G ops E S V F n df ι w D ι' h' a' w')
    {K : Act → World → Prop} {Q : Exit → Act → World → Prop} (hK : ∀ ι2 h2 a2 w2, Inv G ops E S V F n df ι w (fun j => D j || j == i) ι2 h2 a2 w2 → K a2 w2) : wpOp P ops Q i K a' w' := by
  have hlt := N.lt
  have tr := R.tr i oi N.op
  have sl := R.l i oi N.op
  have m0 := R.mono (i := 0) (j := i) (by omega) (by omega)
  have m1 := R.mono (i := i + 1) (j := ops.size) (by omega) (by omega)
  have hmin : Nat.min ops.size i = i := Nat.min_eq_right (by omega)
  have hdst : ∀ d, oi.dst = some d → d < a'.tmps.size := fun d hd => by rw [I.size]; exact operOk.dst hok hd
  -- what it looks at
  have look : ∀ t, t ∈ oi.looksAt ops → VR ι' (rd (E i) t) (a'.tmps.getD t undef) := by
    intro t ht
    have := I.env t
    rw [N.env R ht ops.size (Nat.le_refl _), hmin] at this
    exact this
  have opr : ∀ x ∈ oi.op.operands, VR ι' (evalA (E i) x) (a'.eval x) := by
    intro x hx
    refine evalA_VR I.post.hr (operOk.operand hok hx) fun t ht => look t ?_
    subst ht
    exact List.mem_append_left _ (List.mem_filterMap.2 ⟨.tmp t, by simpa using hx, rfl⟩)
  have fin : ∀ (ι2 : Iota) (h2 : T AObj) (w2 : World) (v' : Value), Post G ι' ι2 ⟨h', (S i).c, [], []⟩ ⟨h2, (S (i + 1)).c, [], []⟩ w' w2 → VR ι2 (V i) v' →
      (∀ b, Tc S F i b → h2.get b = (S (i + 1)).h.get b) → (∀ b, ¬Wr S F i b → h2.get b = h'.get b) → K (a'.put oi.dst v') w2 := by
    intro ι2 h2 w2 v' hp hv ht hu
    refine hK ι2 h2 _ w2 ⟨I.post.join hp rfl m0 m1, ?_, ?_, ?_, by rw [put_size]; exact I.size, by rw [put_defers']; exact I.defers⟩
    · intro b
      by_cases hw : Wr S F i b
      · rw [N.heap_in R hw _ hlt (Nat.le_refl _)]; exact ht b hw.tc
      · rw [N.heap_out hw, ← I.heap b]; exact hu b hw
    · intro t
      rw [put_getD hdst]
      by_cases hd : oi.dst = some t
      · rw [if_pos hd, N.env_in R hd _ hlt (Nat.le_refl _)]; exact hv
      · rw [if_neg hd, N.env_out hd]; exact (I.env t).mono hp.ext
    · intro b hb hk
      refine hp.new b (I.fresh b hb fun k hk1 hk2 => hk k hk1 (by simp [hk2])) ?_
      have := hk i hlt (by simp)
      simp only
      omega
  unfold wpOp
  rw [N.op]
  simp only
  rcases tr.run with ⟨hw, _⟩ | ⟨hw, hv, h1, h2, h3, h4⟩
  · rw [if_pos (wanted_eq hw look)]
    obtain ⟨h2, hrun, e1, e2⟩ := tr.move hs hrl hw h' fun b hb => by
      rw [I.heap b, N.heap R hb ops.size (Nat.le_refl _), hmin]
    refine .inl (sound (E i) oi ⟨h', (S i).c, [], []⟩ _ (V i) ι' w' a' K Q hok hrun opr I.post.hr ?_ ?_)
    · intro b hb1 hb2
      simp only at hb1 hb2
      refine I.fresh b (frs b (by omega) (by omega)) fun k hk hDk => ?_
      have hki : k ≠ i := fun e => by subst e; rw [N.no] at hDk; cases hDk
      rcases Nat.lt_or_ge k i with h | h
      · have := R.mono (i := k + 1) (j := i) (by omega) (by omega)
        omega
      · have := R.mono (i := i + 1) (j := k) (by omega) (by omega)
        omega
    · intro v' w2 ι2 hv' hp
      exact fin ι2 h2 w2 v' (hp.log rfl rfl rfl rfl) hv' e1 (fun b hb => by simp only [Wr, not_or] at hb; exact e2 b hb.1 hb.2)
  · rw [if_neg (by rw [wanted_eq hw look]; simp)]
    refine fin ι' h' w' undef (Post.refl I.post.hr rfl h4) (by rw [hv]; exact flat_VR ι' 1 _ rfl) ?_ (fun _ _ => rfl)
    intro b hb
    rw [h3, I.heap b, N.heap R hb ops.size (Nat.le_refl _), hmin]
theorem getD_tf {l : Array Bool} {j : Nat} (h : j < l.size) : l.getD j true = l.getD j false := by
  simp [h]
theorem filter_lt {p q : Nat → Bool} : ∀ (l : List Nat) (i : Nat), i ∈ l → p i = true → q i = false → (∀ j, q j = true → p j = true) → (l.filter q).length < (l.filter p).length := by
  intro l
  induction l with
  | nil => intro i h; cases h
  | cons x l ih =>
    intro i hi hp hq hpq
    have le : ∀ l : List Nat, (l.filter q).length ≤ (l.filter p).length := by
      intro l
      induction l with
      | nil => exact Nat.le_refl _
      | cons x l ih =>
        simp only [List.filter_cons]
        by_cases hx : q x = true
        · rw [if_pos hx, if_pos (hpq x hx)]; simpa using ih
        · rw [if_neg hx]
          split
          · simp; omega
          · exact ih
    simp only [List.filter_cons]
    rcases List.mem_cons.1 hi with rfl | hi
    · rw [if_neg (by rw [hq]; simp), if_pos hp]
      have := le l
      simp; omega
    · have := ih i hi hp hq hpq
      by_cases hx : q x = true
      · rw [if_pos hx, if_pos (hpq x hx)]; simpa using this
      · rw [if_neg hx]
        split
        · simp; omega
        · exact this
theorem wpAny_of {df : List Deferred} {ι : Iota} {w : World} (hs : SmLocal C) (hrl : RecLocal rec) (sound : SoundOp C eg P G n rec) (R : Reg C eg rec ops E S V F)
    (hok : ∀ (i : Nat) o, ops[i]? = some o → operOk C G n o = true) (frs : ∀ b, (S 0).c ≤ b → b < (S ops.size).c → ι b = none) {Q : Exit → Act → World → Prop}
    (hQ : ∀ ι2 a2 w2, EnvR ι2 (E ops.size) a2 → Post G ι ι2 (S 0) (S ops.size) w w2 → a2.tmps.size = n → a2.defers = df → Q .normal a2 w2) :
    ∀ (fuel : Nat) (listed : Array Bool) (ι' : Iota) (h' : T AObj) (a' : Act) (w' : World), Inv G ops E S V F n df ι w (fun i => listed.getD i false) ι' h' a' w' → Closed ops (fun i => listed.getD i false) →
      listed.size = ops.size → ((List.range ops.size).filter fun i => !listed.getD i false).length ≤ fuel → wpAny P .any ops Q fuel listed a' w' := by
  have all : ∀ (listed : Array Bool), listed.size = ops.size → Region.ready .any ops listed = [] → ∀ k, k < ops.size → listed.getD k false = true := by
    intro listed hsz hr k
    induction k using Nat.strongRecOn with
    | _ k ih =>
      intro hk
      cases hD : listed.getD k false with
      | true => rfl
      | false =>
        have : k ∈ Region.ready .any ops listed := mem_ready.2 ⟨by rw [getD_tf (by omega)]; exact hD, ops[k], Array.getElem?_eq_getElem hk, fun e he hb => by
          have hlt := R.back k _ (Array.getElem?_eq_getElem hk) e he hb
          exact ih e.on hlt (by omega)⟩
        rw [hr] at this; cases this
  have done : ∀ (listed : Array Bool) (ι' : Iota) (h' : T AObj) (a' : Act) (w' : World), Inv G ops E S V F n df ι w (fun i => listed.getD i false) ι' h' a' w' →
      (∀ k, k < ops.size → listed.getD k false = true) → Q .normal a' w' := by
    intro listed ι' h' a' w' I hall
    refine hQ ι' a' w' (fun t => ?_) (Post.congr (s' := ⟨h', (S ops.size).c, [], []⟩) (t := S ops.size) (fun b => ?_) rfl I.post) I.size I.defers
    · have := I.env t
      rw [R.env_all hall t _ (Nat.le_refl _)] at this; exact this
    · show (S ops.size).h.get b = h'.get b
      rw [I.heap b, R.heap_all hall b _ (Nat.le_refl _)]
  intro fuel
  induction fuel with
  | zero =>
    intro listed ι' h' a' w' I _ hsz hf
    have hall : ∀ k, k < ops.size → listed.getD k false = true := by
      intro k hk
      have : ((List.range ops.size).filter fun i => !listed.getD i false) = [] := List.length_eq_zero_iff.1 (by omega)
      rw [List.filter_eq_nil_iff] at this
      have := this k (List.mem_range.2 hk)
      simpa using this
    refine ⟨?_, done listed ι' h' a' w' I hall⟩
    cases hr : Region.ready .any ops listed with
    | nil => rfl
    | cons x xs =>
      have hx : x ∈ Region.ready .any ops listed := by rw [hr]; exact List.mem_cons_self ..
      obtain ⟨h0, o, ho, _⟩ := mem_ready.1 hx
      have hlt := (Array.getElem?_eq_some_iff.1 ho).1
      rw [getD_tf (by omega), hall x hlt] at h0; cases h0
  | succ fuel ih =>
    intro listed ι' h' a' w' I hcl hsz hf
    refine ⟨fun hr => done listed ι' h' a' w' I (all listed hsz hr), fun i hi => ?_⟩
    obtain ⟨h0, oi, ho, hpre⟩ := mem_ready.1 hi
    have hlt := (Array.getElem?_eq_some_iff.1 ho).1
    rw [getD_tf (by omega)] at h0
    have hfun : (fun j => (listed.setIfInBounds i true).getD j false) = fun j => listed.getD j false || j == i := by
      funext j
      by_cases hji : j = i
      · subst hji; simp [hsz, hlt]
      · rw [getD_set_ne false (Ne.symm hji)]; simp [hji]
    refine Inv.step hs hrl sound R (D := fun j => listed.getD j false) ⟨hcl, ho, h0, hpre⟩ (hok i oi ho) frs I fun ι2 h2 a2 w2 I2 => ?_
    refine ih _ ι2 h2 a2 w2 (by rw [hfun]; exact I2) ?_ (by simpa using hsz) ?_
    · rw [hfun]
      intro j o hj hD e he hb
      simp only [Bool.or_eq_true, beq_iff_eq] at hD ⊢
      rcases hD with hD | hD
      · exact .inl (hcl j o hj hD e he hb)
      · subst hD
        rw [ho] at hj; cases hj
        exact .inl (hpre e he hb)
    · have := filter_lt (p := fun j => !listed.getD j false) (q := fun j => !(listed.setIfInBounds i true).getD j false) (List.range ops.size) i (List.mem_range.2 hlt) (by simpa using h0)
        (by have := congrFun hfun i; rw [this]; simp) (fun j hj => by have := congrFun hfun j; rw [this] at hj; simp at hj ⊢; exact hj.1)
      omega
end
theorem silent_spec {f : Fp} (h : f.silent = true) : f.r = [] ∧ f.w = [] ∧ f.c0 = f.c1 := by
  obtain ⟨r, w, c0, c1⟩ := f
  cases r <;> cases w <;> first
    | exact ⟨rfl, rfl, beq_iff.1 h⟩
    | cases h
theorem drawOk_spec {ops : Array Oper} (h : drawOk ops = true) : apartAll ops (Region.before ops).toList [] 0 ops.toList = true := by
  unfold drawOk at h
  rw [Bool.and_eq_true] at h
  exact h.1
theorem reg_of {C : Ctx} {eg : TypeId → Bool} {rec : Rec} {ops : Array Oper} {E : Nat → Env} {S : Nat → St} {V : Nat → Value} {F : Nat → Fp} {fps : List Fp} (hs : SmLocal C) (hrl : RecLocal rec)
    (tr : ∀ k o, ops[k]? = some o → TrStep C eg rec ops.toList (E k) (S k) (V k) (F k) (E (k + 1)) (S (k + 1)) o) (hF : ∀ k, k < ops.size → fps[k]? = some (F k))
    (hd : drawOk ops = true) (hc : clashFree (Region.before ops).toList [] 0 fps = true) : Reg C eg rec ops E S V F := by
  have l : ∀ k o, ops[k]? = some o → StepL C eg rec (E k) (S k) (V k) (F k) (S (k + 1)) o := fun k o ho => (tr k o ho).l hs hrl
  obtain ⟨_, a2, a3⟩ := apartAll_spec _ _ _ (drawOk_spec hd)
  obtain ⟨_, c2⟩ := clash_spec _ _ _ hc
  have mono : ∀ i j, i ≤ j → j ≤ ops.size → (S i).c ≤ (S j).c := by
    intro i j hij
    induction j with
    | zero => intro _; have : i = 0 := by omega
              subst this; exact Nat.le_refl _
    | succ j ih =>
      intro hj
      rcases Nat.lt_or_ge i (j + 1) with h | h
      · have := ih (by omega) (by omega)
        have := (l j ops[j] (Array.getElem?_eq_getElem (by omega))).cle
        omega
      · have : i = j + 1 := by omega
        subst this; exact Nat.le_refl _
  refine ⟨tr, l, fun i j hij hj => ?_, fun i j oi oj hij hi hj => ?_, fun k o ho e he hb => ?_⟩
  · have hti := tr i ops[i] (Array.getElem?_eq_getElem (by omega))
    have htj := tr j ops[j] (Array.getElem?_eq_getElem hj)
    have hli := l i ops[i] (Array.getElem?_eq_getElem (by omega))
    have hlj := l j ops[j] (Array.getElem?_eq_getElem hj)
    have hm := mono (i + 1) j (by omega) (by omega)
    have hmi := hli.cle
    have hmj := hlj.cle
    have hi' : ∀ b, Tc S F i b → b < (S (i + 1)).c := by
      intro b hb
      rcases hb with hb | hb | hb
      · exact hli.rlt b hb
      · exact hli.wlt b hb
      · exact hb.2
    have noS : ∀ k o, ops[k]? = some o → (F k).silent = true → ∀ b, ¬Tc S F k b := by
      intro k o hk hsil b hb
      obtain ⟨h1, h2, h3⟩ := silent_spec hsil
      rw [(tr k o hk).c0, (tr k o hk).c1] at h3
      rcases hb with hb | hb | hb
      · rw [h1] at hb; cases hb
      · rw [h2] at hb; cases hb
      · omega
    cases hsi : (F i).silent with
    | true => exact .inr fun b => ⟨fun q _ => noS i _ (Array.getElem?_eq_getElem (by omega)) hsi b q.tc, fun _ q => noS i _ (Array.getElem?_eq_getElem (by omega)) hsi b q⟩
    | false =>
      cases hsj : (F j).silent with
      | true => exact .inr fun b => ⟨fun _ q => noS j _ (Array.getElem?_eq_getElem hj) hsj b q, fun q _ => noS j _ (Array.getElem?_eq_getElem hj) hsj b q.tc⟩
      | false =>
        have := c2 i j (F i) (F j) hij (hF i (by omega)) (hF j hj) hsi hsj
        simp only [Nat.zero_add] at this
        refine this.imp id fun hap b => ?_
        unfold apartFp at hap
        simp only [Bool.and_eq_true, Bool.not_eq_true'] at hap
        obtain ⟨⟨⟨⟨q1, q2⟩, q3⟩, q4⟩, q5⟩ := hap
        rw [meets_eq] at q1 q2 q3
        rw [within_eq, hti.c0, hti.c1] at q4 q5
        constructor
        · rintro (hw | hw) (ht | ht | ht)
          · exact q1 b hw ht
          · exact q2 b hw ht
          · have := hli.wlt b hw; omega
          · exact q4 b ht hw
          · exact q5 b ht hw
          · omega
        · rintro (hw | hw) ht
          · rcases ht with ht | ht | ht
            · exact q3 b hw ht
            · exact q2 b ht hw
            · exact q5 b hw ht
          · have := hi' b ht; omega
  · have := a2 i j oi oj hij (by rw [Array.getElem?_toList]; exact hi) (by rw [Array.getElem?_toList]; exact hj)
    simpa using this
  · have := a3 k o (by rw [Array.getElem?_toList]; exact ho) e he hb
    simpa using this
theorem hpt_none {S : Nat → St} {F : Nat → Fp} {D : Nat → Bool} (h : ∀ k, D k = false) (b : Nat) : ∀ k, hpt S F D k b = (S 0).h.get b := by
  intro k
  induction k with
  | zero => rfl
  | succ k ih => unfold hpt; rw [if_neg (fun q => by rw [h k] at q; cases q.1), ih]
theorem ept_none {ops : Array Oper} {E : Nat → Env} {V : Nat → Value} {D : Nat → Bool} (h : ∀ k, D k = false) (t : Nat) : ∀ k, ept ops E V D k t = rd (E 0) t := by
  intro k
  induction k with
  | zero => rfl
  | succ k ih => unfold ept; rw [if_neg (fun q => by rw [h k] at q; cases q.1), ih]
theorem wp_draw {C : Ctx} {eg : TypeId → Bool} {P : Program} {G n : Nat} {rec : Rec} {ops : Array Oper} {id : Nat} {e e' : Env} {s s' : St} {ι : Iota} {w : World} {a : Act} {Q : Exit → Act → World → Prop}
    (hm : P.follows .mixedOrders = true) (hs : SmLocal C) (hrl : RecLocal rec) (sound : SoundOp C eg P G n rec) (hok : ∀ (i : Nat) o, ops[i]? = some o → operOk C G n o = true) (hd : drawOk ops = true)
    (h : drawRun C eg rec ops e s = some (e', s')) (hr : HR G ι s.h w.heap) (he : EnvR ι e a) (hn : a.tmps.size = n) (frs : ∀ b, s.c ≤ b → b < s'.c → ι b = none)
    (hQ : ∀ ι' a' w', EnvR ι' e' a' → Post G ι ι' s s' w w' → a'.tmps.size = n → a'.defers = a.defers → Q .normal a' w') : (Code.region id ops true).wp P Q a w := by
  unfold drawRun at h
  obtain ⟨⟨e1, fps⟩, s1, h1, h2⟩ := bind_some h
  unfold drawEnd at h2
  cases hc : clashFree (Region.before ops).toList [] 0 fps with
  | false => rw [hc] at h2; exact (fail_some h2).elim
  | true =>
    rw [hc] at h2
    obtain ⟨rfl, rfl⟩ := ret_some h2
    obtain ⟨E, S, V, F, r1, r2, r3, r4, r5, _, r6⟩ := trackRun_some _ _ _ _ _ h1
    simp only [Array.length_toList] at r3 r4 r5
    have R := reg_of (E := E) (S := S) (V := V) (F := F) hs hrl (fun k o ho => r6 k o (by rw [Array.getElem?_toList]; exact ho)) r5 hd hc
    have hmono := R.mono (i := 0) (j := ops.size) (by omega) (Nat.le_refl _)
    refine wp_region_any hm ?_
    have hfalse : ∀ k, (Array.replicate ops.size false).getD k false = false := by
      intro k
      by_cases hk : k < ops.size <;> simp [hk]
    refine wpAny_of (df := a.defers) (ι := ι) (w := w) hs hrl sound R hok (by rw [r2, r4]; exact frs) (fun ι2 a2 w2 x1 x2 x3 x4 => hQ ι2 a2 w2 (by rw [← r3]; exact x1) (by rw [r2, r4] at x2; exact x2) x3 x4)
      ops.size _ ι s.h a _ ⟨?_, ?_, ?_, fun b hb _ => hb, hn, rfl⟩ ?_ (by simp) ?_
    · rw [r2, r4] at hmono ⊢
      exact ⟨Iota.le_refl _, fun _ q _ => q, hr, rfl, rfl, rfl, Nat.le_refl _, fun _ _ _ => rfl, fun _ _ q => q, hmono⟩
    · intro b; rw [hpt_none hfalse, r2]
    · intro t; rw [ept_none hfalse, r1]; exact he t
    · intro j o _ hj
      have hj' : (Array.replicate ops.size false).getD j false = true := hj
      rw [hfalse j] at hj'; cases hj'
    · exact Nat.le_trans (List.length_filter_le _ _) (by simp)
end Go.Ab
end
