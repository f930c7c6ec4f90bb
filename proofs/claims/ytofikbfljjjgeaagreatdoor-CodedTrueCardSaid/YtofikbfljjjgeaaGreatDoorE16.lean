/- A region that draws its order, part 2: what holds of a set of operations that have run. -/
import Derived.Test.YtofikbfljjjgeaaGreatDoorE15
set_option linter.unusedVariables false
set_option linter.unusedSimpArgs false
namespace Go.Ab
theorem rd_put (e : Env) (dst : Option Nat) (v : Value) (t : Nat) : rd (put e dst v) t = if dst = some t then v else rd e t := by
  cases dst with
  | none => simp [put]
  | some d =>
    obtain ⟨loc, kept⟩ := e
    show Bool.rec (motive := fun _ => Value) (rd (.mk loc kept) t) v (Nat.beq d t) = _
    cases h : Nat.beq d t with
    | true => rw [if_pos (by rw [beq_iff.1 h])]
    | false => rw [if_neg (by simpa using beq_false.1 h)]
def EnvR (ι : Iota) (e : Env) (a : Act) : Prop := ∀ t, VR ι (rd e t) (a.tmps.getD t undef)
theorem EnvR.mono {ι ι' : Iota} (hi : ι.le ι') {e : Env} {a : Act} (h : EnvR ι e a) : EnvR ι' e a := fun t => (h t).mono hi
theorem put_getD {a : Act} {dst : Option Nat} (h : ∀ d, dst = some d → d < a.tmps.size) (v : Value) (t : Nat) :
    (a.put dst v).tmps.getD t undef = if dst = some t then v else a.tmps.getD t undef := by
  cases dst with
  | none => simp [Act.put]
  | some d =>
    have hd := h d rfl
    show (a.tmps.setIfInBounds d v).getD t undef = _
    by_cases e : d = t
    · subst e
      rw [if_pos rfl, Array.getD_eq_getD_getElem?, Array.getElem?_setIfInBounds_self_of_lt hd]; rfl
    · rw [if_neg (by simpa using e), Array.getD_eq_getD_getElem?, Array.getElem?_setIfInBounds_ne e, Array.getD_eq_getD_getElem?]
theorem put_size (a : Act) (dst : Option Nat) (v : Value) : (a.put dst v).tmps.size = a.tmps.size := by
  cases dst <;> simp [Act.put]
theorem put_defers' (a : Act) (dst : Option Nat) (v : Value) : (a.put dst v).defers = a.defers := by
  cases dst <;> rfl
theorem EnvR.put {ι : Iota} {e : Env} {a : Act} (h : EnvR ι e a) {dst : Option Nat} (hd : ∀ d, dst = some d → d < a.tmps.size) {v v' : Value} (hv : VR ι v v') : EnvR ι (Ab.put e dst v) (a.put dst v') := by
  intro t
  rw [rd_put, put_getD hd]
  split
  · exact hv
  · exact h t
noncomputable def operandOk (G : Nat) (x : Operand) : Bool :=
  match x with
  | .const v => flat 30 v
  | .global g => Nat.blt g G
  | _ => true
theorem evalA_VR {G : Nat} {ι : Iota} {h : T AObj} {H : Array Obj} (hr : HR G ι h H) {x : Operand} (hx : operandOk G x = true) {e : Env} {a : Act} (ht : ∀ t, x = .tmp t → VR ι (rd e t) (a.tmps.getD t undef)) :
    VR ι (evalA e x) (a.eval x) := by
  cases x with
  | tmp t => exact ht t rfl
  | const v => exact flat_VR ι 30 v hx
  | global g =>
    obtain ⟨L, hL, h1, h2⟩ := hr.glob g (blt_iff.1 hx)
    have := VR.ptr (ι := ι) g 0 L hL
    rw [h1, h2] at this
    exact this
  | func f => exact .func _ _ _ _ _ rfl rfl (by intro i x y hh; simp at hh) (by intro i x y hh; simp at hh)
noncomputable def clearOk (C : Ctx) (o : Op) : Bool :=
  match o with
  | .call c =>
    match c.callee with
    | .builtin .clear => (match nth c.argTypes.toList 0 with | some t => (C.und t).isSome | none => true)
    | _ => true
  | _ => true
noncomputable def operOk (C : Ctx) (G n : Nat) (o : Oper) : Bool :=
  allB (operandOk G) o.op.operands.toList && (match o.dst with | none => true | some d => Nat.blt d n) && clearOk C o.op
theorem operOk.operand {C : Ctx} {G n : Nat} {o : Oper} (h : operOk C G n o = true) {x : Operand} (hx : x ∈ o.op.operands) : operandOk G x = true := by
  unfold operOk at h
  rw [Bool.and_eq_true, Bool.and_eq_true, allB_eq, List.all_eq_true] at h
  exact h.1.1 x (Array.mem_toList_iff.2 hx)
theorem operOk.dst {C : Ctx} {G n : Nat} {o : Oper} (h : operOk C G n o = true) {d : Nat} (hd : o.dst = some d) : d < n := by
  unfold operOk at h
  rw [Bool.and_eq_true, Bool.and_eq_true] at h
  have := h.1.2
  rw [hd] at this
  exact blt_iff.1 this
theorem wanted_eq {ι : Iota} {ops : Array Oper} {e : Env} {a : Act} {o : Oper} {g : Bool} (h : wantedA ops.toList e o = some g)
    (ht : ∀ t, t ∈ o.looksAt ops → VR ι (rd e t) (a.tmps.getD t undef)) : Region.wanted o (yielded ops a.tmps) = g := by
  unfold wantedA at h
  unfold Region.wanted
  cases hg : o.guard with
  | none => rw [hg] at h; simp only [Option.some.injEq] at h; exact h
  | some p =>
    obtain ⟨j, want⟩ := p
    rw [hg] at h
    simp only at h ⊢
    unfold metA at h
    rw [nth_eq, Array.getElem?_toList] at h
    unfold yielded
    cases hj : ops[j]? with
    | none => rw [hj] at h; simp only [Option.some.injEq] at h; subst h; rfl
    | some q =>
      rw [hj] at h
      simp only at h
      cases hd : q.dst with
      | none => rw [hd] at h; simp only [Option.some.injEq] at h; subst h; simp [hd]
      | some d =>
        rw [hd] at h
        simp only at h
        have hv := ht d (by unfold Oper.looksAt; rw [hg]; simp [hj, hd])
        simp only [Option.bind_some, hd]
        rw [Array.getD_eq_getD_getElem?] at hv
        split at h
        · rename_i b hb
          rw [hb] at hv
          simp only [Option.some.injEq] at h
          subst h
          cases hq : a.tmps[d]? with
          | none => rw [hq] at hv; cases hv
          | some x => rw [hq] at hv; simp only [Option.getD_some] at hv; cases hv; simp
        · rename_i b hb
          rw [hb] at hv
          simp only [Option.some.injEq] at h
          subst h
          cases hq : a.tmps[d]? with
          | none => rfl
          | some x => rw [hq] at hv; simp only [Option.getD_some] at hv; cases hv; rfl
        · cases h
def Wr (S : Nat → St) (F : Nat → Fp) (k b : Nat) : Prop := b ∈ (F k).w ∨ ((S k).c ≤ b ∧ b < (S (k + 1)).c)
def Tc (S : Nat → St) (F : Nat → Fp) (k b : Nat) : Prop := Touch (F k).r (F k).w (S k).c (S (k + 1)).c b
theorem Wr.tc {S : Nat → St} {F : Nat → Fp} {k b : Nat} (h : Wr S F k b) : Tc S F k b := .inr h
structure StepL (C : Ctx) (eg : TypeId → Bool) (rec : Rec) (e : Env) (s : St) (v : Value) (f : Fp) (s' : St) (o : Oper) : Prop where
  cle : s.c ≤ s'.c
  rlt : ∀ b ∈ f.r, b < s'.c
  wlt : ∀ b ∈ f.w, b < s'.c
  keep : ∀ b, b ∉ f.w → ¬(s.c ≤ b ∧ b < s'.c) → s'.h.get b = s.h.get b
theorem TrStep.l {C : Ctx} {eg : TypeId → Bool} {rec : Rec} {all : List Oper} {e e' : Env} {s s' : St} {v : Value} {f : Fp} {o : Oper} (hs : SmLocal C) (hr : RecLocal rec)
    (h : TrStep C eg rec all e s v f e' s' o) : StepL C eg rec e s v f s' o := by
  rcases h.run with ⟨_, h2⟩ | ⟨_, _, h3, h4, h5, h6⟩
  · obtain ⟨r, w, L⟩ := local_opRun hs hr e o _ _ _ h2
    have er : f.r = r := by have := L.rl; simpa using this
    have ew : f.w = w := by have := L.wl; simpa using this
    exact ⟨L.cle, by rw [er]; exact L.rlt, by rw [ew]; exact L.wlt, by rw [ew]; exact L.keep⟩
  · exact ⟨by omega, by simp [h3], by simp [h4], fun b _ _ => by rw [h5]⟩
theorem TrStep.move {C : Ctx} {eg : TypeId → Bool} {rec : Rec} {all : List Oper} {e e' : Env} {s s' : St} {v : Value} {f : Fp} {o : Oper} (hs : SmLocal C) (hr : RecLocal rec)
    (h : TrStep C eg rec all e s v f e' s' o) (hw : wantedA all e o = some true) (g : T AObj) (hg : ∀ b, Touch f.r f.w s.c s'.c b → g.get b = s.h.get b) :
    ∃ h', opRun C eg rec e o ⟨g, s.c, [], []⟩ = some (v, ⟨h', s'.c, f.r, f.w⟩) ∧ (∀ b, Touch f.r f.w s.c s'.c b → h'.get b = s'.h.get b) ∧ (∀ b, b ∉ f.w → ¬(s.c ≤ b ∧ b < s'.c) → h'.get b = g.get b) := by
  rcases h.run with ⟨_, h2⟩ | ⟨h1, _⟩
  · obtain ⟨r, w, L⟩ := local_opRun hs hr e o _ _ _ h2
    have er : f.r = r := by have := L.rl; simpa using this
    have ew : f.w = w := by have := L.wl; simpa using this
    rw [er, ew] at hg ⊢
    obtain ⟨h', a, b, c⟩ := L.move ⟨g, s.c, [], []⟩ rfl hg
    exact ⟨h', by simpa using a, b, c⟩
  · rw [h1] at hw; cases hw
structure Reg (C : Ctx) (eg : TypeId → Bool) (rec : Rec) (ops : Array Oper) (E : Nat → Env) (S : Nat → St) (V : Nat → Value) (F : Nat → Fp) : Prop where
  tr : ∀ k o, ops[k]? = some o → TrStep C eg rec ops.toList (E k) (S k) (V k) (F k) (E (k + 1)) (S (k + 1)) o
  l : ∀ k o, ops[k]? = some o → StepL C eg rec (E k) (S k) (V k) (F k) (S (k + 1)) o
  ni : ∀ i j, i < j → j < ops.size → Bef (Region.before ops).toList j i ∨ ∀ b, (Wr S F i b → ¬Tc S F j b) ∧ (Wr S F j b → ¬Tc S F i b)
  ap : ∀ i j oi oj, i < j → ops[i]? = some oi → ops[j]? = some oj → Bef (Region.before ops).toList j i ∨ Oper.apart ops oi oj = true
  back : ∀ (k : Nat) o, ops[k]? = some o → ∀ e ∈ o.after, Region.binds .any e = true → e.on < k
open Classical in
noncomputable def hpt (S : Nat → St) (F : Nat → Fp) (D : Nat → Bool) : Nat → Nat → Option AObj
  | 0, b => (S 0).h.get b
  | k + 1, b => if D k = true ∧ Wr S F k b then (S (k + 1)).h.get b else hpt S F D k b
open Classical in
noncomputable def ept (ops : Array Oper) (E : Nat → Env) (V : Nat → Value) (D : Nat → Bool) : Nat → Nat → Value
  | 0, t => rd (E 0) t
  | k + 1, t => if D k = true ∧ (ops[k]?).bind (·.dst) = some t then V k else ept ops E V D k t
section reg
variable {C : Ctx} {eg : TypeId → Bool} {rec : Rec} {ops : Array Oper} {E : Nat → Env} {S : Nat → St} {V : Nat → Value} {F : Nat → Fp} {D : Nat → Bool} {i : Nat} {oi : Oper}
theorem Reg.mono (R : Reg C eg rec ops E S V F) : ∀ {j : Nat}, i ≤ j → j ≤ ops.size → (S i).c ≤ (S j).c := by
  intro j hij
  induction j with
  | zero => intro _; have : i = 0 := by omega
            subst this; exact Nat.le_refl _
  | succ j ih =>
    intro hj
    rcases Nat.lt_or_ge i (j + 1) with h | h
    · have := ih (by omega) (by omega)
      have := (R.l j ops[j] (Array.getElem?_eq_getElem (by omega))).cle
      omega
    · have : i = j + 1 := by omega
      subst this; exact Nat.le_refl _
structure Next (ops : Array Oper) (D : Nat → Bool) (i : Nat) (oi : Oper) : Prop where
  closed : Closed ops D
  op : ops[i]? = some oi
  no : D i = false
  pre : ∀ e ∈ oi.after, Region.binds .any e = true → D e.on = true
theorem Next.lt (N : Next ops D i oi) : i < ops.size := (Array.getElem?_eq_some_iff.1 N.op).1
theorem Next.before (N : Next ops D i oi) (R : Reg C eg rec ops E S V F) {k : Nat} (h : Bef (Region.before ops).toList i k) : D k = true :=
  closed_bef R.back N.closed i k h fun o ho => by rw [N.op] at ho; cases ho; exact N.pre
theorem Next.behind (N : Next ops D i oi) (R : Reg C eg rec ops E S V F) {k : Nat} (hk : D k = true) (h : Bef (Region.before ops).toList k i) : False := by
  have := closed_bef R.back N.closed k i h fun o ho => fun e he hb => N.closed k o ho hk e he hb
  rw [N.no] at this; cases this
theorem Next.heap (N : Next ops D i oi) (R : Reg C eg rec ops E S V F) {b : Nat} (hb : Tc S F i b) : ∀ k, k ≤ ops.size → hpt S F D k b = (S (Nat.min k i)).h.get b := by
  intro k
  induction k with
  | zero => intro _; simp [hpt]
  | succ k ih =>
    intro hk
    have ih := ih (by omega)
    have hok : ops[k]? = some ops[k] := Array.getElem?_eq_getElem (by omega)
    unfold hpt
    rcases Nat.lt_trichotomy k i with h | h | h
    · have e1 : Nat.min k i = k := Nat.min_eq_left (by omega)
      have e2 : Nat.min (k + 1) i = k + 1 := Nat.min_eq_left (by omega)
      rw [e1] at ih
      rw [e2]
      by_cases hw : Wr S F k b
      · rcases R.ni k i h N.lt with hh | hh
        · rw [if_pos ⟨N.before R hh, hw⟩]
        · exact absurd hb ((hh b).1 hw)
      · rw [if_neg (fun q => hw q.2), ih]
        simp only [Wr, not_or] at hw
        exact ((R.l k _ hok).keep b hw.1 hw.2).symm
    · subst h
      have e1 : Nat.min k k = k := Nat.min_eq_left (by omega)
      have e2 : Nat.min (k + 1) k = k := Nat.min_eq_right (by omega)
      rw [e1] at ih
      rw [e2, if_neg (fun q => by rw [N.no] at q; cases q.1), ih]
    · have e1 : Nat.min k i = i := Nat.min_eq_right (by omega)
      have e2 : Nat.min (k + 1) i = i := Nat.min_eq_right (by omega)
      rw [e1] at ih
      rw [e2]
      by_cases hw : D k = true ∧ Wr S F k b
      · rcases R.ni i k h (by omega) with hh | hh
        · exact (N.behind R hw.1 hh).elim
        · exact absurd hb ((hh b).2 hw.2)
      · rw [if_neg hw, ih]
theorem Next.heap_in (N : Next ops D i oi) (R : Reg C eg rec ops E S V F) {b : Nat} (hb : Wr S F i b) : ∀ k, i < k → k ≤ ops.size → hpt S F (fun j => D j || j == i) k b = (S (i + 1)).h.get b := by
  intro k
  induction k with
  | zero => intro h; omega
  | succ k ih =>
    intro hi hk
    unfold hpt
    by_cases h : k = i
    · subst h
      rw [if_pos ⟨by simp, hb⟩]
    · have ih := ih (by omega) (by omega)
      by_cases hw : (D k || k == i) = true ∧ Wr S F k b
      · have hD : D k = true := by have := hw.1; simpa [h] using this
        rcases R.ni i k (by omega) (by omega) with hh | hh
        · exact (N.behind R hD hh).elim
        · exact absurd hb.tc ((hh b).2 hw.2)
      · rw [if_neg hw, ih]
theorem Next.heap_out (N : Next ops D i oi) {b : Nat} (hb : ¬Wr S F i b) : ∀ k, hpt S F (fun j => D j || j == i) k b = hpt S F D k b := by
  intro k
  induction k with
  | zero => rfl
  | succ k ih =>
    unfold hpt
    by_cases h : k = i
    · subst h
      rw [if_neg (fun q => hb q.2), if_neg (fun q => hb q.2), ih]
    · have : (D k || k == i) = D k := by simp [h]
      rw [this, ih]
theorem Reg.heap_all (R : Reg C eg rec ops E S V F) (hD : ∀ k, k < ops.size → D k = true) (b : Nat) : ∀ k, k ≤ ops.size → hpt S F D k b = (S k).h.get b := by
  intro k
  induction k with
  | zero => intro _; rfl
  | succ k ih =>
    intro hk
    have ih := ih (by omega)
    have hok : ops[k]? = some ops[k] := Array.getElem?_eq_getElem (by omega)
    unfold hpt
    by_cases hw : Wr S F k b
    · rw [if_pos ⟨hD k (by omega), hw⟩]
    · rw [if_neg (fun q => hw q.2), ih]
      simp only [Wr, not_or] at hw
      exact ((R.l k _ hok).keep b hw.1 hw.2).symm
theorem Next.env (N : Next ops D i oi) (R : Reg C eg rec ops E S V F) {t : Nat} (ht : t ∈ oi.looksAt ops) : ∀ k, k ≤ ops.size → ept ops E V D k t = rd (E (Nat.min k i)) t := by
  intro k
  induction k with
  | zero => intro _; simp [ept]
  | succ k ih =>
    intro hk
    have ih := ih (by omega)
    have hok : ops[k]? = some ops[k] := Array.getElem?_eq_getElem (by omega)
    unfold ept
    rw [hok, Option.bind_some]
    rcases Nat.lt_trichotomy k i with h | h | h
    · have e1 : Nat.min k i = k := Nat.min_eq_left (by omega)
      have e2 : Nat.min (k + 1) i = k + 1 := Nat.min_eq_left (by omega)
      rw [e1] at ih
      rw [e2, (R.tr k _ hok).env, rd_put]
      by_cases hw : ops[k].dst = some t
      · rcases R.ap k i _ _ h hok N.op with hh | hh
        · rw [if_pos ⟨N.before R hh, hw⟩, if_pos hw]
        · exact absurd ht ((Oper.apart_spec hh).1 t hw)
      · rw [if_neg (fun q => hw q.2), if_neg hw, ih]
    · subst h
      have e1 : Nat.min k k = k := Nat.min_eq_left (by omega)
      have e2 : Nat.min (k + 1) k = k := Nat.min_eq_right (by omega)
      rw [e1] at ih
      rw [e2, if_neg (fun q => by rw [N.no] at q; cases q.1), ih]
    · have e1 : Nat.min k i = i := Nat.min_eq_right (by omega)
      have e2 : Nat.min (k + 1) i = i := Nat.min_eq_right (by omega)
      rw [e1] at ih
      rw [e2]
      by_cases hw : D k = true ∧ ops[k].dst = some t
      · rcases R.ap i k _ _ h N.op hok with hh | hh
        · exact (N.behind R hw.1 hh).elim
        · exact absurd ht ((Oper.apart_spec hh).2.2 t hw.2)
      · rw [if_neg hw, ih]
theorem Next.env_in (N : Next ops D i oi) (R : Reg C eg rec ops E S V F) {t : Nat} (ht : oi.dst = some t) : ∀ k, i < k → k ≤ ops.size → ept ops E V (fun j => D j || j == i) k t = V i := by
  intro k
  induction k with
  | zero => intro h; omega
  | succ k ih =>
    intro hi hk
    have hok : ops[k]? = some ops[k] := Array.getElem?_eq_getElem (by omega)
    unfold ept
    by_cases h : k = i
    · subst h
      rw [if_pos ⟨by simp, by rw [N.op]; exact ht⟩]
    · have ih := ih (by omega) (by omega)
      rw [hok, Option.bind_some]
      by_cases hw : (D k || k == i) = true ∧ ops[k].dst = some t
      · have hD : D k = true := by have := hw.1; simpa [h] using this
        rcases R.ap i k _ _ (by omega) N.op hok with hh | hh
        · exact (N.behind R hD hh).elim
        · exact absurd hw.2 ((Oper.apart_spec hh).2.1 t ht)
      · rw [if_neg hw, ih]
theorem Next.env_out (N : Next ops D i oi) {t : Nat} (ht : oi.dst ≠ some t) : ∀ k, ept ops E V (fun j => D j || j == i) k t = ept ops E V D k t := by
  intro k
  induction k with
  | zero => rfl
  | succ k ih =>
    unfold ept
    by_cases h : k = i
    · subst h
      rw [N.op, Option.bind_some, if_neg (fun q => ht q.2), if_neg (fun q => ht q.2), ih]
    · have : (D k || k == i) = D k := by simp [h]
      rw [this, ih]
theorem Reg.env_all (R : Reg C eg rec ops E S V F) (hD : ∀ k, k < ops.size → D k = true) (t : Nat) : ∀ k, k ≤ ops.size → ept ops E V D k t = rd (E k) t := by
  intro k
  induction k with
  | zero => intro _; rfl
  | succ k ih =>
    intro hk
    have ih := ih (by omega)
    have hok : ops[k]? = some ops[k] := Array.getElem?_eq_getElem (by omega)
    unfold ept
    rw [hok, Option.bind_some, (R.tr k _ hok).env, rd_put]
    by_cases hw : ops[k].dst = some t
    · rw [if_pos ⟨hD k (by omega), hw⟩, if_pos hw]
    · rw [if_neg (fun q => hw q.2), if_neg hw, ih]
end reg
end Go.Ab
