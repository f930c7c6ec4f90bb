/- Locality of a run of code; what a region's run comes to, step by step. -/
import Derived.Test.YtmpijgfndnikpaaGreatDoorE13
set_option linter.unusedVariables false
set_option linter.unusedSimpArgs false
namespace Go.Ab

theorem forceI_eq {β : Type} (j : IntKind) (n : Int) (k : Value → β) : forceI j n k = k (.int j n) := by
  cases n with
  | ofNat m => show Bool.rec (motive := fun _ => β) (k (.int j (.ofNat m))) (k (.int j (.ofNat m))) (Nat.ble m 0) = _; cases Nat.ble m 0 <;> rfl
  | negSucc m => show Bool.rec (motive := fun _ => β) (k (.int j (.negSucc m))) (k (.int j (.negSucc m))) (Nat.ble m 0) = _; cases Nat.ble m 0 <;> rfl

theorem forceV_eq {β : Type} (v : Value) (k : Value → β) : forceV v k = k v := by
  unfold forceV
  split
  · exact forceI_eq _ _ _
  · rename_i b; cases b <;> rfl
  · rfl

/-- A slot is written. -/
noncomputable def put (e : Env) (dst : Option Nat) (v : Value) : Env :=
  match dst with
  | none => e
  | some d => putL e d v

theorem putE_eq {β : Type} (e : Env) (dst : Option Nat) (v : Value) (k : Env → β) : putE e dst v k = k (put e dst v) := by
  cases dst with
  | none => rfl
  | some d =>
    show forceV v (fun v => k (putL e d v)) = _
    rw [forceV_eq]; rfl

theorem L_force_eq {β : Type} (l : L) (k : L → β) : l.force k = k l := by cases l <;> rfl

noncomputable def flushE (km : Nat) (e : Env) : Env := match e with | .mk loc kept => .mk .nil (flushL km loc kept)

theorem flush_eq {β : Type} (km : Nat) (e : Env) (k : Env → β) : flush km e k = k (flushE km e) := by
  obtain ⟨loc, kept⟩ := e
  show (flushL km loc kept).force (fun kept => k (.mk .nil kept)) = _
  rw [L_force_eq]; rfl

def RecLocal (rec : Rec) : Prop := ∀ km c e, Local (rec km c e)
structure SmLocal (C : Ctx) : Prop where
  sm : ∀ f g args, C.sm f = some g → Local (g args)
  ex : ∀ f g args, C.ex f = some g → Local (g args)
  vi : ∀ t n g args, C.vi t n = some g → Local (g args)

section loc
variable {C : Ctx} {eg : TypeId → Bool} {rec : Rec}

theorem local_readVar (C : Ctx) (e : Env) (r : ResultVar) : Local (readVar C e r) := by
  cases r with
  | tmp t => exact Local.ret _
  | cell a t => exact local_opLoad _ _ _

theorem local_readVars (C : Ctx) (e : Env) : ∀ rs : List ResultVar, Local (readVars C e rs) := by
  intro rs
  induction rs with
  | nil => exact Local.ret _
  | cons r rs ih => exact Local.bind (local_readVar C e r) fun _ => Local.bind ih fun _ => Local.ret _

theorem local_resultsA (C : Ctx) (e : Env) (rs : List ResultVar) : Local (resultsA C e rs) := Local.bind (local_readVars _ _ _) fun _ => Local.ret _

theorem local_runF (hr : RecLocal rec) (fn : Func) (b : Code) (km : Nat) (args : List Value) : Local (runF C rec fn b km args) := by
  unfold runF
  refine Local.bind (hr _ _ _) fun r => ?_
  unfold xResults
  split
  · exact local_resultsA _ _ _
  · exact local_resultsA _ _ _
  · exact Local.fail

theorem local_callB (hr : RecLocal rec) (f : Nat) (args : List Value) : Local (callB C rec f args) := by
  unfold callB
  split
  · exact Local.fail
  · split
    · exact Local.framed (local_runF hr _ _ _ _)
    · exact Local.fail

theorem local_callF (hs : SmLocal C) (hr : RecLocal rec) (f : Nat) (args : List Value) : Local (callF C rec f args) := by
  unfold callF
  split
  · rename_i g hg
    exact hs.sm _ _ _ hg
  · split
    · rename_i g hg
      exact hs.ex _ _ _ hg
    · exact local_callB hr _ _

theorem local_callV (hs : SmLocal C) (hr : RecLocal rec) (f : Value) (args : List Value) : Local (callV C rec f args) := by
  unfold callV
  split
  · exact local_callF hs hr _ _
  · exact Local.fail

theorem local_callI (hs : SmLocal C) (hr : RecLocal rec) (r : Value) (name : String) (args : List Value) : Local (callI C rec r name args) := by
  unfold callI
  split
  · split
    · rename_i g hg
      exact hs.vi _ _ _ _ hg
    · split
      · exact Local.fail
      · exact local_callF hs hr _ _
  · exact Local.fail

theorem local_opCall (hs : SmLocal C) (hr : RecLocal rec) (e : Env) (c : Call) : Local (opCall C rec e c) := by
  unfold opCall
  split
  · exact local_opBuiltin _ _ _ _
  · exact local_callV hs hr _ _
  · exact local_callI hs hr _ _ _

theorem local_opRun (hs : SmLocal C) (hr : RecLocal rec) (e : Env) (o : Oper) : Local (opRun C eg rec e o) := by
  obtain ⟨dst, op, ty, pos, after, guard⟩ := o
  unfold opRun
  cases op
  case move => exact Local.ret _
  case assign => exact Local.ret _
  case pick => simp only [rPick]; split <;> first | exact Local.ret _ | exact Local.fail
  case alloc => exact local_opAlloc _ _
  case box => exact local_opBox _
  case build => exact local_opBuild _ _ _
  case buildSlice => exact local_opBuildSlice _ _ _ _
  case insert => exact local_opMapUpdate _ _ _ _ _
  case load => exact local_opLoad _ _ _
  case store => exact local_opStore _ _ _ _
  case nilCheck => exact local_opNilCheck _
  case binOp => exact Local.lift _
  case unOp => exact Local.lift _
  case convert => exact local_opConvert _ _ _ _
  case makeInterface => exact local_opMakeInterface _ _ _
  case makeFunc => exact Local.ret _
  case makeMap t r =>
    cases r with
    | none => show Local ((newO (AObj.map [] 0)).bind fun b => M.ret (Value.map (some b))); exact Local.bind (Local.newO _) fun _ => Local.ret _
    | some x => exact Local.fail
  case makeSlice => exact local_opMakeSlice _ _ _ _
  case slice => exact local_opSlice _ _ _ _ _ _
  case fieldAddr => exact local_opFieldAddr _ _ _ _
  case field => exact local_opField _ _ _ _
  case indexAddr => exact local_opIndexAddr _ _ _ _
  case index => exact local_opIndex _ _ _ _
  case lookup => exact local_opLookup _ _ _ _ _
  case mapUpdate => exact local_opMapUpdate _ _ _ _ _
  case typeAssert => exact local_opTypeAssert _ _ _ _
  case extract => exact local_opExtract _ _
  case call => exact local_opCall hs hr _ _
  all_goals exact Local.fail

theorem local_seqRun (hs : SmLocal C) (hr : RecLocal rec) (all : List Oper) : ∀ (os : List Oper) (e : Env), Local (seqRun C eg rec all os e) := by
  intro os
  induction os with
  | nil => intro e; exact Local.ret _
  | cons o os ih =>
    intro e
    show Local (seqStep C eg rec e o (seqRun C eg rec all os) (wantedA all e o))
    cases wantedA all e o with
    | none => exact Local.fail
    | some b =>
      cases b with
      | false => show Local (putE e o.dst undefA _); rw [putE_eq]; exact ih _
      | true =>
        show Local ((opRun C eg rec e o).bind fun v => putE e o.dst v (seqRun C eg rec all os))
        refine Local.bind (local_opRun hs hr e o) fun v => ?_
        rw [putE_eq]; exact ih _

theorem local_trackRun (hs : SmLocal C) (hr : RecLocal rec) (all : List Oper) : ∀ (os : List Oper) (e : Env), Local (trackRun C eg rec all os e) := by
  intro os
  induction os with
  | nil => intro e; exact Local.ret _
  | cons o os ih =>
    intro e
    show Local (trackStep C eg rec e o (trackRun C eg rec all os) (wantedA all e o))
    cases wantedA all e o with
    | none => exact Local.fail
    | some b =>
      cases b with
      | false =>
        show Local ((told (M.ret ())).bind fun p => putE e o.dst undefA fun e => (trackRun C eg rec all os e).bind (trackEnd p.2))
        refine Local.bind (Local.told (Local.ret _)) fun p => ?_
        rw [putE_eq]
        exact Local.bind (ih _) fun r => Local.ret _
      | true =>
        show Local ((told (opRun C eg rec e o)).bind fun p => putE e o.dst p.1 fun e => (trackRun C eg rec all os e).bind (trackEnd p.2))
        refine Local.bind (Local.told (local_opRun hs hr e o)) fun p => ?_
        rw [putE_eq]
        exact Local.bind (ih _) fun r => Local.ret _

theorem local_xRegion (hs : SmLocal C) (hr : RecLocal rec) (km : Nat) (e : Env) (ops : Array Oper) (draw : Bool) : Local (xRegion C eg rec km e ops draw) := by
  have hf : ∀ e : Env, Local (xFlush km e) := fun e => by
    unfold xFlush
    rw [flush_eq]
    exact Local.ret _
  cases draw with
  | false => exact Local.bind (local_seqRun hs hr _ _ _) hf
  | true =>
    refine Local.bind (Local.bind (local_trackRun hs hr _ _ _) fun r => ?_) hf
    unfold drawEnd
    cases clashFree (Region.before ops).toList [] 0 r.2
    · exact Local.fail
    · exact Local.ret _

theorem local_xThen {k : Env → M (Ex × Env)} (hk : ∀ e, Local (k e)) (r : Ex × Env) : Local (xThen k r) := by
  obtain ⟨x, e⟩ := r
  cases x with
  | normal => exact hk e
  | exit j => exact Local.ret _
  | ret => exact Local.ret _

theorem local_exec1 (hs : SmLocal C) (hr : RecLocal rec) (km : Nat) (c : Code) (e : Env) : Local (exec1 C eg rec km c e) := by
  cases c
  case skip => exact Local.ret _
  case region id ops draw => exact local_xRegion hs hr _ _ _ _
  case seq a b => exact Local.bind (hr _ _ _) (local_xThen fun e => hr _ _ _)
  case cond c a b =>
    show Local (xCond rec km e c a b)
    unfold xCond
    split
    · exact hr _ _ _
    · exact hr _ _ _
    · exact Local.fail
  case block id b =>
    refine Local.bind (hr _ _ _) fun r => ?_
    unfold xBlock
    split
    · rename_i j e
      cases h : Nat.beq j id <;> exact Local.ret _
    · exact Local.ret _
  case loop b => exact Local.bind (hr _ _ _) (local_xThen fun e => hr _ _ _)
  case exit id => exact Local.ret _
  case ret => exact Local.ret _
  all_goals exact Local.fail

theorem local_exec (hs : SmLocal C) : ∀ fuel, RecLocal (exec C eg fuel) := by
  intro fuel
  induction fuel with
  | zero => intro km c e; exact Local.fail
  | succ n ih => intro km c e; exact local_exec1 hs ih km c e

theorem local_call (hs : SmLocal C) (fuel f : Nat) (args : List Value) : Local (call C eg fuel f args) := local_callF hs (local_exec hs fuel) f args

end loc

/-- One operation of a region that draws, in the order of the text. -/
structure TrStep (C : Ctx) (eg : TypeId → Bool) (rec : Rec) (all : List Oper) (e : Env) (s : St) (v : Value) (f : Fp) (e' : Env) (s' : St) (o : Oper) : Prop where
  env : e' = put e o.dst v
  run : (wantedA all e o = some true ∧ opRun C eg rec e o ⟨s.h, s.c, [], []⟩ = some (v, ⟨s'.h, s'.c, f.r, f.w⟩)) ∨
    (wantedA all e o = some false ∧ v = undefA ∧ f.r = [] ∧ f.w = [] ∧ s'.h = s.h ∧ s'.c = s.c)
  c0 : f.c0 = s.c
  c1 : f.c1 = s'.c

theorem trackRun_some {C : Ctx} {eg : TypeId → Bool} {rec : Rec} {all : List Oper} : ∀ (os : List Oper) (e : Env) (s : St) (r : Env × List Fp) (s' : St), trackRun C eg rec all os e s = some (r, s') →
    ∃ (E : Nat → Env) (S : Nat → St) (V : Nat → Value) (F : Nat → Fp), E 0 = e ∧ S 0 = s ∧ E os.length = r.1 ∧ S os.length = s' ∧ (∀ k, k < os.length → r.2[k]? = some (F k)) ∧ r.2.length = os.length ∧
      ∀ k o, os[k]? = some o → TrStep C eg rec all (E k) (S k) (V k) (F k) (E (k + 1)) (S (k + 1)) o := by
  intro os
  induction os with
  | nil =>
    intro e s r s' h
    obtain ⟨rfl, rfl⟩ := ret_some h
    exact ⟨fun _ => e, fun _ => s', fun _ => undefA, fun _ => ⟨[], [], 0, 0⟩, rfl, rfl, rfl, rfl, by simp, rfl, by simp⟩
  | cons o os ih =>
    intro e s r s' h
    have h' : trackStep C eg rec e o (trackRun C eg rec all os) (wantedA all e o) s = some (r, s') := h
    -- the rest
    have rest : ∀ (v : Value) (f : Fp) (s1 : St), putE e o.dst v (fun e => (trackRun C eg rec all os e).bind (trackEnd f)) s1 = some (r, s') →
        TrStep C eg rec all e s v f (put e o.dst v) s1 o →
        ∃ (E : Nat → Env) (S : Nat → St) (V : Nat → Value) (F : Nat → Fp), E 0 = e ∧ S 0 = s ∧ E (o :: os).length = r.1 ∧ S (o :: os).length = s' ∧ (∀ k, k < (o :: os).length → r.2[k]? = some (F k)) ∧ r.2.length = (o :: os).length ∧
          ∀ k p, (o :: os)[k]? = some p → TrStep C eg rec all (E k) (S k) (V k) (F k) (E (k + 1)) (S (k + 1)) p := by
      intro v f s1 h1 hst
      rw [putE_eq] at h1
      obtain ⟨q, s2, h2, h3⟩ := bind_some h1
      obtain ⟨rfl, rfl⟩ := ret_some h3
      obtain ⟨E, S, V, F, e0, e1, e2, e3, e4, e5, e6⟩ := ih _ _ _ _ h2
      refine ⟨fun k => match k with | 0 => e | k + 1 => E k, fun k => match k with | 0 => s | k + 1 => S k, fun k => match k with | 0 => v | k + 1 => V k, fun k => match k with | 0 => f | k + 1 => F k,
        rfl, rfl, e2, e3, ?_, by simp [e5], ?_⟩
      · intro k hk
        cases k with
        | zero => rfl
        | succ k => simpa using e4 k (by simpa using hk)
      · intro k p hp
        cases k with
        | zero =>
          simp only [List.getElem?_cons_zero, Option.some.injEq] at hp
          subst hp
          simp only [e0, e1]
          exact hst
        | succ k => exact e6 k p (by simpa using hp)
    cases hw : wantedA all e o with
    | none => rw [hw] at h'; exact (fail_some (s := s) h').elim
    | some b =>
      rw [hw] at h'
      cases b with
      | false =>
        obtain ⟨p, s1, h1, h2⟩ := bind_some (show ((told (M.ret ())).bind fun p => putE e o.dst undefA fun e => (trackRun C eg rec all os e).bind (trackEnd p.2)) s = some (r, s') from h')
        obtain ⟨s2, h3, h4, rfl⟩ := told_some h1
        obtain ⟨_, rfl⟩ := ret_some h3
        exact rest _ _ _ h2 ⟨rfl, .inr ⟨hw, rfl, by rw [h4], by rw [h4], rfl, rfl⟩, by rw [h4], by rw [h4]⟩
      | true =>
        obtain ⟨p, s1, h1, h2⟩ := bind_some (show ((told (opRun C eg rec e o)).bind fun p => putE e o.dst p.1 fun e => (trackRun C eg rec all os e).bind (trackEnd p.2)) s = some (r, s') from h')
        obtain ⟨s2, h3, h4, rfl⟩ := told_some h1
        exact rest _ _ _ h2 ⟨rfl, .inl ⟨hw, by rw [h3, h4]⟩, by rw [h4], by rw [h4]⟩

end Go.Ab
