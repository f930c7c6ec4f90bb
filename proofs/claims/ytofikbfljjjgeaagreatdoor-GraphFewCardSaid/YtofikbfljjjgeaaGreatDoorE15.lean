import Derived.Test.YtofikbfljjjgeaaGreatDoorE13
set_option linter.unusedVariables false
set_option linter.unusedSimpArgs false
section
/- Locality of a run of code; what a region's run comes to, step by step. -/
namespace Go.Ab
theorem forceI_eq {β : Type} (j : IntKind) (n : Int) (k : Value → β) : forceI j n k = k (.int j n) := by
 cases n with
 | ofNat m => show Bool.rec (motive := fun _ => β) (k (.int j (.ofNat m))) (k (.int j (.ofNat m))) (Nat.ble m 0) = _; cases Nat.ble m 0 <;> rfl
 | negSucc m => show Bool.rec (motive := fun _ => β) (k (.int j (.negSucc m))) (k (.int j (.negSucc m))) (Nat.ble m 0) = _; cases Nat.ble m 0 <;> rfl
theorem forceV_eq {β : Type} (v : Value) (k : Value → β) : forceV v k = k v := by
 unfold forceV
 split
 ·exact forceI_eq _ _ _
 ·rename_i b; cases b <;> rfl
 ·rfl
noncomputable def put (e : Env) (dst : Option Nat) (v : Value) : Env :=
 match dst with
 | none => e
 | some d => putL e d v
theorem putE_eq {β : Type} (e : Env) (dst : Option Nat) (v : Value) (k : Env → β) : putE e dst v k = k (put e dst v) := by
 cases dst with
 | none => rfl
 | some d =>
  show forceV v (fun v => k (putL e d v)) = _
  rw [forceV_eq]; rfl
theorem L_force_eq {β : Type} (l : L) (k : L → β) : l.force k = k l := by cases l <;> rfl
noncomputable def flushE (km : Nat) (e : Env) : Env := match e with | .mk loc kept => .mk .nil (flushL km loc kept)
theorem flush_eq {β : Type} (km : Nat) (e : Env) (k : Env → β) : flush km e k = k (flushE km e) := by
 obtain ⟨loc, kept⟩ := e
 show (flushL km loc kept).force (fun kept => k (.mk .nil kept)) = _
 rw [L_force_eq]; rfl
def RecLocal (rec : Rec) : Prop := ∀ km c e, Local (rec km c e)
structure SmLocal (C : Ctx) : Prop where
 sm : ∀ f g args, C.sm f = some g → Local (g args)
 ex : ∀ f g args, C.ex f = some g → Local (g args)
 vi : ∀ t n g args, C.vi t n = some g → Local (g args)
section loc
variable {C : Ctx} {eg : TypeId → Bool} {rec : Rec}
theorem local_readVar (C : Ctx) (e : Env) (r : ResultVar) : Local (readVar C e r) := by
 cases r with
 | tmp t => exact Local.ret _
 | cell a t => exact local_opLoad _ _ _
theorem local_readVars (C : Ctx) (e : Env) : ∀ rs : List ResultVar, Local (readVars C e rs) := by
 intro rs
 induction rs with
 | nil => exact Local.ret _
 | cons r rs ih => exact Local.bind (local_readVar C e r) fun _ => Local.bind ih fun _ => Local.ret _
theorem local_resultsA (C : Ctx) (e : Env) (rs : List ResultVar) : Local (resultsA C e rs) := Local.bind (local_readVars _ _ _) fun _ => Local.ret _
theorem local_runF (hr : RecLocal rec) (fn : Func) (b : Code) (km : Nat) (args : List Value) : Local (runF C rec fn b km args) := by
 unfold runF
 refine Local.bind (hr _ _ _) fun r => ?_
 unfold xResults
 split
 ·exact local_resultsA _ _ _
 ·exact local_resultsA _ _ _
 ·exact Local.fail
theorem local_callB (hr : RecLocal rec) (f : Nat) (args : List Value) : Local (callB C rec f args) := by
 unfold callB
 split
 ·exact Local.fail
 ·split
  ·exact Local.framed (local_runF hr _ _ _ _)
  ·exact Local.fail
theorem local_callF (hs : SmLocal C) (hr : RecLocal rec) (f : Nat) (args : List Value) : Local (callF C rec f args) := by
 unfold callF
 split
 ·rename_i g hg
  exact hs.sm _ _ _ hg
 ·split
  ·rename_i g hg
   exact hs.ex _ _ _ hg
  ·exact local_callB hr _ _
theorem local_callV (hs : SmLocal C) (hr : RecLocal rec) (f : Value) (args : List Value) : Local (callV C rec f args) := by
 unfold callV
 split
 ·exact local_callF hs hr _ _
 ·exact Local.fail
theorem local_callI (hs : SmLocal C) (hr : RecLocal rec) (r : Value) (name : String) (args : List Value) : Local (callI C rec r name args) := by
 unfold callI
 split
 ·split
  ·rename_i g hg
   exact hs.vi _ _ _ _ hg
  ·split
   ·exact Local.fail
   ·exact local_callF hs hr _ _
 ·exact Local.fail
theorem local_opCall (hs : SmLocal C) (hr : RecLocal rec) (e : Env) (c : Call) : Local (opCall C rec e c) := by
 unfold opCall
 split
 ·exact local_opBuiltin _ _ _ _
 ·exact local_callV hs hr _ _
 ·exact local_callI hs hr _ _ _
theorem local_opRun (hs : SmLocal C) (hr : RecLocal rec) (e : Env) (o : Oper) : Local (opRun C eg rec e o) := by
 obtain ⟨dst, op, ty, pos, after, guard⟩ := o
 unfold opRun
 cases op
 case move => exact Local.ret _
 case assign => exact Local.ret _
 case pick => simp only [rPick]; split <;> first | exact Local.ret _ | exact Local.fail
 case alloc => exact local_opAlloc _ _
 case box => exact local_opBox _
 case build => exact local_opBuild _ _ _
 case buildSlice => exact local_opBuildSlice _ _ _ _
 case insert => exact local_opMapUpdate _ _ _ _ _
 case load => exact local_opLoad _ _ _
 case store => exact local_opStore _ _ _ _
 case nilCheck => exact local_opNilCheck _
 case binOp => exact Local.lift _
 case unOp => exact Local.lift _
 case convert => exact local_opConvert _ _ _ _
 case makeInterface => exact local_opMakeInterface _ _ _
 case makeFunc => exact Local.ret _
 case makeMap t r =>
  cases r with
  | none => show Local ((newO (AObj.map [] 0)).bind fun b => M.ret (Value.map (some b))); exact Local.bind (Local.newO _) fun _ => Local.ret _
  | some x => exact Local.fail
 case makeSlice => exact local_opMakeSlice _ _ _ _
 case slice => exact local_opSlice _ _ _ _ _ _
 case fieldAddr => exact local_opFieldAddr _ _ _ _
 case field => exact local_opField _ _ _ _
 case indexAddr => exact local_opIndexAddr _ _ _ _
 case index => exact local_opIndex _ _ _ _
 case lookup => exact local_opLookup _ _ _ _ _
 case mapUpdate => exact local_opMapUpdate _ _ _ _ _
 case typeAssert => exact local_opTypeAssert _ _ _ _
 case extract => exact local_opExtract _ _
 case call => exact local_opCall hs hr _ _
 all_goals exact Local.fail
theorem local_seqRun (hs : SmLocal C) (hr : RecLocal rec) (all : List Oper) : ∀ (os : List Oper) (e : Env), Local (seqRun C eg rec all os e) := by
 intro os
 induction os with
 | nil => intro e; exact Local.ret _
 | cons o os ih =>
  intro e
  show Local (seqStep C eg rec e o (seqRun C eg rec all os) (wantedA all e o))
  cases wantedA all e o with
  | none => exact Local.fail
  | some b =>
   cases b with
   | false => show Local (putE e o.dst undefA _); rw [putE_eq]; exact ih _
   | true =>
    show Local ((opRun C eg rec e o).bind fun v => putE e o.dst v (seqRun C eg rec all os))
    refine Local.bind (local_opRun hs hr e o) fun v => ?_
    rw [putE_eq]; exact ih _
theorem local_trackRun (hs : SmLocal C) (hr : RecLocal rec) (all : List Oper) : ∀ (os : List Oper) (e : Env), Local (trackRun C eg rec all os e) := by
 intro os
 induction os with
 | nil => intro e; exact Local.ret _
 | cons o os ih =>
  intro e
  show Local (trackStep C eg rec e o (trackRun C eg rec all os) (wantedA all e o))
  cases wantedA all e o with
  | none => exact Local.fail
  | some b =>
   cases b with
   | false =>
    show Local ((told (M.ret ())).bind fun p => putE e o.dst undefA fun e => (trackRun C eg rec all os e).bind (trackEnd p.2))
    refine Local.bind (Local.told (Local.ret _)) fun p => ?_
    rw [putE_eq]
    exact Local.bind (ih _) fun r => Local.ret _
   | true =>
    show Local ((told (opRun C eg rec e o)).bind fun p => putE e o.dst p.1 fun e => (trackRun C eg rec all os e).bind (trackEnd p.2))
    refine Local.bind (Local.told (local_opRun hs hr e o)) fun p => ?_
    rw [putE_eq]
    exact Local.bind (ih _) fun r => Local.ret _
theorem local_xRegion (hs : SmLocal C) (hr : RecLocal rec) (km : Nat) (e : Env) (ops : Array Oper) (draw : Bool) : Local (xRegion C eg rec km e ops draw) := by
 have hf : ∀ e : Env, Local (xFlush km e) := fun e => by
  unfold xFlush
  rw [flush_eq]
  exact Local.ret _
 cases draw with
 | false => exact Local.bind (local_seqRun hs hr _ _ _) hf
 | true =>
  refine Local.bind (Local.bind (local_trackRun hs hr _ _ _) fun r => ?_) hf
  unfold drawEnd
  cases clashFree (Region.before ops).toList [] 0 r.2
  ·exact Local.fail
  ·exact Local.ret _
theorem local_xThen {k : Env → M (Ex × Env)} (hk : ∀ e, Local (k e)) (r : Ex × Env) : Local (xThen k r) := by
 obtain ⟨x, e⟩ := r
 cases x with
 | normal => exact hk e
 | exit j => exact Local.ret _
 | ret => exact Local.ret _
theorem local_exec1 (hs : SmLocal C) (hr : RecLocal rec) (km : Nat) (c : Code) (e : Env) : Local (exec1 C eg rec km c e) := by
 cases c
 case skip => exact Local.ret _
 case region id ops draw => exact local_xRegion hs hr _ _ _ _
 case seq a b => exact Local.bind (hr _ _ _) (local_xThen fun e => hr _ _ _)
 case cond c a b =>
  show Local (xCond rec km e c a b)
  unfold xCond
  split
  ·exact hr _ _ _
  ·exact hr _ _ _
  ·exact Local.fail
 case block id b =>
  refine Local.bind (hr _ _ _) fun r => ?_
  unfold xBlock
  split
  ·rename_i j e
   cases h : Nat.beq j id <;> exact Local.ret _
  ·exact Local.ret _
 case loop b => exact Local.bind (hr _ _ _) (local_xThen fun e => hr _ _ _)
 case exit id => exact Local.ret _
 case ret => exact Local.ret _
 all_goals exact Local.fail
theorem local_exec (hs : SmLocal C) : ∀ fuel, RecLocal (exec C eg fuel) := by
 intro fuel
 induction fuel with
 | zero => intro km c e; exact Local.fail
 | succ n ih => intro km c e; exact local_exec1 hs ih km c e
end loc
structure TrStep (C : Ctx) (eg : TypeId → Bool) (rec : Rec) (all : List Oper) (e : Env) (s : St) (v : Value) (f : Fp) (e' : Env) (s' : St) (o : Oper) : Prop where
 env : e' = put e o.dst v
 run : (wantedA all e o = some true ∧ opRun C eg rec e o ⟨s.h, s.c, [], []⟩ = some (v, ⟨s'.h, s'.c, f.r, f.w⟩)) ∨
  (wantedA all e o = some false ∧ v = undefA ∧ f.r = [] ∧ f.w = [] ∧ s'.h = s.h ∧ s'.c = s.c)
 c0 : f.c0 = s.c
 c1 : f.c1 = s'.c
theorem trackRun_some {C : Ctx} {eg : TypeId → Bool} {rec : Rec} {all : List Oper} : ∀ (os : List Oper) (e : Env) (s : St) (r : Env × List Fp) (s' : St), trackRun C eg rec all os e s = some (r, s') →
  ∃ (E : Nat → Env) (S : Nat → St) (V : Nat → Value) (F : Nat → Fp), E 0 = e ∧ S 0 = s ∧ E os.length = r.1 ∧ S os.length = s' ∧ (∀ k, k < os.length → r.2[k]? = some (F k)) ∧ r.2.length = os.length ∧
   ∀ k o, os[k]? = some o → TrStep C eg rec all (E k) (S k) (V k) (F k) (E (k + 1)) (S (k + 1)) o := by
 intro os
 induction os with
 | nil =>
  intro e s r s' h
  obtain ⟨rfl, rfl⟩ := ret_some h
  exact ⟨fun _ => e, fun _ => s', fun _ => undefA, fun _ => ⟨[], [], 0, 0⟩, rfl, rfl, rfl, rfl, by simp, rfl, by simp⟩
 | cons o os ih =>
  intro e s r s' h
  have h' : trackStep C eg rec e o (trackRun C eg rec all os) (wantedA all e o) s = some (r, s') := h
  -- the rest
  have rest : ∀ (v : Value) (f : Fp) (s1 : St), putE e o.dst v (fun e => (trackRun C eg rec all os e).bind (trackEnd f)) s1 = some (r, s') →
    TrStep C eg rec all e s v f (put e o.dst v) s1 o →
    ∃ (E : Nat → Env) (S : Nat → St) (V : Nat → Value) (F : Nat → Fp), E 0 = e ∧ S 0 = s ∧ E (o :: os).length = r.1 ∧ S (o :: os).length = s' ∧ (∀ k, k < (o :: os).length → r.2[k]? = some (F k)) ∧ r.2.length = (o :: os).length ∧
     ∀ k p, (o :: os)[k]? = some p → TrStep C eg rec all (E k) (S k) (V k) (F k) (E (k + 1)) (S (k + 1)) p := by
   intro v f s1 h1 hst
   rw [putE_eq] at h1
   obtain ⟨q, s2, h2, h3⟩ := bind_some h1
   obtain ⟨rfl, rfl⟩ := ret_some h3
   obtain ⟨E, S, V, F, e0, e1, e2, e3, e4, e5, e6⟩ := ih _ _ _ _ h2
   refine ⟨fun k => match k with | 0 => e | k + 1 => E k, fun k => match k with | 0 => s | k + 1 => S k, fun k => match k with | 0 => v | k + 1 => V k, fun k => match k with | 0 => f | k + 1 => F k,
    rfl, rfl, e2, e3, ?_, by simp [e5], ?_⟩
   ·intro k hk
    cases k with
    | zero => rfl
    | succ k => simpa using e4 k (by simpa using hk)
   ·intro k p hp
    cases k with
    | zero =>
     simp only [List.getElem?_cons_zero, Option.some.injEq] at hp
     subst hp
     simp only [e0, e1]
     exact hst
    | succ k => exact e6 k p (by simpa using hp)
  cases hw : wantedA all e o with
  | none => rw [hw] at h'; exact (fail_some (s := s) h').elim
  | some b =>
   rw [hw] at h'
   cases b with
   | false =>
    obtain ⟨p, s1, h1, h2⟩ := bind_some (show ((told (M.ret ())).bind fun p => putE e o.dst undefA fun e => (trackRun C eg rec all os e).bind (trackEnd p.2)) s = some (r, s') from h')
    obtain ⟨s2, h3, h4, rfl⟩ := told_some h1
    obtain ⟨_, rfl⟩ := ret_some h3
    exact rest _ _ _ h2 ⟨rfl, .inr ⟨hw, rfl, by rw [h4], by rw [h4], rfl, rfl⟩, by rw [h4], by rw [h4]⟩
   | true =>
    obtain ⟨p, s1, h1, h2⟩ := bind_some (show ((told (opRun C eg rec e o)).bind fun p => putE e o.dst p.1 fun e => (trackRun C eg rec all os e).bind (trackEnd p.2)) s = some (r, s') from h')
    obtain ⟨s2, h3, h4, rfl⟩ := told_some h1
    exact rest _ _ _ h2 ⟨rfl, .inl ⟨hw, by rw [h3, h4]⟩, by rw [h4], by rw [h4]⟩
end Go.Ab
end
section
/- A region that draws its order: every order comes to what the order of the text comes to. -/
namespace Go.Ab
def Bef (bef : List Nat) (j i : Nat) : Prop := ∃ m, bef[j]? = some m ∧ Nat.testBit m i = true
theorem befBit {bef : List Nat} {j i : Nat} (h : (match nth bef j with | some m => Nat.testBit m i | none => false) = true) : Bef bef j i := by
 rw [nth_eq] at h
 cases hj : bef[j]? with
 | none => rw [hj] at h; cases h
 | some m => rw [hj] at h; exact ⟨m, hj, h⟩
theorem clash_spec {bef : List Nat} : ∀ (fs : List Fp) (done : List (Nat × Fp)) (j : Nat), clashFree bef done j fs = true →
  (∀ k f p, fs[k]? = some f → p ∈ done → f.silent = false → Bef bef (j + k) p.1 ∨ apartFp p.2 f = true) ∧
  (∀ k l f g, k < l → fs[k]? = some f → fs[l]? = some g → f.silent = false → g.silent = false → Bef bef (j + l) (j + k) ∨ apartFp f g = true) := by
 intro fs
 induction fs with
 | nil => intro done j _; exact ⟨fun k f p h => by simp at h, fun k l f g _ h => by simp at h⟩
 | cons f fs ih =>
  intro done j h
  unfold clashFree at h
  cases hs : f.silent with
  | true =>
   rw [hs] at h
   obtain ⟨h1, h2⟩ := ih done (j + 1) h
   refine ⟨fun k g p hk hp hg => ?_, fun k l g g' hkl hk hl hg hg' => ?_⟩
   ·cases k with
    | zero => simp at hk; subst hk; rw [hs] at hg; cases hg
    | succ k => have := h1 k g p (by simpa using hk) hp hg; rw [show j + (k + 1) = j + 1 + k by omega]; exact this
   ·cases k with
    | zero => simp at hk; subst hk; rw [hs] at hg; cases hg
    | succ k =>
     cases l with
     | zero => omega
     | succ l => have := h2 k l g g' (by omega) (by simpa using hk) (by simpa using hl) hg hg'; rw [show j + (k + 1) = j + 1 + k by omega, show j + (l + 1) = j + 1 + l by omega]; exact this
  | false =>
   rw [hs] at h
   simp only at h
   split at h
   case h_2 => cases h
   case h_1 ha =>
    rw [allB_eq, List.all_eq_true] at ha
    obtain ⟨h1, h2⟩ := ih ((j, f) :: done) (j + 1) h
    refine ⟨fun k g p hk hp hg => ?_, fun k l g g' hkl hk hl hg hg' => ?_⟩
    ·cases k with
     | zero =>
      simp at hk; subst hk
      have := ha p hp
      rw [Bool.or_eq_true] at this
      exact this.imp (fun h => befBit h) id
     | succ k => have := h1 k g p (by simpa using hk) (List.mem_cons_of_mem _ hp) hg; rw [show j + (k + 1) = j + 1 + k by omega]; exact this
    ·cases l with
     | zero => omega
     | succ l =>
      cases k with
      | zero =>
       simp at hk; subst hk
       have := h1 l g' (j, f) (by simpa using hl) (List.mem_cons_self ..) hg'
       rw [show j + (l + 1) = j + 1 + l by omega]; exact this
      | succ k => have := h2 k l g g' (by omega) (by simpa using hk) (by simpa using hl) hg hg'; rw [show j + (k + 1) = j + 1 + k by omega, show j + (l + 1) = j + 1 + l by omega]; exact this
theorem apartAll_spec {ops : Array Oper} {bef : List Nat} : ∀ (os : List Oper) (done : List (Nat × Oper)) (j : Nat), apartAll ops bef done j os = true →
  (∀ k o p, os[k]? = some o → p ∈ done → Bef bef (j + k) p.1 ∨ Oper.apart ops p.2 o = true) ∧
  (∀ k l o p, k < l → os[k]? = some o → os[l]? = some p → Bef bef (j + l) (j + k) ∨ Oper.apart ops o p = true) ∧
  (∀ k o, os[k]? = some o → ∀ e ∈ o.after, Region.binds .any e = true → e.on < j + k) := by
 intro os
 induction os with
 | nil => intro done j _; exact ⟨fun k f p h => by simp at h, fun k l f g _ h => by simp at h, fun k o h => by simp at h⟩
 | cons o os ih =>
  intro done j h
  unfold apartAll at h
  split at h
  case h_2 => cases h
  case h_1 ha =>
   rw [Bool.and_eq_true, List.all_eq_true, List.all_eq_true] at ha
   obtain ⟨h1, h2, h3⟩ := ih ((j, o) :: done) (j + 1) h
   refine ⟨fun k g p hk hp => ?_, fun k l g g' hkl hk hl => ?_, fun k g hk e he hb => ?_⟩
   ·cases k with
    | zero =>
     simp at hk; subst hk
     have := ha.1 p hp
     rw [Bool.or_eq_true] at this
     exact this.imp (fun h => befBit h) id
    | succ k => have := h1 k g p (by simpa using hk) (List.mem_cons_of_mem _ hp); rw [show j + (k + 1) = j + 1 + k by omega]; exact this
   ·cases l with
    | zero => omega
    | succ l =>
     cases k with
     | zero =>
      simp at hk; subst hk
      have := h1 l g' (j, o) (by simpa using hl) (List.mem_cons_self ..)
      rw [show j + (l + 1) = j + 1 + l by omega]; exact this
     | succ k => have := h2 k l g g' (by omega) (by simpa using hk) (by simpa using hl); rw [show j + (k + 1) = j + 1 + k by omega, show j + (l + 1) = j + 1 + l by omega]; exact this
   ·cases k with
    | zero =>
     simp at hk; subst hk
     have := ha.2 e (Array.mem_toList_iff.2 he)
     rw [hb] at this
     simp only [Bool.not_true, Bool.false_or] at this
     exact blt_iff.1 this
    | succ k => have := h3 k g (by simpa using hk) e he hb; omega
theorem before_fold : ∀ (l : List Oper) (acc : Array Nat) (r : Array Nat),
  l.foldl (fun acc o => acc.push (o.after.foldl (fun s e => if Region.binds .any e then s ||| 2 ^ e.on ||| acc.getD e.on 0 else s) 0)) acc = r →
  (∀ j, j < acc.size → r[j]? = acc[j]?) ∧ r.size = acc.size + l.length ∧
  ∀ k o m i, l[k]? = some o → r[acc.size + k]? = some m → Nat.testBit m i = true → ∃ e ∈ o.after, Region.binds .any e = true ∧ (i = e.on ∨ ∃ m', r[e.on]? = some m' ∧ Nat.testBit m' i = true) := by
 intro l
 induction l with
 | nil => intro acc r h; simp only [List.foldl_nil] at h; subst h; exact ⟨fun _ _ => rfl, rfl, by simp⟩
 | cons o l ih =>
  intro acc r h
  simp only [List.foldl_cons] at h
  obtain ⟨h1, h2, h3⟩ := ih _ _ h
  refine ⟨fun j hj => ?_, ?_, ?_⟩
  ·rw [h1 j (by simp; omega), Array.getElem?_push_lt hj, Array.getElem?_eq_getElem hj]
  ·rw [h2]; simp; omega
  ·intro k p m i hk hm hb
   cases k with
   | zero =>
    simp at hk; subst hk
    rw [Nat.add_zero, h1 acc.size (by simp)] at hm
    simp only [Array.getElem?_push_size, Option.some.injEq] at hm
    subst hm
    -- the fold over the edges
    have key : ∀ (es : List Edge) (s : Nat), Nat.testBit (es.foldl (fun s e => if Region.binds .any e then s ||| 2 ^ e.on ||| acc.getD e.on 0 else s) s) i = true →
      Nat.testBit s i = true ∨ ∃ e ∈ es, Region.binds .any e = true ∧ (i = e.on ∨ ∃ m', r[e.on]? = some m' ∧ Nat.testBit m' i = true) := by
     intro es
     induction es with
     | nil => intro s hs; exact .inl hs
     | cons e es ihe =>
      intro s hs
      rcases ihe _ hs with hs | ⟨e', he', hb', hh⟩
      ·simp only at hs
       by_cases hbe : Region.binds .any e = true
       ·rw [if_pos hbe] at hs
        simp only [Nat.testBit_or, Bool.or_eq_true] at hs
        rcases hs with (hs | hs) | hs
        ·exact .inl hs
        ·refine .inr ⟨e, List.mem_cons_self .., hbe, .inl ?_⟩
         rw [Nat.testBit_two_pow] at hs
         exact (of_decide_eq_true hs).symm
        ·refine .inr ⟨e, List.mem_cons_self .., hbe, .inr ?_⟩
         by_cases hlt : e.on < acc.size
         ·refine ⟨acc[e.on], ?_, ?_⟩
          ·rw [h1 _ (by simp; omega), Array.getElem?_push_lt hlt]
          ·rw [Array.getD_eq_getD_getElem?, Array.getElem?_eq_getElem hlt] at hs; exact hs
         ·rw [Array.getD_eq_getD_getElem?, Array.getElem?_eq_none (by omega)] at hs
          simp at hs
       ·rw [if_neg hbe] at hs; exact .inl hs
      ·exact .inr ⟨e', List.mem_cons_of_mem _ he', hb', hh⟩
    rw [← Array.foldl_toList] at hb
    rcases key _ _ hb with hz | ⟨e, he, hbe, hh⟩
    ·simp at hz
    ·exact ⟨e, Array.mem_toList_iff.1 he, hbe, hh⟩
   | succ k =>
    exact h3 k p m i (by simpa using hk) (by simp only [Array.size_push]; rw [← hm]; congr 1; omega) hb
theorem before_spec {ops : Array Oper} {j i : Nat} (h : Bef (Region.before ops).toList j i) :
  ∃ o, ops[j]? = some o ∧ ∃ e ∈ o.after, Region.binds .any e = true ∧ (i = e.on ∨ Bef (Region.before ops).toList e.on i) := by
 obtain ⟨m, hm, hb⟩ := h
 obtain ⟨_, h2, h3⟩ := before_fold ops.toList #[] (Region.before ops) (by unfold Region.before; rw [Array.foldl_toList])
 rw [Array.getElem?_toList] at hm
 have hj : j < ops.size := by
  rcases Nat.lt_or_ge j ops.size with hh | hh
  ·exact hh
  ·rw [Array.getElem?_eq_none (by rw [h2]; simpa using hh)] at hm; cases hm
 obtain ⟨e, he, hbe, hh⟩ := h3 j ops[j] m i (by simp [hj]) (by simpa using hm) hb
 refine ⟨ops[j], Array.getElem?_eq_getElem hj, e, he, hbe, hh.imp id ?_⟩
 rintro ⟨m', a, b⟩
 exact ⟨m', by rw [Array.getElem?_toList]; exact a, b⟩
def Closed (ops : Array Oper) (D : Nat → Bool) : Prop := ∀ j o, ops[j]? = some o → D j = true → ∀ e ∈ o.after, Region.binds .any e = true → D e.on = true
theorem closed_bef {ops : Array Oper} {D : Nat → Bool} (hb : ∀ (k : Nat) o, ops[k]? = some o → ∀ e ∈ o.after, Region.binds .any e = true → e.on < k) (hD : Closed ops D) :
  ∀ (j i : Nat), Bef (Region.before ops).toList j i → (∀ o, ops[j]? = some o → ∀ e ∈ o.after, Region.binds .any e = true → D e.on = true) → D i = true := by
 intro j
 induction j using Nat.strongRecOn with
 | _ j ih =>
  intro i h hj
  obtain ⟨o, ho, e, he, hbe, hh⟩ := before_spec h
  have hD' := hj o ho e he hbe
  rcases hh with rfl | hh
  ·exact hD'
  ·exact ih e.on (hb j o ho e he hbe) i hh fun p hp => hD e.on p hp hD'
end Go.Ab
end
