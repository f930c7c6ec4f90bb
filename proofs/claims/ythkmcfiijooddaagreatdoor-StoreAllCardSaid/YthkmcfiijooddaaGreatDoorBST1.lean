import Derived.Test.YthkmcfiijooddaaGreatDoorE43
import Derived.Test.YthkmcfiijooddaaGreatDoorBQ4
set_option linter.unusedVariables false
set_option linter.unusedSimpArgs false
section
/- Rules over the abstract machine: frames that read alike run alike; a loop by an invariant, its slots in a set order. -/
namespace Go.Ab

/-- Two lists of slots that read alike. -/
def EqK (k k' : L) : Prop := ∀ t, k.look (fun _ => top) t = k'.look (fun _ => top) t
theorem EqK.refl (k : L) : EqK k k := fun _ => rfl
theorem EqK.trans {a b c : L} (h : EqK a b) (k : EqK b c) : EqK a c := fun t => (h t).trans (k t)

theorem look_out : ∀ (l : L) (t : Nat), t ∉ l.keys → l.look (fun _ => top) t = top := by
  intro l
  induction l with
  | nil => intro t _; rfl
  | cons k v l ih =>
    intro t h
    rw [keys_cons] at h
    rw [look_if, if_neg (fun e => h (by rw [e]; exact List.mem_cons_self ..))]
    exact ih t fun q => h (List.mem_cons_of_mem _ q)
theorem EqK.of {a b : L} (h : ∀ t ∈ a.keys, a.look (fun _ => top) t = b.look (fun _ => top) t) (k : ∀ t ∈ b.keys, a.look (fun _ => top) t = b.look (fun _ => top) t) : EqK a b := fun t => by
  by_cases h1 : t ∈ a.keys
  · exact h t h1
  · by_cases h2 : t ∈ b.keys
    · exact k t h2
    · rw [look_out a t h1, look_out b t h2]

theorem look_def (l : L) (d : Nat → Value) (t : Nat) : l.look d t = l.look (fun _ => d t) t := by
  induction l with
  | nil => rfl
  | cons k v l ih => rw [look_if, look_if]; split; (· rfl); exact ih

theorem look_dflt (l : L) (k k' : L) (h : EqK k k') (t : Nat) : l.look (k.look fun _ => top) t = l.look (k'.look fun _ => top) t := by
  rw [look_def l _ t, look_def l (k'.look fun _ => top) t, h t]

theorem rd_eq {loc k k' : L} (h : EqK k k') : rd (.mk loc k) = rd (.mk loc k') := funext fun t => look_dflt loc k k' h t

theorem evalA_eq {loc k k' : L} (h : EqK k k') : evalA (.mk loc k) = evalA (.mk loc k') := by
  funext x
  cases x with
  | tmp t => exact congrFun (rd_eq h) t
  | const v => rfl
  | global g => rfl
  | func f => rfl

theorem look_setL (d : Nat) (v : Value) : ∀ (l : L) (t : Nat), (L.set d v l).look (fun _ => top) t = if d = t then v else l.look (fun _ => top) t := by
  intro l
  induction l with
  | nil => intro t; rw [st_nil, look_if]
  | cons k u l ih =>
    intro t
    rw [st_cons]
    by_cases hk : k = d
    · subst hk
      rw [if_pos rfl, look_if, look_if]
      by_cases ht : k = t
      · rw [if_pos ht, if_pos ht]
      · rw [if_neg ht, if_neg ht, if_neg ht]
    · rw [if_neg hk, look_if, look_if, ih]
      by_cases ht : k = t
      · subst ht; rw [if_pos rfl, if_pos rfl, if_neg (fun e => hk e.symm)]
      · rw [if_neg ht, if_neg ht]

theorem flush_eqK (km : Nat) {k k' : L} (h : EqK k k') : ∀ loc : L, EqK (flushL km loc k) (flushL km loc k') := by
  intro loc
  induction loc with
  | nil => exact h
  | cons d v loc ih =>
    intro t
    rw [flL_cons, flL_cons]
    split
    · rw [look_setL, look_setL, ih t]
    · exact ih t

/-- Two runs that end alike. -/
def Sim (m m' : M (Ex × Env)) : Prop := ∀ s x loc k s', m s = some ((x, .mk loc k), s') → ∃ k', m' s = some ((x, .mk loc k'), s') ∧ EqK k k'
def SimE (m m' : M Env) : Prop := ∀ s loc k s', m s = some (.mk loc k, s') → ∃ k', m' s = some (.mk loc k', s') ∧ EqK k k'
def SimT (m m' : M (Env × List Fp)) : Prop := ∀ s loc k f s', m s = some ((.mk loc k, f), s') → ∃ k', m' s = some ((.mk loc k', f), s') ∧ EqK k k'

section sim
variable {C : Ctx} {eg : TypeId → Bool} {rec : Rec}

theorem opRun_eq {loc k k' : L} (h : EqK k k') (o : Oper) : opRun C eg rec (.mk loc k) o = opRun C eg rec (.mk loc k') o := by
  obtain ⟨dst, op, ty, pos, after, guard⟩ := o
  have he := evalA_eq (loc := loc) h
  unfold opRun
  cases op
  case move => simp only [rMove, he]
  case assign => simp only [rMove, he]
  case pick => simp only [rPick, he]
  case box => simp only [rBox, he]
  case build => simp only [rBuild, partsOf, he]
  case buildSlice => simp only [rBuildSlice, partsOf, he]
  case insert => simp only [rMapUpdate, he]
  case load => simp only [rLoad, he]
  case store => simp only [rStore, he]
  case nilCheck => simp only [rNilCheck, he]
  case binOp => simp only [rBin, he]
  case unOp => simp only [rUn, he]
  case convert => simp only [rConvert, he]
  case makeInterface => simp only [rMakeInterface, he]
  case makeFunc => simp only [rMakeFunc, he]
  case makeSlice => simp only [rMakeSlice, he]
  case slice => simp only [rSlice, he]
  case fieldAddr => simp only [rFieldAddr, he]
  case field => simp only [rField, he]
  case indexAddr => simp only [rIndexAddr, he]
  case index => simp only [rIndex, he]
  case lookup => simp only [rLookup, he]
  case mapUpdate => simp only [rMapUpdate, he]
  case typeAssert => simp only [rTypeAssert, he]
  case extract => simp only [rExtract, he]
  case call => simp only [opCall, he]
  all_goals rfl

theorem wanted_eqK {loc k k' : L} (h : EqK k k') (all : List Oper) (o : Oper) : wantedA all (.mk loc k) o = wantedA all (.mk loc k') o := by
  have hr := rd_eq (loc := loc) h
  unfold wantedA
  cases o.guard with
  | none => rfl
  | some p =>
    show metA all (.mk loc k) p.1 p.2 = metA all (.mk loc k') p.1 p.2
    unfold metA
    rw [hr]

theorem put_mk (loc k : L) (d : Option Nat) (v : Value) : put (.mk loc k) d v = .mk (match d with | none => loc | some d => .cons d v loc) k := by cases d <;> rfl

theorem sim_seqRun (all : List Oper) : ∀ (os : List Oper) (loc k k' : L), EqK k k' → SimE (seqRun C eg rec all os (.mk loc k)) (seqRun C eg rec all os (.mk loc k')) := by
  intro os
  induction os with
  | nil =>
    intro loc k k' h s loc1 k1 s' hr
    obtain ⟨h1, rfl⟩ := ret_some (show M.ret (Env.mk loc k) s = _ from hr)
    cases h1
    exact ⟨k', rfl, h⟩
  | cons o os ih =>
    intro loc k k' h s loc1 k1 s' hr
    have hr' : seqStep C eg rec (.mk loc k) o (seqRun C eg rec all os) (wantedA all (.mk loc k) o) s = _ := hr
    show ∃ k2, seqStep C eg rec (.mk loc k') o (seqRun C eg rec all os) (wantedA all (.mk loc k') o) s = _ ∧ _
    rw [← wanted_eqK h]
    cases hw : wantedA all (.mk loc k) o with
    | none => rw [hw] at hr'; exact (fail_some (s := s) hr').elim
    | some b =>
      rw [hw] at hr'
      cases b with
      | false =>
        have h2 : putE (.mk loc k) o.dst undefA (seqRun C eg rec all os) s = _ := hr'
        rw [putE_eq, put_mk] at h2
        obtain ⟨k2, h3, h4⟩ := ih _ _ k' h _ _ _ _ h2
        refine ⟨k2, ?_, h4⟩
        show putE (.mk loc k') o.dst undefA (seqRun C eg rec all os) s = _
        rw [putE_eq, put_mk]; exact h3
      | true =>
        obtain ⟨v, s1, h1, h2⟩ := bind_some (show ((opRun C eg rec (.mk loc k) o).bind fun v => putE (.mk loc k) o.dst v (seqRun C eg rec all os)) s = _ from hr')
        rw [putE_eq, put_mk] at h2
        obtain ⟨k2, h3, h4⟩ := ih _ _ k' h _ _ _ _ h2
        refine ⟨k2, ?_, h4⟩
        show ((opRun C eg rec (.mk loc k') o).bind fun v => putE (.mk loc k') o.dst v (seqRun C eg rec all os)) s = _
        rw [← opRun_eq h, bind_run h1, putE_eq, put_mk]; exact h3

theorem sim_trackRun (all : List Oper) : ∀ (os : List Oper) (loc k k' : L), EqK k k' → SimT (trackRun C eg rec all os (.mk loc k)) (trackRun C eg rec all os (.mk loc k')) := by
  intro os
  induction os with
  | nil =>
    intro loc k k' h s loc1 k1 f s' hr
    obtain ⟨h1, rfl⟩ := ret_some (show M.ret (Env.mk loc k, ([] : List Fp)) s = _ from hr)
    cases h1
    exact ⟨k', rfl, h⟩
  | cons o os ih =>
    intro loc k k' h s loc1 k1 f s' hr
    have hr' : trackStep C eg rec (.mk loc k) o (trackRun C eg rec all os) (wantedA all (.mk loc k) o) s = _ := hr
    show ∃ k2, trackStep C eg rec (.mk loc k') o (trackRun C eg rec all os) (wantedA all (.mk loc k') o) s = _ ∧ _
    rw [← wanted_eqK h]
    cases hw : wantedA all (.mk loc k) o with
    | none => rw [hw] at hr'; exact (fail_some (s := s) hr').elim
    | some b =>
      rw [hw] at hr'
      cases b with
      | false =>
        obtain ⟨p, s1, h1, h2⟩ := bind_some (show ((told (M.ret ())).bind fun p => putE (.mk loc k) o.dst undefA fun e => (trackRun C eg rec all os e).bind (trackEnd p.2)) s = _ from hr')
        rw [putE_eq, put_mk] at h2
        obtain ⟨⟨e1, f1⟩, s2, h3, h4⟩ := bind_some h2
        obtain ⟨h5, rfl⟩ := ret_some h4
        cases h5
        obtain ⟨k2, h6, h7⟩ := ih _ _ k' h _ _ _ _ _ h3
        refine ⟨k2, ?_, h7⟩
        show ((told (M.ret ())).bind fun p => putE (.mk loc k') o.dst undefA fun e => (trackRun C eg rec all os e).bind (trackEnd p.2)) s = _
        rw [bind_run h1, putE_eq, put_mk, bind_run h6]; rfl
      | true =>
        obtain ⟨p, s1, h1, h2⟩ := bind_some (show ((told (opRun C eg rec (.mk loc k) o)).bind fun p => putE (.mk loc k) o.dst p.1 fun e => (trackRun C eg rec all os e).bind (trackEnd p.2)) s = _ from hr')
        rw [putE_eq, put_mk] at h2
        obtain ⟨⟨e1, f1⟩, s2, h3, h4⟩ := bind_some h2
        obtain ⟨h5, rfl⟩ := ret_some h4
        cases h5
        obtain ⟨k2, h6, h7⟩ := ih _ _ k' h _ _ _ _ _ h3
        refine ⟨k2, ?_, h7⟩
        show ((told (opRun C eg rec (.mk loc k') o)).bind fun p => putE (.mk loc k') o.dst p.1 fun e => (trackRun C eg rec all os e).bind (trackEnd p.2)) s = _
        rw [← opRun_eq h, bind_run h1, putE_eq, put_mk, bind_run h6]; rfl

theorem sim_xRegion {km : Nat} {ops : Array Oper} {draw : Bool} {loc k k' : L} (h : EqK k k') : Sim (xRegion C eg rec km (.mk loc k) ops draw) (xRegion C eg rec km (.mk loc k') ops draw) := by
  intro s x loc1 k1 s' hr
  cases draw with
  | false =>
    obtain ⟨⟨l2, k2⟩, s1, h1, h2⟩ := bind_some (show ((seqRun C eg rec ops.toList ops.toList (.mk loc k)).bind (xFlush km)) s = _ from hr)
    unfold xFlush at h2
    rw [flush_eq] at h2
    obtain ⟨h3, rfl⟩ := ret_some h2
    cases h3
    obtain ⟨k3, h4, h5⟩ := sim_seqRun _ _ _ _ k' h _ _ _ _ h1
    refine ⟨_, ?_, flush_eqK km h5 l2⟩
    show ((seqRun C eg rec ops.toList ops.toList (.mk loc k')).bind (xFlush km)) s = _
    rw [bind_run h4]
    unfold xFlush
    rw [flush_eq]; rfl
  | true =>
    obtain ⟨⟨l2, k2⟩, s1, h1, h2⟩ := bind_some (show ((drawRun C eg rec ops (.mk loc k)).bind (xFlush km)) s = _ from hr)
    unfold xFlush at h2
    rw [flush_eq] at h2
    obtain ⟨h3, rfl⟩ := ret_some h2
    cases h3
    obtain ⟨⟨⟨l3, k3⟩, f⟩, s2, h4, h5⟩ := bind_some (show ((trackRun C eg rec ops.toList ops.toList (.mk loc k)).bind (drawEnd ops)) s = _ from h1)
    obtain ⟨k4, h6, h7⟩ := sim_trackRun _ _ _ _ k' h _ _ _ _ _ h4
    have h5' : (Bool.rec (motive := fun _ => M Env) M.fail (M.ret (.mk l3 k3)) (clashFree (Region.before ops).toList [] 0 f)) s2 = _ := h5
    cases hc : clashFree (Region.before ops).toList [] 0 f with
    | false => rw [hc] at h5'; exact (fail_some (s := s2) h5').elim
    | true =>
      rw [hc] at h5'
      obtain ⟨h8, rfl⟩ := ret_some h5'
      cases h8
      refine ⟨_, ?_, flush_eqK km h7 l2⟩
      show (((trackRun C eg rec ops.toList ops.toList (.mk loc k')).bind (drawEnd ops)).bind (xFlush km)) s = _
      have : ((trackRun C eg rec ops.toList ops.toList (.mk loc k')).bind (drawEnd ops)) s = some (.mk l2 k4, s') := by
        rw [bind_run h6]
        show (Bool.rec (motive := fun _ => M Env) M.fail (M.ret (.mk l2 k4)) (clashFree (Region.before ops).toList [] 0 f)) s' = _
        rw [hc]; rfl
      rw [bind_run this]
      unfold xFlush
      rw [flush_eq]; rfl

theorem sim_exec : ∀ (n km : Nat) (c : Code) (loc k k' : L), EqK k k' → Sim (exec C eg n km c (.mk loc k)) (exec C eg n km c (.mk loc k')) := by
  intro n
  induction n with
  | zero => intro km c loc k k' h s x loc1 k1 s' hr; exact (fail_some (s := s) (show M.fail s = _ from hr)).elim
  | succ n ih =>
    intro km c loc k k' h s x loc1 k1 s' hr
    have two : ∀ a b : Code, ((exec C eg n km a (.mk loc k)).bind (xThen (exec C eg n km b))) s = some ((x, .mk loc1 k1), s') → ∃ k2, ((exec C eg n km a (.mk loc k')).bind (xThen (exec C eg n km b))) s = some ((x, .mk loc1 k2), s') ∧ EqK k1 k2 := by
      intro a b hab
      obtain ⟨⟨x1, ⟨l2, k2⟩⟩, s1, h1, h2⟩ := bind_some hab
      obtain ⟨k3, h3, h4⟩ := ih km a loc k k' h _ _ _ _ _ h1
      rw [bind_run h3]
      cases x1 with
      | normal => exact ih km b l2 k2 k3 h4 _ _ _ _ _ h2
      | exit j =>
        obtain ⟨h5, rfl⟩ := ret_some (show M.ret (Ex.exit j, Env.mk l2 k2) s1 = _ from h2)
        cases h5
        exact ⟨k3, rfl, h4⟩
      | ret =>
        obtain ⟨h5, rfl⟩ := ret_some (show M.ret (Ex.ret, Env.mk l2 k2) s1 = _ from h2)
        cases h5
        exact ⟨k3, rfl, h4⟩
    cases c
    case skip =>
      obtain ⟨h1, rfl⟩ := ret_some (show M.ret (Ex.normal, Env.mk loc k) s = _ from hr)
      cases h1
      exact ⟨k', rfl, h⟩
    case region id ops draw => exact sim_xRegion h _ _ _ _ _ hr
    case seq a b => exact two a b hr
    case cond c a b =>
      have hr' : xCond (exec C eg n) km (.mk loc k) c a b s = _ := hr
      show ∃ k2, xCond (exec C eg n) km (.mk loc k') c a b s = _ ∧ _
      unfold xCond at hr' ⊢
      rw [← congrFun (evalA_eq (loc := loc) h) c]
      generalize evalA (Env.mk loc k) c = q at hr' ⊢
      cases q with
      | bool p =>
        cases p with
        | true => exact ih km a loc k k' h _ _ _ _ _ hr'
        | false => exact ih km b loc k k' h _ _ _ _ _ hr'
      | _ => exact (fail_some (s := s) hr').elim
    case block id b =>
      obtain ⟨⟨x1, ⟨l2, k2⟩⟩, s1, h1, h2⟩ := bind_some (show ((exec C eg n km b (.mk loc k)).bind (xBlock id)) s = _ from hr)
      obtain ⟨k3, h3, h4⟩ := ih km b loc k k' h _ _ _ _ _ h1
      show ∃ k5, ((exec C eg n km b (.mk loc k')).bind (xBlock id)) s = _ ∧ _
      rw [bind_run h3]
      cases x1 with
      | normal =>
        obtain ⟨h5, rfl⟩ := ret_some (show M.ret (Ex.normal, Env.mk l2 k2) s1 = _ from h2)
        cases h5
        exact ⟨k3, rfl, h4⟩
      | ret =>
        obtain ⟨h5, rfl⟩ := ret_some (show M.ret (Ex.ret, Env.mk l2 k2) s1 = _ from h2)
        cases h5
        exact ⟨k3, rfl, h4⟩
      | exit j =>
        have h2' : (bif Nat.beq j id then M.ret (Ex.normal, Env.mk l2 k2) else M.ret (Ex.exit j, Env.mk l2 k2)) s1 = _ := h2
        show ∃ k5, (bif Nat.beq j id then M.ret (Ex.normal, Env.mk l2 k3) else M.ret (Ex.exit j, Env.mk l2 k3)) s1 = _ ∧ _
        cases hj : Nat.beq j id with
        | true =>
          rw [hj] at h2'
          obtain ⟨h5, rfl⟩ := ret_some h2'
          cases h5
          exact ⟨k3, rfl, h4⟩
        | false =>
          rw [hj] at h2'
          obtain ⟨h5, rfl⟩ := ret_some h2'
          cases h5
          exact ⟨k3, rfl, h4⟩
    case loop b => exact two b (.loop b) hr
    case exit id =>
      obtain ⟨h1, rfl⟩ := ret_some (show M.ret (Ex.exit id, Env.mk loc k) s = _ from hr)
      cases h1
      exact ⟨k', rfl, h⟩
    case ret =>
      obtain ⟨h1, rfl⟩ := ret_some (show M.ret (Ex.ret, Env.mk loc k) s = _ from hr)
      cases h1
      exact ⟨k', rfl, h⟩
    all_goals exact (fail_some (s := s) (show M.fail s = _ from hr)).elim
end sim

/-- A post that cannot tell frames that read alike. -/
def Resp (Q : Ex → Env → St → Prop) : Prop := ∀ x loc k k' s, EqK k k' → Q x (.mk loc k) s → Q x (.mk loc k') s

section swap
variable {C : Ctx} {eg : TypeId → Bool} {km : Nat} {c b : Code} {loc k k' : L} {s : St} {Q : Ex → Env → St → Prop}

theorem Wx.swap (hQ : Resp Q) (hk : EqK k k') (h : Wx C eg km c (.mk loc k) s Q) : Wx C eg km c (.mk loc k') s Q := by
  obtain ⟨n, x, ⟨l1, k1⟩, s', h1, h2⟩ := h
  obtain ⟨k2, h3, h4⟩ := sim_exec n km c loc k k' hk _ _ _ _ _ h1
  exact ⟨n, x, _, s', h3, hQ _ _ _ _ _ h4 h2⟩

theorem Resp.then (hQ : Resp Q) : Resp (Then C eg km b Q) := by
  intro x loc k k' s hk h
  cases x with
  | normal => exact Wx.swap hQ hk h
  | exit j => exact hQ _ _ _ _ _ hk h
  | ret => exact hQ _ _ _ _ _ hk h

theorem Resp.out {id : Nat} (hQ : Resp Q) : Resp (Out id Q) := by
  intro x loc k k' s hk h
  cases x with
  | normal => exact hQ _ _ _ _ _ hk h
  | ret => exact hQ _ _ _ _ _ hk h
  | exit j =>
    unfold Out at h ⊢
    simp only at h ⊢
    split
    · rw [if_pos ‹_›] at h; exact hQ _ _ _ _ _ hk h
    · rw [if_neg ‹_›] at h; exact hQ _ _ _ _ _ hk h

theorem readVars_eq (hk : EqK k k') (rs : List ResultVar) : readVars C (.mk loc k) rs = readVars C (.mk loc k') rs := by
  have hr := rd_eq (loc := loc) hk
  induction rs with
  | nil => rfl
  | cons r rs ih =>
    show ((readVar C (.mk loc k) r).bind fun v => (readVars C (.mk loc k) rs).bind fun vs => M.ret (v :: vs)) = ((readVar C (.mk loc k') r).bind fun v => (readVars C (.mk loc k') rs).bind fun vs => M.ret (v :: vs))
    rw [ih]
    cases r <;> (unfold readVar; simp only [hr])

theorem Resp.fn {rs : List ResultVar} {P : Value → St → Prop} : Resp fun x e s => (x = .normal ∨ x = .ret) ∧ Wres C e rs s P := by
  intro x loc k k' s hk h
  obtain ⟨h1, v, s', h2, h3⟩ := h
  refine ⟨h1, v, s', ?_, h3⟩
  unfold resultsA at h2 ⊢
  rw [← readVars_eq hk]; exact h2

/-- What a round comes to: the invariant anew at a lower number (of slots that read alike), or an end. -/
def RoundE (J : Nat → L → St → Prop) (m : Nat) (Q : Ex → Env → St → Prop) (x : Ex) (e : Env) (s : St) : Prop :=
  match x with | .normal => ∃ m' k k1, m' < m ∧ e = .mk .nil k ∧ EqK k1 k ∧ J m' k1 s | x => Q x e s

theorem Resp.round {J : Nat → L → St → Prop} {m : Nat} (hQ : Resp Q) : Resp (RoundE J m Q) := by
  intro x loc k k' s hk h
  cases x with
  | normal =>
    obtain ⟨m', k2, k1, h1, h2, h3, h4⟩ := h
    cases h2
    exact ⟨m', k', k1, h1, rfl, h3.trans hk, h4⟩
  | exit j => exact hQ _ _ _ _ _ hk h
  | ret => exact hQ _ _ _ _ _ hk h

/-- A loop by an invariant. -/
theorem Wx.loopE (J : Nat → L → St → Prop) (m : Nat) (k0 : L) (hQ : Resp Q) (hk : EqK k0 k) (h0 : J m k0 s) (hr : ∀ m k s, J m k s → Wx C eg km b (.mk .nil k) s (RoundE J m Q)) : Wx C eg km (.loop b) (.mk .nil k) s Q := by
  induction m using Nat.strongRecOn generalizing k0 k s with
  | ind m ih =>
    refine Wx.swap hQ hk (Wx.loop1 ((hr m k0 s h0).mono fun x e' s' h => ?_))
    cases x with
    | normal =>
      obtain ⟨m', k2, k1, h1, rfl, h3, h4⟩ := h
      exact ih m' h1 k1 h3 h4
    | exit j => exact h
    | ret => exact h

theorem RoundE.go {J : Nat → L → St → Prop} {m : Nat} (m' : Nat) (k1 : L) (h1 : m' < m) (h2 : EqK k1 k) (h3 : J m' k1 s) : RoundE J m Q .normal (.mk .nil k) s := ⟨m', k, k1, h1, rfl, h2, h3⟩
theorem RoundE.ex {J : Nat → L → St → Prop} {m j : Nat} {e : Env} (h : Q (.exit j) e s) : RoundE J m Q (.exit j) e s := h
theorem RoundE.rt {J : Nat → L → St → Prop} {m : Nat} {e : Env} (h : Q .ret e s) : RoundE J m Q .ret e s := h
end swap
end Go.Ab
end
section
/- Stores: one anew, put, get (the abstract machine). -/
namespace Go.Ab.Seat
open Go.Extern Go.Proofs
set_option linter.unusedSimpArgs false
set_option linter.unusedVariables false
set_option maxRecDepth 4000
set_option pp.deepTerms false
set_option pp.deepTerms.threshold 6
variable {sm : Nat → Option (List Value → M Value)}

abbrev itv (id : Int) (v : Value) (pay : ByteArray) (seq : Int) (g : Bool) : Value := .agg ⟨[.int .i64 id, v, .string pay, .int .i64 seq, .bool g]⟩
abbrev it0 : Value := itv 0 (.slice none 0 0) .empty 0 false
structure It where
  id : Int
  vec : Value
  xs : List Value
  pay : ByteArray
  seq : Int
  gone : Bool
abbrev It.val (x : It) : Value := itv x.id x.vec x.pay x.seq x.gone

/-- An entry of a store's map. -/
def Ent (h : T AObj) (p m : Nat) (U : Nat → Prop) (e : Value × Value × Nat) : Prop :=
  ∃ it : It, e.1 = .int .i64 it.id ∧ e.2.1 = it.val ∧ Own h 0 it.vec it.xs.length it.xs ∧ ∀ b, blkOf it.vec = some b → U b ∧ b ≠ p ∧ b ≠ m

structure StoreR (h : T AObj) (p m : Nat) (es : List (Value × Value × Nat)) (n : Nat) (U : Nat → Prop) : Prop where
  ptr : Has h p (.cells [.map (some m)])
  map : Has h m (.map es n)
  pU : U p
  mU : U m
  ents : ∀ e ∈ es, Ent h p m U e

theorem StoreR.ne {h : T AObj} {p m : Nat} {es : List (Value × Value × Nat)} {n : Nat} {U : Nat → Prop} (q : StoreR h p m es n U) : p ≠ m := by
  rintro rfl
  have h1 := q.ptr
  have h2 := q.map
  unfold Has at h1 h2
  rw [h1] at h2
  cases h2

theorem StoreR.keys {h : T AObj} {p m : Nat} {es : List (Value × Value × Nat)} {n : Nat} {U : Nat → Prop} (q : StoreR h p m es n U) : KeysI .i64 es := fun e he => by
  obtain ⟨it, h1, _⟩ := q.ents e he
  exact ⟨it.id, h1⟩

theorem Ent.keep {h h' : T AObj} {p m c : Nat} {U : Nat → Prop} {e : Value × Value × Nat} (x : Ent h p m U e) (hf : Fresh h c) (k : ∀ b, U b → b < c → b ≠ p → b ≠ m → h'.get b = h.get b) : Ent h' p m U e := by
  obtain ⟨it, h1, h2, h3, h4⟩ := x
  exact ⟨it, h1, h2, h3.keep fun b hb => k b (h4 b hb).1 ((h3.blk hb).2.lt hf) (h4 b hb).2.1 (h4 b hb).2.2, h4⟩

theorem Ent.wide {h : T AObj} {p m : Nat} {U U' : Nat → Prop} {e : Value × Value × Nat} (x : Ent h p m U e) (k : ∀ b, U b → U' b) : Ent h p m U' e := by
  obtain ⟨it, h1, h2, h3, h4⟩ := x
  exact ⟨it, h1, h2, h3, fun b hb => ⟨k b (h4 b hb).1, (h4 b hb).2⟩⟩

theorem StoreR.keep {h h' : T AObj} {c p m : Nat} {es : List (Value × Value × Nat)} {n : Nat} {U : Nat → Prop} (q : StoreR h p m es n U) (hf : Fresh h c) (k : ∀ b, U b → b < c → h'.get b = h.get b) : StoreR h' p m es n U :=
  ⟨(k p q.pU (q.ptr.lt hf)).trans q.ptr, (k m q.mU (q.map.lt hf)).trans q.map, q.pU, q.mU, fun e he => (q.ents e he).keep hf fun b hb hc _ _ => k b hb hc⟩

theorem StoreR.wide {h : T AObj} {p m : Nat} {es : List (Value × Value × Nat)} {n : Nat} {U U' : Nat → Prop} (q : StoreR h p m es n U) (k : ∀ b, U b → U' b) : StoreR h p m es n U' :=
  ⟨q.ptr, q.map, k _ q.pU, k _ q.mU, fun e he => (q.ents e he).wide k⟩

theorem mem_modA (k v : Value) : ∀ (es : List (Value × Value × Nat)) (i : Nat) e, e ∈ modA k v es i → e ∈ es ∨ (e.1 = k ∧ e.2.1 = v) := by
  intro es
  induction es with
  | nil => intro i e h; simp [modA] at h
  | cons x es ih =>
    intro i e h
    obtain ⟨a, b, d⟩ := x
    cases i with
    | zero =>
      simp only [modA, List.mem_cons] at h
      rcases h with rfl | h
      · exact .inr ⟨rfl, rfl⟩
      · exact .inl (List.mem_cons_of_mem _ h)
    | succ i =>
      simp only [modA, List.mem_cons] at h
      rcases h with rfl | h
      · exact .inl (List.mem_cons_self ..)
      · exact (ih i e h).imp (List.mem_cons_of_mem _) id

theorem mem_putI {x : Int} {v : Value} {n : Nat} {es : List (Value × Value × Nat)} {e : Value × Value × Nat} (h : e ∈ (putI .i64 x v n es).1) : e ∈ es ∨ (e.1 = .int .i64 x ∧ e.2.1 = v) := by
  unfold putI at h
  split at h
  · exact mem_modA _ _ _ _ _ h
  · rcases List.mem_append.1 h with h | h
    · exact .inl h
    · obtain rfl := List.mem_singleton.1 h
      exact .inr ⟨rfl, rfl⟩

theorem snew_spec (H : Std sm) {h : T AObj} {c : Nat} {rl wl : List Nat} (hf : Fresh h c) :
    ∃ r s', FnTo (Cs sm) eg 11 [] ⟨h, c, rl, wl⟩ r s' ∧ r = .pointer (some ⟨c + 1, 0, none⟩) ∧ StoreR s'.h (c + 1) c [] 0 (fun b => c ≤ b ∧ b < c + 2) ∧ s'.c = c + 2 ∧ Ext ⟨h, c, rl, wl⟩ s' (fun _ => False) (fun _ => False) := by
  refine Fn.go (H 11 rfl) ex11 fn11 km11 rfl rfl ?_
  intro e he
  (simp only [ke, Nat.testBit, Nat.reduceShiftRight, Nat.reduceAnd, Nat.reduceBNe, Nat.reduceEqDiff, Nat.reduceAdd, ↓reduceIte, reduceCtorEq, Bool.false_eq_true] at he; subst he)
  (repeat (first | (with_reducible refine Then.go ?_) | (with_reducible refine Wx.seq ?_) | (with_reducible refine Wx.ret ?_) | (with_reducible refine Wx.reg ?_) | ((with_reducible refine Wseq.nil ?_); intro e he; (simp only [ke, Nat.testBit, Nat.reduceShiftRight, Nat.reduceAnd, Nat.reduceBNe, Nat.reduceEqDiff, Nat.reduceAdd, ↓reduceIte, reduceCtorEq, Bool.false_eq_true] at he; subst he)) | ((with_reducible apply Wseq.as); rfl; (intro v hv; (simp only [kv, Nat.reduceEqDiff, eq_self, ↓reduceIte, reduceCtorEq, List.map_cons, List.map_nil] at hv); subst hv)) | ((with_reducible apply Wseq.bx); rfl; exact (by ((repeat (apply Fresh.put; omega)); ((exact Fresh.up (by assumption) (by omega))))); (intro v hv; (simp only [kv, Nat.reduceEqDiff, eq_self, ↓reduceIte, reduceCtorEq, List.map_cons, List.map_nil] at hv); subst hv); refine ⟨_, (by ((exact cellsA_agg _))), ?_⟩) | ((with_reducible apply Wseq.bd); rfl; exact (bt_ rfl); (intro v hv; (simp only [kv, Nat.reduceEqDiff, eq_self, ↓reduceIte, reduceCtorEq, List.map_cons, List.map_nil] at hv); subst hv); refine ⟨_, rfl, ?_⟩) | ((with_reducible apply Wseq.stg (op := Op.makeMap _ _)); rfl; exact to_makeMap (by ((repeat (apply Fresh.put; omega)); ((assumption)))))))
  refine ⟨.inr rfl, Wres.one rfl ⟨rfl, ⟨Has.same, Has.other (by omega) Has.same, (by omega), (by omega), fun e he => by cases he⟩, rfl, ?_⟩⟩
  (dsimp only; exact Ext.of (by omega) (by ((repeat (apply Fresh.put; omega)); ((exact Fresh.up (by assumption) (by omega))))) (by (repeat (first | (exact Kp.refl) | (apply Kp.set; (focus (left; omega)))))) (by (repeat ((exact Lg.nil)))) (by (repeat ((exact Lg.nil)))))

theorem sat_spec (H : Std sm) {h : T AObj} {c : Nat} {rl wl : List Nat} (hf : Fresh h c) (z : Int) (hz : z ≠ 0) :
    ∃ v s', FnTo (Cs sm) eg 53 [.int .i64 z] ⟨h, c, rl, wl⟩ v s' ∧ (∃ w, v = .iface 122 (.pointer (some ⟨c, 0, none⟩)) ∧ s' = ⟨h.set c (some (.cells [.string w, .iface 35 (.int .i64 z)])), c + 1, rl, wl⟩) := by
  refine Fn.go (H 53 rfl) ex53 fn53 km53 rfl rfl ?_
  intro e he
  (simp only [ke, Nat.testBit, Nat.reduceShiftRight, Nat.reduceAnd, Nat.reduceBNe, Nat.reduceEqDiff, Nat.reduceAdd, ↓reduceIte, reduceCtorEq, Bool.false_eq_true] at he; subst he)
  (repeat (first | (with_reducible refine Then.go ?_) | (with_reducible refine Wx.seq ?_) | (with_reducible refine Wx.reg ?_) | ((with_reducible refine Wseq.nil ?_); intro e he; (simp only [ke, Nat.testBit, Nat.reduceShiftRight, Nat.reduceAnd, Nat.reduceBNe, Nat.reduceEqDiff, Nat.reduceAdd, ↓reduceIte, reduceCtorEq, Bool.false_eq_true] at he; subst he)) | ((with_reducible apply Wseq.mv); rfl; (intro v hv; (simp only [kv, Nat.reduceEqDiff, eq_self, ↓reduceIte, reduceCtorEq, List.map_cons, List.map_nil] at hv); subst hv)) | ((with_reducible apply Wseq.as); rfl; (intro v hv; (simp only [kv, Nat.reduceEqDiff, eq_self, ↓reduceIte, reduceCtorEq, List.map_cons, List.map_nil] at hv); subst hv)) | ((with_reducible apply Wseq.mi); rfl; exact (if_ rfl); (intro v hv; (simp only [kv, Nat.reduceEqDiff, eq_self, ↓reduceIte, reduceCtorEq, List.map_cons, List.map_nil] at hv); subst hv))))
  refine Wseq.call rfl rfl (at_spec H (by ((repeat (apply Fresh.put; omega)); ((assumption)))) _ z hz) ?_
  rintro v' h1 c1 r1 w1 ⟨rfl, e1⟩
  cases e1
  (repeat (first | (with_reducible refine Then.go ?_) | (with_reducible refine Wx.ret ?_) | ((with_reducible refine Wseq.nil ?_); intro e he; (simp only [ke, Nat.testBit, Nat.reduceShiftRight, Nat.reduceAnd, Nat.reduceBNe, Nat.reduceEqDiff, Nat.reduceAdd, ↓reduceIte, reduceCtorEq, Bool.false_eq_true] at he; subst he)) | ((with_reducible apply Wseq.as); rfl; (intro v hv; (simp only [kv, Nat.reduceEqDiff, eq_self, ↓reduceIte, reduceCtorEq, List.map_cons, List.map_nil] at hv); subst hv))))
  exact ⟨.inr rfl, Wres.one rfl ⟨_, rfl, rfl⟩⟩

theorem scopied_spec (H : Std sm) {h : T AObj} {c : Nat} {rl wl : List Nat} (hf : Fresh h c) (id : Int) (pay : ByteArray) (seq : Int) (g : Bool) {a : Option Addr} {n cap : Nat} {xs : List Value} (hv : Row h (.slice a n cap) n 1 xs) (hn : n ≤ big) (hz : n = 0 → a = none → cap = 0) (bs : Nat → Prop) (hbs : ∀ b o sp, a = some ⟨b, o, sp⟩ → bs b) :
    ∃ r s', FnTo (Cs sm) eg 54 [itv id (.slice a n cap) pay seq g] ⟨h, c, rl, wl⟩ r s' ∧ ∃ v', r = itv id v' pay seq g ∧ Own s'.h c v' n xs ∧ Ext ⟨h, c, rl, wl⟩ s' bs (fun _ => False) := by
  refine Fn.go (H 54 rfl) ex54 fn54 km54 rfl rfl ?_
  intro e he
  (simp only [ke, Nat.testBit, Nat.reduceShiftRight, Nat.reduceAnd, Nat.reduceBNe, Nat.reduceEqDiff, Nat.reduceAdd, ↓reduceIte, reduceCtorEq, Bool.false_eq_true] at he; subst he)
  (repeat (first | (with_reducible refine Then.go ?_) | (with_reducible refine Wx.seq ?_) | (with_reducible refine Wx.reg ?_) | ((with_reducible refine Wseq.nil ?_); intro e he; (simp only [ke, Nat.testBit, Nat.reduceShiftRight, Nat.reduceAnd, Nat.reduceBNe, Nat.reduceEqDiff, Nat.reduceAdd, ↓reduceIte, reduceCtorEq, Bool.false_eq_true] at he; subst he)) | ((with_reducible apply Wseq.bx); rfl; exact (by ((repeat (apply Fresh.put; omega)); ((assumption)))); (intro v hv; (simp only [kv, Nat.reduceEqDiff, eq_self, ↓reduceIte, reduceCtorEq, List.map_cons, List.map_nil] at hv); subst hv); refine ⟨_, (by ((exact cellsA_agg _))), ?_⟩) | ((with_reducible apply Wseq.stg (op := Op.fieldAddr _ _ _)); rfl; exact to_fieldAddr (fa_ rfl) rfl) | ((with_reducible apply Wseq.stg (op := Op.load _ _)); rfl; exact to_load (pl_ rfl) rfl (by (repeat (first | (exact Has.same.cel) | (apply Cel.other; omega)))) (by omega) (by rfl)) | ((with_reducible apply Wseq.stg (op := Op.alloc _)); rfl; exact to_alloc (ze_ rfl) (by ((exact cellsA_agg _))) (by ((repeat (apply Fresh.put; omega)); ((exact Fresh.up (by assumption) (by omega))))))))
  refine Wseq.call rfl rfl (copy_spec H (v := .slice a n cap) (n := n) (xs := xs) (by ((repeat (apply Fresh.put; omega)); ((exact Fresh.up (by assumption) (by omega))))) ?_ hn ?_ bs ?_) ?_
  · exact (hv.new hf).new hf.new
  · exact fun h0 => ⟨a, cap, by rw [h0], hz h0⟩
  · rintro b o sp n' cap' ⟨⟩
    exact hbs _ _ _ rfl
  rintro v' h1 c1 rl1 wl1 ⟨hown, hext⟩
  obtain ⟨a', k', rfl⟩ := hown.val
  have q1 := hext.c
  dsimp only at q1
  have g1 := hext.hs (b := c) (Has.other (by omega) Has.same) (by omega) (fun q => q)
  have g2 := hext.hs (b := c + 1) Has.same (by omega) (fun q => q)
  have hf1 : Fresh h1 c1 := hext.fresh
  have kp := Kp.ext (W := fun _ => False) (h := h) (c := c) (by (repeat (first | (exact Kp.refl) | (apply Kp.set; (focus (left; omega)))))) hext (by omega) (fun _ _ q => q)
  have lr := Lg.extR (R := bs) (c := c) (by (repeat (first | (exact Lg.nil) | (apply Lg.cons; (focus (left; omega)))))) hext (fun _ _ q => q)
  have lw := Lg.extW (W := fun _ => False) (c := c) (by (repeat ((exact Lg.nil)))) hext (fun _ _ q => q)
  (repeat (first | (with_reducible refine Then.go ?_) | (with_reducible refine Wx.seq ?_) | (with_reducible refine Wx.ret ?_) | (with_reducible refine Wx.reg ?_) | ((with_reducible refine Wseq.nil ?_); intro e he; (simp only [ke, Nat.testBit, Nat.reduceShiftRight, Nat.reduceAnd, Nat.reduceBNe, Nat.reduceEqDiff, Nat.reduceAdd, ↓reduceIte, reduceCtorEq, Bool.false_eq_true] at he; subst he)) | ((with_reducible apply Wseq.so); rfl; exact (sz_ rfl); rfl; exact (by (repeat (first | (assumption) | (apply Has.other; omega)))); omega; (intro v hv; (simp only [kv, Nat.reduceEqDiff, eq_self, ↓reduceIte, reduceCtorEq, List.map_cons, List.map_nil] at hv); subst hv); refine ⟨_, _, (by ((exact cellsA_agg _))), rfl, rfl, ?_⟩) | ((with_reducible apply Wseq.stg (op := Op.fieldAddr _ _ _)); rfl; exact to_fieldAddr (fa_ rfl) rfl) | ((with_reducible apply Wseq.stg (op := Op.load _ _)); rfl; exact to_loadS (ag_ rfl) rfl (by (repeat ((exact Has.same.cel)))) (by omega) (by rfl))))
  refine ⟨.inr rfl, Wres.cell rfl ag59 (by (repeat ((exact Has.same.cel)))) (by omega) (by rfl) ⟨_, rfl, ?_, ?_⟩⟩
  · exact (((hown.set (by omega)).set (by omega))).low (by omega)
  · (dsimp only; exact Ext.of (by omega) (by ((repeat (apply Fresh.put; omega)); ((assumption)))) (by (repeat (first | (assumption) | (apply Kp.set; (focus (left; omega)))))) (by (repeat (first | (assumption) | (apply Lg.cons; (focus (left; omega)))))) (by (repeat (first | (assumption) | (apply Lg.cons; (focus (left; omega)))))))

/-- What there is of an id; nothing: nought. -/
noncomputable def curV (id : Int) (es : List (Value × Value × Nat)) : Value := match findI id es with | some p => p.2 | none => it0

theorem sput_form (H : Std sm) {h : T AObj} {c : Nat} {rl wl : List Nat} (hf : Fresh h c) {p m n : Nat} {es : List (Value × Value × Nat)} {U : Nat → Prop} (q : StoreR h p m es n U) (id seq : Int) (pay : ByteArray) (h1 : 1 ≤ id) (h2 : id ≤ 1000) (hp : pay.size ≤ 40) (a : Option Addr) (k cap : Nat)
    {i0 : Int} {v0 : Value} {p0 : ByteArray} {s0 : Int} {g0 : Bool} (hcur : curV id es = itv i0 v0 p0 s0 g0) (hs : seq ≤ s0) :
    ∃ r s', FnTo (Cs sm) eg 12 [.pointer (some ⟨p, 0, none⟩), .int .i64 id, .slice a k cap, .string pay, .int .i64 seq] ⟨h, c, rl, wl⟩ r s' ∧ (∃ b, r = .iface 122 (.pointer (some ⟨b, 0, none⟩)) ∧ c ≤ b ∧ b < s'.c ∧ ∃ w, Has s'.h b (.cells [.string w, .iface 35 (.int .i64 1)])) ∧ Ext ⟨h, c, rl, wl⟩ s' U (fun _ => False) := by
  have hp1 := q.ptr
  have hm1 := q.map
  have hU := q.pU
  have hU' := q.mU
  have hpc := hp1.lt hf
  have hmc := hm1.lt hf
  refine Fn.go (H 12 rfl) ex12 fn12 km12 rfl rfl ?_
  intro e he
  (simp only [ke, Nat.testBit, Nat.reduceShiftRight, Nat.reduceAnd, Nat.reduceBNe, Nat.reduceEqDiff, Nat.reduceAdd, ↓reduceIte, reduceCtorEq, Bool.false_eq_true] at he; subst he)
  (repeat (first | (with_reducible refine Then.go ?_) | (with_reducible refine Wx.seq ?_) | (with_reducible refine Wx.block ?_) | (with_reducible refine Wx.reg ?_) | (refine Wx.condF rfl (by rfl) ?_) | ((with_reducible refine Wseq.nil ?_); intro e he; (simp only [ke, Nat.testBit, Nat.reduceShiftRight, Nat.reduceAnd, Nat.reduceBNe, Nat.reduceEqDiff, Nat.reduceAdd, ↓reduceIte, reduceCtorEq, Bool.false_eq_true] at he; subst he)) | ((with_reducible apply Wseq.mv); rfl; (intro v hv; (simp only [kv, Nat.reduceEqDiff, eq_self, ↓reduceIte, reduceCtorEq, List.map_cons, List.map_nil] at hv); subst hv)) | ((with_reducible apply Wseq.as); rfl; (intro v hv; (simp only [kv, Nat.reduceEqDiff, eq_self, ↓reduceIte, reduceCtorEq, List.map_cons, List.map_nil] at hv); subst hv)) | ((with_reducible apply Wseq.pkF); rfl; rfl; (intro v hv; (simp only [kv, Nat.reduceEqDiff, eq_self, ↓reduceIte, reduceCtorEq, List.map_cons, List.map_nil] at hv); subst hv)) | ((with_reducible apply Wseq.stg (op := Op.fieldAddr _ _ _)); rfl; exact to_fieldAddr (fa_ rfl) rfl) | ((with_reducible apply Wseq.stg (op := Op.load _ _)); rfl; exact to_load (pl_ rfl) rfl (by (repeat ((apply Has.cel; assumption)))) (by omega) (by rfl)) | ((with_reducible apply Wseq.stg (op := Op.nilCheck _)); rfl; exact to_nilCheck rfl) | ((with_reducible apply Wseq.stg (op := Op.call ⟨Callee.builtin Builtin.len, _, _⟩)); rfl; exact to_lenStr (sr_ rfl) rfl) | ((with_reducible apply Wseq.stg (op := Op.binOp BinOp.lss _ _ _ _)); rfl; exact to_lssF rfl rfl (by omega)) | ((with_reducible apply Wseq.stg (op := Op.binOp BinOp.gtr _ _ _ _)); rfl; exact to_gtrF rfl rfl (by omega)) | ((with_reducible apply Wseq.stg (op := Op.binOp BinOp.eql _ _ _ _)); rfl; exact to_eqP (un_ rfl) rfl rfl)))
  ((with_reducible apply Wseq.stg); rfl; exact to_lookup mi113 ze59 rfl rfl hm1 (by omega) q.keys hcur)
  (repeat (first | (with_reducible refine Then.go ?_) | (with_reducible refine Wx.seq ?_) | (with_reducible refine Wx.reg ?_) | (refine Wx.condT rfl (by rfl) ?_) | ((with_reducible refine Wseq.nil ?_); intro e he; (simp only [ke, Nat.testBit, Nat.reduceShiftRight, Nat.reduceAnd, Nat.reduceBNe, Nat.reduceEqDiff, Nat.reduceAdd, ↓reduceIte, reduceCtorEq, Bool.false_eq_true] at he; subst he)) | ((with_reducible apply Wseq.as); rfl; (intro v hv; (simp only [kv, Nat.reduceEqDiff, eq_self, ↓reduceIte, reduceCtorEq, List.map_cons, List.map_nil] at hv); subst hv)) | ((with_reducible apply Wseq.stg (op := Op.field _ _ _)); rfl; exact to_field (fa_ rfl) (pl_ rfl) rfl rfl) | ((with_reducible apply Wseq.stg (op := Op.binOp BinOp.leq _ _ _ _)); rfl; exact to_leqT rfl rfl (by omega))))
  refine Wseq.call rfl rfl (sat_spec H (by ((repeat (apply Fresh.put; omega)); ((assumption)))) 1 (by decide)) ?_
  rintro v' h1 c1 r1 w1 ⟨w, rfl, e1⟩
  cases e1
  (repeat (first | (with_reducible refine Then.go ?_) | (with_reducible refine Then.rt ?_) | (with_reducible refine Out.rt ?_) | (with_reducible refine Wx.ret ?_) | ((with_reducible refine Wseq.nil ?_); intro e he; (simp only [ke, Nat.testBit, Nat.reduceShiftRight, Nat.reduceAnd, Nat.reduceBNe, Nat.reduceEqDiff, Nat.reduceAdd, ↓reduceIte, reduceCtorEq, Bool.false_eq_true] at he; subst he)) | ((with_reducible apply Wseq.as); rfl; (intro v hv; (simp only [kv, Nat.reduceEqDiff, eq_self, ↓reduceIte, reduceCtorEq, List.map_cons, List.map_nil] at hv); subst hv))))
  refine ⟨.inr rfl, Wres.one rfl ⟨⟨_, rfl, by omega, by dsimp only; omega, _, Has.same⟩, ?_⟩⟩
  (dsimp only; exact Ext.of (by omega) (by ((repeat (apply Fresh.put; omega)); ((exact Fresh.up (by assumption) (by omega))))) (by (repeat (first | (exact Kp.refl) | (apply Kp.set; (focus (left; omega)))))) (by (repeat (first | (exact Lg.nil) | (apply Lg.cons; (focus ((right; (assumption)))))))) (by (repeat ((exact Lg.nil)))))
end Go.Ab.Seat
end
