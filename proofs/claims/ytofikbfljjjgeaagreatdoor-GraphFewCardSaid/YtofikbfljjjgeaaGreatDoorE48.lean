import Derived.Test.YtofikbfljjjgeaaGreatDoorE43
set_option linter.unusedVariables false
set_option linter.unusedSimpArgs false
section
/- Rules over the abstract machine: frames that read alike run alike; a loop by an invariant, its slots in a set order. -/
namespace Go.Ab
def EqK (k k' : L) : Prop := ∀ t, k.look (fun _ => top) t = k'.look (fun _ => top) t
theorem EqK.refl (k : L) : EqK k k := fun _ => rfl
theorem EqK.trans {a b c : L} (h : EqK a b) (k : EqK b c) : EqK a c := fun t => (h t).trans (k t)
theorem look_out : ∀ (l : L) (t : Nat), t ∉ l.keys → l.look (fun _ => top) t = top := by
 intro l
 induction l with
 | nil => intro t _; rfl
 | cons k v l ih =>
  intro t h
  rw [keys_cons] at h
  rw [look_if, if_neg (fun e => h (by rw [e]; exact List.mem_cons_self ..))]
  exact ih t fun q => h (List.mem_cons_of_mem _ q)
theorem EqK.of {a b : L} (h : ∀ t ∈ a.keys, a.look (fun _ => top) t = b.look (fun _ => top) t) (k : ∀ t ∈ b.keys, a.look (fun _ => top) t = b.look (fun _ => top) t) : EqK a b := fun t => by
 by_cases h1 : t ∈ a.keys
 ·exact h t h1
 ·by_cases h2 : t ∈ b.keys
  ·exact k t h2
  ·rw [look_out a t h1, look_out b t h2]
theorem look_def (l : L) (d : Nat → Value) (t : Nat) : l.look d t = l.look (fun _ => d t) t := by
 induction l with
 | nil => rfl
 | cons k v l ih => rw [look_if, look_if]; split; (· rfl); exact ih
theorem look_dflt (l : L) (k k' : L) (h : EqK k k') (t : Nat) : l.look (k.look fun _ => top) t = l.look (k'.look fun _ => top) t := by
 rw [look_def l _ t, look_def l (k'.look fun _ => top) t, h t]
theorem rd_eq {loc k k' : L} (h : EqK k k') : rd (.mk loc k) = rd (.mk loc k') := funext fun t => look_dflt loc k k' h t
theorem evalA_eq {loc k k' : L} (h : EqK k k') : evalA (.mk loc k) = evalA (.mk loc k') := by
 funext x
 cases x with
 | tmp t => exact congrFun (rd_eq h) t
 | const v => rfl
 | global g => rfl
 | func f => rfl
theorem look_setL (d : Nat) (v : Value) : ∀ (l : L) (t : Nat), (L.set d v l).look (fun _ => top) t = if d = t then v else l.look (fun _ => top) t := by
 intro l
 induction l with
 | nil => intro t; rw [st_nil, look_if]
 | cons k u l ih =>
  intro t
  rw [st_cons]
  by_cases hk : k = d
  ·subst hk
   rw [if_pos rfl, look_if, look_if]
   by_cases ht : k = t
   ·rw [if_pos ht, if_pos ht]
   ·rw [if_neg ht, if_neg ht, if_neg ht]
  ·rw [if_neg hk, look_if, look_if, ih]
   by_cases ht : k = t
   ·subst ht; rw [if_pos rfl, if_pos rfl, if_neg (fun e => hk e.symm)]
   ·rw [if_neg ht, if_neg ht]
theorem flush_eqK (km : Nat) {k k' : L} (h : EqK k k') : ∀ loc : L, EqK (flushL km loc k) (flushL km loc k') := by
 intro loc
 induction loc with
 | nil => exact h
 | cons d v loc ih =>
  intro t
  rw [flL_cons, flL_cons]
  split
  ·rw [look_setL, look_setL, ih t]
  ·exact ih t
def Sim (m m' : M (Ex × Env)) : Prop := ∀ s x loc k s', m s = some ((x, .mk loc k), s') → ∃ k', m' s = some ((x, .mk loc k'), s') ∧ EqK k k'
def SimE (m m' : M Env) : Prop := ∀ s loc k s', m s = some (.mk loc k, s') → ∃ k', m' s = some (.mk loc k', s') ∧ EqK k k'
def SimT (m m' : M (Env × List Fp)) : Prop := ∀ s loc k f s', m s = some ((.mk loc k, f), s') → ∃ k', m' s = some ((.mk loc k', f), s') ∧ EqK k k'
section sim
variable {C : Ctx} {eg : TypeId → Bool} {rec : Rec}
theorem opRun_eq {loc k k' : L} (h : EqK k k') (o : Oper) : opRun C eg rec (.mk loc k) o = opRun C eg rec (.mk loc k') o := by
 obtain ⟨dst, op, ty, pos, after, guard⟩ := o
 have he := evalA_eq (loc := loc) h
 unfold opRun
 cases op
 case move => simp only [rMove, he]
 case assign => simp only [rMove, he]
 case pick => simp only [rPick, he]
 case box => simp only [rBox, he]
 case build => simp only [rBuild, partsOf, he]
 case buildSlice => simp only [rBuildSlice, partsOf, he]
 case insert => simp only [rMapUpdate, he]
 case load => simp only [rLoad, he]
 case store => simp only [rStore, he]
 case nilCheck => simp only [rNilCheck, he]
 case binOp => simp only [rBin, he]
 case unOp => simp only [rUn, he]
 case convert => simp only [rConvert, he]
 case makeInterface => simp only [rMakeInterface, he]
 case makeFunc => simp only [rMakeFunc, he]
 case makeSlice => simp only [rMakeSlice, he]
 case slice => simp only [rSlice, he]
 case fieldAddr => simp only [rFieldAddr, he]
 case field => simp only [rField, he]
 case indexAddr => simp only [rIndexAddr, he]
 case index => simp only [rIndex, he]
 case lookup => simp only [rLookup, he]
 case mapUpdate => simp only [rMapUpdate, he]
 case typeAssert => simp only [rTypeAssert, he]
 case extract => simp only [rExtract, he]
 case call => simp only [opCall, he]
 all_goals rfl
theorem wanted_eqK {loc k k' : L} (h : EqK k k') (all : List Oper) (o : Oper) : wantedA all (.mk loc k) o = wantedA all (.mk loc k') o := by
 have hr := rd_eq (loc := loc) h
 unfold wantedA
 cases o.guard with
 | none => rfl
 | some p =>
  show metA all (.mk loc k) p.1 p.2 = metA all (.mk loc k') p.1 p.2
  unfold metA
  rw [hr]
theorem put_mk (loc k : L) (d : Option Nat) (v : Value) : put (.mk loc k) d v = .mk (match d with | none => loc | some d => .cons d v loc) k := by cases d <;> rfl
theorem sim_seqRun (all : List Oper) : ∀ (os : List Oper) (loc k k' : L), EqK k k' → SimE (seqRun C eg rec all os (.mk loc k)) (seqRun C eg rec all os (.mk loc k')) := by
 intro os
 induction os with
 | nil =>
  intro loc k k' h s loc1 k1 s' hr
  obtain ⟨h1, rfl⟩ := ret_some (show M.ret (Env.mk loc k) s = _ from hr)
  cases h1
  exact ⟨k', rfl, h⟩
 | cons o os ih =>
  intro loc k k' h s loc1 k1 s' hr
  have hr' : seqStep C eg rec (.mk loc k) o (seqRun C eg rec all os) (wantedA all (.mk loc k) o) s = _ := hr
  show ∃ k2, seqStep C eg rec (.mk loc k') o (seqRun C eg rec all os) (wantedA all (.mk loc k') o) s = _ ∧ _
  rw [← wanted_eqK h]
  cases hw : wantedA all (.mk loc k) o with
  | none => rw [hw] at hr'; exact (fail_some (s := s) hr').elim
  | some b =>
   rw [hw] at hr'
   cases b with
   | false =>
    have h2 : putE (.mk loc k) o.dst undefA (seqRun C eg rec all os) s = _ := hr'
    rw [putE_eq, put_mk] at h2
    obtain ⟨k2, h3, h4⟩ := ih _ _ k' h _ _ _ _ h2
    refine ⟨k2, ?_, h4⟩
    show putE (.mk loc k') o.dst undefA (seqRun C eg rec all os) s = _
    rw [putE_eq, put_mk]; exact h3
   | true =>
    obtain ⟨v, s1, h1, h2⟩ := bind_some (show ((opRun C eg rec (.mk loc k) o).bind fun v => putE (.mk loc k) o.dst v (seqRun C eg rec all os)) s = _ from hr')
    rw [putE_eq, put_mk] at h2
    obtain ⟨k2, h3, h4⟩ := ih _ _ k' h _ _ _ _ h2
    refine ⟨k2, ?_, h4⟩
    show ((opRun C eg rec (.mk loc k') o).bind fun v => putE (.mk loc k') o.dst v (seqRun C eg rec all os)) s = _
    rw [← opRun_eq h, bind_run h1, putE_eq, put_mk]; exact h3
theorem sim_trackRun (all : List Oper) : ∀ (os : List Oper) (loc k k' : L), EqK k k' → SimT (trackRun C eg rec all os (.mk loc k)) (trackRun C eg rec all os (.mk loc k')) := by
 intro os
 induction os with
 | nil =>
  intro loc k k' h s loc1 k1 f s' hr
  obtain ⟨h1, rfl⟩ := ret_some (show M.ret (Env.mk loc k, ([] : List Fp)) s = _ from hr)
  cases h1
  exact ⟨k', rfl, h⟩
 | cons o os ih =>
  intro loc k k' h s loc1 k1 f s' hr
  have hr' : trackStep C eg rec (.mk loc k) o (trackRun C eg rec all os) (wantedA all (.mk loc k) o) s = _ := hr
  show ∃ k2, trackStep C eg rec (.mk loc k') o (trackRun C eg rec all os) (wantedA all (.mk loc k') o) s = _ ∧ _
  rw [← wanted_eqK h]
  cases hw : wantedA all (.mk loc k) o with
  | none => rw [hw] at hr'; exact (fail_some (s := s) hr').elim
  | some b =>
   rw [hw] at hr'
   cases b with
   | false =>
    obtain ⟨p, s1, h1, h2⟩ := bind_some (show ((told (M.ret ())).bind fun p => putE (.mk loc k) o.dst undefA fun e => (trackRun C eg rec all os e).bind (trackEnd p.2)) s = _ from hr')
    rw [putE_eq, put_mk] at h2
    obtain ⟨⟨e1, f1⟩, s2, h3, h4⟩ := bind_some h2
    obtain ⟨h5, rfl⟩ := ret_some h4
    cases h5
    obtain ⟨k2, h6, h7⟩ := ih _ _ k' h _ _ _ _ _ h3
    refine ⟨k2, ?_, h7⟩
    show ((told (M.ret ())).bind fun p => putE (.mk loc k') o.dst undefA fun e => (trackRun C eg rec all os e).bind (trackEnd p.2)) s = _
    rw [bind_run h1, putE_eq, put_mk, bind_run h6]; rfl
   | true =>
    obtain ⟨p, s1, h1, h2⟩ := bind_some (show ((told (opRun C eg rec (.mk loc k) o)).bind fun p => putE (.mk loc k) o.dst p.1 fun e => (trackRun C eg rec all os e).bind (trackEnd p.2)) s = _ from hr')
    rw [putE_eq, put_mk] at h2
    obtain ⟨⟨e1, f1⟩, s2, h3, h4⟩ := bind_some h2
    obtain ⟨h5, rfl⟩ := ret_some h4
    cases h5
    obtain ⟨k2, h6, h7⟩ := ih _ _ k' h _ _ _ _ _ h3
    refine ⟨k2, ?_, h7⟩
    show ((told (opRun C eg rec (.mk loc k') o)).bind fun p => putE (.mk loc k') o.dst p.1 fun e => (trackRun C eg rec all os e).bind (trackEnd p.2)) s = _
    rw [← opRun_eq h, bind_run h1, putE_eq, put_mk, bind_run h6]; rfl
theorem sim_xRegion {km : Nat} {ops : Array Oper} {draw : Bool} {loc k k' : L} (h : EqK k k') : Sim (xRegion C eg rec km (.mk loc k) ops draw) (xRegion C eg rec km (.mk loc k') ops draw) := by
 intro s x loc1 k1 s' hr
 cases draw with
 | false =>
  obtain ⟨⟨l2, k2⟩, s1, h1, h2⟩ := bind_some (show ((seqRun C eg rec ops.toList ops.toList (.mk loc k)).bind (xFlush km)) s = _ from hr)
  unfold xFlush at h2
  rw [flush_eq] at h2
  obtain ⟨h3, rfl⟩ := ret_some h2
  cases h3
  obtain ⟨k3, h4, h5⟩ := sim_seqRun _ _ _ _ k' h _ _ _ _ h1
  refine ⟨_, ?_, flush_eqK km h5 l2⟩
  show ((seqRun C eg rec ops.toList ops.toList (.mk loc k')).bind (xFlush km)) s = _
  rw [bind_run h4]
  unfold xFlush
  rw [flush_eq]; rfl
 | true =>
  obtain ⟨⟨l2, k2⟩, s1, h1, h2⟩ := bind_some (show ((drawRun C eg rec ops (.mk loc k)).bind (xFlush km)) s = _ from hr)
  unfold xFlush at h2
  rw [flush_eq] at h2
  obtain ⟨h3, rfl⟩ := ret_some h2
  cases h3
  obtain ⟨⟨⟨l3, k3⟩, f⟩, s2, h4, h5⟩ := bind_some (show ((trackRun C eg rec ops.toList ops.toList (.mk loc k)).bind (drawEnd ops)) s = _ from h1)
  obtain ⟨k4, h6, h7⟩ := sim_trackRun _ _ _ _ k' h _ _ _ _ _ h4
  have h5' : (Bool.rec (motive := fun _ => M Env) M.fail (M.ret (.mk l3 k3)) (clashFree (Region.before ops).toList [] 0 f)) s2 = _ := h5
  cases hc : clashFree (Region.before ops).toList [] 0 f with
  | false => rw [hc] at h5'; exact (fail_some (s := s2) h5').elim
  | true =>
   rw [hc] at h5'
   obtain ⟨h8, rfl⟩ := ret_some h5'
   cases h8
   refine ⟨_, ?_, flush_eqK km h7 l2⟩
   show (((trackRun C eg rec ops.toList ops.toList (.mk loc k')).bind (drawEnd ops)).bind (xFlush km)) s = _
   have : ((trackRun C eg rec ops.toList ops.toList (.mk loc k')).bind (drawEnd ops)) s = some (.mk l2 k4, s') := by
    rw [bind_run h6]
    show (Bool.rec (motive := fun _ => M Env) M.fail (M.ret (.mk l2 k4)) (clashFree (Region.before ops).toList [] 0 f)) s' = _
    rw [hc]; rfl
   rw [bind_run this]
   unfold xFlush
   rw [flush_eq]; rfl
theorem sim_exec : ∀ (n km : Nat) (c : Code) (loc k k' : L), EqK k k' → Sim (exec C eg n km c (.mk loc k)) (exec C eg n km c (.mk loc k')) := by
 intro n
 induction n with
 | zero => intro km c loc k k' h s x loc1 k1 s' hr; exact (fail_some (s := s) (show M.fail s = _ from hr)).elim
 | succ n ih =>
  intro km c loc k k' h s x loc1 k1 s' hr
  have two : ∀ a b : Code, ((exec C eg n km a (.mk loc k)).bind (xThen (exec C eg n km b))) s = some ((x, .mk loc1 k1), s') → ∃ k2, ((exec C eg n km a (.mk loc k')).bind (xThen (exec C eg n km b))) s = some ((x, .mk loc1 k2), s') ∧ EqK k1 k2 := by
   intro a b hab
   obtain ⟨⟨x1, ⟨l2, k2⟩⟩, s1, h1, h2⟩ := bind_some hab
   obtain ⟨k3, h3, h4⟩ := ih km a loc k k' h _ _ _ _ _ h1
   rw [bind_run h3]
   cases x1 with
   | normal => exact ih km b l2 k2 k3 h4 _ _ _ _ _ h2
   | exit j =>
    obtain ⟨h5, rfl⟩ := ret_some (show M.ret (Ex.exit j, Env.mk l2 k2) s1 = _ from h2)
    cases h5
    exact ⟨k3, rfl, h4⟩
   | ret =>
    obtain ⟨h5, rfl⟩ := ret_some (show M.ret (Ex.ret, Env.mk l2 k2) s1 = _ from h2)
    cases h5
    exact ⟨k3, rfl, h4⟩
  cases c
  case skip =>
   obtain ⟨h1, rfl⟩ := ret_some (show M.ret (Ex.normal, Env.mk loc k) s = _ from hr)
   cases h1
   exact ⟨k', rfl, h⟩
  case region id ops draw => exact sim_xRegion h _ _ _ _ _ hr
  case seq a b => exact two a b hr
  case cond c a b =>
   have hr' : xCond (exec C eg n) km (.mk loc k) c a b s = _ := hr
   show ∃ k2, xCond (exec C eg n) km (.mk loc k') c a b s = _ ∧ _
   unfold xCond at hr' ⊢
   rw [← congrFun (evalA_eq (loc := loc) h) c]
   generalize evalA (Env.mk loc k) c = q at hr' ⊢
   cases q with
   | bool p =>
    cases p with
    | true => exact ih km a loc k k' h _ _ _ _ _ hr'
    | false => exact ih km b loc k k' h _ _ _ _ _ hr'
   | _ => exact (fail_some (s := s) hr').elim
  case block id b =>
   obtain ⟨⟨x1, ⟨l2, k2⟩⟩, s1, h1, h2⟩ := bind_some (show ((exec C eg n km b (.mk loc k)).bind (xBlock id)) s = _ from hr)
   obtain ⟨k3, h3, h4⟩ := ih km b loc k k' h _ _ _ _ _ h1
   show ∃ k5, ((exec C eg n km b (.mk loc k')).bind (xBlock id)) s = _ ∧ _
   rw [bind_run h3]
   cases x1 with
   | normal =>
    obtain ⟨h5, rfl⟩ := ret_some (show M.ret (Ex.normal, Env.mk l2 k2) s1 = _ from h2)
    cases h5
    exact ⟨k3, rfl, h4⟩
   | ret =>
    obtain ⟨h5, rfl⟩ := ret_some (show M.ret (Ex.ret, Env.mk l2 k2) s1 = _ from h2)
    cases h5
    exact ⟨k3, rfl, h4⟩
   | exit j =>
    have h2' : (bif Nat.beq j id then M.ret (Ex.normal, Env.mk l2 k2) else M.ret (Ex.exit j, Env.mk l2 k2)) s1 = _ := h2
    show ∃ k5, (bif Nat.beq j id then M.ret (Ex.normal, Env.mk l2 k3) else M.ret (Ex.exit j, Env.mk l2 k3)) s1 = _ ∧ _
    cases hj : Nat.beq j id with
    | true =>
     rw [hj] at h2'
     obtain ⟨h5, rfl⟩ := ret_some h2'
     cases h5
     exact ⟨k3, rfl, h4⟩
    | false =>
     rw [hj] at h2'
     obtain ⟨h5, rfl⟩ := ret_some h2'
     cases h5
     exact ⟨k3, rfl, h4⟩
  case loop b => exact two b (.loop b) hr
  case exit id =>
   obtain ⟨h1, rfl⟩ := ret_some (show M.ret (Ex.exit id, Env.mk loc k) s = _ from hr)
   cases h1
   exact ⟨k', rfl, h⟩
  case ret =>
   obtain ⟨h1, rfl⟩ := ret_some (show M.ret (Ex.ret, Env.mk loc k) s = _ from hr)
   cases h1
   exact ⟨k', rfl, h⟩
  all_goals exact (fail_some (s := s) (show M.fail s = _ from hr)).elim
end sim
def Resp (Q : Ex → Env → St → Prop) : Prop := ∀ x loc k k' s, EqK k k' → Q x (.mk loc k) s → Q x (.mk loc k') s
section swap
variable {C : Ctx} {eg : TypeId → Bool} {km : Nat} {c b : Code} {loc k k' : L} {s : St} {Q : Ex → Env → St → Prop}
theorem Wx.swap (hQ : Resp Q) (hk : EqK k k') (h : Wx C eg km c (.mk loc k) s Q) : Wx C eg km c (.mk loc k') s Q := by
 obtain ⟨n, x, ⟨l1, k1⟩, s', h1, h2⟩ := h
 obtain ⟨k2, h3, h4⟩ := sim_exec n km c loc k k' hk _ _ _ _ _ h1
 exact ⟨n, x, _, s', h3, hQ _ _ _ _ _ h4 h2⟩
theorem Resp.then (hQ : Resp Q) : Resp (Then C eg km b Q) := by
 intro x loc k k' s hk h
 cases x with
 | normal => exact Wx.swap hQ hk h
 | exit j => exact hQ _ _ _ _ _ hk h
 | ret => exact hQ _ _ _ _ _ hk h
theorem Resp.out {id : Nat} (hQ : Resp Q) : Resp (Out id Q) := by
 intro x loc k k' s hk h
 cases x with
 | normal => exact hQ _ _ _ _ _ hk h
 | ret => exact hQ _ _ _ _ _ hk h
 | exit j =>
  unfold Out at h ⊢
  simp only at h ⊢
  split
  ·rw [if_pos ‹_›] at h; exact hQ _ _ _ _ _ hk h
  ·rw [if_neg ‹_›] at h; exact hQ _ _ _ _ _ hk h
theorem readVars_eq (hk : EqK k k') (rs : List ResultVar) : readVars C (.mk loc k) rs = readVars C (.mk loc k') rs := by
 have hr := rd_eq (loc := loc) hk
 induction rs with
 | nil => rfl
 | cons r rs ih =>
  show ((readVar C (.mk loc k) r).bind fun v => (readVars C (.mk loc k) rs).bind fun vs => M.ret (v :: vs)) = ((readVar C (.mk loc k') r).bind fun v => (readVars C (.mk loc k') rs).bind fun vs => M.ret (v :: vs))
  rw [ih]
  cases r <;> (unfold readVar; simp only [hr])
theorem Resp.fn {rs : List ResultVar} {P : Value → St → Prop} : Resp fun x e s => (x = .normal ∨ x = .ret) ∧ Wres C e rs s P := by
 intro x loc k k' s hk h
 obtain ⟨h1, v, s', h2, h3⟩ := h
 refine ⟨h1, v, s', ?_, h3⟩
 unfold resultsA at h2 ⊢
 rw [← readVars_eq hk]; exact h2
def RoundE (J : Nat → L → St → Prop) (m : Nat) (Q : Ex → Env → St → Prop) (x : Ex) (e : Env) (s : St) : Prop :=
 match x with | .normal => ∃ m' k k1, m' < m ∧ e = .mk .nil k ∧ EqK k1 k ∧ J m' k1 s | x => Q x e s
theorem Resp.round {J : Nat → L → St → Prop} {m : Nat} (hQ : Resp Q) : Resp (RoundE J m Q) := by
 intro x loc k k' s hk h
 cases x with
 | normal =>
  obtain ⟨m', k2, k1, h1, h2, h3, h4⟩ := h
  cases h2
  exact ⟨m', k', k1, h1, rfl, h3.trans hk, h4⟩
 | exit j => exact hQ _ _ _ _ _ hk h
 | ret => exact hQ _ _ _ _ _ hk h
theorem Wx.loopE (J : Nat → L → St → Prop) (m : Nat) (k0 : L) (hQ : Resp Q) (hk : EqK k0 k) (h0 : J m k0 s) (hr : ∀ m k s, J m k s → Wx C eg km b (.mk .nil k) s (RoundE J m Q)) : Wx C eg km (.loop b) (.mk .nil k) s Q := by
 induction m using Nat.strongRecOn generalizing k0 k s with
 | ind m ih =>
  refine Wx.swap hQ hk (Wx.loop1 ((hr m k0 s h0).mono fun x e' s' h => ?_))
  cases x with
  | normal =>
   obtain ⟨m', k2, k1, h1, rfl, h3, h4⟩ := h
   exact ih m' h1 k1 h3 h4
  | exit j => exact h
  | ret => exact h
theorem RoundE.go {J : Nat → L → St → Prop} {m : Nat} (m' : Nat) (k1 : L) (h1 : m' < m) (h2 : EqK k1 k) (h3 : J m' k1 s) : RoundE J m Q .normal (.mk .nil k) s := ⟨m', k, k1, h1, rfl, h2, h3⟩
theorem RoundE.ex {J : Nat → L → St → Prop} {m j : Nat} {e : Env} (h : Q (.exit j) e s) : RoundE J m Q (.exit j) e s := h
theorem RoundE.rt {J : Nat → L → St → Prop} {m : Nat} {e : Env} (h : Q .ret e s) : RoundE J m Q .ret e s := h
end swap
end Go.Ab
end
section
/- What lies between two parts of a code; rows that come in. -/
namespace Go.Ab
section cut
variable {C : Ctx} {eg : TypeId → Bool} {km : Nat} {Q : Ex → Env → St → Prop}
def CutE (J : L → St → Prop) (x : Ex) (e : Env) (s : St) : Prop := x = .normal ∧ ∃ k k1, e = .mk .nil k ∧ EqK k1 k ∧ J k1 s
theorem CutE.go {J : L → St → Prop} {k : L} {s : St} (k1 : L) (h2 : EqK k1 k) (h3 : J k1 s) : CutE J .normal (.mk .nil k) s := ⟨rfl, k, k1, rfl, h2, h3⟩
def CutQ (J : L → St → Prop) (Q : Ex → Env → St → Prop) (x : Ex) (e : Env) (s : St) : Prop :=
 match x with | .normal => ∃ k k1, e = .mk .nil k ∧ EqK k1 k ∧ J k1 s | x => Q x e s
theorem CutQ.go {J : L → St → Prop} {k : L} {s : St} (k1 : L) (h2 : EqK k1 k) (h3 : J k1 s) : CutQ J Q .normal (.mk .nil k) s := ⟨k, k1, rfl, h2, h3⟩
theorem CutQ.ex {J : L → St → Prop} {j : Nat} {e : Env} {s : St} (h : Q (.exit j) e s) : CutQ J Q (.exit j) e s := h
theorem CutQ.rt {J : L → St → Prop} {e : Env} {s : St} (h : Q .ret e s) : CutQ J Q .ret e s := h
theorem Resp.cut {J : L → St → Prop} (hQ : Resp Q) : Resp (CutQ J Q) := by
 intro x loc k k' s hk h
 cases x with
 | normal =>
  obtain ⟨k2, k1, h2, h3, h4⟩ := h
  cases h2
  exact ⟨k', k1, rfl, h3.trans hk, h4⟩
 | exit j => exact hQ _ _ _ _ _ hk h
 | ret => exact hQ _ _ _ _ _ hk h
theorem CutQ.then {b : Code} {J : L → St → Prop} (hQ : Resp Q) (h2 : ∀ k s, J k s → Wx C eg km b (.mk .nil k) s Q) {x : Ex} {e : Env} {s : St} (h : CutQ J Q x e s) : Then C eg km b Q x e s := by
 cases x with
 | normal =>
  obtain ⟨k, k1, rfl, hk, hJ⟩ := h
  exact Wx.swap hQ hk (h2 k1 s hJ)
 | exit j => exact h
 | ret => exact h
theorem Wx.cut {a b : Code} {e : Env} {s : St} (J : L → St → Prop) (hQ : Resp Q) (h1 : Wx C eg km a e s (CutQ J Q)) (h2 : ∀ k s, J k s → Wx C eg km b (.mk .nil k) s Q) : Wx C eg km a e s (Then C eg km b Q) :=
 h1.mono fun _ _ _ h => CutQ.then hQ h2 h
theorem Wx.cutO {a b : Code} {id : Nat} {e : Env} {s : St} (J : L → St → Prop) (hQ : Resp Q) (h1 : Wx C eg km a e s (Out id (CutQ J Q))) (h2 : ∀ k s, J k s → Wx C eg km b (.mk .nil k) s Q) : Wx C eg km a e s (Out id (Then C eg km b Q)) :=
 h1.mono fun x e' s' h => by
  cases x with
  | normal => exact (show Then C eg km b Q .normal e' s' from CutQ.then (x := .normal) (e := e') (s := s') hQ h2 h)
  | ret => exact (show Then C eg km b Q .ret e' s' from CutQ.then (x := .ret) (e := e') (s := s') hQ h2 h)
  | exit j =>
   unfold Out at h ⊢
   by_cases hj : j = id
   ·simp only [hj, if_true] at h ⊢
    exact CutQ.then (x := .normal) hQ h2 h
   ·simp only [hj, if_false] at h ⊢
    exact CutQ.then (x := .exit j) hQ h2 h
end cut
theorem ApartP.wr {r w : List Nat} {x a a' b b' : Nat} (h : ∀ y ∈ w, y ≠ x) (hx : x < a) : ApartP ⟨r, w, a, a'⟩ ⟨[x], [], b, b'⟩ :=
 ⟨fun y hy hm => h y hy (List.mem_singleton.1 hm), fun _ _ hm => List.not_mem_nil hm, fun _ hm _ => List.not_mem_nil hm, fun y hy => by
  obtain rfl := List.mem_singleton.1 hy
  show ¬(a ≤ y ∧ y < a')
  omega, fun _ hm => absurd hm List.not_mem_nil⟩
def OnlyW (w : List Nat) (m : Nat) : Prop := ∀ y ∈ w, y = m
theorem OnlyW.of {s : St} {h' : T AObj} {c' m : Nat} {rl wl : List Nat} {R : Nat → Prop} (x : Ext s ⟨h', c', rl, wl⟩ R (fun b => b = m)) (h0 : s.wl = []) : OnlyW wl m := fun y hy => by
 rcases x.wl y hy with q | q
 ·rw [h0] at q
  exact absurd q List.not_mem_nil
 ·exact q.2
theorem ApartP.ow {r w : List Nat} {m x a a' b b' : Nat} (h : OnlyW w m) (hm : m ≠ x) (hx : x < a) : ApartP ⟨r, w, a, a'⟩ ⟨[x], [], b, b'⟩ := ApartP.wr (fun y hy => by rw [h y hy]; exact hm) hx
theorem Row.keepF {h h' : T AObj} {c : Nat} {v : Value} {n k : Nat} {xs : List Value} (x : Row h v n k xs) (hf : Fresh h c) (hk : ∀ b, b < c → h'.get b = h.get b) : Row h' v n k xs := by
 rcases x with x | ⟨b, o, sp, cap, cs, rfl, hc, hs⟩
 ·exact .inl x
 ·refine .inr ⟨b, o, sp, cap, cs, rfl, ?_, hs⟩
  have := hk b (hc.lt hf)
  unfold Cel Has at hc ⊢
  rw [this]; exact hc
theorem Row.cut {h : T AObj} {oa : Option Addr} {n cap : Nat} {xs : List Value} (x : Row h (.slice oa n cap) n 1 xs) {m : Nat} (hm : m ≤ n) : Row h (.slice oa m cap) m 1 (xs.take m) := by
 rcases x with ⟨rfl, rfl, a, c', e⟩ | ⟨b, o, sp, cap', cs, e, hc, hs⟩
 ·obtain rfl : m = 0 := by omega
  exact .inl ⟨rfl, rfl, _, _, rfl⟩
 ·cases e
  refine .inr ⟨b, o, sp, cap, cs, rfl, hc, ?_⟩
  obtain ⟨h1, h2, _⟩ := subN_some _ _ _ _ hs
  have e2 : xs = xs.take m ++ xs.drop m := (List.take_append_drop m xs).symm
  rw [e2, show n * 1 = m * 1 + (n - m) * 1 by omega] at hs
  exact (subN_app hs (by rw [List.length_take]; omega)).1
end Go.Ab
end
section
/- Operations on strings and slices (of the abstract machine). -/
namespace Go.Ab
section ops
variable {C : Ctx} {eg : TypeId → Bool} {e : Env} {s : St} {d : Option Nat} {ty : TypeId} {ps : String} {af : Array Edge} {g : Option (Nat × Bool)}
theorem to_sliceHi {t : TypeId} {x hi : Operand} {oa : Option Addr} {len cap n k : Nat} {j : IntKind} {z : Int} (ht : elemAt C t = some n) (hx : evalA e x = .slice oa len cap) (hl : evalA e hi = .int j z) (hz : z = (k : Int)) (hk : k ≤ cap) (hsp : ∀ a, oa = some a → a.spot = none ∨ a.spot = some n) :
  OpTo C eg e ⟨d, .slice t x none (some hi) none, ty, ps, af, g⟩ s (.slice oa k cap) s := ⟨0, by
 show opSlice C t (evalA e x) ((none : Option Operand).map (evalA e)) ((some hi).map (evalA e)) ((none : Option Operand).map (evalA e)) s = _
 subst hz
 simp only [Option.map_some, Option.map_none]
 rw [hx, hl]
 unfold elemAt at ht
 unfold opSlice
 cases hu : C.und t with
 | none => rw [hu] at ht; cases ht
 | some u =>
  rw [hu] at ht
  cases u <;> first | (cases ht; done) | skip
  simp only at ht ⊢
  rw [bind_run (lift_run ht)]
  have hb : boundsA len cap none (some (.int j (k : Int))) none = some (0, k, cap) := by
   unfold boundsA
   simp only
   show (match boundA none cap cap with | none => none | some m => _) = _
   simp only [boundA]
   rw [show natOf (.int j (k : Int)) = some k from rfl]
   simp only [ble_iff.2 hk]
  rw [bind_run (lift_run hb)]
  cases oa with
  | none => rfl
  | some a =>
   obtain ⟨b, o, sp⟩ := a
   have e0 : o + 0 * n = o := by omega
   rcases hsp _ rfl with h | h
   ·simp only at h
    subst h
    cases hb2 : Nat.beq cap 0 <;> simp only [hb2, e0] <;> rfl
   ·simp only at h
    subst h
    simp only [show (Nat.beq n n && Nat.ble k cap) = true by rw [ble_iff.2 hk, Nat.beq_refl]; rfl, e0]
    rfl⟩
theorem to_sliceLoNil {t : TypeId} {x lo : Operand} {n : Nat} {j : IntKind} {z : Int} (ht : elemAt C t = some n) (hx : evalA e x = .slice none 0 0) (hl : evalA e lo = .int j z) (hz : z = 0) :
  OpTo C eg e ⟨d, .slice t x (some lo) none none, ty, ps, af, g⟩ s (.slice none 0 0) s := ⟨0, by
 show opSlice C t (evalA e x) ((some lo).map (evalA e)) ((none : Option Operand).map (evalA e)) ((none : Option Operand).map (evalA e)) s = _
 subst hz
 simp only [Option.map_some, Option.map_none]
 rw [hx, hl]
 unfold elemAt at ht
 unfold opSlice
 cases hu : C.und t with
 | none => rw [hu] at ht; cases ht
 | some u =>
  rw [hu] at ht
  cases u <;> first | (cases ht; done) | skip
  simp only at ht ⊢
  rw [bind_run (lift_run ht)]
  rfl⟩
end ops
end Go.Ab
end
