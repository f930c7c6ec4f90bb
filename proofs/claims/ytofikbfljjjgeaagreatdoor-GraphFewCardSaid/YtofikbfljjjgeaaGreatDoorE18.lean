/- Every operation does what the abstract one does, if the calls do. -/
import Derived.Test.YtofikbfljjjgeaaGreatDoorE17
set_option linter.unusedVariables false
set_option linter.unusedSimpArgs false
namespace Go.Ab
def Callable (P : Program) (f : Nat) : Prop := ∃ fn b, P.funcs[f]? = some fn ∧ fn.body = some b ∧ (fn.name == "runtime.NumGoroutine") = false
theorem Callable.run {P : Program} {f : Nat} (h : Callable P f) (args : Array Value) (w : World) : (callFunc f args).run P w = .ok (.enter f args) w := by
 obtain ⟨fn, b, h1, h2, h3⟩ := h
 unfold callFunc
 simp only [Sem.run_bind, run_program, Result.andThen_ok, h1, h3, h2, Option.isNone_some, Bool.false_eq_true, if_false, Sem.run_pure]
def Ran (P : Program) (f : Nat) (args : Array Value) (w : World) (R : Ending → World → Prop) : Prop :=
 (∃ v' w', (callFunc f args).run P w = .ok (.value v') w' ∧ R (.returned v') w') ∨ (Callable P f ∧ Calls P f args w R)
def SoundVi (C : Ctx) (P : Program) (G : Nat) : Prop :=
 ∀ (t : Nat) (name : String) g, C.vi t name = some g → ∀ (x x' : Value) (args args' : List Value) (s s' : St) (v : Value) (ι : Iota) (w : World),
  g (x :: args) s = some (v, s') → VR ι x x' → VRl ι args args' → HR G ι s.h w.heap → (∀ b, s.c ≤ b → b < s'.c → ι b = none) →
  ∃ v' w' ι', (callMethod (.iface t x') name args'.toArray).run P w = .ok (.value v') w' ∧ VR ι' v v' ∧ Post G ι ι' s s' w w'
def SoundCall (C : Ctx) (P : Program) (G : Nat) (rec : Rec) : Prop :=
 ∀ (f : Nat) (args : List Value) (s s' : St) (v : Value) (ι : Iota) (w : World) (args' : List Value) (R : Ending → World → Prop),
  callF C rec f args s = some (v, s') → VRl ι args args' → HR G ι s.h w.heap → (∀ b, s.c ≤ b → b < s'.c → ι b = none) →
  (∀ v' w' ι', VR ι' v v' → Post G ι ι' s s' w w' → R (.returned v') w') → Ran P f args'.toArray w R
section
variable {C : Ctx} {eg : TypeId → Bool} {P : Program} {G n : Nat} {rec : Rec} {ι : Iota} {s s' : St} {w : World} {v : Value} {a : Act} {K : Act → World → Prop} {Q : Exit → Act → World → Prop} {o : Oper} {e : Env}
theorem wp_sim {m : M Value} {x : Sem Value} (hx : execOp a.eval o = do pure (.value (← x))) (hsim : SimV G P ι s w m x) (h : m s = some (v, s')) (fr : ∀ b, s.c ≤ b → b < s'.c → ι b = none)
  (hK : ∀ v' w' ι', VR ι' v v' → Post G ι ι' s s' w w' → K (a.put o.dst v') w') : o.wp P a w K Q := by
 obtain ⟨v', w', ι', hrun, hv, hp⟩ := hsim v s' h fr
 unfold Oper.wp
 rw [hx]
 simp only [Sem.run_bind, hrun, Result.andThen_ok, Sem.run_pure]
 exact hK v' w' ι' hv hp
theorem wp_sim_unit {m : M Value} {x : Sem Unit} (hx : execOp a.eval o = do x; pure .skip) (hsim : SimV G P ι s w m (do x; pure undef)) (h : m s = some (v, s')) (fr : ∀ b, s.c ≤ b → b < s'.c → ι b = none)
  (hK : ∀ v' w' ι', VR ι' v v' → Post G ι ι' s s' w w' → K (a.put o.dst v') w') : o.wp P a w K Q := by
 obtain ⟨v', w', ι', hrun, hv, hp⟩ := hsim v s' h fr
 unfold Oper.wp
 rw [hx]
 simp only [Sem.run_bind, Sem.run_pure] at hrun ⊢
 cases hxr : x.run P w with
 | halt q w1 => rw [hxr] at hrun; cases hrun
 | ok u w1 =>
  rw [hxr] at hrun
  simp only [Result.andThen_ok, Result.ok.injEq] at hrun ⊢
  obtain ⟨rfl, rfl⟩ := hrun
  exact hK _ _ ι' hv hp
theorem VRl.map {ι : Iota} {f g : Operand → Value} : ∀ (l : List Operand), (∀ x ∈ l, VR ι (f x) (g x)) → VRl ι (mapA f l) (l.map g) := by
 intro l
 induction l with
 | nil => intro _; exact VRl.nil ι
 | cons x l ih =>
  intro h
  exact VRl.cons (h x (List.mem_cons_self ..)) (ih fun y hy => h y (List.mem_cons_of_mem _ hy))
theorem parts_PRl {ps : Array (Nat × Operand)} (h : ∀ x ∈ (ps.toList.map (·.2)).toArray, VR ι (evalA e x) (a.eval x)) : PRl ι (partsOf e ps) (ps.map fun (i, x) => (i, a.eval x)).toList := by
 unfold partsOf
 rw [mapA_eq]
 refine ⟨by simp, fun i p p' hp hp' => ?_⟩
 simp only [List.getElem?_map, Array.toList_map, Array.getElem?_toList] at hp hp'
 cases hi : ps[i]? with
 | none => rw [hi] at hp; cases hp
 | some q =>
  rw [hi] at hp hp'
  simp only [Option.map_some, Option.some.injEq] at hp hp'
  subst hp; subst hp'
  refine ⟨rfl, h q.2 ?_⟩
  simp only [List.mem_toArray, List.mem_map]
  exact ⟨q, List.mem_of_getElem? (by rw [Array.getElem?_toList]; exact hi), rfl⟩
theorem opt_ORl {x : Option Operand} (h : ∀ y ∈ x.toArray, VR ι (evalA e y) (a.eval y)) : ORl ι (x.map (evalA e)) (x.map a.eval) := by
 cases x with
 | none => trivial
 | some y => exact h y (by simp)
theorem sim_nilCheck (hr : HR G ι s.h w.heap) {x x' : Value} (hx : VR ι x x') : SimV G P ι s w (opNilCheck x) (pure x') := by
 intro v s' h _
 have : v = x ∧ s' = s := by
  unfold opNilCheck at h
  split at h <;> first | exact ret_some h | exact (fail_some h).elim
 obtain ⟨rfl, rfl⟩ := this
 exact ⟨x', w, ι, rfl, hx, Post.refl hr rfl rfl⟩
theorem wp_callV (sc : SoundCall C P G rec) (hr : HR G ι s.h w.heap) {x x' : Value} {args args' : List Value} (hx : VR ι x x') (ha : VRl ι args args')
  (ho : execOp a.eval o = (do let d ← Deferred.ofValue x' args'.toArray; invoke d.target d.args)) (h : callV C rec x args s = some (v, s')) (fr : ∀ b, s.c ≤ b → b < s'.c → ι b = none)
  (hK : ∀ v' w' ι', VR ι' v v' → Post G ι ι' s s' w w' → K (a.put o.dst v') w') : o.wp P a w K Q := by
 unfold callV at h
 split at h
 ·rename_i g first cap
  cases hx with
  | func _ _ _ first' cap' h1 h2 h3 h4 =>
   rw [app_eq, app_eq] at h
   have hargs : VRl ι (first.toList ++ (args ++ cap.toList)) (first'.toList ++ (args' ++ cap'.toList)) := VRl.append ⟨h1, h3⟩ (VRl.append ha ⟨h2, h4⟩)
   have hran := sc g _ s s' v ι w _ (fun e w'' => match e with | .returned v => K (a.put o.dst v) w'' | .panicked chain => Q (.panic chain) a w'' | .outgrown => LetsOut Q) h hargs hr fr hK
   unfold Oper.wp
   rw [ho]
   have e1 : (first' ++ args'.toArray) ++ cap' = (first'.toList ++ (args' ++ cap'.toList)).toArray := by
    apply Array.ext'
    simp
   have hinv : (Sem.run P (do let d ← Deferred.ofValue (.func (.func g) first' cap') args'.toArray; invoke d.target d.args) w) = (callFunc g (first'.toList ++ (args' ++ cap'.toList)).toArray).run P w := by
    rw [← e1]
    rfl
   rw [hinv]
   rcases hran with ⟨v', w', hrun, hR⟩ | ⟨hc, hcalls⟩
   ·rw [hrun]
    exact hR
   ·rw [hc.run]
    exact Calls.mono hcalls fun e w'' he => by cases e <;> exact he
 ·exact (fail_some h).elim
theorem wp_callI (ok : C.Ok eg P) (sc : SoundCall C P G rec) (sv : SoundVi C P G) (hr : HR G ι s.h w.heap) {x x' : Value} {name : String} {args args' : List Value} (hx : VR ι x x') (ha : VRl ι args args')
  (ho : execOp a.eval o = invoke (.fn (.method name) #[]) (#[x'] ++ args'.toArray)) (h : callI C rec x name args s = some (v, s')) (fr : ∀ b, s.c ≤ b → b < s'.c → ι b = none)
  (hK : ∀ v' w' ι', VR ι' v v' → Post G ι ι' s s' w w' → K (a.put o.dst v') w') : o.wp P a w K Q := by
 have hinv : ∀ (t : Nat) (y' : Value), x' = .iface t y' → (invoke (.fn (.method name) #[]) (#[x'] ++ args'.toArray)).run P w = (callMethod (.iface t y') name args'.toArray).run P w := by
  intro t y' e
  subst e
  unfold invoke
  have e0 : (#[Value.iface t y'] ++ args'.toArray)[0]? = some (.iface t y') := by simp
  simp only [e0]
  have e2 : (#[Value.iface t y'] ++ args'.toArray).extract 1 (#[Value.iface t y'] ++ args'.toArray).size = args'.toArray := by
   apply Array.ext'
   simp
  rw [e2]
 unfold callI at h
 split at h
 ·rename_i t y
  cases hx with
  | iface _ _ y' hy =>
   cases hvi : C.vi t name with
   | some g =>
    rw [hvi] at h
    obtain ⟨v', w', ι', hrun, hv, hp⟩ := sv t name g hvi y y' args args' s s' v ι w h hy ha hr fr
    unfold Oper.wp
    rw [ho, hinv t y' rfl, hrun]
    exact hK v' w' ι' hv hp
   | none =>
    rw [hvi] at h
    simp only at h
    cases hm : methodA C t y name with
    | none => rw [hm] at h; exact (fail_some h).elim
    | some p =>
     obtain ⟨f, r⟩ := p
     rw [hm] at h
     simp only at h
     obtain ⟨hry, _⟩ := method_some hm
     subst hry
     have hran := sc f _ s s' v ι w (y' :: args') (fun e w'' => match e with | .returned v => K (a.put o.dst v) w'' | .panicked chain => Q (.panic chain) a w'' | .outgrown => LetsOut Q) h (VRl.cons hy ha) hr fr hK
     unfold Oper.wp
     have hd : P.types.size + Made.depth = (P.types.size + 99) + 1 := rfl
     have hcm : (callMethod (.iface t y') name args'.toArray).run P w = (callFunc f (y' :: args').toArray).run P w := by
      unfold callMethod
      simp only [Sem.run_bind, run_program, Result.andThen_ok, hd, run_method (v' := y') ok hm]
      have e3 : #[y'] ++ args'.toArray = (y' :: args').toArray := by
       apply Array.ext'
       simp
      rw [e3]
     rw [ho, hinv t y' rfl, hcm]
     rcases hran with ⟨v', w', hrun, hR⟩ | ⟨hc, hcalls⟩
     ·rw [hrun]
      exact hR
     ·rw [hc.run]
      exact Calls.mono hcalls fun e w'' he => by cases e <;> exact he
 ·exact (fail_some h).elim
theorem sim_builtin (ok : C.Ok eg P) (hr : HR G ι s.h w.heap) (b : Builtin) (ts : Array TypeId) (ty : TypeId) (cs : Array Bool) {args : List Value} {args' : Array Value} (ha : VRl ι args args'.toList)
  (hcl : b = .clear → ∀ t, ts[0]? = some t → (C.und t).isSome = true) (ho : execOp a.eval o = builtin b ts ty cs args') (h : opBuiltin C b ts args s = some (v, s')) (fr : ∀ b, s.c ≤ b → b < s'.c → ι b = none)
  (hK : ∀ v' w' ι', VR ι' v v' → Post G ι ι' s s' w w' → K (a.put o.dst v') w') : o.wp P a w K Q := by
 have two : ∀ {x y : Value}, args = [x, y] → ∃ x' y', args' = #[x', y'] ∧ VR ι x x' ∧ VR ι y y' := by
  intro x y e
  subst e
  obtain ⟨x', l, h1, h2, h3⟩ := ha.cons_inv
  obtain ⟨y', l', h4, h5, h6⟩ := h3.cons_inv
  have := h6.nil_inv
  subst this
  exact ⟨x', y', Array.ext' (by rw [h1, h4]), h2, h5⟩
 have one : ∀ {x : Value}, args = [x] → ∃ x', args' = #[x'] ∧ VR ι x x' := by
  intro x e
  subst e
  obtain ⟨x', l, h1, h2, h3⟩ := ha.cons_inv
  have := h3.nil_inv
  subst this
  exact ⟨x', Array.ext' h1, h2⟩
 have h0 : ∀ {f : TypeId → M Value}, ((M.lift (nth ts.toList 0)).bind f) s = some (v, s') → ∃ t, ts[0]? = some t ∧ f t s = some (v, s') := by
  intro f hh
  obtain ⟨t, s1, q1, q2⟩ := bind_some hh
  obtain ⟨q3, rfl⟩ := lift_some q1
  rw [nth_eq, Array.getElem?_toList] at q3
  exact ⟨t, q3, q2⟩
 unfold opBuiltin at h
 split at h
 ·obtain ⟨x', y', rfl, hx, hy⟩ := two rfl
  exact wp_sim ho (sim_append ok hr ts ty hx hy) h fr hK
 ·obtain ⟨x', rfl, hx⟩ := one rfl
  obtain ⟨t, ht, h⟩ := h0 h
  exact wp_sim ho (sim_cap ok hr t ty ts ht hx) h fr hK
 ·obtain ⟨x', rfl, hx⟩ := one rfl
  obtain ⟨t, ht, h⟩ := h0 h
  exact wp_sim ho (sim_len ok hr t ty ts ht hx) h fr hK
 ·obtain ⟨x', y', rfl, hx, hy⟩ := two rfl
  exact wp_sim ho (sim_copy ok hr ts ty hx hy) h fr hK
 ·obtain ⟨x', rfl, hx⟩ := one rfl
  exact wp_sim ho (sim_clear ok hr ts ty hx (hcl rfl)) h fr hK
 ·obtain ⟨x', y', rfl, hx, hy⟩ := two rfl
  obtain ⟨t, ht, h⟩ := h0 h
  exact wp_sim ho (sim_delete ok hr t ty ts ht hx hy) h fr hK
 ·obtain ⟨x', l, h1, h2, h3⟩ := ha.cons_inv
  refine wp_sim (x := Builtin.max_ ts ty args') ho (SimV.lift hr fun z hz => ?_) h fr hK
  unfold Builtin.max_
  rw [h1]
  exact sim_fold (fun a b c => sim_max2 a b c) _ _ _ _ _ h2 h3 hz
 ·obtain ⟨x', l, h1, h2, h3⟩ := ha.cons_inv
  refine wp_sim (x := Builtin.min_ ts ty args') ho (SimV.lift hr fun z hz => ?_) h fr hK
  unfold Builtin.min_
  rw [h1]
  exact sim_fold (fun a b c => sim_min2 a b c) _ _ _ _ _ h2 h3 hz
 ·exact (fail_some h).elim
theorem clearOk_spec {c : Call} (hc : c.callee = .builtin .clear) (h : clearOk C (.call c) = true) : ∀ t, c.argTypes[0]? = some t → (C.und t).isSome = true := by
 intro t ht
 unfold clearOk at h
 simp only [hc] at h
 rw [nth_eq, Array.getElem?_toList, ht] at h
 exact h
theorem soundOp (ok : C.Ok eg P) (sc : SoundCall C P G rec) (sv : SoundVi C P G) : SoundOp C eg P G n rec := by
 intro e o s s' v ι w a K Q hok h hv hr fr hK
 obtain ⟨dst, op, ty, pos, after, guard⟩ := o
 have hcl : clearOk C op = true := by
  unfold operOk at hok
  rw [Bool.and_eq_true] at hok
  exact hok.2
 unfold opRun at h
 cases op
 case move x => exact wp_sim (x := pure (a.eval x)) rfl (SimV.pure hr rfl (hv x (by simp [Op.operands]))) h fr hK
 case assign x => exact wp_sim (x := pure (a.eval x)) rfl (SimV.pure hr rfl (hv x (by simp [Op.operands]))) h fr hK
 case pick c x y =>
  have hc := hv c (by simp [Op.operands])
  have hx := hv x (by simp [Op.operands])
  have hy := hv y (by simp [Op.operands])
  have h' : rPick e c x y s = some (v, s') := h
  unfold rPick at h'
  unfold Oper.wp
  generalize evalA e c = q at h' hc
  cases q with
  | bool b =>
   have hb : a.eval c = .bool b := by generalize a.eval c = q at hc; cases hc; rfl
   cases b with
   | true =>
    obtain ⟨rfl, rfl⟩ := ret_some h'
    simp only [execOp, hb, asBool, Sem.run_bind, Sem.run_pure, Result.andThen_ok, if_true]
    exact hK _ w ι hx (Post.refl hr rfl rfl)
   | false =>
    obtain ⟨rfl, rfl⟩ := ret_some h'
    simp only [execOp, hb, asBool, Sem.run_bind, Sem.run_pure, Result.andThen_ok, Bool.false_eq_true, if_false]
    exact hK _ w ι hy (Post.refl hr rfl rfl)
  | _ => exact (fail_some (s := s) h').elim
 case alloc t => exact wp_sim rfl (sim_alloc ok hr t) h fr hK
 case box t x => exact wp_sim rfl (sim_box hr t (hv x (by simp [Op.operands]))) h fr hK
 case build t ps => exact wp_sim rfl (sim_build ok hr t (parts_PRl hv)) h fr hK
 case buildSlice t k ps => exact wp_sim rfl (sim_buildSlice ok hr t k (parts_PRl hv)) h fr hK
 case insert t m k x => exact wp_sim_unit rfl (sim_mapUpdate ok hr t (hv m (by simp [Op.operands])) (hv k (by simp [Op.operands])) (hv x (by simp [Op.operands]))) h fr hK
 case load t x => exact wp_sim rfl (sim_load ok hr t (hv x (by simp [Op.operands]))) h fr hK
 case store t x y => exact wp_sim_unit rfl (sim_store ok hr t (hv x (by simp [Op.operands])) (hv y (by simp [Op.operands]))) h fr hK
 case nilCheck x =>
  have hx := hv x (by simp [Op.operands])
  have h' : opNilCheck (evalA e x) s = some (v, s') := h
  refine wp_sim (x := pure (a.eval x)) ?_ (sim_nilCheck hr hx) h fr hK
  unfold opNilCheck at h'
  simp only [execOp]
  generalize evalA e x = q at h' hx
  generalize a.eval x = q' at hx
  cases q with
  | pointer p =>
   cases p with
   | none => exact (fail_some (s := s) h').elim
   | some p => cases hx; rfl
  | map r => cases hx <;> rfl
  | iface t y => cases hx; rfl
  | func f x y =>
   cases f with
   | func f => cases hx; rfl
   | _ => exact (fail_some (s := s) h').elim
  | _ => exact (fail_some (s := s) h').elim
 case binOp op t x y z => exact wp_sim rfl (sim_bin ok hr op t x y (hv x (by simp [Op.operands])) (hv y (by simp [Op.operands]))) h fr hK
 case unOp op t x => exact wp_sim rfl (sim_un hr op (hv x (by simp [Op.operands]))) h fr hK
 case convert t u x => exact wp_sim rfl (sim_convert ok hr t u (hv x (by simp [Op.operands]))) h fr hK
 case makeInterface t x => exact wp_sim rfl (sim_makeInterface ok hr t (hv x (by simp [Op.operands]))) h fr hK
 case makeFunc f x y =>
  refine wp_sim (x := Instr.makeFunc f (x.map a.eval) (y.map a.eval)) rfl (SimV.pure hr rfl ?_) h fr hK
  have h1 := VRl.map (ι := ι) (f := evalA e) (g := a.eval) x.toList fun z hz => hv z (by simp only [Op.operands, Array.mem_append]; exact .inl (Array.mem_toList_iff.1 hz))
  have h2 := VRl.map (ι := ι) (f := evalA e) (g := a.eval) y.toList fun z hz => hv z (by simp only [Op.operands, Array.mem_append]; exact .inr (Array.mem_toList_iff.1 hz))
  rw [← Array.toList_map] at h1 h2
  exact .func _ _ _ _ _ h1.1 h2.1 h1.2 h2.2
 case makeMap t r =>
  cases r with
  | some x => exact (fail_some (s := s) h).elim
  | none =>
   have h' : ((newO (AObj.map [] 0)).bind fun b => M.ret (Value.map (some b))) s = some (v, s') := h
   obtain ⟨b, s1, q1, q2⟩ := bind_some h'
   obtain ⟨rfl, rfl⟩ := ret_some q2
   obtain ⟨q3, rfl, rfl⟩ := newO_some q1
   have hp : Post G ι (ι.upd s.c ⟨w.heap.size, 0, 0⟩) s ⟨s.h.set s.c (some (.map [] 0)), s.c + 1, s.rl, s.wl⟩ w (w.alloc (.map #[] 0)) :=
    Post.alloc hr (fr _ (Nat.le_refl _) (Nat.lt_succ_self _)) rfl rfl fun ι' hle => ⟨#[], by show (w.heap.push _)[w.heap.size]? = _; simp, rfl, by simp⟩
   unfold Oper.wp
   have hrun : Sem.run P (execOp a.eval ⟨dst, .makeMap t none, ty, pos, after, guard⟩) w = .ok (.value (.map (some w.heap.size))) (w.alloc (.map #[] 0)) := by
    simp only [execOp, Instr.makeMap, Option.map_none, Sem.run_bind, Sem.run_pure, Result.andThen_ok, run_newObj]
    rfl
   rw [hrun]
   exact hK _ _ _ (.map s.c ⟨w.heap.size, 0, 0⟩ (Iota.upd_same ..)) hp
 case makeSlice t l c => exact wp_sim rfl (sim_makeSlice ok hr t (hv l (by simp [Op.operands])) (hv c (by simp [Op.operands]))) h fr hK
 case slice t x lo hi mx =>
  exact wp_sim rfl (sim_slice ok hr t (hv x (by simp [Op.operands])) (opt_ORl fun y hy => hv y (by simp only [Op.operands, Array.mem_append]; exact .inl (.inl (.inr hy))))
   (opt_ORl fun y hy => hv y (by simp only [Op.operands, Array.mem_append]; exact .inl (.inr hy))) (opt_ORl fun y hy => hv y (by simp only [Op.operands, Array.mem_append]; exact .inr hy))) h fr hK
 case fieldAddr t x f => exact wp_sim rfl (sim_fieldAddr ok hr t f (hv x (by simp [Op.operands]))) h fr hK
 case field t x f => exact wp_sim rfl (sim_field ok hr t f (hv x (by simp [Op.operands]))) h fr hK
 case indexAddr t x i => exact wp_sim rfl (sim_indexAddr ok hr t (hv x (by simp [Op.operands])) (hv i (by simp [Op.operands]))) h fr hK
 case index t x i => exact wp_sim rfl (sim_index ok hr t (hv x (by simp [Op.operands])) (hv i (by simp [Op.operands]))) h fr hK
 case lookup t m k c => exact wp_sim rfl (sim_lookup ok hr t c (hv m (by simp [Op.operands])) (hv k (by simp [Op.operands]))) h fr hK
 case mapUpdate t m k x => exact wp_sim_unit rfl (sim_mapUpdate ok hr t (hv m (by simp [Op.operands])) (hv k (by simp [Op.operands])) (hv x (by simp [Op.operands]))) h fr hK
 case typeAssert x t u c => exact wp_sim rfl (sim_typeAssert ok hr t u c (hv x (by simp [Op.operands]))) h fr hK
 case extract x i => exact wp_sim rfl (sim_extract hr i (hv x (by simp [Op.operands]))) h fr hK
 case call c =>
  obtain ⟨callee, cargs, cts⟩ := c
  have hargs := VRl.map (ι := ι) (f := evalA e) (g := a.eval) cargs.toList fun z hz => hv z (by simp only [Op.operands, Call.operands, Array.mem_append]; exact .inr (Array.mem_toList_iff.1 hz))
  rw [← Array.toList_map] at hargs
  cases callee with
  | builtin b =>
   exact sim_builtin ok hr b cts ty _ hargs (fun hb => by subst hb; exact clearOk_spec rfl hcl) rfl h fr hK
  | value f =>
   exact wp_callV sc hr (hv f (by simp [Op.operands, Call.operands])) hargs rfl h fr hK
  | invoke r name =>
   exact wp_callI ok sc sv hr (hv r (by simp [Op.operands, Call.operands])) hargs rfl h fr hK
 all_goals exact (fail_some (s := s) h).elim
end
end Go.Ab
