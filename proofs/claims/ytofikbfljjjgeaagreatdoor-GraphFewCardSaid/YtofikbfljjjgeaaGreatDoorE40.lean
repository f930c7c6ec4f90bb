/- Rules over the abstract machine: more fuel says no less; what code, operations and calls come to, whatever the fuel. -/
import Derived.Test.YtofikbfljjjgeaaGreatDoorE19
set_option linter.unusedVariables false
set_option linter.unusedSimpArgs false
namespace Go.Ab
def LeM {α : Type} (m m' : M α) : Prop := ∀ s r, m s = some r → m' s = some r
theorem LeM.refl {α : Type} (m : M α) : LeM m m := fun _ _ h => h
theorem bind_run {α β : Type} {m : M α} {f : α → M β} {s s1 : St} {a : α} (h : m s = some (a, s1)) : m.bind f s = f a s1 := by
 show Option.rec (motive := fun _ => Option (β × St)) none (fun p => Prod.rec (motive := fun _ => Option (β × St)) (fun a s => f a s) p) (m s) = _
 rw [h]
theorem LeM.bind {α β : Type} {m m' : M α} {f f' : α → M β} (h : LeM m m') (k : ∀ a, LeM (f a) (f' a)) : LeM (m.bind f) (m'.bind f') := by
 intro s ⟨b, s'⟩ hb
 obtain ⟨a, s1, h1, h2⟩ := bind_some hb
 rw [bind_run (h _ _ h1)]
 exact k a _ _ h2
theorem told_run {α : Type} {m : M α} {s s1 : St} {a : α} (h : m ⟨s.h, s.c, [], []⟩ = some (a, s1)) : told m s = some ((a, ⟨s1.rl, s1.wl, s.c, s1.c⟩), ⟨s1.h, s1.c, s1.rl ++ s.rl, s1.wl ++ s.wl⟩) := by
 obtain ⟨h0, c, rl, wl⟩ := s
 obtain ⟨h1, c1, rl1, wl1⟩ := s1
 show Option.rec (motive := fun _ => Option ((α × Fp) × St)) none _ (m ⟨h0, c, [], []⟩) = _
 rw [h]
 show some ((a, Fp.mk rl1 wl1 c c1), St.mk h1 c1 (app rl1 rl) (app wl1 wl)) = _
 rw [app_eq, app_eq]
theorem framed_run {α : Type} {m : M α} {s s1 : St} {a : α} (h : m ⟨s.h, s.c, [], []⟩ = some (a, s1)) : framed m s = some (a, ⟨s1.h, s1.c, s1.rl.filter (fun b => decide (b < s.c)) ++ s.rl, s1.wl.filter (fun b => decide (b < s.c)) ++ s.wl⟩) := by
 obtain ⟨h0, c, rl, wl⟩ := s
 obtain ⟨h1, c1, rl1, wl1⟩ := s1
 show Option.rec (motive := fun _ => Option (α × St)) none _ (m ⟨h0, c, [], []⟩) = _
 rw [h]
 show some (a, St.mk h1 c1 (below c rl1 rl) (below c wl1 wl)) = _
 rw [below_eq, below_eq]
theorem LeM.told {α : Type} {m m' : M α} (h : LeM m m') : LeM (told m) (told m') := by
 intro s ⟨⟨a, f⟩, s'⟩ hb
 obtain ⟨s2, h1, h2, rfl⟩ := told_some hb
 subst h2
 exact told_run (h _ _ h1)
theorem LeM.framed {α : Type} {m m' : M α} (h : LeM m m') : LeM (framed m) (framed m') := by
 intro s ⟨a, s'⟩ hb
 obtain ⟨s2, h1, rfl⟩ := framed_some hb
 exact framed_run (h _ _ h1)
def LeRec (r r' : Rec) : Prop := ∀ km c e, LeM (r km c e) (r' km c e)
section le
variable {C : Ctx} {eg : TypeId → Bool} {rec rec' : Rec}
theorem le_callB (h : LeRec rec rec') (f : Nat) (args : List Value) : LeM (callB C rec f args) (callB C rec' f args) := by
 unfold callB
 split
 ·exact LeM.refl _
 ·split
  ·exact LeM.framed (LeM.bind (h _ _ _) fun _ => LeM.refl _)
  ·exact LeM.refl _
theorem le_callF (h : LeRec rec rec') (f : Nat) (args : List Value) : LeM (callF C rec f args) (callF C rec' f args) := by
 unfold callF
 split
 ·exact LeM.refl _
 ·split
  ·exact LeM.refl _
  ·exact le_callB h _ _
theorem le_opCall (h : LeRec rec rec') (e : Env) (c : Call) : LeM (opCall C rec e c) (opCall C rec' e c) := by
 unfold opCall
 split
 ·exact LeM.refl _
 ·unfold callV
  split
  ·exact le_callF h _ _
  ·exact LeM.refl _
 ·unfold callI
  split
  ·split
   ·exact LeM.refl _
   ·split
    ·exact LeM.refl _
    ·exact le_callF h _ _
  ·exact LeM.refl _
theorem le_opRun (h : LeRec rec rec') (e : Env) (o : Oper) : LeM (opRun C eg rec e o) (opRun C eg rec' e o) := by
 obtain ⟨dst, op, ty, pos, after, guard⟩ := o
 unfold opRun
 cases op
 case call => exact le_opCall h e _
 all_goals exact LeM.refl _
theorem le_seqRun (h : LeRec rec rec') (all : List Oper) : ∀ (os : List Oper) (e : Env), LeM (seqRun C eg rec all os e) (seqRun C eg rec' all os e) := by
 intro os
 induction os with
 | nil => intro e; exact LeM.refl _
 | cons o os ih =>
  intro e
  show LeM (seqStep C eg rec e o (seqRun C eg rec all os) (wantedA all e o)) (seqStep C eg rec' e o (seqRun C eg rec' all os) (wantedA all e o))
  cases wantedA all e o with
  | none => exact LeM.refl _
  | some b =>
   cases b with
   | false => show LeM (putE e o.dst undefA _) (putE e o.dst undefA _); rw [putE_eq, putE_eq]; exact ih _
   | true =>
    show LeM ((opRun C eg rec e o).bind fun v => putE e o.dst v (seqRun C eg rec all os)) ((opRun C eg rec' e o).bind fun v => putE e o.dst v (seqRun C eg rec' all os))
    refine LeM.bind (le_opRun h e o) fun v => ?_
    rw [putE_eq, putE_eq]; exact ih _
theorem le_trackRun (h : LeRec rec rec') (all : List Oper) : ∀ (os : List Oper) (e : Env), LeM (trackRun C eg rec all os e) (trackRun C eg rec' all os e) := by
 intro os
 induction os with
 | nil => intro e; exact LeM.refl _
 | cons o os ih =>
  intro e
  show LeM (trackStep C eg rec e o (trackRun C eg rec all os) (wantedA all e o)) (trackStep C eg rec' e o (trackRun C eg rec' all os) (wantedA all e o))
  cases wantedA all e o with
  | none => exact LeM.refl _
  | some b =>
   cases b with
   | false =>
    show LeM ((told (M.ret ())).bind fun p => putE e o.dst undefA fun e => (trackRun C eg rec all os e).bind (trackEnd p.2)) ((told (M.ret ())).bind fun p => putE e o.dst undefA fun e => (trackRun C eg rec' all os e).bind (trackEnd p.2))
    refine LeM.bind (LeM.refl _) fun p => ?_
    rw [putE_eq, putE_eq]
    exact LeM.bind (ih _) fun r => LeM.refl _
   | true =>
    show LeM ((told (opRun C eg rec e o)).bind fun p => putE e o.dst p.1 fun e => (trackRun C eg rec all os e).bind (trackEnd p.2)) ((told (opRun C eg rec' e o)).bind fun p => putE e o.dst p.1 fun e => (trackRun C eg rec' all os e).bind (trackEnd p.2))
    refine LeM.bind (LeM.told (le_opRun h e o)) fun p => ?_
    rw [putE_eq, putE_eq]
    exact LeM.bind (ih _) fun r => LeM.refl _
theorem le_exec1 (h : LeRec rec rec') (km : Nat) (c : Code) (e : Env) : LeM (exec1 C eg rec km c e) (exec1 C eg rec' km c e) := by
 have thn : ∀ c : Code, ∀ r : Ex × Env, LeM (xThen (rec km c) r) (xThen (rec' km c) r) := by
  intro c ⟨x, e⟩
  cases x with
  | normal => exact h _ _ _
  | exit j => exact LeM.refl _
  | ret => exact LeM.refl _
 cases c
 case region id ops draw =>
  cases draw with
  | false => exact LeM.bind (le_seqRun h _ _ _) fun _ => LeM.refl _
  | true => exact LeM.bind (LeM.bind (le_trackRun h _ _ _) fun _ => LeM.refl _) fun _ => LeM.refl _
 case seq a b => exact LeM.bind (h _ _ _) (thn b)
 case cond c a b =>
  show LeM (xCond rec km e c a b) (xCond rec' km e c a b)
  unfold xCond
  split
  ·exact h _ _ _
  ·exact h _ _ _
  ·exact LeM.refl _
 case block id b => exact LeM.bind (h _ _ _) fun _ => LeM.refl _
 case loop b => exact LeM.bind (h _ _ _) (thn (.loop b))
 all_goals exact LeM.refl _
theorem exec_le1 : ∀ n, LeRec (exec C eg n) (exec C eg (n + 1)) := by
 intro n
 induction n with
 | zero => intro km c e s r h; exact (fail_some (s := s) (show M.fail s = some (r.1, r.2) from h)).elim
 | succ n ih => intro km c e; exact le_exec1 ih km c e
theorem exec_le {n m : Nat} (h : n ≤ m) : LeRec (exec C eg n) (exec C eg m) := by
 induction h with
 | refl => intro km c e; exact LeM.refl _
 | step _ ih => exact fun km c e s r hr => exec_le1 _ km c e s r (ih km c e s r hr)
end le
def Wx (C : Ctx) (eg : TypeId → Bool) (km : Nat) (c : Code) (e : Env) (s : St) (Q : Ex → Env → St → Prop) : Prop :=
 ∃ n x e' s', exec C eg n km c e s = some ((x, e'), s') ∧ Q x e' s'
def OpTo (C : Ctx) (eg : TypeId → Bool) (e : Env) (o : Oper) (s : St) (v : Value) (s' : St) : Prop :=
 ∃ n, opRun C eg (exec C eg n) e o s = some (v, s')
def FnTo (C : Ctx) (eg : TypeId → Bool) (f : Nat) (args : List Value) (s : St) (v : Value) (s' : St) : Prop :=
 ∃ n, callF C (exec C eg n) f args s = some (v, s')
def Wseq (C : Ctx) (eg : TypeId → Bool) (all os : List Oper) (e : Env) (s : St) (Q : Env → St → Prop) : Prop :=
 ∃ n e' s', seqRun C eg (exec C eg n) all os e s = some (e', s') ∧ Q e' s'
def Wtr (C : Ctx) (eg : TypeId → Bool) (all : List Oper) (bef : List Nat) (done : List (Nat × Fp)) (j : Nat) (os : List Oper) (e : Env) (s : St) (Q : Env → St → Prop) : Prop :=
 ∃ n e' fps s', trackRun C eg (exec C eg n) all os e s = some ((e', fps), s') ∧ clashFree bef done j fps = true ∧ Q e' s'
section rules
variable {C : Ctx} {eg : TypeId → Bool} {km : Nat} {e : Env} {s : St} {Q : Ex → Env → St → Prop}
theorem Wx.mono {c : Code} {Q' : Ex → Env → St → Prop} (h : Wx C eg km c e s Q) (k : ∀ x e' s', Q x e' s' → Q' x e' s') : Wx C eg km c e s Q' := by
 obtain ⟨n, x, e', s', h1, h2⟩ := h
 exact ⟨n, x, e', s', h1, k _ _ _ h2⟩
def Then (C : Ctx) (eg : TypeId → Bool) (km : Nat) (b : Code) (Q : Ex → Env → St → Prop) (x : Ex) (e : Env) (s : St) : Prop :=
 match x with | .normal => Wx C eg km b e s Q | x => Q x e s
theorem Wx.seq {a b : Code} (h : Wx C eg km a e s (Then C eg km b Q)) : Wx C eg km (.seq a b) e s Q := by
 obtain ⟨n, x, e', s', h1, h2⟩ := h
 cases x with
 | normal =>
  obtain ⟨m, x, e2, s2, h3, h4⟩ := h2
  refine ⟨max n m + 1, x, e2, s2, ?_, h4⟩
  show ((exec C eg (max n m) km a e).bind (xThen (exec C eg (max n m) km b))) s = _
  rw [bind_run (exec_le (Nat.le_max_left n m) _ _ _ _ _ h1)]
  exact exec_le (Nat.le_max_right n m) _ _ _ _ _ h3
 | exit j =>
  refine ⟨n + 1, _, _, _, ?_, h2⟩
  show ((exec C eg n km a e).bind (xThen (exec C eg n km b))) s = _
  rw [bind_run h1]; rfl
 | ret =>
  refine ⟨n + 1, _, _, _, ?_, h2⟩
  show ((exec C eg n km a e).bind (xThen (exec C eg n km b))) s = _
  rw [bind_run h1]; rfl
theorem Wx.skip (h : Q .normal e s) : Wx C eg km .skip e s Q := ⟨1, _, _, _, rfl, h⟩
theorem Wx.exit {id : Nat} (h : Q (.exit id) e s) : Wx C eg km (.exit id) e s Q := ⟨1, _, _, _, rfl, h⟩
theorem Wx.ret (h : Q .ret e s) : Wx C eg km .ret e s Q := ⟨1, _, _, _, rfl, h⟩
theorem Wx.cond {c : Operand} {a b : Code} {p : Bool} (hc : evalA e c = .bool p) (h1 : p = true → Wx C eg km a e s Q) (h2 : p = false → Wx C eg km b e s Q) : Wx C eg km (.cond c a b) e s Q := by
 cases p with
 | true =>
  obtain ⟨n, x, e', s', h3, h4⟩ := h1 rfl
  refine ⟨n + 1, x, e', s', ?_, h4⟩
  show xCond (exec C eg n) km e c a b s = _
  unfold xCond
  rw [hc]; exact h3
 | false =>
  obtain ⟨n, x, e', s', h3, h4⟩ := h2 rfl
  refine ⟨n + 1, x, e', s', ?_, h4⟩
  show xCond (exec C eg n) km e c a b s = _
  unfold xCond
  rw [hc]; exact h3
def Out (id : Nat) (Q : Ex → Env → St → Prop) (x : Ex) (e : Env) (s : St) : Prop :=
 match x with | .exit j => (if j = id then Q .normal e s else Q (.exit j) e s) | x => Q x e s
theorem Wx.block {id : Nat} {b : Code} (h : Wx C eg km b e s (Out id Q)) : Wx C eg km (.block id b) e s Q := by
 obtain ⟨n, x, e', s', h1, h2⟩ := h
 cases x with
 | exit j =>
  by_cases hj : j = id
  ·subst hj
   refine ⟨n + 1, .normal, e', s', ?_, by simpa [Out] using h2⟩
   show ((exec C eg n km b e).bind (xBlock j)) s = _
   rw [bind_run h1]
   show (bif Nat.beq j j then M.ret (Ex.normal, e') else M.ret (Ex.exit j, e')) s' = _
   rw [show Nat.beq j j = true from Nat.beq_refl j]; rfl
  ·refine ⟨n + 1, .exit j, e', s', ?_, by simpa [Out, hj] using h2⟩
   show ((exec C eg n km b e).bind (xBlock id)) s = _
   rw [bind_run h1]
   show (bif Nat.beq j id then M.ret (Ex.normal, e') else M.ret (Ex.exit j, e')) s' = _
   rw [show Nat.beq j id = false from beq_false.2 hj]; rfl
 | normal =>
  refine ⟨n + 1, _, _, _, ?_, h2⟩
  show ((exec C eg n km b e).bind (xBlock id)) s = _
  rw [bind_run h1]; rfl
 | ret =>
  refine ⟨n + 1, _, _, _, ?_, h2⟩
  show ((exec C eg n km b e).bind (xBlock id)) s = _
  rw [bind_run h1]; rfl
theorem Wx.loop1 {b : Code} (h : Wx C eg km b e s (Then C eg km (.loop b) Q)) : Wx C eg km (.loop b) e s Q := by
 obtain ⟨n, x, e', s', h1, h2⟩ := h
 cases x with
 | normal =>
  obtain ⟨m, x, e2, s2, h3, h4⟩ := h2
  refine ⟨max n m + 1, x, e2, s2, ?_, h4⟩
  show ((exec C eg (max n m) km b e).bind (xThen (exec C eg (max n m) km (.loop b)))) s = _
  rw [bind_run (exec_le (Nat.le_max_left n m) _ _ _ _ _ h1)]
  exact exec_le (Nat.le_max_right n m) _ _ _ _ _ h3
 | exit j =>
  refine ⟨n + 1, _, _, _, ?_, h2⟩
  show ((exec C eg n km b e).bind (xThen (exec C eg n km (.loop b)))) s = _
  rw [bind_run h1]; rfl
 | ret =>
  refine ⟨n + 1, _, _, _, ?_, h2⟩
  show ((exec C eg n km b e).bind (xThen (exec C eg n km (.loop b)))) s = _
  rw [bind_run h1]; rfl
def Round (I : Nat → Env → St → Prop) (m : Nat) (Q : Ex → Env → St → Prop) (x : Ex) (e : Env) (s : St) : Prop :=
 match x with | .normal => ∃ m', m' < m ∧ I m' e s | x => Q x e s
theorem Wx.loop {b : Code} (I : Nat → Env → St → Prop) (m : Nat) (h0 : I m e s) (hr : ∀ m e s, I m e s → Wx C eg km b e s (Round I m Q)) : Wx C eg km (.loop b) e s Q := by
 induction m using Nat.strongRecOn generalizing e s with
 | ind m ih =>
  refine Wx.loop1 ((hr m e s h0).mono fun x e' s' h => ?_)
  cases x with
  | normal =>
   obtain ⟨m', h1, h2⟩ := h
   exact ih m' h1 h2
  | exit j => exact h
  | ret => exact h
theorem Wx.region {id : Nat} {ops : Array Oper} (h : Wseq C eg ops.toList ops.toList e s fun e' s' => Q .normal (flushE km e') s') : Wx C eg km (.region id ops false) e s Q := by
 obtain ⟨n, e', s', h1, h2⟩ := h
 refine ⟨n + 1, .normal, flushE km e', s', ?_, h2⟩
 show ((seqRun C eg (exec C eg n) ops.toList ops.toList e).bind (xFlush km)) s = _
 rw [bind_run h1]
 unfold xFlush
 rw [flush_eq]; rfl
theorem Wx.draw {id : Nat} {ops : Array Oper} (h : Wtr C eg ops.toList (Region.before ops).toList [] 0 ops.toList e s fun e' s' => Q .normal (flushE km e') s') : Wx C eg km (.region id ops true) e s Q := by
 obtain ⟨n, e', fps, s', h1, h2, h3⟩ := h
 refine ⟨n + 1, .normal, flushE km e', s', ?_, h3⟩
 show (((trackRun C eg (exec C eg n) ops.toList ops.toList e).bind (drawEnd ops)).bind (xFlush km)) s = _
 have : ((trackRun C eg (exec C eg n) ops.toList ops.toList e).bind (drawEnd ops)) s = some (e', s') := by
  rw [bind_run h1]
  show (Bool.rec (motive := fun _ => M Env) M.fail (M.ret e') (clashFree (Region.before ops).toList [] 0 fps)) s' = _
  rw [h2]; rfl
 rw [bind_run this]
 unfold xFlush
 rw [flush_eq]; rfl
end rules
section ops
variable {C : Ctx} {eg : TypeId → Bool} {all os : List Oper} {o : Oper} {e : Env} {s : St} {Q : Env → St → Prop}
theorem Wseq.nil (h : Q e s) : Wseq C eg all [] e s Q := ⟨0, e, s, rfl, h⟩
theorem Wseq.op {v : Value} {s1 : St} (hw : wantedA all e o = some true) (ho : OpTo C eg e o s v s1) (k : Wseq C eg all os (put e o.dst v) s1 Q) : Wseq C eg all (o :: os) e s Q := by
 obtain ⟨n, h1⟩ := ho
 obtain ⟨m, e', s', h2, h3⟩ := k
 refine ⟨max n m, e', s', ?_, h3⟩
 show seqStep C eg (exec C eg (max n m)) e o (seqRun C eg (exec C eg (max n m)) all os) (wantedA all e o) s = _
 rw [hw]
 show ((opRun C eg (exec C eg (max n m)) e o).bind fun v => putE e o.dst v (seqRun C eg (exec C eg (max n m)) all os)) s = _
 rw [bind_run (le_opRun (exec_le (Nat.le_max_left n m)) _ _ _ _ h1), putE_eq]
 exact le_seqRun (exec_le (Nat.le_max_right n m)) _ _ _ _ _ h2
theorem Wseq.not (hw : wantedA all e o = some false) (k : Wseq C eg all os (put e o.dst undefA) s Q) : Wseq C eg all (o :: os) e s Q := by
 obtain ⟨m, e', s', h2, h3⟩ := k
 refine ⟨m, e', s', ?_, h3⟩
 show seqStep C eg (exec C eg m) e o (seqRun C eg (exec C eg m) all os) (wantedA all e o) s = _
 rw [hw]
 show putE e o.dst undefA (seqRun C eg (exec C eg m) all os) s = _
 rw [putE_eq]; exact h2
def ApartP (i j : Fp) : Prop := (∀ b ∈ i.w, b ∉ j.r) ∧ (∀ b ∈ i.w, b ∉ j.w) ∧ (∀ b ∈ j.w, b ∉ i.r) ∧ (∀ b ∈ j.r, ¬(i.c0 ≤ b ∧ b < i.c1)) ∧ (∀ b ∈ j.w, ¬(i.c0 ≤ b ∧ b < i.c1))
noncomputable def ordB (bef : List Nat) (j i : Nat) : Bool := match nth bef j with | some m => Nat.testBit m i | none => false
theorem mem_false {b : Nat} {l : List Nat} (h : b ∉ l) : mem b l = false := by
 induction l with
 | nil => rfl
 | cons x l ih =>
  have h1 : x ≠ b := fun e => h (by rw [e]; exact List.mem_cons_self ..)
  show Bool.rec (motive := fun _ => Bool) (mem b l) true (Nat.beq x b) = false
  rw [show Nat.beq x b = false from beq_false.2 h1]
  exact ih fun hm => h (List.mem_cons_of_mem _ hm)
theorem meets_false {l ys : List Nat} (h : ∀ b ∈ l, b ∉ ys) : meets l ys = false := by
 induction l with
 | nil => rfl
 | cons x l ih =>
  show Bool.rec (motive := fun _ => Bool) (meets l ys) true (mem x ys) = false
  rw [mem_false (h x (List.mem_cons_self ..))]
  exact ih fun b hb => h b (List.mem_cons_of_mem _ hb)
theorem within_false {lo hi : Nat} {l : List Nat} (h : ∀ b ∈ l, ¬(lo ≤ b ∧ b < hi)) : within lo hi l = false := by
 induction l with
 | nil => rfl
 | cons x l ih =>
  have ih' := ih fun b hb => h b (List.mem_cons_of_mem _ hb)
  show Bool.rec (motive := fun _ => Bool) (within lo hi l) (Bool.rec (motive := fun _ => Bool) (within lo hi l) true (Nat.blt x hi)) (Nat.ble lo x) = false
  have hx := h x (List.mem_cons_self ..)
  cases h1 : Nat.ble lo x with
  | false => exact ih'
  | true =>
   have h2 : Nat.blt x hi = false := blt_false.2 (by have := ble_iff.1 h1; omega)
   rw [h2]; exact ih'
theorem apartFp_of {i j : Fp} (h : ApartP i j) : apartFp i j = true := by
 obtain ⟨h1, h2, h3, h4, h5⟩ := h
 unfold apartFp
 rw [meets_false h1, meets_false h2, meets_false h3, within_false h4, within_false h5]; rfl
theorem clash_sub (bef : List Nat) : ∀ (fs : List Fp) (j : Nat) (d d' : List (Nat × Fp)), (∀ p ∈ d', p ∈ d) → clashFree bef d j fs = true → clashFree bef d' j fs = true := by
 intro fs
 induction fs with
 | nil => intro j d d' _ _; rfl
 | cons f fs ih =>
  intro j d d' hs h
  unfold clashFree at h ⊢
  cases hf : f.silent with
  | true =>
   rw [hf] at h
   exact ih _ _ _ hs h
  | false =>
   rw [hf] at h
   simp only at h ⊢
   split at h
   ·rename_i hall
    rw [allB_eq, List.all_eq_true] at hall
    split
    ·refine ih _ _ _ ?_ h
     intro p hp
     rcases List.mem_cons.1 hp with rfl | hp
     ·exact List.mem_cons_self ..
     ·exact List.mem_cons_of_mem _ (hs p hp)
    ·rename_i hn
     have : ∀ p ∈ d', _ := fun p hp => hall p (hs p hp)
     rw [← List.all_eq_true, ← allB_eq] at this
     rw [this] at hn; cases hn
   ·cases h
theorem Wtr.nil {bef : List Nat} {done : List (Nat × Fp)} {j : Nat} (h : Q e s) : Wtr C eg all bef done j [] e s Q := ⟨0, e, [], s, rfl, rfl, h⟩
theorem Wtr.op {bef : List Nat} {done : List (Nat × Fp)} {j : Nat} {v : Value} {s1 : St} (hw : wantedA all e o = some true) (ho : OpTo C eg e o ⟨s.h, s.c, [], []⟩ v s1)
  (ha : ∀ p ∈ done, ordB bef j p.1 = true ∨ ApartP p.2 ⟨s1.rl, s1.wl, s.c, s1.c⟩)
  (k : Wtr C eg all bef ((j, ⟨s1.rl, s1.wl, s.c, s1.c⟩) :: done) (j + 1) os (put e o.dst v) ⟨s1.h, s1.c, s1.rl ++ s.rl, s1.wl ++ s.wl⟩ Q) : Wtr C eg all bef done j (o :: os) e s Q := by
 obtain ⟨n, h1⟩ := ho
 obtain ⟨m, e', fps, s', h2, h3, h4⟩ := k
 refine ⟨max n m, e', ⟨s1.rl, s1.wl, s.c, s1.c⟩ :: fps, s', ?_, ?_, h4⟩
 ·show trackStep C eg (exec C eg (max n m)) e o (trackRun C eg (exec C eg (max n m)) all os) (wantedA all e o) s = _
  rw [hw]
  show ((told (opRun C eg (exec C eg (max n m)) e o)).bind fun p => putE e o.dst p.1 fun e => (trackRun C eg (exec C eg (max n m)) all os e).bind (trackEnd p.2)) s = _
  rw [bind_run (told_run (le_opRun (exec_le (Nat.le_max_left n m)) _ _ _ _ h1)), putE_eq]
  rw [bind_run (le_trackRun (exec_le (Nat.le_max_right n m)) _ _ _ _ _ h2)]
  rfl
 ·unfold clashFree
  cases hf : Fp.silent ⟨s1.rl, s1.wl, s.c, s1.c⟩ with
  | true => exact clash_sub bef fps _ _ _ (fun p hp => List.mem_cons_of_mem _ hp) h3
  | false =>
   have : allB (fun p : Nat × Fp => (match nth bef j with | some m => Nat.testBit m p.1 | none => false) || apartFp p.2 ⟨s1.rl, s1.wl, s.c, s1.c⟩) done = true := by
    rw [allB_eq, List.all_eq_true]
    intro p hp
    rcases ha p hp with h | h
    ·have h' : (match nth bef j with | some m => Nat.testBit m p.1 | none => false) = true := h
     rw [h']; rfl
    ·rw [apartFp_of h, Bool.or_true]
   simp only
   split
   ·exact h3
   ·rename_i hn
    have hn' : allB (fun p : Nat × Fp => (match nth bef j with | some m => Nat.testBit m p.1 | none => false) || apartFp p.2 ⟨s1.rl, s1.wl, s.c, s1.c⟩) done = false := hn
    rw [this] at hn'; cases hn'
theorem Wtr.quiet {bef : List Nat} {done : List (Nat × Fp)} {j : Nat} {v : Value} (hw : wantedA all e o = some true) (ho : OpTo C eg e o ⟨s.h, s.c, [], []⟩ v ⟨s.h, s.c, [], []⟩)
  (k : Wtr C eg all bef done (j + 1) os (put e o.dst v) s Q) : Wtr C eg all bef done j (o :: os) e s Q := by
 obtain ⟨n, h1⟩ := ho
 obtain ⟨m, e', fps, s', h2, h3, h4⟩ := k
 refine ⟨max n m, e', ⟨[], [], s.c, s.c⟩ :: fps, s', ?_, ?_, h4⟩
 ·show trackStep C eg (exec C eg (max n m)) e o (trackRun C eg (exec C eg (max n m)) all os) (wantedA all e o) s = _
  rw [hw]
  show ((told (opRun C eg (exec C eg (max n m)) e o)).bind fun p => putE e o.dst p.1 fun e => (trackRun C eg (exec C eg (max n m)) all os e).bind (trackEnd p.2)) s = _
  rw [bind_run (told_run (le_opRun (exec_le (Nat.le_max_left n m)) _ _ _ _ h1)), putE_eq]
  show ((trackRun C eg (exec C eg (max n m)) all os (put e o.dst v)).bind (trackEnd _)) ⟨s.h, s.c, s.rl, s.wl⟩ = _
  rw [bind_run (le_trackRun (exec_le (Nat.le_max_right n m)) _ _ _ _ _ h2)]
  rfl
 ·have hq : Fp.silent ⟨[], [], s.c, s.c⟩ = true := Nat.beq_refl _
  unfold clashFree
  rw [hq]
  exact h3
theorem Wtr.not {bef : List Nat} {done : List (Nat × Fp)} {j : Nat} (hw : wantedA all e o = some false) (k : Wtr C eg all bef done (j + 1) os (put e o.dst undefA) s Q) : Wtr C eg all bef done j (o :: os) e s Q := by
 obtain ⟨m, e', fps, s', h2, h3, h4⟩ := k
 refine ⟨m, e', ⟨[], [], s.c, s.c⟩ :: fps, s', ?_, ?_, h4⟩
 ·show trackStep C eg (exec C eg m) e o (trackRun C eg (exec C eg m) all os) (wantedA all e o) s = _
  rw [hw]
  show ((told (M.ret ())).bind fun p => putE e o.dst undefA fun e => (trackRun C eg (exec C eg m) all os e).bind (trackEnd p.2)) s = _
  rw [bind_run (told_run (m := M.ret ()) (a := ()) (s1 := ⟨s.h, s.c, [], []⟩) rfl), putE_eq]
  show ((trackRun C eg (exec C eg m) all os (put e o.dst undefA)).bind (trackEnd _)) ⟨s.h, s.c, s.rl, s.wl⟩ = _
  rw [bind_run h2]
  rfl
 ·have hq : Fp.silent ⟨[], [], s.c, s.c⟩ = true := Nat.beq_refl _
  unfold clashFree
  rw [hq]
  exact h3
end ops
section calls
variable {C : Ctx} {eg : TypeId → Bool} {e : Env} {s : St}
def Wres (C : Ctx) (e : Env) (rs : List ResultVar) (s : St) (Q : Value → St → Prop) : Prop := ∃ v s', resultsA C e rs s = some (v, s') ∧ Q v s'
theorem Fn.enter {f : Nat} {fn : Func} {body : Code} {args : List Value} {Q : Value → St → Prop} (hsm : C.sm f = none) (hex : C.ex f = none) (hf : C.fn.get f = some fn) (hb : fn.body = some body) (hl : Nat.ble (len args) fn.ntmps = true)
  (h : Wx C eg (Option.rec (motive := fun _ => Nat) 0 (fun n => n) (C.km.get f)) body (envOf (Option.rec (motive := fun _ => Nat) 0 (fun n => n) (C.km.get f)) args) ⟨s.h, s.c, [], []⟩
   fun x e' s' => (x = .normal ∨ x = .ret) ∧ Wres C e' fn.results.toList s' fun v s2 => Q v ⟨s2.h, s2.c, s2.rl.filter (fun b => decide (b < s.c)) ++ s.rl, s2.wl.filter (fun b => decide (b < s.c)) ++ s.wl⟩) :
  ∃ v s', FnTo C eg f args s v s' ∧ Q v s' := by
 obtain ⟨n, x, e', s', h1, h2, v, s2, h3, h4⟩ := h
 refine ⟨v, _, ⟨n, ?_⟩, h4⟩
 unfold callF
 rw [hsm]
 simp only
 rw [hex]
 simp only
 unfold callB
 rw [hf]
 simp only
 rw [hb, hl]
 simp only
 refine framed_run ?_
 unfold runF
 rw [bind_run h1]
 rcases h2 with rfl | rfl <;> exact h3
theorem OpTo.ofCall {d : Option Nat} {f : Nat} {ar : Array Operand} {ts : Array TypeId} {ty : TypeId} {ps : String} {af : Array Edge} {g : Option (Nat × Bool)} {args : List Value} {v : Value} {s' : St} (h : FnTo C eg f args s v s') (ha : mapA (evalA e) ar.toList = args) :
  OpTo C eg e ⟨d, .call ⟨.value (.func f), ar, ts⟩, ty, ps, af, g⟩ s v s' := by
 obtain ⟨n, h⟩ := h
 refine ⟨n, ?_⟩
 show callF C (exec C eg n) f (app [] (app (mapA (evalA e) ar.toList) [])) s = _
 rw [ha, show app ([] : List Value) (app args []) = args by rw [app_eq, app_eq]; simp]
 exact h
end calls
end Go.Ab
