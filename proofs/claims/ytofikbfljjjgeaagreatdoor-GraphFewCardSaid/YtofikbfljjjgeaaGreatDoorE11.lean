import Derived.Test.YtofikbfljjjgeaaGreatDoorE9
set_option linter.unusedVariables false
set_option linter.unusedSimpArgs false
section
/- The operations of the abstract machine against the model's. Part 7: interfaces, equality, arithmetic. -/
namespace Go.Ab
section ops
variable {G : Nat} {C : Ctx} {eg : TypeId → Bool} {P : Program} {ι : Iota} {s : St} {w : World}
theorem sim_makeInterface (ok : C.Ok eg P) (hr : HR G ι s.h w.heap) (t : TypeId) {x x' : Value} (hx : VR ι x x') :
  SimV G P ι s w (opMakeInterface C t x) (Instr.makeInterface t x') := by
 intro v s' h _
 unfold opMakeInterface at h
 cases hd : C.und t with
 | none => rw [hd] at h; exact (fail_some h).elim
 | some d =>
  rw [hd] at h
  simp only at h
  have hun := ok.runUnd hd w
  have fin : (∀ ms, d ≠ .interface ms) → M.ret (.iface t x) s = some (v, s') → ∃ v' w' ι', (Instr.makeInterface t x').run P w = .ok v' w' ∧ VR ι' v v' ∧ Post G ι ι' s s' w w' := by
   intro hne hh
   obtain ⟨rfl, rfl⟩ := ret_some hh
   refine ⟨.iface t x', w, ι, ?_, .iface t _ _ hx, Post.refl hr rfl rfl⟩
   unfold Instr.makeInterface
   simp only [Sem.run_bind, hun, Result.andThen_ok]
   cases d <;> first | rfl | exact absurd rfl (hne _)
  cases d with
  | interface ms => exact (fail_some h).elim
  | _ => exact fin (by intro ms hh; cases hh) h
theorem missing_list (want : Array (String × TypeId)) (got : Array Method) : hasAll want.toList got.toList = ((want.toList.filter fun (x : String × TypeId) => !got.any fun m => m.name == x.1 && m.sig == x.2).map (·.1)).isEmpty := by
 unfold hasAll
 rw [allB_eq]
 simp only [allB_eq, List.isEmpty_map]
 rw [Bool.eq_iff_iff]
 simp only [List.all_eq_true, List.isEmpty_iff, List.filter_eq_nil_iff]
 refine forall_congr' fun x => forall_congr' fun _ => ?_
 rw [← Array.any_toList]
 simp only [Bool.not_eq_true', Bool.not_eq_true, Bool.not_eq_false]
 rw [Bool.eq_false_iff, ne_eq, List.all_eq_true]
 simp
 constructor
 ·rintro ⟨m, hm, h1, h2⟩
  obtain ⟨i, hi, rfl⟩ := Array.mem_iff_getElem.1 hm
  exact ⟨i, hi, h1, h2⟩
 ·rintro ⟨i, hi, h⟩
  exact ⟨got[i], Array.getElem_mem hi, h⟩
theorem missing_none {want : Array (String × TypeId)} {got : Array Method} (h : hasAll want.toList got.toList = true) : Instr.missingMethod want got = none := by
 rw [missing_list, List.isEmpty_iff] at h
 unfold Instr.missingMethod
 simp only [h]
 rfl
theorem missing_some {want : Array (String × TypeId)} {got : Array Method} (h : hasAll want.toList got.toList = false) : ∃ x, Instr.missingMethod want got = some x := by
 rw [missing_list] at h
 have go : ∀ (p : String → Bool) (l : List String), l.isEmpty = false → ∃ x, (match l.partition p with | (unexported, exported) => Instr.least exported <|> Instr.least (unexported.map fun id => (id.splitOn ".").getLastD id)) = some x := by
  intro p l hl
  rw [List.partition_eq_filter_filter]
  cases l with
  | nil => cases hl
  | cons a l =>
   cases he : List.filter (not ∘ p) (a :: l) with
   | cons x r => exact ⟨_, rfl⟩
   | nil =>
    rw [List.filter_eq_nil_iff] at he
    have ha := he a (List.mem_cons_self ..)
    have : p a = true := by simpa using ha
    rw [List.filter_cons_of_pos this]
    exact ⟨_, rfl⟩
 exact go _ _ h
theorem okTuple {z z' : Value} (b : Bool) (h : VR ι z z') : VR ι (.tuple #[z, .bool b]) (.tuple #[z', .bool b]) :=
 .tuple _ _ rfl (VRl.cons h (VRl.cons (.bool b) (VRl.nil ι))).2
theorem sim_typeAssert (ok : C.Ok eg P) (hr : HR G ι s.h w.heap) {x x' : Value} (xt a : TypeId) (cok : Bool) (hx : VR ι x x') :
  SimV G P ι s w (opTypeAssert C x a cok) (Instr.typeAssert x' xt a cok) := by
 intro v s' h _
 unfold opTypeAssert at h
 cases hd : C.und a with
 | none => rw [hd] at h; exact (fail_some h).elim
 | some d =>
  rw [hd] at h
  simp only at h
  have hun := ok.runUnd hd w
  have fails : ∀ (rt : Sem Value), cok = true → (M.lift (C.zero a)).bind (fun z => M.ret (Value.tuple #[z, .bool false])) s = some (v, s') →
    (∀ z, C.zero a = some z → (Instr.typeAssert x' xt a true).run P w = .ok (.tuple #[z, .bool false]) w) →
    ∃ v' w' ι', (Instr.typeAssert x' xt a cok).run P w = .ok v' w' ∧ VR ι' v v' ∧ Post G ι ι' s s' w w' := by
   intro _ hc hh hrun
   obtain ⟨z, s1, h1, h2⟩ := bind_some hh
   obtain ⟨hz, rfl⟩ := lift_some h1
   obtain ⟨rfl, rfl⟩ := ret_some h2
   rw [hc]
   exact ⟨_, w, ι, hrun z hz, okTuple false (ok.zeroFlat hz ι), Post.refl hr rfl rfl⟩
  have conc : (∀ ms, d ≠ .interface ms) → (match (generalizing := false) x with
    | .nilIface => (match (generalizing := false) cok with | true => (M.lift (C.zero a)).bind fun z => M.ret (Value.tuple #[z, .bool false]) | false => M.fail)
    | .iface t v => (match (generalizing := false) Nat.beq t a with
     | true => M.ret (match (generalizing := false) cok with | true => Value.tuple #[v, .bool true] | false => v)
     | false => (match (generalizing := false) cok with | true => (M.lift (C.zero a)).bind fun z => M.ret (Value.tuple #[z, .bool false]) | false => M.fail))
    | _ => M.fail) s = some (v, s') → ∃ v' w' ι', (Instr.typeAssert x' xt a cok).run P w = .ok v' w' ∧ VR ι' v v' ∧ Post G ι ι' s s' w w' := by
   intro hne hh
   split at hh
   ·cases hx
    cases cok with
    | false => exact (fail_some hh).elim
    | true =>
     refine fails (pure undef) rfl hh fun z hz => ?_
     unfold Instr.typeAssert
     simp only [Sem.run_bind, hun, Result.andThen_ok, if_true]
     cases d <;> first | exact absurd rfl (hne _) | simp only [Sem.run_bind, ok.zero hz, Result.andThen_ok, Sem.run_pure]
   ·rename_i t y
    cases hx with
    | iface _ _ y' hy =>
     cases hb : Nat.beq t a with
     | true =>
      rw [hb] at hh
      have hta := beq_iff.1 hb
      obtain ⟨rfl, rfl⟩ := ret_some hh
      refine ⟨if cok then .tuple #[y', .bool true] else y', w, ι, ?_, okVal cok true hy, Post.refl hr rfl rfl⟩
      unfold Instr.typeAssert
      simp only [Sem.run_bind, hun, Result.andThen_ok]
      cases d <;> first | exact absurd rfl (hne _) | (simp only [if_pos hta]; rfl)
     | false =>
      rw [hb] at hh
      have hta := beq_false.1 hb
      cases cok with
      | false => exact (fail_some hh).elim
      | true =>
       refine fails (pure undef) rfl hh fun z hz => ?_
       unfold Instr.typeAssert
       simp only [Sem.run_bind, hun, Result.andThen_ok, if_true]
       cases d <;> first | exact absurd rfl (hne _) | (rw [if_neg hta]; simp only [Sem.run_bind, ok.zero hz, Result.andThen_ok, Sem.run_pure])
   ·exact (fail_some hh).elim
  cases d with
  | interface want =>
   cases x with
   | iface t y =>
    cases hx with
    | iface _ _ y' hy =>
     simp only at h
     cases hi : C.ty.get t with
     | none => rw [hi] at h; exact (fail_some h).elim
     | some i =>
      rw [hi] at h
      simp only at h
      cases hm0 : hasAll want.toList i.methods.toList with
      | true =>
       have hm := missing_none hm0
       rw [hm0] at h
       obtain ⟨rfl, rfl⟩ := ret_some h
       refine ⟨if cok then .tuple #[.iface t y', .bool true] else .iface t y', w, ι, ?_, okVal cok true (.iface t _ _ hy), Post.refl hr rfl rfl⟩
       unfold Instr.typeAssert
       simp only [Sem.run_bind, hun, Result.andThen_ok, ok.info hi, hm, Sem.run_pure]
      | false =>
       obtain ⟨mm, hm⟩ := missing_some hm0
       rw [hm0] at h
       cases cok with
       | false => exact (fail_some h).elim
       | true =>
        refine fails (pure undef) rfl h fun z hz => ?_
        unfold Instr.typeAssert
        simp only [Sem.run_bind, hun, Result.andThen_ok, ok.info hi, hm, if_true, ok.zero hz, Sem.run_pure]
   | nilIface =>
    cases hx
    cases cok with
    | false => exact (fail_some h).elim
    | true =>
     refine fails (pure undef) rfl h fun z hz => ?_
     unfold Instr.typeAssert
     simp only [Sem.run_bind, hun, Result.andThen_ok, if_true, ok.zero hz, Sem.run_pure]
   | _ => exact (fail_some h).elim
  | _ => exact conc (by intro ms hh; cases hh) (by cases x <;> exact h)
theorem sim_extract (hr : HR G ι s.h w.heap) {x x' : Value} (i : Nat) (hx : VR ι x x') : SimV G P ι s w (opExtract x i) (Instr.extract x' i) := by
 intro v s' h _
 unfold opExtract at h
 cases x with
 | tuple vs =>
  cases hx with
  | tuple _ vs' ha ra =>
   obtain ⟨hn, rfl⟩ := lift_some h
   rw [nth_eq] at hn
   obtain ⟨y, hy, hxy⟩ := VRl.get ⟨ha, ra⟩ hn
   rw [Array.getElem?_toList] at hy
   refine ⟨y, w, ι, ?_, hxy, Post.refl hr rfl rfl⟩
   unfold Instr.extract
   simp only [hy]; rfl
 | _ => exact (fail_some h).elim
theorem method_some {t f : Nat} {v r : Value} {name : String} (h : methodA C t v name = some (f, r)) :
  r = v ∧ ∃ i m p d, C.ty.get t = some i ∧ i.methods.toList.find? (fun m => m.name == name) = some m ∧ m.path.toList = [] ∧ m.func = some (f, p) ∧ C.und t = some d ∧ ((∃ e, d = .pointer e) ↔ p = true) := by
 unfold methodA at h
 cases hi : C.ty.get t with
 | none => simp [hi] at h
 | some i =>
  simp only [hi] at h
  cases hm : i.methods.toList.find? (fun m => m.name == name) with
  | none => simp [hm] at h
  | some m =>
   simp only [hm] at h
   cases hp : m.path.toList with
   | cons a l => simp [hp] at h
   | nil =>
    cases hf : m.func with
    | none => simp [hp, hf] at h
    | some q =>
     obtain ⟨ff, p⟩ := q
     simp only [hp, hf] at h
     cases hd : C.und t with
     | none => simp [hd] at h
     | some d =>
      simp only [hd] at h
      cases p with
      | true =>
       cases d with
       | pointer e =>
        simp only [Option.some.injEq, Prod.mk.injEq] at h
        obtain ⟨rfl, rfl⟩ := h
        exact ⟨rfl, i, m, true, _, rfl, hm, hp, hf, rfl, by simp⟩
       | _ => simp at h
      | false =>
       cases d with
       | pointer e => simp at h
       | _ =>
        simp only [Option.some.injEq, Prod.mk.injEq] at h
        obtain ⟨rfl, rfl⟩ := h
        exact ⟨rfl, i, m, false, _, rfl, hm, hp, hf, rfl, by simp⟩
theorem run_method (ok : C.Ok eg P) {t f : Nat} {v v' r : Value} {name : String} (h : methodA C t v name = some (f, r)) (n : Nat) : (method (n + 1) t v' name).run P w = .ok (f, v') w := by
 obtain ⟨_, i, m, p, d, hi, hm, hp, hf, hd, hpd⟩ := method_some h
 have hm' : i.methods.find? (fun m => m.name == name) = some m := by rw [← Array.find?_toList]; exact hm
 unfold method
 simp only [Sem.run_bind, ok.info hi, Result.andThen_ok, hm', hp, follow, Sem.run_pure, hf]
 unfold receiverAt
 simp only [Sem.run_bind, ok.runUnd hd, Result.andThen_ok]
 cases p with
 | true =>
  obtain ⟨e, rfl⟩ := hpd.2 rfl
  rfl
 | false =>
  have hne : ∀ e, d ≠ .pointer e := fun e he => by have := hpd.1 ⟨e, he⟩; cases this
  cases d <;> first | exact absurd rfl (hne _) | rfl
theorem beq_decide (x y : Int) : (x == y) = decide (x = y) := by
 by_cases h : x = y
 ·subst h; simp
 ·simp [h]
theorem eqFields_run {n D : Nat} (ok : C.Ok eg P) (ih : ∀ (D : Nat) (t : TypeId) (x y x' y' : Value) (b : Bool), n ≤ D → VR ι x x' → VR ι y y' → eqA C eg n t x y = some b → (Op.equalIn D t x' y').run P w = .ok b w) (hD : n ≤ D)
  {xs ys : List Value} {xs' ys' : Array Value} (hx : VRl ι xs xs'.toList) (hy : VRl ι ys ys'.toList) : ∀ (fs : List Field) (b : Bool), eqFields C (eqA C eg n) xs ys fs = some b → (Op.eqFields D xs' ys' fs).run P w = .ok b w := by
 intro fs
 induction fs with
 | nil => intro b h; cases h; rfl
 | cons f fs ihf =>
  intro b h
  simp only [eqFields] at h
  unfold Op.eqFields
  by_cases hn : f.name = "_"
  ·rw [decide_eq_true hn] at h
   rw [if_neg (by simp [hn])]
   exact ihf b h
  ·rw [decide_eq_false hn] at h
   rw [if_pos hn]
   simp only at h
   cases ha : partA C f.type xs f.offset with
   | none => simp [ha] at h
   | some a =>
    cases hb : partA C f.type ys f.offset with
    | none => simp [ha, hb] at h
    | some c =>
     simp only [ha, hb] at h
     obtain ⟨a', a1, a2⟩ := part_VR (P := P) (w := w) ok hx ha
     obtain ⟨c', c1, c2⟩ := part_VR (P := P) (w := w) ok hy hb
     cases he : eqA C eg n f.type a c with
     | none => simp [he] at h
     | some q =>
      simp only [he] at h
      have hq := ih D f.type a c a' c' q hD a2 c2 he
      simp only [Sem.run_bind, a1, c1, Result.andThen_ok, hq]
      cases q with
      | false => cases h; rfl
      | true =>
       simp only [Bool.not_true, Bool.false_eq_true, if_false]
       exact ihf b h
theorem eq_run (ok : C.Ok eg P) : ∀ (n D : Nat) (t : TypeId) (x y x' y' : Value) (b : Bool), n ≤ D → VR ι x x' → VR ι y y' → eqA C eg n t x y = some b → (Op.equalIn D t x' y').run P w = .ok b w := by
 intro n
 induction n with
 | zero => intro D t x y x' y' b _ _ _ h; cases h
 | succ n ih =>
  intro D t x y x' y' b hD hx hy h
  obtain ⟨D, rfl⟩ : ∃ k, D = k + 1 := ⟨D - 1, by omega⟩
  have hD' : n ≤ D := by omega
  simp only [eqA] at h
  cases hd : C.und t with
  | none => simp [hd] at h
  | some u =>
   simp only [hd] at h
   have hun := ok.runUnd hd w
   split at h
   ·cases hx; cases hy
    simp only [Option.some.injEq] at h; subst h
    simp only [Op.equalIn, Sem.run_bind, hun, Result.andThen_ok, Sem.run_pure]
   ·cases hx; cases hy
    rename_i kk j a k c
    by_cases hk : j = k
    ·rw [decide_eq_true hk] at h
     simp only [Option.some.injEq] at h; subst h
     simp only [Op.equalIn, Sem.run_bind, hun, Result.andThen_ok]
     rw [if_pos hk, beq_decide]; rfl
    ·rw [decide_eq_false hk] at h; cases h
   ·cases hx; cases hy
    simp only [Option.some.injEq] at h; subst h
    simp only [Op.equalIn, Sem.run_bind, hun, Result.andThen_ok, Sem.run_pure, ba_beq, eqBytes_eq]
   ·cases hx; cases hy
    simp only [Option.some.injEq] at h; subst h
    simp only [Op.equalIn, Sem.run_bind, hun, Result.andThen_ok, Sem.run_pure]; rfl
   ·cases hx; cases hy
    simp only [Option.some.injEq] at h; subst h
    simp only [Op.equalIn, Sem.run_bind, hun, Result.andThen_ok, Sem.run_pure]; rfl
   ·cases hx; cases hy
    simp only [Option.some.injEq] at h; subst h
    simp only [Op.equalIn, Sem.run_bind, hun, Result.andThen_ok, Sem.run_pure]
   ·rename_i e a i c j
    cases hx with
    | ptr _ _ L hL =>
     cases hy with
     | ptr _ _ L' hL' =>
      cases hs : C.size e with
      | none => simp [hs] at h
      | some k =>
       cases k with
       | zero => simp [hs] at h
       | succ k =>
        cases hac : Nat.beq a c with
        | false => simp [hs, hac] at h
        | true =>
         simp only [hs, hac, Option.some.injEq] at h
         subst h
         have := beq_iff.1 hac
         subst this
         rw [hL] at hL'
         cases hL'
         simp only [Op.equalIn, Sem.run_bind, hun, Result.andThen_ok, ok.size hs]
         rw [if_pos (by omega)]
         unfold sameAddr
         simp only [beq_self_eq_true, if_true, Sem.run_pure]
         congr 1
         rw [Bool.eq_iff_iff, beq_iff_eq, beq_iff]
         simp
   ·cases hx; cases hy
    simp only [Option.some.injEq] at h; subst h
    simp only [Op.equalIn, Sem.run_bind, hun, Result.andThen_ok, Sem.run_pure]
   ·cases hx; cases hy
    simp only [Option.some.injEq] at h; subst h
    simp only [Op.equalIn, Sem.run_bind, hun, Result.andThen_ok, Sem.run_pure]
   ·cases hx; cases hy
    simp only [Option.some.injEq] at h; subst h
    simp only [Op.equalIn, Sem.run_bind, hun, Result.andThen_ok, Sem.run_pure]
   ·rename_i tx vx ty vy
    cases hx with
    | iface _ _ vx' hvx =>
     cases hy with
     | iface _ _ vy' hvy =>
      cases hb : Nat.beq tx ty with
      | false =>
       simp only [hb, Option.some.injEq] at h; subst h
       simp only [Op.equalIn, Sem.run_bind, hun, Result.andThen_ok]
       rw [if_pos (beq_false.1 hb)]; rfl
      | true =>
       have := beq_iff.1 hb
       subst this
       simp only [hb] at h
       cases hi : C.ty.get tx with
       | none => simp [hi] at h
       | some i =>
        simp only [hi] at h
        cases hc : i.comparable with
        | false => simp [hc] at h
        | true =>
         simp only [hc] at h
         simp only [Op.equalIn, Sem.run_bind, hun, Result.andThen_ok]
         rw [if_neg (by simp)]
         simp only [Sem.run_bind, ok.info hi, Result.andThen_ok, hc, Bool.not_true, Bool.false_eq_true, if_false]
         exact ih D tx vx vy vx' vy' b hD' hvx hvy h
   ·rename_i fields xs ys
    cases hx with
    | agg _ xs' h1 h2 =>
     cases hy with
     | agg _ ys' h3 h4 =>
      cases hg : eg t with
      | true => simp [hg] at h
      | false =>
       simp only [hg] at h
       have hf : P.fieldsOf t = fields := by unfold Program.fieldsOf; rw [ok.und hd]
       rw [run_equalIn_struct w D t xs' ys' (by rw [hf]; exact ok.und hd) (ok.eg t hg).2, hf]
       exact eqFields_run ok ih hD' ⟨h1, h2⟩ ⟨h3, h4⟩ _ b h
   all_goals first | (cases h; done) |
    (cases hx <;> cases hy <;> (simp only [Option.some.injEq] at h; subst h; simp only [Op.equalIn, Sem.run_bind, hun, Result.andThen_ok, Sem.run_pure] <;> try rfl))
end ops
end Go.Ab
end
section
/- The operations of the abstract machine against the model's. Part 8: arithmetic, strings, the choice. -/
namespace Go.Ab
section ops
variable {G : Nat} {C : Ctx} {eg : TypeId → Bool} {P : Program} {ι : Iota} {s : St} {w : World}
theorem bits_run {op : BinOp} {k : IntKind} {x y n : Int} (h : bitsA op k x y = some n) : (Op.intBits op k x y).run P w = .ok (.int k n) w := by
 cases op <;> first
  | (simp only [bitsA, wrapA_eq, Option.some.injEq] at h; subst h; rfl)
  | cases h
theorem guard_int (op : BinOp) (t : TypeId) (x y : Operand) (j k : IntKind) (m n : Int) : (eqGuard op t x y (.int j m) (.int k n)).run P w = .ok () w := by
 cases op <;> rfl
theorem guard_str (op : BinOp) (t : TypeId) (x y : Operand) (a b : ByteArray) : (eqGuard op t x y (.string a) (.string b)).run P w = .ok () w := by
 cases op <;> rfl
theorem arith_run {op : BinOp} (t : TypeId) {k : IntKind} {x y : Int} {v : Value} (h : arithA op k x y = some v) : (binOp op t (.int k x) (.int k y)).run P w = .ok v w := by
 have hk : ¬ (k ≠ k) := by simp
 have bits : ∀ o : BinOp, (match bitsA o k x y with | some n => some (Value.int k n) | none => none) = some v → (Op.intBits o k x y).run P w = .ok v w := by
  intro o hh
  cases hb : bitsA o k x y with
  | none => rw [hb] at hh; cases hh
  | some n =>
   rw [hb] at hh
   simp only [Option.some.injEq] at hh
   subst hh
   exact bits_run hb
 cases op with
 | add => simp only [arithA, wrapA_eq, Option.some.injEq] at h; subst h; show Sem.run P (if k ≠ k then _ else _) w = _; rw [if_neg hk]; rfl
 | sub => simp only [arithA, wrapA_eq, Option.some.injEq] at h; subst h; show Sem.run P (if k ≠ k then _ else _) w = _; rw [if_neg hk]; rfl
 | mul => simp only [arithA, wrapA_eq, Option.some.injEq] at h; subst h; show Sem.run P (if k ≠ k then _ else _) w = _; rw [if_neg hk]; rfl
 | quo =>
  simp only [arithA] at h
  by_cases hy : y = 0
  ·rw [decide_eq_true hy] at h; cases h
  ·rw [decide_eq_false hy] at h
   simp only [wrapA_eq, Option.some.injEq] at h; subst h; show Sem.run P (if k ≠ k then _ else Op.intDiv _ k x y) w = _; rw [if_neg hk]; unfold Op.intDiv; rw [if_neg hy]; rfl
 | rem =>
  simp only [arithA] at h
  by_cases hy : y = 0
  ·rw [decide_eq_true hy] at h; cases h
  ·rw [decide_eq_false hy] at h
   simp only [Option.some.injEq] at h; subst h; show Sem.run P (if k ≠ k then _ else Op.intDiv _ k x y) w = _; rw [if_neg hk]; unfold Op.intDiv; rw [if_neg hy]; rfl
 | and => have := bits .and h; show Sem.run P (if k ≠ k then _ else _) w = _; rw [if_neg hk]; exact this
 | or => have := bits .or h; show Sem.run P (if k ≠ k then _ else _) w = _; rw [if_neg hk]; exact this
 | xor => have := bits .xor h; show Sem.run P (if k ≠ k then _ else _) w = _; rw [if_neg hk]; exact this
 | andNot => have := bits .andNot h; show Sem.run P (if k ≠ k then _ else _) w = _; rw [if_neg hk]; exact this
 | shl => cases h
 | shr => cases h
 | eql => simp only [arithA, Option.some.injEq] at h; subst h; show Sem.run P (if k ≠ k then _ else _) w = _; rw [if_neg hk, ← beq_decide]; rfl
 | neq => simp only [arithA, Option.some.injEq] at h; subst h; show Sem.run P (if k ≠ k then _ else _) w = _; rw [if_neg hk, ← beq_decide]; rfl
 | lss => simp only [arithA, Option.some.injEq] at h; subst h; show Sem.run P (if k ≠ k then _ else _) w = _; rw [if_neg hk]; rfl
 | leq => simp only [arithA, Option.some.injEq] at h; subst h; show Sem.run P (if k ≠ k then _ else _) w = _; rw [if_neg hk]; rfl
 | gtr => simp only [arithA, Option.some.injEq] at h; subst h; show Sem.run P (if k ≠ k then _ else _) w = _; rw [if_neg hk]; rfl
 | geq => simp only [arithA, Option.some.injEq] at h; subst h; show Sem.run P (if k ≠ k then _ else _) w = _; rw [if_neg hk]; rfl
theorem arith_VR {op : BinOp} {k : IntKind} {x y : Int} {v : Value} (h : arithA op k x y = some v) : VR ι v v := by
 cases op <;> simp only [arithA] at h <;> (try split at h) <;> first | (cases h; done) | (cases h; first | exact .int _ _ | exact .bool _)
theorem shift_VR {op : BinOp} {k : IntKind} {x y : Int} {v : Value} (h : shiftA op k x y = some v) : VR ι v v := by
 cases y with
 | negSucc m => cases h
 | ofNat m => cases op <;> first | (cases h; done) | (cases h; exact .int _ _)
theorem str_VR {op : BinOp} {x y : ByteArray} {v : Value} (h : strA op x y = some v) : VR ι v v := by
 cases op <;> simp only [strA] at h <;> (try split at h) <;> first | (cases h; done) | (cases h; first | exact .string _ | exact .bool _)
theorem shift_run {op : BinOp} {j k : IntKind} {x y : Int} {v : Value} (h : shiftA op j x y = some v) : (Op.shift op j x k y).run P w = .ok v w := by
 cases y with
 | negSucc m => cases h
 | ofNat m =>
  have hn : ¬ (Int.ofNat m < 0) := by have : (0 : Int) ≤ Int.ofNat m := Int.natCast_nonneg m; omega
  unfold Op.shift
  rw [if_neg hn]
  cases op <;> first
   | (cases h; done)
   | (simp only [shiftA, wrapA_eq, Option.some.injEq] at h; subst h; simp only [Int.ofNat_eq_natCast, Int.toNat_natCast, Int.natCast_pow]; rfl)
theorem str_run {op : BinOp} (t : TypeId) {x y : ByteArray} {v : Value} (h : strA op x y = some v) : (binOp op t (.string x) (.string y)).run P w = .ok v w := by
 have e : (binOp op t (.string x) (.string y)) = Op.stringOp op x y := by cases op <;> rfl
 rw [e]
 unfold Op.stringOp
 simp only [ByteArray.toList_eq]
 cases op with
 | add =>
  simp only [strA] at h
  cases hb : Nat.ble (x.size + y.size) big with
  | false => rw [hb] at h; cases h
  | true =>
   rw [hb] at h
   simp only [Option.some.injEq] at h
   subst h
   have hle := ble_iff.1 hb
   have : ¬ (((x.size + y.size : Nat) : Int) > IntKind.i64.max) := by
    have : IntKind.i64.max = 9223372036854775807 := rfl
    rw [this]
    unfold big at hle
    omega
   simp only
   rw [if_neg this]
   rfl
 | _ => first
  | (cases h; done)
  | (simp only [strA, eqBytes_eq, Option.some.injEq] at h; subst h; rfl)
theorem eq_shape (ok : C.Ok eg P) {t : TypeId} {x y : Operand} {a a' b b' : Value} {r : Bool} {n : Nat} (ha : VR ι a a') (hb : VR ι b b') (hg : guardA eg t x y a b = true) (he : eqA C eg (n + 1) t a b = some r)
  (hi : ∀ j m k n, a = .int j m → b = .int k n → False) (hs : ∀ m n, a = .string m → b = .string n → False) :
  (∀ o : BinOp, (eqGuard o t x y a' b').run P w = .ok () w) ∧ binOp .eql t a' b' = (do pure (.bool (← Op.equal t a' b'))) ∧ binOp .neq t a' b' = (do pure (.bool (!(← Op.equal t a' b')))) := by
 simp only [eqA] at he
 cases hd : C.und t with
 | none => simp [hd] at he
 | some u =>
  simp only [hd] at he
  split at he
  case h_2 => exact (hi _ _ _ _ rfl rfl).elim
  case h_3 => exact (hs _ _ rfl rfl).elim
  case h_8 =>
   cases ha; cases hb
   refine ⟨fun o => ?_, rfl, rfl⟩
   have hc : (isConstA x || isConstA y) = true := hg
   cases x <;> cases y <;> first
    | (exfalso; simp [isConstA] at hc; done)
    | (cases o <;> rfl)
  case h_12 =>
   cases ha; cases hb
   refine ⟨fun o => ?_, rfl, rfl⟩
   have hc : (!eg t) = true := hg
   exact run_eqGuard_agg w o t x y _ _ (ok.eg t (by simpa using hc)).1
  all_goals first | (cases he; done) | (cases ha <;> cases hb <;> exact ⟨fun o => by cases o <;> rfl, rfl, rfl⟩)
theorem sim_bin (ok : C.Ok eg P) (hr : HR G ι s.h w.heap) (op : BinOp) (t : TypeId) (x y : Operand) {a a' b b' : Value} (ha : VR ι a a') (hb : VR ι b b') :
  SimV G P ι s w (M.lift (opBin C eg op t x y a b)) (do eqGuard op t x y a' b'; binOp op t a' b') := by
 refine SimV.lift hr fun v h => ?_
 -- '==' that looks into the values
 have eqs : ∀ r, guardA eg t x y a b = true → eqA C eg 100 t a b = some r → (∀ j m k n, a = .int j m → b = .int k n → False) → (∀ m n, a = .string m → b = .string n → False) →
   (do eqGuard .eql t x y a' b'; binOp .eql t a' b').run P w = .ok (.bool r) w ∧ (do eqGuard .neq t x y a' b'; binOp .neq t a' b').run P w = .ok (.bool !r) w := by
  intro r hg he hi hs
  have hq : (Op.equal t a' b').run P w = .ok r w := eq_run ok 100 Op.maxDepth t a b a' b' r (by decide) ha hb he
  obtain ⟨hgu, e1, e2⟩ := eq_shape (P := P) (w := w) (n := 99) ok ha hb hg he hi hs
  constructor
  ·simp only [Sem.run_bind, hgu, Result.andThen_ok, e1, hq, Sem.run_pure]
  ·simp only [Sem.run_bind, hgu, Result.andThen_ok, e2, hq, Sem.run_pure]
 unfold opBin at h
 split at h
 ·rename_i j m k n
  cases ha; cases hb
  refine ⟨v, ?_, ?_⟩
  ·simp only [Sem.run_bind, guard_int, Result.andThen_ok]
   split at h
   ·exact shift_run (k := k) h
   ·exact shift_run (k := k) h
   ·by_cases hjk : j = k
    ·subst hjk
     rw [decide_eq_true rfl] at h
     exact arith_run t h
    ·rw [decide_eq_false hjk] at h; cases h
  ·split at h
   ·exact shift_VR h
   ·exact shift_VR h
   ·split at h
    ·exact arith_VR h
    ·cases h
 ·cases ha; cases hb
  refine ⟨v, ?_, str_VR h⟩
  simp only [Sem.run_bind, guard_str, Result.andThen_ok]
  exact str_run t h
 ·rename_i j m k
  unfold leastGtr at h
  split at h
  ·rename_i x
   cases ha
   cases hb with
   | least _ c hkc =>
    by_cases hj : j = .i64
    ·subst hj
     rw [decide_eq_true rfl, Bool.true_and] at h
     cases hx : Nat.ble x k with
     | false => rw [hx] at h; cases h
     | true =>
      rw [hx] at h
      simp only [Option.some.injEq] at h
      subst h
      have hle := ble_iff.1 hx
      refine ⟨.bool false, ?_, .bool _⟩
      simp only [Sem.run_bind, guard_int, Result.andThen_ok]
      have : arithA .gtr .i64 (Int.ofNat x) (c : Int) = some (.bool false) := by
       simp only [arithA, Option.some.injEq, Value.bool.injEq, decide_eq_false_iff_not]
       have : (Int.ofNat x) = (x : Int) := rfl
       omega
      exact arith_run t this
    ·rw [decide_eq_false hj] at h; cases h
  ·cases h
 ·rename_i a b hi hs _
  split at h
  ·split at h
   ·rename_i hg
    split at h
    ·rename_i r he
     simp only [Option.some.injEq] at h
     subst h
     exact ⟨_, (eqs r hg he (fun j m k n e f => hi j m k n e f) (fun m n e f => hs m n e f)).1, .bool _⟩
    ·cases h
   ·cases h
  ·split at h
   ·rename_i hg
    split at h
    ·rename_i r he
     simp only [Option.some.injEq] at h
     subst h
     exact ⟨_, (eqs r hg he (fun j m k n e f => hi j m k n e f) (fun m n e f => hs m n e f)).2, .bool _⟩
    ·cases h
   ·cases h
  ·cases h
theorem sim_un (hr : HR G ι s.h w.heap) (op : UnOp) {a a' : Value} (ha : VR ι a a') : SimV G P ι s w (M.lift (opUn op a)) (Op.unary op a') := by
 refine SimV.lift hr fun v h => ?_
 unfold opUn at h
 split at h
 ·cases ha
  simp only [wrapA_eq, Option.some.injEq] at h
  subst h
  exact ⟨_, rfl, .int _ _⟩
 ·cases ha
  split at h
  ·rename_i r hb
   simp only [Option.some.injEq] at h
   subst h
   exact ⟨_, bits_run (op := .xor) hb, .int _ _⟩
  ·cases h
 ·cases ha
  simp only [Option.some.injEq] at h
  subst h
  exact ⟨_, rfl, .bool _⟩
 ·cases h
end ops
end Go.Ab
end
