/- The operations of the abstract machine against the model's. Part 7: interfaces, equality, arithmetic. -/
import Derived.Test.YtofikbfljjjgeaaGreatDoorE9
set_option linter.unusedVariables false
set_option linter.unusedSimpArgs false
namespace Go.Ab
section ops
variable {G : Nat} {C : Ctx} {eg : TypeId → Bool} {P : Program} {ι : Iota} {s : St} {w : World}
theorem sim_makeInterface (ok : C.Ok eg P) (hr : HR G ι s.h w.heap) (t : TypeId) {x x' : Value} (hx : VR ι x x') :
  SimV G P ι s w (opMakeInterface C t x) (Instr.makeInterface t x') := by
 intro v s' h _
 unfold opMakeInterface at h
 cases hd : C.und t with
 | none => rw [hd] at h; exact (fail_some h).elim
 | some d =>
  rw [hd] at h
  simp only at h
  have hun := ok.runUnd hd w
  have fin : (∀ ms, d ≠ .interface ms) → M.ret (.iface t x) s = some (v, s') → ∃ v' w' ι', (Instr.makeInterface t x').run P w = .ok v' w' ∧ VR ι' v v' ∧ Post G ι ι' s s' w w' := by
   intro hne hh
   obtain ⟨rfl, rfl⟩ := ret_some hh
   refine ⟨.iface t x', w, ι, ?_, .iface t _ _ hx, Post.refl hr rfl rfl⟩
   unfold Instr.makeInterface
   simp only [Sem.run_bind, hun, Result.andThen_ok]
   cases d <;> first | rfl | exact absurd rfl (hne _)
  cases d with
  | interface ms => exact (fail_some h).elim
  | _ => exact fin (by intro ms hh; cases hh) h
theorem missing_list (want : Array (String × TypeId)) (got : Array Method) : hasAll want.toList got.toList = ((want.toList.filter fun (x : String × TypeId) => !got.any fun m => m.name == x.1 && m.sig == x.2).map (·.1)).isEmpty := by
 unfold hasAll
 rw [allB_eq]
 simp only [allB_eq, List.isEmpty_map]
 rw [Bool.eq_iff_iff]
 simp only [List.all_eq_true, List.isEmpty_iff, List.filter_eq_nil_iff]
 refine forall_congr' fun x => forall_congr' fun _ => ?_
 rw [← Array.any_toList]
 simp only [Bool.not_eq_true', Bool.not_eq_true, Bool.not_eq_false]
 rw [Bool.eq_false_iff, ne_eq, List.all_eq_true]
 simp
 constructor
 ·rintro ⟨m, hm, h1, h2⟩
  obtain ⟨i, hi, rfl⟩ := Array.mem_iff_getElem.1 hm
  exact ⟨i, hi, h1, h2⟩
 ·rintro ⟨i, hi, h⟩
  exact ⟨got[i], Array.getElem_mem hi, h⟩
theorem missing_none {want : Array (String × TypeId)} {got : Array Method} (h : hasAll want.toList got.toList = true) : Instr.missingMethod want got = none := by
 rw [missing_list, List.isEmpty_iff] at h
 unfold Instr.missingMethod
 simp only [h]
 rfl
theorem missing_some {want : Array (String × TypeId)} {got : Array Method} (h : hasAll want.toList got.toList = false) : ∃ x, Instr.missingMethod want got = some x := by
 rw [missing_list] at h
 have go : ∀ (p : String → Bool) (l : List String), l.isEmpty = false → ∃ x, (match l.partition p with | (unexported, exported) => Instr.least exported <|> Instr.least (unexported.map fun id => (id.splitOn ".").getLastD id)) = some x := by
  intro p l hl
  rw [List.partition_eq_filter_filter]
  cases l with
  | nil => cases hl
  | cons a l =>
   cases he : List.filter (not ∘ p) (a :: l) with
   | cons x r => exact ⟨_, rfl⟩
   | nil =>
    rw [List.filter_eq_nil_iff] at he
    have ha := he a (List.mem_cons_self ..)
    have : p a = true := by simpa using ha
    rw [List.filter_cons_of_pos this]
    exact ⟨_, rfl⟩
 exact go _ _ h
theorem okTuple {z z' : Value} (b : Bool) (h : VR ι z z') : VR ι (.tuple #[z, .bool b]) (.tuple #[z', .bool b]) :=
 .tuple _ _ rfl (VRl.cons h (VRl.cons (.bool b) (VRl.nil ι))).2
theorem sim_typeAssert (ok : C.Ok eg P) (hr : HR G ι s.h w.heap) {x x' : Value} (xt a : TypeId) (cok : Bool) (hx : VR ι x x') :
  SimV G P ι s w (opTypeAssert C x a cok) (Instr.typeAssert x' xt a cok) := by
 intro v s' h _
 unfold opTypeAssert at h
 cases hd : C.und a with
 | none => rw [hd] at h; exact (fail_some h).elim
 | some d =>
  rw [hd] at h
  simp only at h
  have hun := ok.runUnd hd w
  have fails : ∀ (rt : Sem Value), cok = true → (M.lift (C.zero a)).bind (fun z => M.ret (Value.tuple #[z, .bool false])) s = some (v, s') →
    (∀ z, C.zero a = some z → (Instr.typeAssert x' xt a true).run P w = .ok (.tuple #[z, .bool false]) w) →
    ∃ v' w' ι', (Instr.typeAssert x' xt a cok).run P w = .ok v' w' ∧ VR ι' v v' ∧ Post G ι ι' s s' w w' := by
   intro _ hc hh hrun
   obtain ⟨z, s1, h1, h2⟩ := bind_some hh
   obtain ⟨hz, rfl⟩ := lift_some h1
   obtain ⟨rfl, rfl⟩ := ret_some h2
   rw [hc]
   exact ⟨_, w, ι, hrun z hz, okTuple false (ok.zeroFlat hz ι), Post.refl hr rfl rfl⟩
  have conc : (∀ ms, d ≠ .interface ms) → (match (generalizing := false) x with
    | .nilIface => (match (generalizing := false) cok with | true => (M.lift (C.zero a)).bind fun z => M.ret (Value.tuple #[z, .bool false]) | false => M.fail)
    | .iface t v => (match (generalizing := false) Nat.beq t a with
     | true => M.ret (match (generalizing := false) cok with | true => Value.tuple #[v, .bool true] | false => v)
     | false => (match (generalizing := false) cok with | true => (M.lift (C.zero a)).bind fun z => M.ret (Value.tuple #[z, .bool false]) | false => M.fail))
    | _ => M.fail) s = some (v, s') → ∃ v' w' ι', (Instr.typeAssert x' xt a cok).run P w = .ok v' w' ∧ VR ι' v v' ∧ Post G ι ι' s s' w w' := by
   intro hne hh
   split at hh
   ·cases hx
    cases cok with
    | false => exact (fail_some hh).elim
    | true =>
     refine fails (pure undef) rfl hh fun z hz => ?_
     unfold Instr.typeAssert
     simp only [Sem.run_bind, hun, Result.andThen_ok, if_true]
     cases d <;> first | exact absurd rfl (hne _) | simp only [Sem.run_bind, ok.zero hz, Result.andThen_ok, Sem.run_pure]
   ·rename_i t y
    cases hx with
    | iface _ _ y' hy =>
     cases hb : Nat.beq t a with
     | true =>
      rw [hb] at hh
      have hta := beq_iff.1 hb
      obtain ⟨rfl, rfl⟩ := ret_some hh
      refine ⟨if cok then .tuple #[y', .bool true] else y', w, ι, ?_, okVal cok true hy, Post.refl hr rfl rfl⟩
      unfold Instr.typeAssert
      simp only [Sem.run_bind, hun, Result.andThen_ok]
      cases d <;> first | exact absurd rfl (hne _) | (simp only [if_pos hta]; rfl)
     | false =>
      rw [hb] at hh
      have hta := beq_false.1 hb
      cases cok with
      | false => exact (fail_some hh).elim
      | true =>
       refine fails (pure undef) rfl hh fun z hz => ?_
       unfold Instr.typeAssert
       simp only [Sem.run_bind, hun, Result.andThen_ok, if_true]
       cases d <;> first | exact absurd rfl (hne _) | (rw [if_neg hta]; simp only [Sem.run_bind, ok.zero hz, Result.andThen_ok, Sem.run_pure])
   ·exact (fail_some hh).elim
  cases d with
  | interface want =>
   cases x with
   | iface t y =>
    cases hx with
    | iface _ _ y' hy =>
     simp only at h
     cases hi : C.ty.get t with
     | none => rw [hi] at h; exact (fail_some h).elim
     | some i =>
      rw [hi] at h
      simp only at h
      cases hm0 : hasAll want.toList i.methods.toList with
      | true =>
       have hm := missing_none hm0
       rw [hm0] at h
       obtain ⟨rfl, rfl⟩ := ret_some h
       refine ⟨if cok then .tuple #[.iface t y', .bool true] else .iface t y', w, ι, ?_, okVal cok true (.iface t _ _ hy), Post.refl hr rfl rfl⟩
       unfold Instr.typeAssert
       simp only [Sem.run_bind, hun, Result.andThen_ok, ok.info hi, hm, Sem.run_pure]
      | false =>
       obtain ⟨mm, hm⟩ := missing_some hm0
       rw [hm0] at h
       cases cok with
       | false => exact (fail_some h).elim
       | true =>
        refine fails (pure undef) rfl h fun z hz => ?_
        unfold Instr.typeAssert
        simp only [Sem.run_bind, hun, Result.andThen_ok, ok.info hi, hm, if_true, ok.zero hz, Sem.run_pure]
   | nilIface =>
    cases hx
    cases cok with
    | false => exact (fail_some h).elim
    | true =>
     refine fails (pure undef) rfl h fun z hz => ?_
     unfold Instr.typeAssert
     simp only [Sem.run_bind, hun, Result.andThen_ok, if_true, ok.zero hz, Sem.run_pure]
   | _ => exact (fail_some h).elim
  | _ => exact conc (by intro ms hh; cases hh) (by cases x <;> exact h)
theorem sim_extract (hr : HR G ι s.h w.heap) {x x' : Value} (i : Nat) (hx : VR ι x x') : SimV G P ι s w (opExtract x i) (Instr.extract x' i) := by
 intro v s' h _
 unfold opExtract at h
 cases x with
 | tuple vs =>
  cases hx with
  | tuple _ vs' ha ra =>
   obtain ⟨hn, rfl⟩ := lift_some h
   rw [nth_eq] at hn
   obtain ⟨y, hy, hxy⟩ := VRl.get ⟨ha, ra⟩ hn
   rw [Array.getElem?_toList] at hy
   refine ⟨y, w, ι, ?_, hxy, Post.refl hr rfl rfl⟩
   unfold Instr.extract
   simp only [hy]; rfl
 | _ => exact (fail_some h).elim
theorem method_some {t f : Nat} {v r : Value} {name : String} (h : methodA C t v name = some (f, r)) :
  r = v ∧ ∃ i m p d, C.ty.get t = some i ∧ i.methods.toList.find? (fun m => m.name == name) = some m ∧ m.path.toList = [] ∧ m.func = some (f, p) ∧ C.und t = some d ∧ ((∃ e, d = .pointer e) ↔ p = true) := by
 unfold methodA at h
 cases hi : C.ty.get t with
 | none => simp [hi] at h
 | some i =>
  simp only [hi] at h
  cases hm : i.methods.toList.find? (fun m => m.name == name) with
  | none => simp [hm] at h
  | some m =>
   simp only [hm] at h
   cases hp : m.path.toList with
   | cons a l => simp [hp] at h
   | nil =>
    cases hf : m.func with
    | none => simp [hp, hf] at h
    | some q =>
     obtain ⟨ff, p⟩ := q
     simp only [hp, hf] at h
     cases hd : C.und t with
     | none => simp [hd] at h
     | some d =>
      simp only [hd] at h
      cases p with
      | true =>
       cases d with
       | pointer e =>
        simp only [Option.some.injEq, Prod.mk.injEq] at h
        obtain ⟨rfl, rfl⟩ := h
        exact ⟨rfl, i, m, true, _, rfl, hm, hp, hf, rfl, by simp⟩
       | _ => simp at h
      | false =>
       cases d with
       | pointer e => simp at h
       | _ =>
        simp only [Option.some.injEq, Prod.mk.injEq] at h
        obtain ⟨rfl, rfl⟩ := h
        exact ⟨rfl, i, m, false, _, rfl, hm, hp, hf, rfl, by simp⟩
theorem run_method (ok : C.Ok eg P) {t f : Nat} {v v' r : Value} {name : String} (h : methodA C t v name = some (f, r)) (n : Nat) : (method (n + 1) t v' name).run P w = .ok (f, v') w := by
 obtain ⟨_, i, m, p, d, hi, hm, hp, hf, hd, hpd⟩ := method_some h
 have hm' : i.methods.find? (fun m => m.name == name) = some m := by rw [← Array.find?_toList]; exact hm
 unfold method
 simp only [Sem.run_bind, ok.info hi, Result.andThen_ok, hm', hp, follow, Sem.run_pure, hf]
 unfold receiverAt
 simp only [Sem.run_bind, ok.runUnd hd, Result.andThen_ok]
 cases p with
 | true =>
  obtain ⟨e, rfl⟩ := hpd.2 rfl
  rfl
 | false =>
  have hne : ∀ e, d ≠ .pointer e := fun e he => by have := hpd.1 ⟨e, he⟩; cases this
  cases d <;> first | exact absurd rfl (hne _) | rfl
theorem beq_decide (x y : Int) : (x == y) = decide (x = y) := by
 by_cases h : x = y
 ·subst h; simp
 ·simp [h]
theorem eqFields_run {n D : Nat} (ok : C.Ok eg P) (ih : ∀ (D : Nat) (t : TypeId) (x y x' y' : Value) (b : Bool), n ≤ D → VR ι x x' → VR ι y y' → eqA C eg n t x y = some b → (Op.equalIn D t x' y').run P w = .ok b w) (hD : n ≤ D)
  {xs ys : List Value} {xs' ys' : Array Value} (hx : VRl ι xs xs'.toList) (hy : VRl ι ys ys'.toList) : ∀ (fs : List Field) (b : Bool), eqFields C (eqA C eg n) xs ys fs = some b → (Op.eqFields D xs' ys' fs).run P w = .ok b w := by
 intro fs
 induction fs with
 | nil => intro b h; cases h; rfl
 | cons f fs ihf =>
  intro b h
  simp only [eqFields] at h
  unfold Op.eqFields
  by_cases hn : f.name = "_"
  ·rw [decide_eq_true hn] at h
   rw [if_neg (by simp [hn])]
   exact ihf b h
  ·rw [decide_eq_false hn] at h
   rw [if_pos hn]
   simp only at h
   cases ha : partA C f.type xs f.offset with
   | none => simp [ha] at h
   | some a =>
    cases hb : partA C f.type ys f.offset with
    | none => simp [ha, hb] at h
    | some c =>
     simp only [ha, hb] at h
     obtain ⟨a', a1, a2⟩ := part_VR (P := P) (w := w) ok hx ha
     obtain ⟨c', c1, c2⟩ := part_VR (P := P) (w := w) ok hy hb
     cases he : eqA C eg n f.type a c with
     | none => simp [he] at h
     | some q =>
      simp only [he] at h
      have hq := ih D f.type a c a' c' q hD a2 c2 he
      simp only [Sem.run_bind, a1, c1, Result.andThen_ok, hq]
      cases q with
      | false => cases h; rfl
      | true =>
       simp only [Bool.not_true, Bool.false_eq_true, if_false]
       exact ihf b h
theorem eq_run (ok : C.Ok eg P) : ∀ (n D : Nat) (t : TypeId) (x y x' y' : Value) (b : Bool), n ≤ D → VR ι x x' → VR ι y y' → eqA C eg n t x y = some b → (Op.equalIn D t x' y').run P w = .ok b w := by
 intro n
 induction n with
 | zero => intro D t x y x' y' b _ _ _ h; cases h
 | succ n ih =>
  intro D t x y x' y' b hD hx hy h
  obtain ⟨D, rfl⟩ : ∃ k, D = k + 1 := ⟨D - 1, by omega⟩
  have hD' : n ≤ D := by omega
  simp only [eqA] at h
  cases hd : C.und t with
  | none => simp [hd] at h
  | some u =>
   simp only [hd] at h
   have hun := ok.runUnd hd w
   split at h
   ·cases hx; cases hy
    simp only [Option.some.injEq] at h; subst h
    simp only [Op.equalIn, Sem.run_bind, hun, Result.andThen_ok, Sem.run_pure]
   ·cases hx; cases hy
    rename_i kk j a k c
    by_cases hk : j = k
    ·rw [decide_eq_true hk] at h
     simp only [Option.some.injEq] at h; subst h
     simp only [Op.equalIn, Sem.run_bind, hun, Result.andThen_ok]
     rw [if_pos hk, beq_decide]; rfl
    ·rw [decide_eq_false hk] at h; cases h
   ·cases hx; cases hy
    simp only [Option.some.injEq] at h; subst h
    simp only [Op.equalIn, Sem.run_bind, hun, Result.andThen_ok, Sem.run_pure, ba_beq, eqBytes_eq]
   ·cases hx; cases hy
    simp only [Option.some.injEq] at h; subst h
    simp only [Op.equalIn, Sem.run_bind, hun, Result.andThen_ok, Sem.run_pure]; rfl
   ·cases hx; cases hy
    simp only [Option.some.injEq] at h; subst h
    simp only [Op.equalIn, Sem.run_bind, hun, Result.andThen_ok, Sem.run_pure]; rfl
   ·cases hx; cases hy
    simp only [Option.some.injEq] at h; subst h
    simp only [Op.equalIn, Sem.run_bind, hun, Result.andThen_ok, Sem.run_pure]
   ·rename_i e a i c j
    cases hx with
    | ptr _ _ L hL =>
     cases hy with
     | ptr _ _ L' hL' =>
      cases hs : C.size e with
      | none => simp [hs] at h
      | some k =>
       cases k with
       | zero => simp [hs] at h
       | succ k =>
        cases hac : Nat.beq a c with
        | false => simp [hs, hac] at h
        | true =>
         simp only [hs, hac, Option.some.injEq] at h
         subst h
         have := beq_iff.1 hac
         subst this
         rw [hL] at hL'
         cases hL'
         simp only [Op.equalIn, Sem.run_bind, hun, Result.andThen_ok, ok.size hs]
         rw [if_pos (by omega)]
         unfold sameAddr
         simp only [beq_self_eq_true, if_true, Sem.run_pure]
         congr 1
         rw [Bool.eq_iff_iff, beq_iff_eq, beq_iff]
         simp
   ·cases hx; cases hy
    simp only [Option.some.injEq] at h; subst h
    simp only [Op.equalIn, Sem.run_bind, hun, Result.andThen_ok, Sem.run_pure]
   ·cases hx; cases hy
    simp only [Option.some.injEq] at h; subst h
    simp only [Op.equalIn, Sem.run_bind, hun, Result.andThen_ok, Sem.run_pure]
   ·cases hx; cases hy
    simp only [Option.some.injEq] at h; subst h
    simp only [Op.equalIn, Sem.run_bind, hun, Result.andThen_ok, Sem.run_pure]
   ·rename_i tx vx ty vy
    cases hx with
    | iface _ _ vx' hvx =>
     cases hy with
     | iface _ _ vy' hvy =>
      cases hb : Nat.beq tx ty with
      | false =>
       simp only [hb, Option.some.injEq] at h; subst h
       simp only [Op.equalIn, Sem.run_bind, hun, Result.andThen_ok]
       rw [if_pos (beq_false.1 hb)]; rfl
      | true =>
       have := beq_iff.1 hb
       subst this
       simp only [hb] at h
       cases hi : C.ty.get tx with
       | none => simp [hi] at h
       | some i =>
        simp only [hi] at h
        cases hc : i.comparable with
        | false => simp [hc] at h
        | true =>
         simp only [hc] at h
         simp only [Op.equalIn, Sem.run_bind, hun, Result.andThen_ok]
         rw [if_neg (by simp)]
         simp only [Sem.run_bind, ok.info hi, Result.andThen_ok, hc, Bool.not_true, Bool.false_eq_true, if_false]
         exact ih D tx vx vy vx' vy' b hD' hvx hvy h
   ·rename_i fields xs ys
    cases hx with
    | agg _ xs' h1 h2 =>
     cases hy with
     | agg _ ys' h3 h4 =>
      cases hg : eg t with
      | true => simp [hg] at h
      | false =>
       simp only [hg] at h
       have hf : P.fieldsOf t = fields := by unfold Program.fieldsOf; rw [ok.und hd]
       rw [run_equalIn_struct w D t xs' ys' (by rw [hf]; exact ok.und hd) (ok.eg t hg).2, hf]
       exact eqFields_run ok ih hD' ⟨h1, h2⟩ ⟨h3, h4⟩ _ b h
   all_goals first | (cases h; done) |
    (cases hx <;> cases hy <;> (simp only [Option.some.injEq] at h; subst h; simp only [Op.equalIn, Sem.run_bind, hun, Result.andThen_ok, Sem.run_pure] <;> try rfl))
end ops
end Go.Ab
