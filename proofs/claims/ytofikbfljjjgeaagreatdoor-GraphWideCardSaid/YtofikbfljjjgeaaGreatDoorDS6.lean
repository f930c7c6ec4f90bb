import Derived.Test.YtofikbfljjjgeaaGreatDoorDS3
import Derived.Test.YtofikbfljjjgeaaGreatDoorDS1
import Derived.Test.YtofikbfljjjgeaaGreatDoorE22
set_option linter.unusedVariables false
set_option linter.unusedSimpArgs false
section
/- The methods of reflectlite's rtype; all contracts together. -/
namespace Go.Ab.Seat
open Go.Extern Go.Proofs
set_option maxRecDepth 1000000
theorem cKindPE (w : World) : (callMethod (.iface tRt (.agg #[hd tPE])) "Kind" #[]).run Tryz.prog w = .ok (.value (.int .u8 22)) w := by kernel_rfl
theorem cKindE (w : World) : (callMethod (.iface tRt (.agg #[hd tErrno])) "Kind" #[]).run Tryz.prog w = .ok (.value (.int .u8 2)) w := by kernel_rfl
theorem cElemPE (w : World) : (callMethod (.iface tRt (.agg #[hd tPE])) "Elem" #[]).run Tryz.prog w = .ok (.value (rt tErrno)) w := by kernel_rfl
theorem cImpl (w : World) : (callMethod (.iface tRt (.agg #[hd tErrno])) "Implements" #[.iface tRt (.agg #[hd tErr])]).run Tryz.prog w = .ok (.value (.bool true)) w := by kernel_rfl
theorem cAssE (w : World) : (callMethod (.iface tRt (.agg #[hd tErrno])) "AssignableTo" #[.iface tRt (.agg #[hd tErrno])]).run Tryz.prog w = .ok (.value (.bool true)) w := by kernel_rfl
theorem cAssAt (w : World) : (callMethod (.iface tRt (.agg #[hd tAt])) "AssignableTo" #[.iface tRt (.agg #[hd tErrno])]).run Tryz.prog w = .ok (.value (.bool false)) w := by kernel_rfl
theorem cComp (w : World) : (callMethod (.iface tRt (.agg #[hd tErrno])) "Comparable" #[]).run Tryz.prog w = .ok (.value (.bool true)) w := by kernel_rfl
end Go.Ab.Seat
end
section
/- The methods of reflectlite's rtype are contracts. -/
namespace Go.Ab.Seat
open Go.Extern Go.Proofs
def ViSound (name : String) (g : List Value → M Value) : Prop :=
 ∀ (x x' : Value) (args args' : List Value) (s s' : St) (v : Value) (ι : Iota) (w : World),
  g (x :: args) s = some (v, s') → VR ι x x' → VRl ι args args' → HR 3 ι s.h w.heap →
  ∃ v' w' ι', (callMethod (.iface tRt x') name args'.toArray).run Tryz.prog w = .ok (.value v') w' ∧ VR ι' v v' ∧ Post 3 ι ι' s s' w w'
theorem vi_kind : ViSound "Kind" vKind := by
 intro x x' args args' s s' v ι w hg hx ha hr
 cases args with
 | cons y l => exact (fail_some (s := s) hg).elim
 | nil =>
  have := ha.nil_inv
  subst this
  simp only [vKind] at hg
  cases hu : unRt x with
  | none => rw [hu] at hg; exact (fail_some hg).elim
  | some t =>
   rw [hu] at hg
   have := unRt_VR hr hu hx
   subst this
   simp only at hg
   cases h1 : Nat.beq t tPE with
   | true =>
    rw [h1] at hg
    have := beq_iff.1 h1
    subst this
    obtain ⟨rfl, rfl⟩ := ret_some hg
    exact ⟨_, w, ι, cKindPE w, .int _ _, Post.refl hr rfl rfl⟩
   | false =>
    rw [h1] at hg
    cases h2 : Nat.beq t tErrno with
    | true =>
     rw [h2] at hg
     have := beq_iff.1 h2
     subst this
     obtain ⟨rfl, rfl⟩ := ret_some hg
     exact ⟨_, w, ι, cKindE w, .int _ _, Post.refl hr rfl rfl⟩
    | false => rw [h2] at hg; exact (fail_some (s := s) hg).elim
theorem vi_elem : ViSound "Elem" vElem := by
 intro x x' args args' s s' v ι w hg hx ha hr
 cases args with
 | cons y l => exact (fail_some (s := s) hg).elim
 | nil =>
  have := ha.nil_inv
  subst this
  simp only [vElem] at hg
  cases hu : unRt x with
  | none => rw [hu] at hg; exact (fail_some hg).elim
  | some t =>
   rw [hu] at hg
   have := unRt_VR hr hu hx
   subst this
   simp only at hg
   cases h1 : Nat.beq t tPE with
   | true =>
    rw [h1] at hg
    have := beq_iff.1 h1
    subst this
    obtain ⟨rfl, rfl⟩ := ret_some hg
    exact ⟨_, w, ι, cElemPE w, rt_VR hr _, Post.refl hr rfl rfl⟩
   | false => rw [h1] at hg; exact (fail_some (s := s) hg).elim
theorem vi_comparable : ViSound "Comparable" vComparable := by
 intro x x' args args' s s' v ι w hg hx ha hr
 cases args with
 | cons y l => exact (fail_some (s := s) hg).elim
 | nil =>
  have := ha.nil_inv
  subst this
  simp only [vComparable] at hg
  cases hu : unRt x with
  | none => rw [hu] at hg; exact (fail_some hg).elim
  | some t =>
   rw [hu] at hg
   have := unRt_VR hr hu hx
   subst this
   simp only at hg
   cases h1 : Nat.beq t tErrno with
   | true =>
    rw [h1] at hg
    have := beq_iff.1 h1
    subst this
    obtain ⟨rfl, rfl⟩ := ret_some hg
    exact ⟨_, w, ι, cComp w, .bool _, Post.refl hr rfl rfl⟩
   | false => rw [h1] at hg; exact (fail_some (s := s) hg).elim
theorem two_rt {g : Nat → Nat → Nat → M Value} {x x' : Value} {args args' : List Value} {s s' : St} {v : Value} {ι : Iota} {w : World} {k : List Value → M Value}
  (hk : ∀ r u t e, unRt x = some t → unRt u = some e → k [x, .iface r u] = g t r e)
  (h0 : ∀ l, (∀ r u t e, l = [.iface r u] → unRt x = some t → unRt u = some e → False) → k (x :: l) = M.fail)
  (hg : k (x :: args) s = some (v, s')) (hx : VR ι x x') (ha : VRl ι args args') (hr : HR 3 ι s.h w.heap) :
  ∃ t r e, x' = .agg #[hd t] ∧ args' = [.iface r (.agg #[hd e])] ∧ g t r e s = some (v, s') := by
 by_cases hh : ∃ r u t e, args = [.iface r u] ∧ unRt x = some t ∧ unRt u = some e
 ·obtain ⟨r, u, t, e, rfl, h1, h2⟩ := hh
  rw [hk r u t e h1 h2] at hg
  obtain ⟨y, l, rfl, h3, h4⟩ := ha.cons_inv
  have := h4.nil_inv
  subst this
  cases h3 with
  | iface _ _ u' hu' =>
   have := unRt_VR hr h2 hu'
   subst this
   exact ⟨t, r, e, unRt_VR hr h1 hx, rfl, hg⟩
 ·rw [h0 args fun r u t e h1 h2 h3 => hh ⟨r, u, t, e, h1, h2, h3⟩] at hg
  exact (fail_some hg).elim
theorem vi_implements : ViSound "Implements" vImplements := by
 intro x x' args args' s s' v ι w hg hx ha hr
 obtain ⟨t, r, e, rfl, rfl, hg⟩ := two_rt (k := vImplements) (g := fun t r e => bif Nat.beq t tErrno && Nat.beq e tErr && Nat.beq r tRt then M.ret (.bool true) else M.fail)
  (fun r u t e h1 h2 => by simp only [vImplements, h1, h2]) (fun l h => by
   unfold vImplements
   cases l with
   | nil => rfl
   | cons y l =>
    cases l with
    | cons z l => cases y <;> rfl
    | nil =>
     cases y with
     | iface r u =>
      simp only
      cases h1 : unRt x with
      | none => rfl
      | some t =>
       cases h2 : unRt u with
       | none => rfl
       | some e => exact (h r u t e rfl h1 h2).elim
     | _ => rfl) hg hx ha hr
 cases hc : (Nat.beq t tErrno && Nat.beq e tErr && Nat.beq r tRt) with
 | false => simp only [hc] at hg; exact (fail_some (s := s) hg).elim
 | true =>
  simp only [hc] at hg
  rw [Bool.and_eq_true, Bool.and_eq_true] at hc
  have e1 := beq_iff.1 hc.1.1
  have e2 := beq_iff.1 hc.1.2
  have e3 := beq_iff.1 hc.2
  subst e1; subst e2; subst e3
  obtain ⟨rfl, rfl⟩ := ret_some hg
  exact ⟨_, w, ι, cImpl w, .bool _, Post.refl hr rfl rfl⟩
theorem vi_assignableTo : ViSound "AssignableTo" vAssignableTo := by
 intro x x' args args' s s' v ι w hg hx ha hr
 obtain ⟨t, r, e, rfl, rfl, hg⟩ := two_rt (k := vAssignableTo) (g := fun t r e => bif Nat.beq e tErrno && Nat.beq r tRt then (bif Nat.beq t tErrno then M.ret (.bool true) else bif Nat.beq t tAt then M.ret (.bool false) else M.fail) else M.fail)
  (fun r u t e h1 h2 => by simp only [vAssignableTo, h1, h2]) (fun l h => by
   unfold vAssignableTo
   cases l with
   | nil => rfl
   | cons y l =>
    cases l with
    | cons z l => cases y <;> rfl
    | nil =>
     cases y with
     | iface r u =>
      simp only
      cases h1 : unRt x with
      | none => rfl
      | some t =>
       cases h2 : unRt u with
       | none => rfl
       | some e => exact (h r u t e rfl h1 h2).elim
     | _ => rfl) hg hx ha hr
 cases hc : (Nat.beq e tErrno && Nat.beq r tRt) with
 | false => simp only [hc] at hg; exact (fail_some (s := s) hg).elim
 | true =>
  simp only [hc] at hg
  rw [Bool.and_eq_true] at hc
  have e1 := beq_iff.1 hc.1
  have e3 := beq_iff.1 hc.2
  subst e1; subst e3
  cases h1 : Nat.beq t tErrno with
  | true =>
   simp only [h1] at hg
   have := beq_iff.1 h1
   subst this
   obtain ⟨rfl, rfl⟩ := ret_some hg
   exact ⟨_, w, ι, cAssE w, .bool _, Post.refl hr rfl rfl⟩
  | false =>
   cases h2 : Nat.beq t tAt with
   | true =>
    simp only [h1, h2] at hg
    have := beq_iff.1 h2
    subst this
    obtain ⟨rfl, rfl⟩ := ret_some hg
    exact ⟨_, w, ι, cAssAt w, .bool _, Post.refl hr rfl rfl⟩
   | false => simp only [h1, h2] at hg; exact (fail_some (s := s) hg).elim
end Go.Ab.Seat
end
section
/- What the seat's tables owe: closed facts by the kernel. -/
namespace Go.Ab.Seat
set_option maxRecDepth 1000000
theorem flats : allB (fun i : TypeInfo => match i.zero with | some z => flat 30 z | none => true) Proofs.Tryz.prog.types.toList = true := by kernel_rfl
theorem names : allB (fun g : Func => match g.body with | none => true | some _ => !(g.name == "runtime.NumGoroutine")) Proofs.Tryz.prog.funcs.toList = true := by kernel_rfl
theorem codes (sm : Nat → Option (List Value → M Value)) : allB (fun g : Func => match g.body with | none => true | some b => codeOk (Cs sm) 3 g.ntmps b) Proofs.Tryz.prog.funcs.toList = true := by kernel_rfl
theorem mixed : Proofs.Tryz.prog.follows .mixedOrders = true := by kernel_rfl
theorem ok (sm : Nat → Option (List Value → M Value)) : (Cs sm).Ok eg Proofs.Tryz.prog := by
 have hty : ∀ t, (Cs sm).ty.get t = Proofs.Tryz.prog.types[t]? := fun t => by
  show (T.ofList Proofs.Tryz.prog.types.toList).get t = _
  rw [T.get_ofList, Array.getElem?_toList]
 have hfn : ∀ t, (Cs sm).fn.get t = Proofs.Tryz.prog.funcs[t]? := fun t => by
  show (T.ofList Proofs.Tryz.prog.funcs.toList).get t = _
  rw [T.get_ofList, Array.getElem?_toList]
 refine ⟨fun t i h => by rw [hty] at h; have hlt := (Array.getElem?_eq_some_iff.1 h).1; unfold Tables.info?; rw [if_pos hlt]; exact h, fun f g h => by rw [hfn] at h; exact h, fun t i z h hz => ?_, fun t h => ?_, fun f g b h hb => ?_⟩
 ·rw [hty] at h
  have := flats
  rw [allB_eq, List.all_eq_true] at this
  have := this i (List.mem_of_getElem? (by rw [Array.getElem?_toList]; exact h))
  rw [hz] at this
  exact this
 ·unfold eg at h
  rw [Bool.or_eq_false_iff] at h
  exact h
 ·rw [hfn] at h
  have := names
  rw [allB_eq, List.all_eq_true] at this
  have := this g (List.mem_of_getElem? (by rw [Array.getElem?_toList]; exact h))
  rw [hb] at this
  simpa using this
theorem whole (sm : Nat → Option (List Value → M Value)) (h : SmOk (Cs sm) Proofs.Tryz.prog 3) : (Cs sm).Whole eg Proofs.Tryz.prog 3 := by
 refine ⟨ok sm, fun f fn b hf hb => ?_, mixed, h⟩
 have hfn : (Cs sm).fn.get f = Proofs.Tryz.prog.funcs[f]? := by
  show (T.ofList Proofs.Tryz.prog.funcs.toList).get f = _
  rw [T.get_ofList, Array.getElem?_toList]
 rw [hfn] at hf
 have := codes sm
 rw [allB_eq, List.all_eq_true] at this
 have := this fn (List.mem_of_getElem? (by rw [Array.getElem?_toList]; exact hf))
 rw [hb] at this
 exact this
end Go.Ab.Seat
end
section
/- All the contracts that are no functions of the program. -/
namespace Go.Ab.Seat
open Go.Extern Go.Proofs
theorem local_ex (f : Nat) (g : List Value → M Value) (args : List Value) (h : ex f = some g) : Local (g args) := by
 unfold ex at h
 have l1 : ∀ args, Local (xTypeOf args) := fun args => by unfold xTypeOf; split <;> first | exact Local.ret _ | exact Local.fail
 have l2 : ∀ args, Local (xValueOf args) := fun args => by
  unfold xValueOf
  split
  ·split
   ·exact Local.bind (local_newCells _) fun _ => Local.ret _
   ·exact Local.fail
  ·exact Local.fail
 have l3 : ∀ args, Local (xType args) := fun args => by
  unfold xType
  split
  ·split <;> first | exact Local.ret _ | exact Local.fail
  ·exact Local.fail
 have l4 : ∀ args, Local (xIsNil args) := fun args => by
  unfold xIsNil
  split
  ·split
   ·rename_i t b o f _
    cases (Nat.beq t tPE && Nat.beq f 150)
    ·exact Local.fail
    ·rw [cond_true]
     refine Local.bind (local_getCells _) fun cs => ?_
     split <;> first | exact Local.ret _ | exact Local.fail
   ·exact Local.fail
  ·exact Local.fail
 have l5 : ∀ args, Local (xElem args) := fun args => by
  unfold xElem
  split
  ·split
   ·rename_i t b o f _
    cases (Nat.beq t tPE && Nat.beq f 150)
    ·exact Local.fail
    ·rw [cond_true]
     refine Local.bind (local_getCells _) fun cs => ?_
     split <;> first | exact Local.ret _ | exact Local.fail
   ·exact Local.fail
  ·exact Local.fail
 have l6 : ∀ args, Local (xSet args) := fun args => by
  unfold xSet
  split
  ·split
   ·rename_i t b o f u c p g _ _
    cases (Nat.beq t tErrno && Nat.beq u tErrno && Nat.beq f 386 && Nat.beq g 130)
    ·exact Local.fail
    ·rw [cond_true]
     refine Local.bind (local_getCells _) fun cs => ?_
     split
     ·exact Local.bind (local_writeCells _ _ _) fun _ => Local.ret _
     ·exact Local.fail
   ·exact Local.fail
  ·exact Local.fail
 have l7 : ∀ args, Local (xOverlaps args) := fun args => by
  unfold xOverlaps
  split
  ·rename_i a _ _ b _ _
   cases (Nat.beq a.block b.block)
   ·refine Local.bind (local_getCellsW _) fun _ => Local.bind (local_getCellsW _) fun cs => ?_
    split <;> first | exact Local.ret _ | exact Local.fail
   ·exact Local.fail
  ·exact Local.fail
 cases h1 : Nat.beq f fTypeOf <;> rw [h1] at h
 ·cases h2 : Nat.beq f fValueOf <;> rw [h2] at h
  ·cases h3 : Nat.beq f fType <;> rw [h3] at h
   ·cases h4 : Nat.beq f fIsNil <;> rw [h4] at h
    ·cases h5 : Nat.beq f fElem <;> rw [h5] at h
     ·cases h6 : Nat.beq f fSet <;> rw [h6] at h
      ·cases h7 : Nat.beq f fOverInt <;> rw [h7] at h
       ·cases h8 : Nat.beq f fOverHit <;> rw [h8] at h
        ·cases h
        ·cases h; exact l7 _
       ·cases h; exact l7 _
      ·cases h; exact l6 _
     ·cases h; exact l5 _
    ·cases h; exact l4 _
   ·cases h; exact l3 _
  ·cases h; exact l2 _
 ·cases h; exact l1 _
theorem local_vi (t : Nat) (n : String) (g : List Value → M Value) (args : List Value) (h : vi t n = some g) : Local (g args) := by
 have l1 : ∀ args, Local (vKind args) := fun args => by
  unfold vKind
  split
  ·split
   ·rename_i t _
    cases (Nat.beq t tPE)
    ·cases (Nat.beq t tErrno)
     ·exact Local.fail
     ·exact Local.ret _
    ·exact Local.ret _
   ·exact Local.fail
  ·exact Local.fail
 have l2 : ∀ args, Local (vElem args) := fun args => by
  unfold vElem
  split
  ·split
   ·rename_i t _
    cases (Nat.beq t tPE)
    ·exact Local.fail
    ·exact Local.ret _
   ·exact Local.fail
  ·exact Local.fail
 have l3 : ∀ args, Local (vImplements args) := fun args => by
  unfold vImplements
  split
  ·rename_i r u
   split
   ·rename_i t e _ _
    cases (Nat.beq t tErrno && Nat.beq e tErr && Nat.beq r tRt)
    ·exact Local.fail
    ·exact Local.ret _
   ·exact Local.fail
  ·exact Local.fail
 have l4 : ∀ args, Local (vAssignableTo args) := fun args => by
  unfold vAssignableTo
  split
  ·rename_i r u
   split
   ·rename_i t e _ _
    cases (Nat.beq e tErrno && Nat.beq r tRt)
    ·exact Local.fail
    ·cases (Nat.beq t tErrno)
     ·cases (Nat.beq t tAt)
      ·exact Local.fail
      ·exact Local.ret _
     ·exact Local.ret _
   ·exact Local.fail
  ·exact Local.fail
 have l5 : ∀ args, Local (vComparable args) := fun args => by
  unfold vComparable
  split
  ·split
   ·rename_i t _
    cases (Nat.beq t tErrno)
    ·exact Local.fail
    ·exact Local.ret _
   ·exact Local.fail
  ·exact Local.fail
 unfold vi at h
 cases h1 : Nat.beq t tRt <;> rw [h1] at h
 ·cases h
 ·rw [cond_true] at h
  split at h <;> first | (cases h; first | exact l1 _ | exact l2 _ | exact l3 _ | exact l4 _ | exact l5 _) | cases h
theorem soundVi (sm : Nat → Option (List Value → M Value)) : SoundVi (Cs sm) Tryz.prog 3 := by
 intro t name g h0 x x' args args' s s' v ι w hg hx ha hr _
 have h : vi t name = some g := h0
 clear h0
 unfold vi at h
 cases h1 : Nat.beq t tRt <;> rw [h1] at h
 ·cases h
 ·rw [cond_true] at h
  have := beq_iff.1 h1
  subst this
  split at h
  ·cases h; exact vi_kind x x' args args' s s' v ι w hg hx ha hr
  ·cases h; exact vi_elem x x' args args' s s' v ι w hg hx ha hr
  ·cases h; exact vi_implements x x' args args' s s' v ι w hg hx ha hr
  ·cases h; exact vi_assignableTo x x' args args' s s' v ι w hg hx ha hr
  ·cases h; exact vi_comparable x x' args args' s s' v ι w hg hx ha hr
  ·cases h
theorem soundEx (f : Nat) (g : List Value → M Value) (h : ex f = some g) : ExSound f g := by
 unfold ex at h
 cases h1 : Nat.beq f fTypeOf <;> rw [h1] at h
 ·cases h2 : Nat.beq f fValueOf <;> rw [h2] at h
  ·cases h3 : Nat.beq f fType <;> rw [h3] at h
   ·cases h4 : Nat.beq f fIsNil <;> rw [h4] at h
    ·cases h5 : Nat.beq f fElem <;> rw [h5] at h
     ·cases h6 : Nat.beq f fSet <;> rw [h6] at h
      ·cases h7 : Nat.beq f fOverInt <;> rw [h7] at h
       ·cases h8 : Nat.beq f fOverHit <;> rw [h8] at h
        ·cases h
        ·cases h; rw [beq_iff.1 h8]; exact ex_overHit
       ·cases h; rw [beq_iff.1 h7]; exact ex_overInt
      ·cases h; rw [beq_iff.1 h6]; exact ex_set
     ·cases h; rw [beq_iff.1 h5]; exact ex_elem
    ·cases h; rw [beq_iff.1 h4]; exact ex_isNil
   ·cases h; rw [beq_iff.1 h3]; exact ex_type
  ·cases h; rw [beq_iff.1 h2]; exact ex_valueOf
 ·cases h; rw [beq_iff.1 h1]; exact ex_typeOf
structure SmOne (f : Nat) (g : List Value → M Value) : Prop where
 loc : ∀ args, Local (g args)
 sound : ∀ (args : List Value) (s s' : St) (v : Value) (ι : Iota) (w : World) (args' : List Value) (R : Ending → World → Prop),
  g args s = some (v, s') → VRl ι args args' → HR 3 ι s.h w.heap → (∀ b, s.c ≤ b → b < s'.c → ι b = none) →
  (∀ v' w' ι', VR ι' v v' → Post 3 ι ι' s s' w w' → R (.returned v') w') → Callable Tryz.prog f ∧ Calls Tryz.prog f args'.toArray w R
theorem smOk (sm : Nat → Option (List Value → M Value)) (h : ∀ f g, sm f = some g → SmOne f g) : SmOk (Cs sm) Tryz.prog 3 where
 loc := ⟨fun f g args hg => (h f g hg).loc args, fun f g args hg => local_ex f g args hg, fun t n g args hg => local_vi t n g args hg⟩
 sound := fun f g hg => (h f g hg).sound
 ex := fun f g hg args s s' v ι w args' h1 h2 h3 h4 => soundEx f g hg args s s' v ι w args' h1 h2 h3 h4
 vi := soundVi sm
theorem whole0 : C0.Whole eg Tryz.prog 3 := whole _ (smOk _ fun f g hg => by cases hg)
theorem smIns_ok (size f : Nat) : SmOne f (fork C0 eg 100 f size) :=
 ⟨local_fork whole0.sm.loc 100 f size, fun args s s' v ι w args' R h1 h2 h3 h4 h5 => fork_sound whole0 100 f size args s s' v ι w args' R h1 h2 h3 h4 h5⟩
end Go.Ab.Seat
end
