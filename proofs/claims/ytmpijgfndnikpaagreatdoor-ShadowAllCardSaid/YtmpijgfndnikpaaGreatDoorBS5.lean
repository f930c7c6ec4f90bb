import Derived.Test.YtmpijgfndnikpaaGreatDoorBS3
set_option linter.unusedVariables false
set_option linter.unusedSimpArgs false
section
/- The methods of reflectlite's rtype; all contracts together. -/
namespace Go.Ab.Seat
open Go.Extern Go.Proofs
set_option maxRecDepth 1000000

theorem cKindPE (w : World) : (callMethod (.iface tRt (.agg #[hd tPE])) "Kind" #[]).run Tryz.prog w = .ok (.value (.int .u8 22)) w := by kernel_rfl
theorem cKindE (w : World) : (callMethod (.iface tRt (.agg #[hd tErrno])) "Kind" #[]).run Tryz.prog w = .ok (.value (.int .u8 2)) w := by kernel_rfl
theorem cElemPE (w : World) : (callMethod (.iface tRt (.agg #[hd tPE])) "Elem" #[]).run Tryz.prog w = .ok (.value (rt tErrno)) w := by kernel_rfl
theorem cImpl (w : World) : (callMethod (.iface tRt (.agg #[hd tErrno])) "Implements" #[.iface tRt (.agg #[hd tErr])]).run Tryz.prog w = .ok (.value (.bool true)) w := by kernel_rfl
theorem cAssE (w : World) : (callMethod (.iface tRt (.agg #[hd tErrno])) "AssignableTo" #[.iface tRt (.agg #[hd tErrno])]).run Tryz.prog w = .ok (.value (.bool true)) w := by kernel_rfl
theorem cAssAt (w : World) : (callMethod (.iface tRt (.agg #[hd tAt])) "AssignableTo" #[.iface tRt (.agg #[hd tErrno])]).run Tryz.prog w = .ok (.value (.bool false)) w := by kernel_rfl
theorem cComp (w : World) : (callMethod (.iface tRt (.agg #[hd tErrno])) "Comparable" #[]).run Tryz.prog w = .ok (.value (.bool true)) w := by kernel_rfl
end Go.Ab.Seat
end
section
/- The methods of reflectlite's rtype are contracts. -/
namespace Go.Ab.Seat
open Go.Extern Go.Proofs

def ViSound (name : String) (g : List Value → M Value) : Prop :=
  ∀ (x x' : Value) (args args' : List Value) (s s' : St) (v : Value) (ι : Iota) (w : World),
    g (x :: args) s = some (v, s') → VR ι x x' → VRl ι args args' → HR 3 ι s.h w.heap →
    ∃ v' w' ι', (callMethod (.iface tRt x') name args'.toArray).run Tryz.prog w = .ok (.value v') w' ∧ VR ι' v v' ∧ Post 3 ι ι' s s' w w'

theorem vi_kind : ViSound "Kind" vKind := by
  intro x x' args args' s s' v ι w hg hx ha hr
  cases args with
  | cons y l => exact (fail_some (s := s) hg).elim
  | nil =>
    have := ha.nil_inv
    subst this
    simp only [vKind] at hg
    cases hu : unRt x with
    | none => rw [hu] at hg; exact (fail_some hg).elim
    | some t =>
      rw [hu] at hg
      have := unRt_VR hr hu hx
      subst this
      simp only at hg
      cases h1 : Nat.beq t tPE with
      | true =>
        rw [h1] at hg
        have := beq_iff.1 h1
        subst this
        obtain ⟨rfl, rfl⟩ := ret_some hg
        exact ⟨_, w, ι, cKindPE w, .int _ _, Post.refl hr rfl rfl⟩
      | false =>
        rw [h1] at hg
        cases h2 : Nat.beq t tErrno with
        | true =>
          rw [h2] at hg
          have := beq_iff.1 h2
          subst this
          obtain ⟨rfl, rfl⟩ := ret_some hg
          exact ⟨_, w, ι, cKindE w, .int _ _, Post.refl hr rfl rfl⟩
        | false => rw [h2] at hg; exact (fail_some (s := s) hg).elim

theorem vi_elem : ViSound "Elem" vElem := by
  intro x x' args args' s s' v ι w hg hx ha hr
  cases args with
  | cons y l => exact (fail_some (s := s) hg).elim
  | nil =>
    have := ha.nil_inv
    subst this
    simp only [vElem] at hg
    cases hu : unRt x with
    | none => rw [hu] at hg; exact (fail_some hg).elim
    | some t =>
      rw [hu] at hg
      have := unRt_VR hr hu hx
      subst this
      simp only at hg
      cases h1 : Nat.beq t tPE with
      | true =>
        rw [h1] at hg
        have := beq_iff.1 h1
        subst this
        obtain ⟨rfl, rfl⟩ := ret_some hg
        exact ⟨_, w, ι, cElemPE w, rt_VR hr _, Post.refl hr rfl rfl⟩
      | false => rw [h1] at hg; exact (fail_some (s := s) hg).elim

theorem vi_comparable : ViSound "Comparable" vComparable := by
  intro x x' args args' s s' v ι w hg hx ha hr
  cases args with
  | cons y l => exact (fail_some (s := s) hg).elim
  | nil =>
    have := ha.nil_inv
    subst this
    simp only [vComparable] at hg
    cases hu : unRt x with
    | none => rw [hu] at hg; exact (fail_some hg).elim
    | some t =>
      rw [hu] at hg
      have := unRt_VR hr hu hx
      subst this
      simp only at hg
      cases h1 : Nat.beq t tErrno with
      | true =>
        rw [h1] at hg
        have := beq_iff.1 h1
        subst this
        obtain ⟨rfl, rfl⟩ := ret_some hg
        exact ⟨_, w, ι, cComp w, .bool _, Post.refl hr rfl rfl⟩
      | false => rw [h1] at hg; exact (fail_some (s := s) hg).elim

/-- A second type. -/
theorem two_rt {g : Nat → Nat → Nat → M Value} {x x' : Value} {args args' : List Value} {s s' : St} {v : Value} {ι : Iota} {w : World} {k : List Value → M Value}
    (hk : ∀ r u t e, unRt x = some t → unRt u = some e → k [x, .iface r u] = g t r e)
    (h0 : ∀ l, (∀ r u t e, l = [.iface r u] → unRt x = some t → unRt u = some e → False) → k (x :: l) = M.fail)
    (hg : k (x :: args) s = some (v, s')) (hx : VR ι x x') (ha : VRl ι args args') (hr : HR 3 ι s.h w.heap) :
    ∃ t r e, x' = .agg #[hd t] ∧ args' = [.iface r (.agg #[hd e])] ∧ g t r e s = some (v, s') := by
  by_cases hh : ∃ r u t e, args = [.iface r u] ∧ unRt x = some t ∧ unRt u = some e
  · obtain ⟨r, u, t, e, rfl, h1, h2⟩ := hh
    rw [hk r u t e h1 h2] at hg
    obtain ⟨y, l, rfl, h3, h4⟩ := ha.cons_inv
    have := h4.nil_inv
    subst this
    cases h3 with
    | iface _ _ u' hu' =>
      have := unRt_VR hr h2 hu'
      subst this
      exact ⟨t, r, e, unRt_VR hr h1 hx, rfl, hg⟩
  · rw [h0 args fun r u t e h1 h2 h3 => hh ⟨r, u, t, e, h1, h2, h3⟩] at hg
    exact (fail_some hg).elim

theorem vi_implements : ViSound "Implements" vImplements := by
  intro x x' args args' s s' v ι w hg hx ha hr
  obtain ⟨t, r, e, rfl, rfl, hg⟩ := two_rt (k := vImplements) (g := fun t r e => bif Nat.beq t tErrno && Nat.beq e tErr && Nat.beq r tRt then M.ret (.bool true) else M.fail)
    (fun r u t e h1 h2 => by simp only [vImplements, h1, h2]) (fun l h => by
      unfold vImplements
      cases l with
      | nil => rfl
      | cons y l =>
        cases l with
        | cons z l => cases y <;> rfl
        | nil =>
          cases y with
          | iface r u =>
            simp only
            cases h1 : unRt x with
            | none => rfl
            | some t =>
              cases h2 : unRt u with
              | none => rfl
              | some e => exact (h r u t e rfl h1 h2).elim
          | _ => rfl) hg hx ha hr
  cases hc : (Nat.beq t tErrno && Nat.beq e tErr && Nat.beq r tRt) with
  | false => simp only [hc] at hg; exact (fail_some (s := s) hg).elim
  | true =>
    simp only [hc] at hg
    rw [Bool.and_eq_true, Bool.and_eq_true] at hc
    have e1 := beq_iff.1 hc.1.1
    have e2 := beq_iff.1 hc.1.2
    have e3 := beq_iff.1 hc.2
    subst e1; subst e2; subst e3
    obtain ⟨rfl, rfl⟩ := ret_some hg
    exact ⟨_, w, ι, cImpl w, .bool _, Post.refl hr rfl rfl⟩

theorem vi_assignableTo : ViSound "AssignableTo" vAssignableTo := by
  intro x x' args args' s s' v ι w hg hx ha hr
  obtain ⟨t, r, e, rfl, rfl, hg⟩ := two_rt (k := vAssignableTo) (g := fun t r e => bif Nat.beq e tErrno && Nat.beq r tRt then (bif Nat.beq t tErrno then M.ret (.bool true) else bif Nat.beq t tAt then M.ret (.bool false) else M.fail) else M.fail)
    (fun r u t e h1 h2 => by simp only [vAssignableTo, h1, h2]) (fun l h => by
      unfold vAssignableTo
      cases l with
      | nil => rfl
      | cons y l =>
        cases l with
        | cons z l => cases y <;> rfl
        | nil =>
          cases y with
          | iface r u =>
            simp only
            cases h1 : unRt x with
            | none => rfl
            | some t =>
              cases h2 : unRt u with
              | none => rfl
              | some e => exact (h r u t e rfl h1 h2).elim
          | _ => rfl) hg hx ha hr
  cases hc : (Nat.beq e tErrno && Nat.beq r tRt) with
  | false => simp only [hc] at hg; exact (fail_some (s := s) hg).elim
  | true =>
    simp only [hc] at hg
    rw [Bool.and_eq_true] at hc
    have e1 := beq_iff.1 hc.1
    have e3 := beq_iff.1 hc.2
    subst e1; subst e3
    cases h1 : Nat.beq t tErrno with
    | true =>
      simp only [h1] at hg
      have := beq_iff.1 h1
      subst this
      obtain ⟨rfl, rfl⟩ := ret_some hg
      exact ⟨_, w, ι, cAssE w, .bool _, Post.refl hr rfl rfl⟩
    | false =>
      cases h2 : Nat.beq t tAt with
      | true =>
        simp only [h1, h2] at hg
        have := beq_iff.1 h2
        subst this
        obtain ⟨rfl, rfl⟩ := ret_some hg
        exact ⟨_, w, ι, cAssAt w, .bool _, Post.refl hr rfl rfl⟩
      | false => simp only [h1, h2] at hg; exact (fail_some (s := s) hg).elim
end Go.Ab.Seat
end
