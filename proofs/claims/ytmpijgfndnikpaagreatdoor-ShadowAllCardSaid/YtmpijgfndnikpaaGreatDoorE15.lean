/- A region that draws its order: every order comes to what the order of the text comes to. -/
import Derived.Test.YtmpijgfndnikpaaGreatDoorE14
set_option linter.unusedVariables false
set_option linter.unusedSimpArgs false
namespace Go.Ab

/-- i is bound to come ahead of j. -/
def Bef (bef : List Nat) (j i : Nat) : Prop := ∃ m, bef[j]? = some m ∧ Nat.testBit m i = true

theorem befBit {bef : List Nat} {j i : Nat} (h : (match nth bef j with | some m => Nat.testBit m i | none => false) = true) : Bef bef j i := by
  rw [nth_eq] at h
  cases hj : bef[j]? with
  | none => rw [hj] at h; cases h
  | some m => rw [hj] at h; exact ⟨m, hj, h⟩

theorem clash_spec {bef : List Nat} : ∀ (fs : List Fp) (done : List (Nat × Fp)) (j : Nat), clashFree bef done j fs = true →
    (∀ k f p, fs[k]? = some f → p ∈ done → f.silent = false → Bef bef (j + k) p.1 ∨ apartFp p.2 f = true) ∧
    (∀ k l f g, k < l → fs[k]? = some f → fs[l]? = some g → f.silent = false → g.silent = false → Bef bef (j + l) (j + k) ∨ apartFp f g = true) := by
  intro fs
  induction fs with
  | nil => intro done j _; exact ⟨fun k f p h => by simp at h, fun k l f g _ h => by simp at h⟩
  | cons f fs ih =>
    intro done j h
    unfold clashFree at h
    cases hs : f.silent with
    | true =>
      rw [hs] at h
      obtain ⟨h1, h2⟩ := ih done (j + 1) h
      refine ⟨fun k g p hk hp hg => ?_, fun k l g g' hkl hk hl hg hg' => ?_⟩
      · cases k with
        | zero => simp at hk; subst hk; rw [hs] at hg; cases hg
        | succ k => have := h1 k g p (by simpa using hk) hp hg; rw [show j + (k + 1) = j + 1 + k by omega]; exact this
      · cases k with
        | zero => simp at hk; subst hk; rw [hs] at hg; cases hg
        | succ k =>
          cases l with
          | zero => omega
          | succ l => have := h2 k l g g' (by omega) (by simpa using hk) (by simpa using hl) hg hg'; rw [show j + (k + 1) = j + 1 + k by omega, show j + (l + 1) = j + 1 + l by omega]; exact this
    | false =>
      rw [hs] at h
      simp only at h
      split at h
      case h_2 => cases h
      case h_1 ha =>
        rw [allB_eq, List.all_eq_true] at ha
        obtain ⟨h1, h2⟩ := ih ((j, f) :: done) (j + 1) h
        refine ⟨fun k g p hk hp hg => ?_, fun k l g g' hkl hk hl hg hg' => ?_⟩
        · cases k with
          | zero =>
            simp at hk; subst hk
            have := ha p hp
            rw [Bool.or_eq_true] at this
            exact this.imp (fun h => befBit h) id
          | succ k => have := h1 k g p (by simpa using hk) (List.mem_cons_of_mem _ hp) hg; rw [show j + (k + 1) = j + 1 + k by omega]; exact this
        · cases l with
          | zero => omega
          | succ l =>
            cases k with
            | zero =>
              simp at hk; subst hk
              have := h1 l g' (j, f) (by simpa using hl) (List.mem_cons_self ..) hg'
              rw [show j + (l + 1) = j + 1 + l by omega]; exact this
            | succ k => have := h2 k l g g' (by omega) (by simpa using hk) (by simpa using hl) hg hg'; rw [show j + (k + 1) = j + 1 + k by omega, show j + (l + 1) = j + 1 + l by omega]; exact this

theorem apartAll_spec {ops : Array Oper} {bef : List Nat} : ∀ (os : List Oper) (done : List (Nat × Oper)) (j : Nat), apartAll ops bef done j os = true →
    (∀ k o p, os[k]? = some o → p ∈ done → Bef bef (j + k) p.1 ∨ Oper.apart ops p.2 o = true) ∧
    (∀ k l o p, k < l → os[k]? = some o → os[l]? = some p → Bef bef (j + l) (j + k) ∨ Oper.apart ops o p = true) ∧
    (∀ k o, os[k]? = some o → ∀ e ∈ o.after, Region.binds .any e = true → e.on < j + k) := by
  intro os
  induction os with
  | nil => intro done j _; exact ⟨fun k f p h => by simp at h, fun k l f g _ h => by simp at h, fun k o h => by simp at h⟩
  | cons o os ih =>
    intro done j h
    unfold apartAll at h
    split at h
    case h_2 => cases h
    case h_1 ha =>
      rw [Bool.and_eq_true, List.all_eq_true, List.all_eq_true] at ha
      obtain ⟨h1, h2, h3⟩ := ih ((j, o) :: done) (j + 1) h
      refine ⟨fun k g p hk hp => ?_, fun k l g g' hkl hk hl => ?_, fun k g hk e he hb => ?_⟩
      · cases k with
        | zero =>
          simp at hk; subst hk
          have := ha.1 p hp
          rw [Bool.or_eq_true] at this
          exact this.imp (fun h => befBit h) id
        | succ k => have := h1 k g p (by simpa using hk) (List.mem_cons_of_mem _ hp); rw [show j + (k + 1) = j + 1 + k by omega]; exact this
      · cases l with
        | zero => omega
        | succ l =>
          cases k with
          | zero =>
            simp at hk; subst hk
            have := h1 l g' (j, o) (by simpa using hl) (List.mem_cons_self ..)
            rw [show j + (l + 1) = j + 1 + l by omega]; exact this
          | succ k => have := h2 k l g g' (by omega) (by simpa using hk) (by simpa using hl); rw [show j + (k + 1) = j + 1 + k by omega, show j + (l + 1) = j + 1 + l by omega]; exact this
      · cases k with
        | zero =>
          simp at hk; subst hk
          have := ha.2 e (Array.mem_toList_iff.2 he)
          rw [hb] at this
          simp only [Bool.not_true, Bool.false_or] at this
          exact blt_iff.1 this
        | succ k => have := h3 k g (by simpa using hk) e he hb; omega

/-- What 'before' is made of. -/
theorem before_fold : ∀ (l : List Oper) (acc : Array Nat) (r : Array Nat),
    l.foldl (fun acc o => acc.push (o.after.foldl (fun s e => if Region.binds .any e then s ||| 2 ^ e.on ||| acc.getD e.on 0 else s) 0)) acc = r →
    (∀ j, j < acc.size → r[j]? = acc[j]?) ∧ r.size = acc.size + l.length ∧
    ∀ k o m i, l[k]? = some o → r[acc.size + k]? = some m → Nat.testBit m i = true → ∃ e ∈ o.after, Region.binds .any e = true ∧ (i = e.on ∨ ∃ m', r[e.on]? = some m' ∧ Nat.testBit m' i = true) := by
  intro l
  induction l with
  | nil => intro acc r h; simp only [List.foldl_nil] at h; subst h; exact ⟨fun _ _ => rfl, rfl, by simp⟩
  | cons o l ih =>
    intro acc r h
    simp only [List.foldl_cons] at h
    obtain ⟨h1, h2, h3⟩ := ih _ _ h
    refine ⟨fun j hj => ?_, ?_, ?_⟩
    · rw [h1 j (by simp; omega), Array.getElem?_push_lt hj, Array.getElem?_eq_getElem hj]
    · rw [h2]; simp; omega
    · intro k p m i hk hm hb
      cases k with
      | zero =>
        simp at hk; subst hk
        rw [Nat.add_zero, h1 acc.size (by simp)] at hm
        simp only [Array.getElem?_push_size, Option.some.injEq] at hm
        subst hm
        -- the fold over the edges
        have key : ∀ (es : List Edge) (s : Nat), Nat.testBit (es.foldl (fun s e => if Region.binds .any e then s ||| 2 ^ e.on ||| acc.getD e.on 0 else s) s) i = true →
            Nat.testBit s i = true ∨ ∃ e ∈ es, Region.binds .any e = true ∧ (i = e.on ∨ ∃ m', r[e.on]? = some m' ∧ Nat.testBit m' i = true) := by
          intro es
          induction es with
          | nil => intro s hs; exact .inl hs
          | cons e es ihe =>
            intro s hs
            rcases ihe _ hs with hs | ⟨e', he', hb', hh⟩
            · simp only at hs
              by_cases hbe : Region.binds .any e = true
              · rw [if_pos hbe] at hs
                simp only [Nat.testBit_or, Bool.or_eq_true] at hs
                rcases hs with (hs | hs) | hs
                · exact .inl hs
                · refine .inr ⟨e, List.mem_cons_self .., hbe, .inl ?_⟩
                  rw [Nat.testBit_two_pow] at hs
                  exact (of_decide_eq_true hs).symm
                · refine .inr ⟨e, List.mem_cons_self .., hbe, .inr ?_⟩
                  by_cases hlt : e.on < acc.size
                  · refine ⟨acc[e.on], ?_, ?_⟩
                    · rw [h1 _ (by simp; omega), Array.getElem?_push_lt hlt]
                    · rw [Array.getD_eq_getD_getElem?, Array.getElem?_eq_getElem hlt] at hs; exact hs
                  · rw [Array.getD_eq_getD_getElem?, Array.getElem?_eq_none (by omega)] at hs
                    simp at hs
              · rw [if_neg hbe] at hs; exact .inl hs
            · exact .inr ⟨e', List.mem_cons_of_mem _ he', hb', hh⟩
        rw [← Array.foldl_toList] at hb
        rcases key _ _ hb with hz | ⟨e, he, hbe, hh⟩
        · simp at hz
        · exact ⟨e, Array.mem_toList_iff.1 he, hbe, hh⟩
      | succ k =>
        exact h3 k p m i (by simpa using hk) (by simp only [Array.size_push]; rw [← hm]; congr 1; omega) hb

theorem before_spec {ops : Array Oper} {j i : Nat} (h : Bef (Region.before ops).toList j i) :
    ∃ o, ops[j]? = some o ∧ ∃ e ∈ o.after, Region.binds .any e = true ∧ (i = e.on ∨ Bef (Region.before ops).toList e.on i) := by
  obtain ⟨m, hm, hb⟩ := h
  obtain ⟨_, h2, h3⟩ := before_fold ops.toList #[] (Region.before ops) (by unfold Region.before; rw [Array.foldl_toList])
  rw [Array.getElem?_toList] at hm
  have hj : j < ops.size := by
    rcases Nat.lt_or_ge j ops.size with hh | hh
    · exact hh
    · rw [Array.getElem?_eq_none (by rw [h2]; simpa using hh)] at hm; cases hm
  obtain ⟨e, he, hbe, hh⟩ := h3 j ops[j] m i (by simp [hj]) (by simpa using hm) hb
  refine ⟨ops[j], Array.getElem?_eq_getElem hj, e, he, hbe, hh.imp id ?_⟩
  rintro ⟨m', a, b⟩
  exact ⟨m', by rw [Array.getElem?_toList]; exact a, b⟩

/-- A set of operations that holds with each what is bound to come ahead of it. -/
def Closed (ops : Array Oper) (D : Nat → Bool) : Prop := ∀ j o, ops[j]? = some o → D j = true → ∀ e ∈ o.after, Region.binds .any e = true → D e.on = true

theorem closed_bef {ops : Array Oper} {D : Nat → Bool} (hb : ∀ (k : Nat) o, ops[k]? = some o → ∀ e ∈ o.after, Region.binds .any e = true → e.on < k) (hD : Closed ops D) :
    ∀ (j i : Nat), Bef (Region.before ops).toList j i → (∀ o, ops[j]? = some o → ∀ e ∈ o.after, Region.binds .any e = true → D e.on = true) → D i = true := by
  intro j
  induction j using Nat.strongRecOn with
  | _ j ih =>
    intro i h hj
    obtain ⟨o, ho, e, he, hbe, hh⟩ := before_spec h
    have hD' := hj o ho e he hbe
    rcases hh with rfl | hh
    · exact hD'
    · exact ih e.on (hb j o ho e he hbe) i hh fun p hp => hD e.on p hp hD'

end Go.Ab
