/- A store of the call's own, and what is put and let go (plain lists). -/
import Derived.Test.YthkmcfiijooddaaGreatDoorBSM2
import Derived.Test.YthkmcfiijooddaaGreatDoorE48
set_option linter.unusedVariables false
set_option linter.unusedSimpArgs false
namespace Go.Ab.Seat
open Go.Extern Go.Proofs
set_option linter.unusedVariables false

theorem liveG_put (r : Rc) (x : Int) (M : List Rc) : liveG x (putM r M) = if r.id = x then (if r.gone then none else some r) else liveG x M := by
  unfold liveG
  rw [getM_put]
  by_cases h : r.id = x
  · rw [if_pos h, if_pos h]
  · rw [if_neg h, if_neg h]

theorem seqM_le {M : List Rc} {n : Int} (h : ∀ r ∈ M, r.seq ≤ n) (h0 : 0 ≤ n) (x : Int) : seqM x M ≤ n := by
  unfold seqM
  cases hg : getM x M with
  | none => exact h0
  | some r => exact h r (getM_mem hg).1

theorem liveG_live {M : List Rc} (hr : Rises M) {x : Int} {r : Rc} : liveG x M = some r ↔ r ∈ liveM M ∧ r.id = x := by
  unfold liveG liveM
  constructor
  · intro h
    cases hg : getM x M with
    | none => rw [hg] at h; cases h
    | some r0 =>
      rw [hg] at h
      simp only at h
      split at h
      · cases h
      · cases h
        exact ⟨List.mem_filter.2 ⟨(getM_mem hg).1, by simp [*]⟩, (getM_mem hg).2⟩
  · rintro ⟨h1, h2⟩
    obtain ⟨h3, h4⟩ := List.mem_filter.1 h1
    rw [getM_some hr h3 h2]
    simp only
    rw [if_neg (by simpa using h4)]

theorem delZ_live {M : List Rc} {seq : Int} (h : ∀ r ∈ M, r.seq ≤ seq) (id : Int) : delZ id (seq + 1) M = if (liveG id M).isSome then 0 else 3 := by
  unfold delZ liveG
  cases hg : getM id M with
  | none => rfl
  | some r =>
    have := h r (getM_mem hg).1
    simp only
    have h2 : ¬seq + 1 ≤ r.seq := by omega
    by_cases hgo : r.gone = true
    · simp [hgo]
    · simp [hgo, h2]

/-- A put behind all. -/
theorem putM_end (r : Rc) : ∀ {M : List Rc}, (∀ x ∈ M, x.id < r.id) → putM r M = M ++ [r]
  | [], _ => rfl
  | y :: M, h => by
    have := h y (List.mem_cons_self ..)
    rw [putM, if_neg (by omega), if_neg (by omega), putM_end r fun x hx => h x (List.mem_cons_of_mem _ hx)]
    rfl
theorem putM_last (r r' : Rc) (he : r.id = r'.id) : ∀ {M : List Rc}, (∀ x ∈ M, x.id < r.id) → putM r (M ++ [r']) = M ++ [r]
  | [], _ => by
    rw [List.nil_append, putM, if_neg (by omega), if_pos he]
    rfl
  | y :: M, h => by
    have := h y (List.mem_cons_self ..)
    rw [List.cons_append, putM, if_neg (by omega), if_neg (by omega), putM_last r r' he fun x hx => h x (List.mem_cons_of_mem _ hx)]
    rfl
theorem putM_new_len (r : Rc) (hg : r.gone = false) : ∀ {M : List Rc}, getM r.id M = none → (liveM (putM r M)).length = (liveM M).length + 1
  | [], _ => by
    unfold putM liveM
    rw [List.filter_cons, hg]
    rfl
  | y :: M, h => by
    rw [getM] at h
    split at h
    · cases h
    · rename_i hy
      rw [putM]
      split
      · unfold liveM
        rw [List.filter_cons, hg]
        rfl
      · rw [if_neg (by omega)]
        have ih := putM_new_len r hg h
        unfold liveM at ih ⊢
        rw [List.filter_cons, List.filter_cons]
        split
        · rw [List.length_cons, List.length_cons, ih]
        · exact ih
theorem sweep_live (upto : Int) (M : List Rc) : liveM (sweepM upto M) = liveM M := by
  unfold liveM sweepM
  rw [List.filter_filter]
  refine List.filter_congr fun r _ => ?_
  unfold sweptR
  cases r.gone <;> simp
theorem sweep_again (upto : Int) (M : List Rc) : sweepM upto (sweepM upto M) = sweepM upto M ∧ (sweepM upto M).filter (sweptR upto) = [] := by
  unfold sweepM
  constructor
  · rw [List.filter_filter]
    refine List.filter_congr fun r _ => ?_
    cases sweptR upto r <;> rfl
  · rw [List.filter_filter]
    refine List.filter_eq_nil_iff.2 fun r _ => ?_
    cases sweptR upto r <;> simp

/-- A store of the call's own, at c + 1, its map at c. -/
structure SO (h0 : T AObj) (c : Nat) (h : T AObj) (c' : Nat) (M : List Rc) : Prop where
  f : Fresh h c'
  le : c + 2 ≤ c'
  kp : Kp h0 h c (fun _ => False)
  st : StM h (c + 1) c M (fun b => c ≤ b ∧ b < c')

theorem SO.keep {h0 : T AObj} {c : Nat} {h h2 : T AObj} {c' c2 : Nat} {M : List Rc} (x : SO h0 c h c' M) (hf : Fresh h2 c2) (hc : c' ≤ c2) (K : Kp h h2 c' (fun _ => False)) : SO h0 c h2 c2 M := by
  have l1 := x.le
  exact ⟨hf, by omega, fun b hb q => (K b (by omega) (fun q => q)).trans (x.kp b hb q), (x.st.keep x.f fun b hb hl => K b hl (fun q => q)).wide fun b hb => ⟨hb.1, by omega⟩⟩

/-- A call that turns the map. -/
theorem SO.turn {h0 : T AObj} {c : Nat} {h h2 h3 : T AObj} {c' c2 c3 : Nat} {rl wl rl' wl' : List Nat} {M M' : List Rc} {R U : Nat → Prop} (x : SO h0 c h c' M) (hc : c' ≤ c2) (K : Kp h h2 c' (fun _ => False)) (e : Ext ⟨h2, c2, rl, wl⟩ ⟨h3, c3, rl', wl'⟩ R (fun b => b = c)) (st : StM h3 (c + 1) c M' U) (hU : ∀ b, U b → c ≤ b ∧ b < c3) : SO h0 c h3 c3 M' := by
  have l1 := x.le
  have l2 := e.c
  dsimp only at l2
  exact ⟨e.fresh, by omega, fun b hb q => (e.get (by omega) (by omega)).trans ((K b (by omega) (fun q => q)).trans (x.kp b hb q)), st.wide hU⟩
/-- A call that turns nothing. -/
theorem SO.call {h0 : T AObj} {c : Nat} {h h2 h3 : T AObj} {c' c2 c3 : Nat} {rl wl rl' wl' : List Nat} {M : List Rc} {R : Nat → Prop} (x : SO h0 c h c' M) (hc : c' ≤ c2) (K : Kp h h2 c' (fun _ => False)) (e : Ext ⟨h2, c2, rl, wl⟩ ⟨h3, c3, rl', wl'⟩ R (fun _ => False)) : SO h0 c h3 c3 M := by
  have l2 := e.c
  dsimp only at l2
  exact x.keep e.fresh (by omega) fun b hb q => (e.get (by omega) (fun q => q)).trans (K b hb q)
end Go.Ab.Seat
