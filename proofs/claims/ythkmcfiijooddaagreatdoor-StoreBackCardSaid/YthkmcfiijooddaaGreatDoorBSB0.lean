/- Operations on a store as they come in; what a store's records keep to. -/
import Derived.Test.YthkmcfiijooddaaGreatDoorBST12
set_option linter.unusedVariables false
set_option linter.unusedSimpArgs false
namespace Go.Ab.Seat
open Go.Extern Go.Proofs
set_option linter.unusedVariables false

/-- Operations on a store as they come in. -/
def OpsS (h : T AObj) (c0 : Nat) (oa : Option Addr) (n : Nat) : Prop := ∀ i, i < n → ∃ b o sp cs kd id va nv kv, ∃ zs : List Int, ∃ pay sq, oa = some ⟨b, o, sp⟩ ∧ Cel h b cs ∧ subN (o + i * 5) 5 cs = some [.int .i64 kd, .int .i64 id, .slice va nv kv, .string pay, .int .i64 sq] ∧
  Row h (.slice va nv kv) nv 1 (zs.map (Value.int .i32)) ∧ zs.length = nv ∧ nv ≤ kv ∧ (va = none → kv = 0) ∧ ∀ a, va = some a → (a.spot = none ∨ a.spot = some 1) ∧ a.block < c0

/-- What a store's records keep to. -/
def GoodM (M : List Rc) : Prop := ∀ r ∈ M, r.pay.size ≤ 40 ∧ 1 ≤ r.seq ∧ (r.gone = true → r.xs = [] ∧ r.pay = .empty)

theorem GoodM.nil : GoodM [] := fun r hr => by cases hr
theorem GoodM.seq0 {M : List Rc} (h : GoodM M) (id : Int) : 0 ≤ seqM id M := by
  unfold seqM
  cases hg : getM id M with
  | none => exact Int.le_refl _
  | some r =>
    have := (h r (getM_mem hg).1).2.1
    simp only
    omega
theorem GoodM.put {M : List Rc} (h : GoodM M) (id seq : Int) (xs : List Value) (pay : ByteArray) : GoodM (putL id seq xs pay M) := by
  unfold putL
  by_cases hz : putZ id seq pay M = 0
  · rw [if_pos hz]
    intro r hr
    rcases mem_putM hr with rfl | hr
    · have h0 := h.seq0 id
      unfold putZ at hz
      by_cases g1 : id < 1 ∨ 1000 < id
      · rw [if_pos g1] at hz; cases hz
      rw [if_neg g1] at hz
      by_cases g2 : 40 < pay.size
      · rw [if_pos g2] at hz; cases hz
      rw [if_neg g2] at hz
      by_cases g3 : seq ≤ seqM id M
      · rw [if_pos g3] at hz; cases hz
      exact ⟨by dsimp only; omega, by dsimp only; omega, (fun h => by cases h)⟩
    · exact h r hr
  · rw [if_neg hz]
    exact h
theorem GoodM.del {M : List Rc} (h : GoodM M) (id seq : Int) : GoodM (delL id seq M) := by
  unfold delL
  by_cases hz : delZ id seq M = 0
  · rw [if_pos hz]
    intro r hr
    rcases mem_putM hr with rfl | hr
    · unfold delZ at hz
      cases hg : getM id M with
      | none => rw [hg] at hz; cases hz
      | some r =>
        rw [hg] at hz
        simp only at hz
        have := (h r (getM_mem hg).1).2.1
        by_cases g1 : r.gone = true
        · rw [if_pos g1] at hz; cases hz
        rw [if_neg g1] at hz
        by_cases g2 : seq ≤ r.seq
        · rw [if_pos g2] at hz; cases hz
        exact ⟨Nat.zero_le _, by dsimp only; omega, (fun _ => ⟨rfl, rfl⟩)⟩
    · exact h r hr
  · rw [if_neg hz]
    exact h
theorem mayR_of : ∀ {M : List Rc} {last : Int}, Rises M → GoodM M → (∀ r ∈ M, r.id ≤ 1000) → (∀ r ∈ M, last < r.id) → MayR last M
  | [], _, _, _, _, _ => trivial
  | r :: M, last, h1, h2, h3, h4 => by
    obtain ⟨g1, g2⟩ := List.pairwise_cons.1 h1
    obtain ⟨k1, k2, k3⟩ := h2 r (List.mem_cons_self ..)
    exact ⟨⟨h4 r (List.mem_cons_self ..), h3 r (List.mem_cons_self ..), k1, k2, k3⟩, mayR_of g2 (fun x hx => h2 x (List.mem_cons_of_mem _ hx)) (fun x hx => h3 x (List.mem_cons_of_mem _ hx)) g1⟩
end Go.Ab.Seat
