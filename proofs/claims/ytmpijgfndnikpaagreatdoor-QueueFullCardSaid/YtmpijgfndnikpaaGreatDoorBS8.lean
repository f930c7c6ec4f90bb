/- Law 1's and law 4's Begun answer true. -/
import Derived.Test.YtmpijgfndnikpaaGreatDoorBS7
set_option linter.unusedVariables false
set_option linter.unusedSimpArgs false
namespace Go.Ab.Seat
open Go.Extern Go.Proofs
set_option maxRecDepth 1000000

def fBegun1 : Nat := 261
def fBegun4 : Nat := 205

theorem run1 : isTrue (callB C0 (exec C0 eg 10000) fBegun1 [] s0) = true := by kernel_rfl

theorem begun1 : SmOne fBegun1 gTrue := known_true fun _ hw => closed_true whole0 run1 hw

noncomputable def sm4 : Nat → Option (List Value → M Value) := smIns fun f => bif Nat.beq f fBegun1 then some gTrue else none
noncomputable def C4 : Ctx := Cs sm4

theorem smIns_one {rest : Nat → Option (List Value → M Value)} (h : ∀ f g, rest f = some g → SmOne f g) : ∀ f g, smIns rest f = some g → SmOne f g := by
  intro f g hg
  unfold smIns at hg
  cases h1 : Nat.beq f fInsHit <;> rw [h1] at hg
  · cases h2 : Nat.beq f fInsInt <;> rw [h2] at hg
    · exact h f g hg
    · cases hg; rw [beq_iff.1 h2]; exact smIns_ok 1 fInsInt
  · cases hg; rw [beq_iff.1 h1]; exact smIns_ok 2 fInsHit

theorem one_more {k : Nat} {gk : List Value → M Value} {rest : Nat → Option (List Value → M Value)} (hk : SmOne k gk) (h : ∀ f g, rest f = some g → SmOne f g) :
    ∀ f g, (bif Nat.beq f k then some gk else rest f) = some g → SmOne f g := by
  intro f g hg
  cases h1 : Nat.beq f k <;> rw [h1] at hg
  · exact h f g hg
  · cases hg; rw [beq_iff.1 h1]; exact hk

theorem whole4 : C4.Whole eg Tryz.prog 3 := whole _ (smOk _ (smIns_one (one_more begun1 fun f g hg => by cases hg)))

theorem run4 : isTrue (callB C4 (exec C4 eg 10000) fBegun4 [] s0) = true := by kernel_rfl

theorem begun4 : SmOne fBegun4 gTrue := known_true fun _ hw => closed_true whole4 run4 hw
#print axioms begun4
end Go.Ab.Seat
