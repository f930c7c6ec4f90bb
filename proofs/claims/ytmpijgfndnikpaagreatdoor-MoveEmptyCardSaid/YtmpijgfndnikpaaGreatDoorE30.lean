/- 'x & 3', 'x & 1' on an int. -/
import Derived.Test.YtmpijgfndnikpaaGreatDoorE27
import Derived.Laws.Bits64
set_option linter.unusedVariables false
set_option linter.unusedSimpArgs false
namespace Go.Ab
open Go.RowKit

theorem and_i64 (f : Int) (b : Nat) (hb : b < 256) : bits BinOp.and IntKind.i64 f (b : Int) = (((BitVec.ofInt 64 f).toNat &&& b : Nat) : Int) := by
  have h2 : (BitVec.ofInt 64 (b : Int)).toNat = b := by
    rw [BitVec.ofInt_natCast, BitVec.toNat_ofNat]; exact Nat.mod_eq_of_lt (by omega)
  have hx : (BitVec.ofInt 64 f).toNat &&& b ≤ b := Nat.and_le_right
  show IntKind.i64.wrap ((BitVec.ofInt 64 f &&& BitVec.ofInt 64 (b : Int)).toNat : Int) = _
  rw [BitVec.toNat_and, h2]
  exact IntWalk.i64_in _ (by omega)

theorem and3 (f : Int) : ∃ r : Nat, r < 4 ∧ bits BinOp.and IntKind.i64 f 3 = (r : Int) :=
  ⟨_, by have : (BitVec.ofInt 64 f).toNat &&& 3 ≤ 3 := Nat.and_le_right; omega, and_i64 f 3 (by omega)⟩
theorem and1 (f : Int) : ∃ r : Nat, r < 2 ∧ bits BinOp.and IntKind.i64 f 1 = (r : Int) :=
  ⟨_, by have : (BitVec.ofInt 64 f).toNat &&& 1 ≤ 1 := Nat.and_le_right; omega, and_i64 f 1 (by omega)⟩
end Go.Ab
