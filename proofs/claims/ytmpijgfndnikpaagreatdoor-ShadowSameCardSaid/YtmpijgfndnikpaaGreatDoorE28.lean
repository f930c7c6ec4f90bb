/- A closed call with plain arguments, as a contract. -/
import Derived.Test.YtmpijgfndnikpaaGreatDoorE26
set_option linter.unusedVariables false
set_option linter.unusedSimpArgs false
namespace Go.Ab

/-- Values that stand for themselves alone. -/
noncomputable def exact : Nat → Value → Bool
  | 0, _ => false
  | d + 1, v =>
    match v with
    | .bool _ => true
    | .int _ _ => true
    | .string _ => true
    | .pointer none => true
    | .slice none _ _ => true
    | .map none => true
    | .nilIface => true
    | .agg cs => allB (exact d) cs.toList
    | .tuple cs => allB (exact d) cs.toList
    | _ => false

theorem exact_VR {ι : Iota} : ∀ (d : Nat) (v v' : Value), exact d v = true → VR ι v v' → v' = v := by
  intro d
  induction d with
  | zero => intro v v' h; cases h
  | succ d ih =>
    intro v v' h hv
    have key : ∀ (a a' : Array Value), allB (exact d) a.toList = true → a.toList.length = a'.toList.length → (∀ (i : Nat) (x y : Value), a.toList[i]? = some x → a'.toList[i]? = some y → VR ι x y) → a' = a := by
      intro a a' ha hl hr
      rw [allB_eq, List.all_eq_true] at ha
      apply Array.toList_inj.1
      apply List.ext_getElem?
      intro i
      by_cases hi : i < a.toList.length
      · have hi' : i < a'.toList.length := by rw [← hl]; exact hi
        rw [List.getElem?_eq_getElem hi, List.getElem?_eq_getElem hi']
        exact congrArg some (ih _ _ (ha _ (List.getElem_mem hi)) (hr i _ _ (List.getElem?_eq_getElem hi) (List.getElem?_eq_getElem hi')))
      · rw [List.getElem?_eq_none (by omega), List.getElem?_eq_none (by omega)]
    cases hv with
    | bool => rfl
    | int => rfl
    | string => rfl
    | nilPtr => rfl
    | nilSlice => rfl
    | nilMap => rfl
    | nilIface => rfl
    | agg a a' ha ra => rw [key a a' h ha ra]
    | tuple a a' ha ra => rw [key a a' h ha ra]
    | _ => cases h

end Go.Ab
