/- What the seat's tables owe: closed facts by the kernel. -/
import Derived.Test.YtmpijgfndnikpaaGreatDoorBS1
import Derived.Test.YtmpijgfndnikpaaGreatDoorE21
set_option linter.unusedVariables false
set_option linter.unusedSimpArgs false
namespace Go.Ab.Seat
set_option maxRecDepth 1000000

theorem flats : allB (fun i : TypeInfo => match i.zero with | some z => flat 30 z | none => true) Proofs.Tryz.prog.types.toList = true := by kernel_rfl
theorem names : allB (fun g : Func => match g.body with | none => true | some _ => !(g.name == "runtime.NumGoroutine")) Proofs.Tryz.prog.funcs.toList = true := by kernel_rfl
theorem codes (sm : Nat → Option (List Value → M Value)) : allB (fun g : Func => match g.body with | none => true | some b => codeOk (Cs sm) 3 g.ntmps b) Proofs.Tryz.prog.funcs.toList = true := by kernel_rfl
theorem mixed : Proofs.Tryz.prog.follows .mixedOrders = true := by kernel_rfl

theorem ok (sm : Nat → Option (List Value → M Value)) : (Cs sm).Ok eg Proofs.Tryz.prog := by
  have hty : ∀ t, (Cs sm).ty.get t = Proofs.Tryz.prog.types[t]? := fun t => by
    show (T.ofList Proofs.Tryz.prog.types.toList).get t = _
    rw [T.get_ofList, Array.getElem?_toList]
  have hfn : ∀ t, (Cs sm).fn.get t = Proofs.Tryz.prog.funcs[t]? := fun t => by
    show (T.ofList Proofs.Tryz.prog.funcs.toList).get t = _
    rw [T.get_ofList, Array.getElem?_toList]
  refine ⟨fun t i h => by rw [hty] at h; have hlt := (Array.getElem?_eq_some_iff.1 h).1; unfold Tables.info?; rw [if_pos hlt]; exact h, fun f g h => by rw [hfn] at h; exact h, fun t i z h hz => ?_, fun t h => ?_, fun f g b h hb => ?_⟩
  · rw [hty] at h
    have := flats
    rw [allB_eq, List.all_eq_true] at this
    have := this i (List.mem_of_getElem? (by rw [Array.getElem?_toList]; exact h))
    rw [hz] at this
    exact this
  · unfold eg at h
    rw [Bool.or_eq_false_iff] at h
    exact h
  · rw [hfn] at h
    have := names
    rw [allB_eq, List.all_eq_true] at this
    have := this g (List.mem_of_getElem? (by rw [Array.getElem?_toList]; exact h))
    rw [hb] at this
    simpa using this

theorem whole (sm : Nat → Option (List Value → M Value)) (h : SmOk (Cs sm) Proofs.Tryz.prog 3) : (Cs sm).Whole eg Proofs.Tryz.prog 3 := by
  refine ⟨ok sm, fun f fn b hf hb => ?_, mixed, h⟩
  have hfn : (Cs sm).fn.get f = Proofs.Tryz.prog.funcs[f]? := by
    show (T.ofList Proofs.Tryz.prog.funcs.toList).get f = _
    rw [T.get_ofList, Array.getElem?_toList]
  rw [hfn] at hf
  have := codes sm
  rw [allB_eq, List.all_eq_true] at this
  have := this fn (List.mem_of_getElem? (by rw [Array.getElem?_toList]; exact hf))
  rw [hb] at this
  exact this
end Go.Ab.Seat
