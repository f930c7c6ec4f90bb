import Derived.Test.YtmpijgfndnikpaaGreatDoorBS13
import Derived.Test.YtmpijgfndnikpaaGreatDoorE25
import Derived.Test.YtmpijgfndnikpaaGreatDoorE21
set_option linter.unusedVariables false
set_option linter.unusedSimpArgs false
section
/- The machine with law 13's begun known. -/
namespace Go.Ab.Seat
open Go.Extern Go.Proofs
set_option maxRecDepth 1000000

def fBegun18 : Nat := 50

noncomputable def sm18 : Nat → Option (List Value → M Value) := smIns fun f => bif Nat.beq f fSorted then some (sumSorted kindOf) else bif Nat.beq f fBegun13 then some gTrue else bif Nat.beq f fBegun7 then some gTrue else bif Nat.beq f fBegun4 then some gTrue else bif Nat.beq f fBegun1 then some gTrue else none
noncomputable def C18 : Ctx := Cs sm18
theorem whole18 : C18.Whole eg Tryz.prog 3 := whole _ (smOk _ (smIns_one (one_more smSorted (one_more begun13 (one_more begun7 (one_more begun4 (one_more begun1 fun f g hg => by cases hg)))))))
end Go.Ab.Seat
end
section
/- Law 18's begun answers true. -/
namespace Go.Ab.Seat
open Go.Extern Go.Proofs
set_option maxRecDepth 1000000

theorem run18 : isTrue (callB C18 (exec C18 eg 10000) fBegun18 [] s0) = true := by kernel_rfl
theorem begun18_calls {w : World} (hw : Laid w) : Callable Tryz.prog fBegun18 ∧ Calls Tryz.prog fBegun18 #[] w fun e w' => e = .returned (.bool true) ∧ Left w w' := closed_true whole18 run18 hw
theorem begun18 : SmOne fBegun18 gTrue := known_true fun _ hw => begun18_calls hw
#print axioms begun18
end Go.Ab.Seat
end
section
/- The end of a function run by the abstract machine: from a place in the midst of a walk on. -/
namespace Go.Ab
open Go.RowKit (Below)

noncomputable def tailB (C : Ctx) (eg : TypeId → Bool) (fuel km : Nat) (c1 c2 : Code) (e : Env) (rs : List ResultVar) : M Value :=
  (exec C eg fuel km c1 e).bind fun p =>
    match p.1 with
    | .normal => (exec C eg fuel km c2 p.2).bind fun q => (match q.1 with | .ret => resultsA C q.2 rs | _ => M.fail)
    | _ => M.fail

noncomputable def isT (x : Option (Value × St)) : Bool := match x with | some (.bool true, _) => true | _ => false

theorem isT_some {x : Option (Value × St)} (h : isT x = true) : ∃ s, x = some (.bool true, s) := by
  unfold isT at h
  split at h
  · exact ⟨_, rfl⟩
  · cases h

section
variable {C : Ctx} {eg : TypeId → Bool} {P : Program} {G : Nat}

theorem tail_true (W : C.Whole eg P G) {fuel km : Nat} {c1 c2 : Code} {e : Env} {s : St} {fn : Func} (h : isT (tailB C eg fuel km c1 c2 e fn.results.toList s) = true) (ok1 : codeOk C G fn.ntmps c1 = true) (ok2 : codeOk C G fn.ntmps c2 = true) (hk : KeptOk km e)
    {ι : Iota} {w : World} {a : Act} {R : Ending → World → Prop} (hr : HR G ι s.h w.heap) (he : EnvR ι e a) (hn : a.tmps.size = fn.ntmps) (hd : a.defers = []) (fr : ∀ b, s.c ≤ b → ι b = none) (ho : ∀ k, ¬Owned ι s.h k)
    {K : Act → World → Prop} (hK : ∀ a w, c2.wp P (bodyPost P fn R) a w → K a w) (hR : ∀ w', Below w.heap.size w w' → R (.returned (.bool true)) w') :
    c1.wp P (Exit.then K (bodyPost P fn R)) a w := by
  obtain ⟨sE, h⟩ := isT_some h
  obtain ⟨⟨x1, e1⟩, s1, h1, h2⟩ := bind_some h
  cases x1 with
  | exit j => exact (fail_some (s := s1) h2).elim
  | ret => exact (fail_some (s := s1) h2).elim
  | normal =>
    obtain ⟨⟨x2, e2⟩, s2, h3, h4⟩ := bind_some (show ((exec C eg fuel km c2 e1).bind fun q => (match q.1 with | .ret => resultsA C q.2 fn.results.toList | _ => M.fail)) s1 = _ from h2)
    cases x2 with
    | exit j => exact (fail_some (s := s2) h4).elim
    | normal => exact (fail_some (s := s2) h4).elim
    | ret =>
      obtain ⟨vs, s3, q1, q2⟩ := bind_some (show resultsA C e2 fn.results.toList s2 = some (.bool true, sE) from h4)
      obtain ⟨q4, rfl⟩ := ret_some q2
      obtain ⟨k1, w1⟩ := soundRec W fuel fn.ntmps km c1 e e1 s s1 _ h1 ok1 hk
      obtain ⟨_, w2⟩ := soundRec W fuel fn.ntmps km c2 e1 e2 s1 s2 _ h3 ok2 k1
      refine (w1 ι w a _ hr he hn (fun b hb _ => fr b hb) fun ι' a' w' p1 p2 p3 p4 => ?_).1
      refine hK a' w' ((w2 ι' w' a' _ p2.hr p1 p3 (fun b hb _ => p2.new b (fr b (Nat.le_trans p2.cle hb)) (.inr hb)) fun ι2 a2 w2 r1 r2 r3 r4 => ?_).1)
      obtain ⟨z1, z2, v', hv', hrun⟩ := run_results (P := P) (fn := fn) W.ok r1 w2 q1 r2.hr
      rw [← q4] at hv'
      cases hv'
      have hp := p2.trans r2
      exact ⟨by rw [r4, p4]; exact hd, _, hrun, hR w2 ⟨hp.os, hp.tape, hp.output, hp.size, fun k hk' => hp.frame k hk' (ho k)⟩⟩

/-- One slot that is known. -/
theorem envAt {ι : Iota} {km : Nat} {vs : List Value} {a : Act} (h : ∀ (t : Nat) (v : Value), vs[t]? = some v → VR ι v (a.tmps.getD t undef)) : EnvR ι (envOf km vs) a := by
  intro t
  show VR ι ((keepFrom km vs 0 .nil).look (fun _ => top) t) _
  rcases keep_rd km vs 0 .nil t with e | ⟨_, e⟩ | e
  · rw [e]; exact .top _
  · exact h t _ e
  · rw [e]; exact .top _

end

/-- The parts of a code. -/
def Code.l : Code → Code | .seq a _ => a | c => c
def Code.r : Code → Code | .seq _ b => b | c => c
end Go.Ab
end
