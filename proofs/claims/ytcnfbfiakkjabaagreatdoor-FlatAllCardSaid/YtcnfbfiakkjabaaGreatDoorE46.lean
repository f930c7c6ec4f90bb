import Derived.Test.YtcnfbfiakkjabaaGreatDoorDS9
import Derived.Test.YtcnfbfiakkjabaaGreatDoorE31
import Derived.Test.YtcnfbfiakkjabaaGreatDoorRows
import Derived.Test.YtcnfbfiakkjabaaGreatDoorE21
import Derived.Test.YtcnfbfiakkjabaaGreatDoorDI2
import Derived.Test.YtcnfbfiakkjabaaGreatDoorE23
set_option linter.unusedVariables false
set_option linter.unusedSimpArgs false
section
/- The contract of slices.Sorted over the seat's iterators. -/
namespace Go.Ab.Seat
open Go.Proofs Go.RowKit Go.Shelf

attribute [local go_sem] Oper.semAt_some

set_option maxRecDepth 100000 in
set_option maxHeartbeats 1000000 in
theorem values1_nil (F : Fence) (n : Nat) (h7 : F.fn 222) (hro : F.round = none) (l Bs os : Nat) (J : List Int → World → Prop) (W : World) (hBs : W.cell? ⟨Bs, os, none⟩ = some (.slice none 0 0)) (h0 : J [] W) :
    CallsIn F n Tryz.prog 222 #[.func (.yield l) #[] #[], .pointer (some ⟨Bs, os, none⟩)] W fun e W' => (∃ v, e = .returned v) ∧ J [] W' := by
  refine callsIn_of_wp Tryz.func222 rfl h7 ?_ hro
  simp only [Tryz.ntmps222, List.size_toArray, List.length_cons, List.length_nil, Nat.reduceAdd, Nat.reduceSub, Array.replicate_succ, Array.replicate_zero, List.push_toArray, List.append_toArray, List.nil_append, List.cons_append]
  gi_wp2
  gi_loopw [7] (fun i wr => i = .int .i64 0 ∧ J [] wr) (fun _ _ => 0)
  case atStart => exact ⟨rfl, h0⟩
  case round =>
    obtain ⟨rfl, hJs⟩ := hrel
    gi_wp2
    go_end0
    exact ⟨⟨_, rfl⟩, hJs⟩

theorem valuesB (n : Nat) (hn : 1 ≤ n) {w : World} {b o : Nat} {v : Value} {l : List Int} (hv : w.cell? ⟨b, o, none⟩ = some v) (hb : b < w.heap.size) (hs : SeqHolds false w v l) (hl : l.length ≤ 1000000) :
    SeqB Tryz.prog Fence.wide n 222 #[.pointer (some ⟨b, o, none⟩)] (fun ss => ss.Perm l) l.length w := by
  intro l0 J W hW _ hJB hY h0
  have hc : W.cell? ⟨b, o, none⟩ = some v := (hW.cell (p := ⟨b, o, none⟩) hb).trans hv
  rcases hs with ⟨rfl, rfl⟩ | ⟨sb, so, c, rfl, hsb, hcs⟩
  · refine (values1_nil Fence.wide n trivial rfl l0 b o J W hc h0).mono ?_
    rintro e W' ⟨he, hj⟩
    exact ⟨he, [], .refl _, hj⟩
  · refine (Tryz.values1 Fence.wide n trivial rfl hn l0 b o sb so c l (by omega) J w.heap.size w hsb hJB (fun pre x W1 hj hlt => hY pre x W1 hj hlt) W hc hcs h0).mono ?_
    rintro e W' ⟨he, ys, rfl, hj⟩
    exact ⟨he, _, .refl _, hj⟩

/-- What one iterator owes. -/
abbrev OwesAt (g : Nat) (keys : Bool) : Prop :=
  ∀ (w : World) (b o : Nat) (v : Value) (l : List Int), w.cell? ⟨b, o, none⟩ = some v → b < w.heap.size → SeqHolds keys w v l → (∀ n ∈ l, wfI n = true) → l.length ≤ 1000000 →
    Calls Tryz.prog 49 #[.func (.func g) #[] #[.pointer (some ⟨b, o, none⟩)]] w fun e w' => ∃ v, e = .returned v ∧ w'.ownsRow w.heap.size 3 1 v l.length ((sortI l).map fun n => Value.int .i64 n) ∧ (v = .slice none 0 0 ↔ l = []) ∧ Below w.heap.size w w'

theorem owes_none : SortedOwes Tryz.prog 49 3 (fun _ => none) := fun g keys h => by cases h

theorem owes_more {k : Nat} {keys : Bool} {rest : Nat → Option Bool} (h : OwesAt k keys) (r : SortedOwes Tryz.prog 49 3 rest) : SortedOwes Tryz.prog 49 3 (fun g => bif Nat.beq g k then some keys else rest g) := by
  intro g keys' hk0
  have hk : (bif Nat.beq g k then some keys else rest g) = some keys' := hk0
  cases h1 : Nat.beq g k with
  | false => rw [h1] at hk; exact r g keys' hk
  | true =>
    rw [h1] at hk
    cases hk
    obtain rfl := beq_iff.1 h1
    exact h

theorem eSort : ∀ args w, (callFunc 89 args).run Tryz.prog w = .ok (.enter 89 args) w := enters_of Tryz.func89 (by kernel_rfl) rfl

theorem owesA : OwesAt 90 true := fun w b o v l hv hb hs hw hl => sortedOwed Tryz.sortedA (Tryz.sortsA _) eSort (enters_of Tryz.func90 (by kernel_rfl) rfl) hl (keysB (ρ' := Tryz.keysA_ren) { Tryz.keysA with } 7 (by omega) hv hb hs hw hl)
theorem owesB : OwesAt 217 true := fun w b o v l hv hb hs hw hl => sortedOwed Tryz.sortedA (Tryz.sortsA _) eSort (enters_of Tryz.func217 (by kernel_rfl) rfl) hl (keysB (ρ' := Tryz.keysB_ren) { Tryz.keysB with } 7 (by omega) hv hb hs hw hl)
theorem owesC : OwesAt 98 true := fun w b o v l hv hb hs hw hl => sortedOwed Tryz.sortedA (Tryz.sortsA _) eSort (enters_of Tryz.func98 (by kernel_rfl) rfl) hl (keysB (ρ' := Tryz.keysC_ren) { Tryz.keysC with } 7 (by omega) hv hb hs hw hl)
theorem owesD : OwesAt 187 true := fun w b o v l hv hb hs hw hl => sortedOwed Tryz.sortedA (Tryz.sortsA _) eSort (enters_of Tryz.func187 (by kernel_rfl) rfl) hl (keysB (ρ' := Tryz.keysD_ren) { Tryz.keysD with } 7 (by omega) hv hb hs hw hl)
theorem owesE : True := trivial
theorem owesV : OwesAt 222 false := fun w b o v l hv hb hs hw hl => sortedOwed Tryz.sortedA (Tryz.sortsA _) eSort (enters_of Tryz.func222 (by kernel_rfl) rfl) hl (valuesB 7 (by omega) hv hb hs hl)

noncomputable def kindV : Nat → Option Bool := fun g => bif Nat.beq g 222 then some false else none
theorem kindV_owes : SortedOwes Tryz.prog 49 3 kindV := owes_more owesV owes_none
noncomputable def kindA : Nat → Option Bool := fun g => bif Nat.beq g 90 then some true else kindV g
theorem kindA_owes : SortedOwes Tryz.prog 49 3 kindA := owes_more owesA kindV_owes
noncomputable def kindB : Nat → Option Bool := fun g => bif Nat.beq g 217 then some true else kindA g
theorem kindB_owes : SortedOwes Tryz.prog 49 3 kindB := owes_more owesB kindA_owes
noncomputable def kindC : Nat → Option Bool := fun g => bif Nat.beq g 98 then some true else kindB g
theorem kindC_owes : SortedOwes Tryz.prog 49 3 kindC := owes_more owesC kindB_owes
noncomputable def kindD : Nat → Option Bool := fun g => bif Nat.beq g 187 then some true else kindC g
theorem kindD_owes : SortedOwes Tryz.prog 49 3 kindD := owes_more owesD kindC_owes
noncomputable def kindE : Nat → Option Bool := kindD
theorem kindE_owes : SortedOwes Tryz.prog 49 3 kindE := kindD_owes
noncomputable def kindOf : Nat → Option Bool := kindE
theorem sortedOwes : SortedOwes Tryz.prog 49 3 kindOf := kindE_owes

def fSorted : Nat := 49

theorem smSorted : SmOne fSorted (sumSorted kindOf) :=
  ⟨local_sumSorted kindOf, fun args s s' v ι w args' R h1 h2 h3 h4 h5 => sorted_sound ⟨Tryz.f49, _, Tryz.func49, rfl, by kernel_rfl⟩ sortedOwes args s s' v ι w args' R h1 h2 h3 h4 h5⟩
#print axioms smSorted
end Go.Ab.Seat
end
section
/- Law 7's Begun answers true. -/
namespace Go.Ab.Seat
open Go.Extern Go.Proofs
set_option maxRecDepth 1000000

def fBegun7 : Nat := 43

noncomputable def sm7 : Nat → Option (List Value → M Value) := smIns fun f => bif Nat.beq f fSorted then some (sumSorted kindOf) else bif Nat.beq f fBegun4 then some gTrue else bif Nat.beq f fBegun1 then some gTrue else none
noncomputable def C7 : Ctx := Cs sm7
theorem whole7 : C7.Whole eg Tryz.prog 3 := whole _ (smOk _ (smIns_one (one_more smSorted (one_more begun4 (one_more begun1 fun f g hg => by cases hg)))))
theorem run7 : isTrue (callB C7 (exec C7 eg 10000) fBegun7 [] s0) = true := by kernel_rfl
theorem begun7 : SmOne fBegun7 gTrue := known_true fun _ hw => closed_true whole7 run7 hw
#print axioms begun7
end Go.Ab.Seat
end
section
/- Law 13's begun answers true. -/
namespace Go.Ab.Seat
open Go.Extern Go.Proofs
set_option maxRecDepth 1000000

def fBegun13 : Nat := 9

noncomputable def sm13 : Nat → Option (List Value → M Value) := smIns fun f => bif Nat.beq f fSorted then some (sumSorted kindOf) else bif Nat.beq f fBegun7 then some gTrue else bif Nat.beq f fBegun4 then some gTrue else bif Nat.beq f fBegun1 then some gTrue else none
noncomputable def C13 : Ctx := Cs sm13
theorem whole13 : C13.Whole eg Tryz.prog 3 := whole _ (smOk _ (smIns_one (one_more smSorted (one_more begun7 (one_more begun4 (one_more begun1 fun f g hg => by cases hg))))))
theorem run13 : isTrue (callB C13 (exec C13 eg 10000) fBegun13 [] s0) = true := by kernel_rfl
theorem begun13_calls {w : World} (hw : Laid w) : Callable Tryz.prog fBegun13 ∧ Calls Tryz.prog fBegun13 #[] w fun e w' => e = .returned (.bool true) ∧ Left w w' := closed_true whole13 run13 hw
theorem begun13 : SmOne fBegun13 gTrue := known_true fun _ hw => begun13_calls hw
#print axioms begun13
end Go.Ab.Seat
end
section
/- What the listed package-level variables hold; a world that meets the condition. -/
namespace Go.Proofs.YtcnfbfiakkjabaaGreatDoor
open Go.ChangeShapes Go.WideShapes Go.RowKit Go.Ab Go.Ab.Seat

def laidVars : List (String × DataW Unit) := [("math/bits.deBruijn32tab", Rows.laid_math_bits_deBruijn32tab), ("errors.errorType", Rows.laid_errors_errorType)]

theorem own : ownKnob Tryz.prog.godebug = none := by kernel_rfl
theorem laidOut : laidOutB Tryz.prog = true := by kernel_rfl
theorem gTab : Tryz.prog.globalNamed "math/bits.deBruijn32tab" = some 0 := by kernel_rfl
theorem gEt : Tryz.prog.globalNamed "errors.errorType" = some 1 := by kernel_rfl
theorem rtNo : (Tryz.prog.cutTypes.find? (·.1 == "internal/reflectlite.rtype")).map (·.2) = some tRt := by kernel_rfl
theorem tSize : Tryz.prog.types.size = 377 := by kernel_rfl
theorem oneRow : ((List.range 377).filter fun t => Tryz.prog.rowNamed t [101, 114, 114, 111, 114]) = [tErr] := by kernel_rfl
theorem gType : (Tryz.prog.globals[0]?).map (·.type) = some 216 := by kernel_rfl
theorem uTab : Tryz.prog.underlying 216 = some (.array 32 5) := by kernel_rfl
theorem uU8 : Tryz.prog.underlying 5 = some (.int .u8) := by kernel_rfl
theorem cU8 : Tryz.prog.cellsOf 5 = 1 := by kernel_rfl
theorem begSize : 2 < (begin Tryz.prog (fun _ _ => 0) default).world.heap.size := by
  have h : decide (2 < (begin Tryz.prog (fun _ _ => 0) default).world.heap.size) = true := by kernel_rfl
  exact of_decide_eq_true h
theorem gSize : Tryz.prog.globals.size = 2 := by kernel_rfl

/-- What the row's condition gives. -/
theorem laid_of {W : World} (h : laidMetH Tryz.prog laidVars W) (hs : W.ShapedOpen Tryz.prog) : Laid W := by
  have h' : laidMet Tryz.prog [("math/bits.deBruijn32tab", Rows.laid_math_bits_deBruijn32tab)] W ∧ handlesMet Tryz.prog [("errors.errorType", Rows.laid_errors_errorType)] W := h
  refine ⟨?_, ?_, ?_⟩
  · obtain ⟨ps, ⟨g, t, cs, fuel, p, q, hg, ht, hvar, hd, _, _⟩, _⟩ := h'.1
    obtain rfl := Option.some.inj (gTab.symm.trans hg)
    obtain rfl := Option.some.inj (gType.symm.trans ht)
    obtain ⟨h1, h2⟩ := arr_of_trod uTab uU8 cU8 hd
    have hcell : ∀ (i : Nat) (x : Value), tab[i]? = some x → cs[i]? = some x := by
      intro i x hx
      have hx' : ([0, 1, 28, 2, 29, 14, 24, 3, 30, 22, 20, 15, 25, 17, 4, 8, 31, 27, 13, 23, 21, 19, 16, 7, 26, 12, 18, 6, 11, 5, 10, 9].map fun n : Int => Value.int .u8 n)[i]? = some x := hx
      rw [List.getElem?_map, Option.map_eq_some_iff] at hx'
      obtain ⟨m, hm, rfl⟩ := hx'
      have := h2 i m (by
        have e : ([0, 1, 28, 2, 29, 14, 24, 3, 30, 22, 20, 15, 25, 17, 4, 8, 31, 27, 13, 23, 21, 19, 16, 7, 26, 12, 18, 6, 11, 5, 10, 9].map fun n : Int => (DataW.lit (.int .u8 n) : DataW Unit))[i]? = some (.lit (.int .u8 m)) := by rw [List.getElem?_map, hm]; rfl
        exact e)
      rw [Array.getElem?_toList] at this
      exact this
    have hv := hvar
    unfold World.var? at hv
    rw [hg] at hv
    simp only [Option.bind_some] at hv
    split at hv
    · rename_i c t fr hH
      obtain rfl := Option.some.inj hv
      refine ⟨_, t, fr, hH, ?_, hcell⟩
      have h31 := (Array.getElem?_eq_some_iff.1 (hcell 31 (.int .u8 9) rfl)).1
      show 32 ≤ _
      omega
    · cases hv
  · obtain ⟨name, u, ty, e1, e2, e3, e4, e5⟩ := h'.2 _ (List.mem_singleton.2 rfl)
    have en : name = [101, 114, 114, 111, 114] := (Option.some.inj e1).symm
    subst en
    obtain rfl := Option.some.inj (rtNo.symm.trans e2)
    have hm : ty ∈ (List.range 377).filter fun t => Tryz.prog.rowNamed t [101, 114, 114, 111, 114] := List.mem_filter.2 ⟨List.mem_range.2 (by rw [← tSize]; exact e3), e4⟩
    rw [oneRow] at hm
    obtain rfl := List.mem_singleton.1 hm
    have hv := e5
    unfold World.var? at hv
    rw [gEt] at hv
    simp only [Option.bind_some] at hv
    split at hv
    · rename_i c t fr hH
      obtain rfl := Option.some.inj hv
      refine ⟨_, t, fr, hH, ?_⟩
      have hh : typeHandle Tryz.prog tErr = hd tErr := by unfold typeHandle; rw [gSize]; rfl
      rw [hh]
      rfl
    · cases hv
  · obtain ⟨o, _, h1, _⟩ := hs.2 2 (by rw [gSize]; exact Nat.le_refl _) begSize
    exact (Array.getElem?_eq_some_iff.1 h1).1

theorem _root_.Go.Ab.Seat.Laid.left {w w' : World} (h : Laid w) (hl : Go.Ab.Seat.Left w w') : Laid w' := by
  obtain ⟨⟨c, t, fr, h1, h2, h3⟩, ⟨c1, t1, fr1, h4, h5⟩, h6⟩ := h
  exact ⟨⟨c, t, fr, (hl.heap 0 (by omega)).trans h1, h2, h3⟩, ⟨c1, t1, fr1, (hl.heap 1 (by omega)).trans h4, h5⟩, Nat.lt_of_lt_of_le h6 hl.size⟩

/-- A world that meets the condition. -/
noncomputable def laidWorld (os : Os) : World :=
  let w0 := World.holding Tryz.prog os ⟨#[], #[], []⟩
  { w0 with heap := (w0.heap.modify 0 fun
      | .cells _ t frozen => .cells tab.toArray t frozen
      | o => o).modify 1 fun
      | .cells _ t frozen => .cells #[rt tErr] t frozen
      | o => o }

theorem laidWorld_met (os : Os) (args : Array Value) : laidMetH Tryz.prog laidVars ((laidWorld os).forCall (fun _ _ => 0) ⟨#[], args, []⟩).memory :=
  laidMetH_of_parts (laidMet_of_run (ps := (List.range 32).map fun i => .cell 0 i) 8 (by kernel_rfl) (by kernel_rfl) (by kernel_rfl)) (by kernel_rfl)
#print axioms laidWorld_met
#print axioms laid_of
end Go.Proofs.YtcnfbfiakkjabaaGreatDoor
end
section
/- The machine with law 13's begun known. -/
namespace Go.Ab.Seat
open Go.Extern Go.Proofs
set_option maxRecDepth 1000000


noncomputable def sm18 : Nat → Option (List Value → M Value) := smIns fun f => bif Nat.beq f fSorted then some (sumSorted kindOf) else bif Nat.beq f fBegun13 then some gTrue else bif Nat.beq f fBegun7 then some gTrue else bif Nat.beq f fBegun4 then some gTrue else bif Nat.beq f fBegun1 then some gTrue else none
noncomputable def C18 : Ctx := Cs sm18
theorem whole18 : C18.Whole eg Tryz.prog 3 := whole _ (smOk _ (smIns_one (one_more smSorted (one_more begun13 (one_more begun7 (one_more begun4 (one_more begun1 fun f g hg => by cases hg)))))))
end Go.Ab.Seat
end
section
/- The end of a function run by the abstract machine: from a place in the midst of a walk on. -/
namespace Go.Ab
open Go.RowKit (Below)

noncomputable def tailB (C : Ctx) (eg : TypeId → Bool) (fuel km : Nat) (c1 c2 : Code) (e : Env) (rs : List ResultVar) : M Value :=
  (exec C eg fuel km c1 e).bind fun p =>
    match p.1 with
    | .normal => (exec C eg fuel km c2 p.2).bind fun q => (match q.1 with | .ret => resultsA C q.2 rs | _ => M.fail)
    | _ => M.fail

noncomputable def isT (x : Option (Value × St)) : Bool := match x with | some (.bool true, _) => true | _ => false

theorem isT_some {x : Option (Value × St)} (h : isT x = true) : ∃ s, x = some (.bool true, s) := by
  unfold isT at h
  split at h
  · exact ⟨_, rfl⟩
  · cases h

section
variable {C : Ctx} {eg : TypeId → Bool} {P : Program} {G : Nat}

theorem tail_true (W : C.Whole eg P G) {fuel km : Nat} {c1 c2 : Code} {e : Env} {s : St} {fn : Func} (h : isT (tailB C eg fuel km c1 c2 e fn.results.toList s) = true) (ok1 : codeOk C G fn.ntmps c1 = true) (ok2 : codeOk C G fn.ntmps c2 = true) (hk : KeptOk km e)
    {ι : Iota} {w : World} {a : Act} {R : Ending → World → Prop} (hr : HR G ι s.h w.heap) (he : EnvR ι e a) (hn : a.tmps.size = fn.ntmps) (hd : a.defers = []) (fr : ∀ b, s.c ≤ b → ι b = none) (ho : ∀ k, ¬Owned ι s.h k)
    {K : Act → World → Prop} (hK : ∀ a w, c2.wp P (bodyPost P fn R) a w → K a w) (hR : ∀ w', Below w.heap.size w w' → R (.returned (.bool true)) w') :
    c1.wp P (Exit.then K (bodyPost P fn R)) a w := by
  obtain ⟨sE, h⟩ := isT_some h
  obtain ⟨⟨x1, e1⟩, s1, h1, h2⟩ := bind_some h
  cases x1 with
  | exit j => exact (fail_some (s := s1) h2).elim
  | ret => exact (fail_some (s := s1) h2).elim
  | normal =>
    obtain ⟨⟨x2, e2⟩, s2, h3, h4⟩ := bind_some (show ((exec C eg fuel km c2 e1).bind fun q => (match q.1 with | .ret => resultsA C q.2 fn.results.toList | _ => M.fail)) s1 = _ from h2)
    cases x2 with
    | exit j => exact (fail_some (s := s2) h4).elim
    | normal => exact (fail_some (s := s2) h4).elim
    | ret =>
      obtain ⟨vs, s3, q1, q2⟩ := bind_some (show resultsA C e2 fn.results.toList s2 = some (.bool true, sE) from h4)
      obtain ⟨q4, rfl⟩ := ret_some q2
      obtain ⟨k1, w1⟩ := soundRec W fuel fn.ntmps km c1 e e1 s s1 _ h1 ok1 hk
      obtain ⟨_, w2⟩ := soundRec W fuel fn.ntmps km c2 e1 e2 s1 s2 _ h3 ok2 k1
      refine (w1 ι w a _ hr he hn (fun b hb _ => fr b hb) fun ι' a' w' p1 p2 p3 p4 => ?_).1
      refine hK a' w' ((w2 ι' w' a' _ p2.hr p1 p3 (fun b hb _ => p2.new b (fr b (Nat.le_trans p2.cle hb)) (.inr hb)) fun ι2 a2 w2 r1 r2 r3 r4 => ?_).1)
      obtain ⟨z1, z2, v', hv', hrun⟩ := run_results (P := P) (fn := fn) W.ok r1 w2 q1 r2.hr
      rw [← q4] at hv'
      cases hv'
      have hp := p2.trans r2
      exact ⟨by rw [r4, p4]; exact hd, _, hrun, hR w2 ⟨hp.os, hp.tape, hp.output, hp.size, fun k hk' => hp.frame k hk' (ho k)⟩⟩

/-- One slot that is known. -/
theorem envAt {ι : Iota} {km : Nat} {vs : List Value} {a : Act} (h : ∀ (t : Nat) (v : Value), vs[t]? = some v → VR ι v (a.tmps.getD t undef)) : EnvR ι (envOf km vs) a := by
  intro t
  show VR ι ((keepFrom km vs 0 .nil).look (fun _ => top) t) _
  rcases keep_rd km vs 0 .nil t with e | ⟨_, e⟩ | e
  · rw [e]; exact .top _
  · exact h t _ e
  · rw [e]; exact .top _

end

/-- The parts of a code. -/
def Code.l : Code → Code | .seq a _ => a | c => c
def Code.r : Code → Code | .seq _ b => b | c => c
end Go.Ab
end
section
/- A closed call with plain arguments, as a contract. -/
namespace Go.Ab

/-- Values that stand for themselves alone. -/
noncomputable def exact : Nat → Value → Bool
  | 0, _ => false
  | d + 1, v =>
    match v with
    | .bool _ => true
    | .int _ _ => true
    | .string _ => true
    | .pointer none => true
    | .slice none _ _ => true
    | .map none => true
    | .nilIface => true
    | .agg cs => allB (exact d) cs.toList
    | .tuple cs => allB (exact d) cs.toList
    | _ => false

theorem exact_VR {ι : Iota} : ∀ (d : Nat) (v v' : Value), exact d v = true → VR ι v v' → v' = v := by
  intro d
  induction d with
  | zero => intro v v' h; cases h
  | succ d ih =>
    intro v v' h hv
    have key : ∀ (a a' : Array Value), allB (exact d) a.toList = true → a.toList.length = a'.toList.length → (∀ (i : Nat) (x y : Value), a.toList[i]? = some x → a'.toList[i]? = some y → VR ι x y) → a' = a := by
      intro a a' ha hl hr
      rw [allB_eq, List.all_eq_true] at ha
      apply Array.toList_inj.1
      apply List.ext_getElem?
      intro i
      by_cases hi : i < a.toList.length
      · have hi' : i < a'.toList.length := by rw [← hl]; exact hi
        rw [List.getElem?_eq_getElem hi, List.getElem?_eq_getElem hi']
        exact congrArg some (ih _ _ (ha _ (List.getElem_mem hi)) (hr i _ _ (List.getElem?_eq_getElem hi) (List.getElem?_eq_getElem hi')))
      · rw [List.getElem?_eq_none (by omega), List.getElem?_eq_none (by omega)]
    cases hv with
    | bool => rfl
    | int => rfl
    | string => rfl
    | nilPtr => rfl
    | nilSlice => rfl
    | nilMap => rfl
    | nilIface => rfl
    | agg a a' ha ra => rw [key a a' h ha ra]
    | tuple a a' ha ra => rw [key a a' h ha ra]
    | _ => cases h

end Go.Ab
end
section
/- Closed calls with plain arguments: what they give. -/
namespace Go.Ab.Seat
open Go.Extern Go.Proofs Go.RowKit

noncomputable def sameV : Nat → Value → Value → Bool
  | 0, _, _ => false
  | d + 1, a, b =>
    match a, b with
    | .int j x, .int k y => decide (j = k) && decide (x = y)
    | .bool x, .bool y => x == y
    | .agg xs, .agg ys => Nat.beq (len xs.toList) (len ys.toList) && allB (fun p => sameV d p.1 p.2) (xs.toList.zip ys.toList)
    | .tuple xs, .tuple ys => Nat.beq (len xs.toList) (len ys.toList) && allB (fun p => sameV d p.1 p.2) (xs.toList.zip ys.toList)
    | _, _ => false

theorem sameV_exact : ∀ (d : Nat) (a b : Value), sameV d a b = true → a = b ∧ exact d b = true := by
  intro d
  induction d with
  | zero => intro a b h; cases h
  | succ d ih =>
    intro a b h
    have key : ∀ (xs ys : Array Value), (Nat.beq (len xs.toList) (len ys.toList) && allB (fun p => sameV d p.1 p.2) (xs.toList.zip ys.toList)) = true → xs = ys ∧ allB (exact d) ys.toList = true := by
      intro xs ys h
      rw [Bool.and_eq_true, allB_eq, List.all_eq_true] at h
      have hl := beq_iff.1 h.1
      rw [len_eq, len_eq] at hl
      have each : ∀ (i : Nat) (h1 : i < xs.toList.length) (h2 : i < ys.toList.length), xs.toList[i] = ys.toList[i] ∧ exact d ys.toList[i] = true := by
        intro i h1 h2
        refine ih _ _ (h.2 (xs.toList[i], ys.toList[i]) ?_)
        have hz : i < (xs.toList.zip ys.toList).length := by rw [List.length_zip]; omega
        have := List.getElem_mem hz
        rw [List.getElem_zip] at this
        exact this
      refine ⟨Array.toList_inj.1 (List.ext_getElem hl fun i h1 h2 => (each i h1 h2).1), ?_⟩
      rw [allB_eq, List.all_eq_true]
      intro y hy
      obtain ⟨i, hi, rfl⟩ := List.getElem_of_mem hy
      exact (each i (by omega) hi).2
    unfold sameV at h
    split at h
    · simp only [Bool.and_eq_true, decide_eq_true_eq] at h; obtain ⟨rfl, rfl⟩ := h; exact ⟨rfl, rfl⟩
    · rw [beq_iff_eq] at h; rw [h]; exact ⟨rfl, rfl⟩
    · obtain ⟨rfl, h2⟩ := key _ _ h; exact ⟨rfl, h2⟩
    · obtain ⟨rfl, h2⟩ := key _ _ h; exact ⟨rfl, h2⟩
    · cases h

noncomputable def givesV (x : Option (Value × St)) (v : Value) : Bool := match x with | some (r, _) => sameV 5 r v | none => false

/-- A closed call with plain arguments: what the kernel's run gives. -/
theorem closed_gives {C : Ctx} (W : C.Whole eg Tryz.prog 3) {fuel f : Nat} {args : List Value} {v : Value} (h : givesV (callB C (exec C eg fuel) f args s0) v = true) (hf : allB (flat 5) args = true) {w : World} (hl : Laid w) :
    Calls Tryz.prog f args.toArray w fun e w' => e = .returned v ∧ Below w.heap.size w w' := by
  cases hc : callB C (exec C eg fuel) f args s0 with
  | none => rw [hc] at h; cases h
  | some p =>
    obtain ⟨r, s'⟩ := p
    rw [hc] at h
    obtain ⟨rfl, he⟩ := sameV_exact 5 r v h
    rw [allB_eq, List.all_eq_true] at hf
    refine (calls_of_abs W fuel f (args' := args) hc (VRl_flat _ 5 args hf) hl.hr (fun b h1 _ => ?_) fun v' w' ι' hv hp => ?_).2
    · show ι0 w b = none
      have : 3 ≤ b := h1
      exact if_neg (by omega)
    · rw [exact_VR 5 r v' he hv]
      exact ⟨rfl, hp.os, hp.tape, hp.output, hp.size, fun k hk => hp.frame k hk s0_owned⟩

theorem laid_below {w w' : World} (h : Laid w) (hb : Below w.heap.size w w') : Laid w' := h.left ⟨hb.os, hb.tape, hb.output, hb.size, hb.block⟩
end Go.Ab.Seat
end
section
/- The laws' own ground: begun is known; what is known and not run. -/
namespace Go.Ab.Seat
open Go.Extern Go.Proofs
set_option linter.unusedSimpArgs false
set_option linter.unusedVariables false
set_option maxRecDepth 1000000

noncomputable def smQ : Nat → Option (List Value → M Value) := fun f => bif Nat.beq f fInsHit then some gIns else smIns (fun f => bif Nat.beq f fSorted then some (sumSorted kindOf) else bif Nat.beq f fBegun13 then some gTrue else bif Nat.beq f fBegun7 then some gTrue else bif Nat.beq f fBegun4 then some gTrue else bif Nat.beq f fBegun1 then some gTrue else none) f
noncomputable def CQ : Ctx := Cs smQ
theorem wholeQ : CQ.Whole eg Tryz.prog 3 := whole _ (smOk _ (one_more smInsG (smIns_one (one_more smSorted (one_more begun13 (one_more begun7 (one_more begun4 (one_more begun1 fun f g hg => by cases hg))))))))

theorem stdQ : Std smQ := by
  intro f hf
  have h : ∀ k ∈ [9, 43, 150, 234, 49, 135, 155], Nat.beq f k = false := by
    intro k hk
    refine beq_false.2 fun e => ?_
    subst e
    unfold special at hf
    rw [List.contains_eq_mem] at hf
    simp [hk] at hf
  simp only [List.mem_cons, List.not_mem_nil, or_false, forall_eq_or_imp, forall_eq] at h
  obtain ⟨h2, h3, h4, h5, h6, h7, h8⟩ := h
  show (bif Nat.beq f fInsHit then some gIns else smIns _ f) = none
  unfold smIns
  simp only [show Nat.beq f fInsHit = false from h8, show Nat.beq f fInsInt = false from h7, show Nat.beq f fSorted = false from h6, show Nat.beq f fBegun13 = false from h2, show Nat.beq f fBegun7 = false from h3, show Nat.beq f fBegun4 = false from h4, show Nat.beq f fBegun1 = false from h5, cond_false]

theorem eqAll_tab : eqAll tab tab = true := by kernel_rfl

/-- What is laid. -/
structure Glob (h : T AObj) : Prop where
  g0 : Has h 0 (.ro tab)
  g1 : Has h 1 (.ro [rt tErr])

theorem globOk_run {h : T AObj} {c : Nat} {rl wl : List Nat} (hf : Fresh h c) (hg : Glob h) : globOk ⟨h, c, rl, wl⟩ = some ((), ⟨h, c, 1 :: 0 :: rl, wl⟩) := by
  unfold globOk
  rw [bind_run (getCells_run hg.g0.celR (hg.g0.lt hf)), bind_run (getCells_run hg.g1.celR (hg.g1.lt hf))]
  rw [eqAll_tab]
  rfl

theorem begunQ {h : T AObj} {c : Nat} {rl wl : List Nat} (hf : Fresh h c) (hg : Glob h) : ∃ v s', FnTo (Cs smQ) eg 9 [] ⟨h, c, rl, wl⟩ v s' ∧ (v = .bool true ∧ s' = ⟨h, c, 1 :: 0 :: rl, wl⟩) := by
  refine ⟨_, _, FnTo.of_sm (q := gTrue) rfl ?_, rfl, rfl⟩
  show (globOk.bind fun _ => M.ret (Value.bool true)) _ = _
  rw [bind_run (globOk_run hf hg)]; rfl

theorem tmod_lt (n : Int) (c : Int) (hc : 0 < c) : -c < n.tmod c ∧ n.tmod c < c := by
  have h1 : n.tmod c < c := Int.tmod_lt_of_pos n hc
  have h3 := Int.tmod_lt_of_pos (-n) hc
  rw [Int.neg_tmod] at h3
  omega

end Go.Ab.Seat
end
section
/- A store as a list of records that rises by ids (plain lists). -/
namespace Go.Ab
set_option linter.unusedVariables false

/-- What a store has of an id. -/
structure Rc where
  id : Int
  xs : List Value
  pay : ByteArray
  seq : Int
  gone : Bool

def Rises (l : List Rc) : Prop := l.Pairwise fun a b => a.id < b.id

noncomputable def getM (x : Int) : List Rc → Option Rc
  | [] => none
  | r :: l => if r.id = x then some r else getM x l

noncomputable def putM (r : Rc) : List Rc → List Rc
  | [] => [r]
  | y :: l => if r.id < y.id then r :: y :: l else if r.id = y.id then r :: l else y :: putM r l

noncomputable def seqM (x : Int) (l : List Rc) : Int := match getM x l with | some r => r.seq | none => 0
def liveM (l : List Rc) : List Rc := l.filter fun r => !r.gone
def nextM (after : Int) (l : List Rc) : Option Rc := l.find? fun r => decide (after < r.id) && !r.gone
def sweptR (upto : Int) (r : Rc) : Bool := r.gone && decide (r.seq ≤ upto)
def sweepM (upto : Int) (l : List Rc) : List Rc := l.filter fun r => !sweptR upto r

theorem Rises.nil : Rises [] := List.Pairwise.nil
theorem Rises.filter {l : List Rc} (h : Rises l) (p : Rc → Bool) : Rises (l.filter p) := List.Pairwise.filter p h

theorem getM_mem {x : Int} : ∀ {l : List Rc} {r : Rc}, getM x l = some r → r ∈ l ∧ r.id = x
  | [], _, h => by cases h
  | y :: l, r, h => by
    unfold getM at h
    split at h
    · cases h
      exact ⟨List.mem_cons_self .., by assumption⟩
    · exact ⟨List.mem_cons_of_mem _ (getM_mem h).1, (getM_mem h).2⟩

theorem getM_none {x : Int} : ∀ {l : List Rc}, getM x l = none ↔ ∀ r ∈ l, r.id ≠ x
  | [] => ⟨(fun _ r h => by cases h), (fun _ => rfl)⟩
  | y :: l => by
    unfold getM
    by_cases hy : y.id = x
    · rw [if_pos hy]
      exact ⟨(fun h => by cases h), (fun h => absurd hy (h y (List.mem_cons_self ..)))⟩
    · rw [if_neg hy, getM_none]
      constructor
      · intro h r hr
        rcases List.mem_cons.1 hr with rfl | hr
        · exact hy
        · exact h r hr
      · exact fun h r hr => h r (List.mem_cons_of_mem _ hr)

theorem getM_some {x : Int} {l : List Rc} (h : Rises l) {r : Rc} (hr : r ∈ l) (hx : r.id = x) : getM x l = some r := by
  induction l with
  | nil => cases hr
  | cons y l ih =>
    obtain ⟨h1, h2⟩ := List.pairwise_cons.1 h
    unfold getM
    rcases List.mem_cons.1 hr with rfl | hr
    · rw [if_pos hx]
    · have := h1 r hr
      rw [if_neg (by omega)]
      exact ih h2 hr

theorem mem_putM {r x : Rc} : ∀ {l : List Rc}, x ∈ putM r l → x = r ∨ x ∈ l
  | [], h => .inl (List.mem_singleton.1 h)
  | y :: l, h => by
    unfold putM at h
    split at h
    · rcases List.mem_cons.1 h with h | h
      · exact .inl h
      · exact .inr h
    · split at h
      · rcases List.mem_cons.1 h with h | h
        · exact .inl h
        · exact .inr (List.mem_cons_of_mem _ h)
      · rcases List.mem_cons.1 h with h | h
        · exact .inr (h ▸ List.mem_cons_self ..)
        · rcases mem_putM h with h | h
          · exact .inl h
          · exact .inr (List.mem_cons_of_mem _ h)

theorem Rises.put {l : List Rc} (h : Rises l) (r : Rc) : Rises (putM r l) := by
  induction l with
  | nil => exact List.pairwise_singleton ..
  | cons y l ih =>
    obtain ⟨h1, h2⟩ := List.pairwise_cons.1 h
    unfold putM
    split
    · refine List.pairwise_cons.2 ⟨fun z hz => ?_, h⟩
      rcases List.mem_cons.1 hz with rfl | hz
      · assumption
      · have := h1 z hz
        omega
    · split
      · refine List.pairwise_cons.2 ⟨fun z hz => ?_, h2⟩
        have := h1 z hz
        omega
      · refine List.pairwise_cons.2 ⟨fun z hz => ?_, ih h2⟩
        rcases mem_putM hz with rfl | hz
        · omega
        · exact h1 z hz

theorem getM_put {l : List Rc} (r : Rc) (x : Int) : getM x (putM r l) = if r.id = x then some r else getM x l := by
  induction l with
  | nil => unfold putM getM; rfl
  | cons y l ih =>
    unfold putM
    split
    · rw [getM]
    · split
      · rw [getM, getM]
        split
        · rfl
        · rw [if_neg (by omega)]
      · rw [getM, ih, getM]
        by_cases hr : r.id = x
        · rw [if_pos hr, if_neg (by omega), if_pos hr]
        · rw [if_neg hr, if_neg hr]

theorem getM_filter {l : List Rc} (h : Rises l) (p : Rc → Bool) (x : Int) : getM x (l.filter p) = match getM x l with | some r => if p r then some r else none | none => none := by
  cases hg : getM x l with
  | none =>
    exact getM_none.2 fun r hr => getM_none.1 hg r (List.mem_filter.1 hr).1
  | some r =>
    obtain ⟨h1, h2⟩ := getM_mem hg
    simp only
    split
    · exact getM_some (h.filter p) (List.mem_filter.2 ⟨h1, by assumption⟩) h2
    · refine getM_none.2 fun y hy he => ?_
      obtain ⟨h3, h4⟩ := List.mem_filter.1 hy
      have := getM_some h h3 he
      rw [hg] at this
      cases this
      contradiction

/-- Two lists that rise and have the same are the same. -/
theorem rises_ext : ∀ {a b : List Int}, a.Pairwise (fun x y => x < y) → b.Pairwise (fun x y => x < y) → (∀ x, x ∈ a ↔ x ∈ b) → a = b
  | [], [], _, _, _ => rfl
  | [], y :: b, _, _, h => by cases (h y).2 (List.mem_cons_self ..)
  | x :: a, [], _, _, h => by cases (h x).1 (List.mem_cons_self ..)
  | x :: a, y :: b, ha, hb, h => by
    obtain ⟨a1, a2⟩ := List.pairwise_cons.1 ha
    obtain ⟨b1, b2⟩ := List.pairwise_cons.1 hb
    have hxy : x = y := by
      have h1 := (h x).1 (List.mem_cons_self ..)
      have h2 := (h y).2 (List.mem_cons_self ..)
      rcases List.mem_cons.1 h1 with h1 | h1
      · exact h1
      · rcases List.mem_cons.1 h2 with h2 | h2
        · exact h2.symm
        · have := a1 y h2
          have := b1 x h1
          omega
    subst hxy
    rw [rises_ext a2 b2 fun z => ?_]
    constructor
    · intro hz
      rcases List.mem_cons.1 ((h z).1 (List.mem_cons_of_mem _ hz)) with rfl | h1
      · have := a1 z hz
        omega
      · exact h1
    · intro hz
      rcases List.mem_cons.1 ((h z).2 (List.mem_cons_of_mem _ hz)) with rfl | h1
      · have := b1 z hz
        omega
      · exact h1

theorem sortI_rises {l : List Int} (h : l.Nodup) : (sortI l).Pairwise fun x y => x < y := by
  have h1 := sortI_sorted l
  have h2 : (sortI l).Nodup := (sortI_perm l).nodup_iff.2 h
  have := List.pairwise_and_iff.2 ⟨h1, h2⟩
  exact this.imp fun {a b} h => by have := h.1; have := h.2; omega

theorem Rises.ids {l : List Rc} (h : Rises l) : (l.map Rc.id).Pairwise fun x y => x < y := List.pairwise_map.2 h

/-- Ids of a small range are few. -/
theorem rises_len {n : Int} : ∀ {l : List Int} {lo : Int}, l.Pairwise (fun x y => x < y) → (∀ x ∈ l, lo ≤ x ∧ x ≤ n) → 0 ≤ n + 1 - lo → (l.length : Int) ≤ n + 1 - lo
  | [], _, _, _, h => by simpa using h
  | x :: l, lo, h, hl, h0 => by
    obtain ⟨h1, h2⟩ := List.pairwise_cons.1 h
    have hx := hl x (List.mem_cons_self ..)
    have := rises_len (n := n) (lo := x + 1) h2 (fun y hy => ⟨by have := h1 y hy; omega, (hl y (List.mem_cons_of_mem _ hy)).2⟩) (by omega)
    rw [List.length_cons]
    omega

theorem sweepM_len (upto : Int) (l : List Rc) : (sweepM upto l).length + (l.filter (sweptR upto)).length = l.length := by
  unfold sweepM
  induction l with
  | nil => rfl
  | cons y l ih =>
    rw [List.filter_cons, List.filter_cons, List.length_cons]
    cases sweptR upto y <;> simp <;> omega
end Go.Ab
end
