import Derived.Test.YthkmcfiijooddaaGreatDoorE25
import Derived.Test.YthkmcfiijooddaaGreatDoorRows
import Derived.Test.YthkmcfiijooddaaGreatDoorE21
import Derived.Test.YthkmcfiijooddaaGreatDoorE22
import Derived.Test.YthkmcfiijooddaaGreatDoorE23
set_option linter.unusedVariables false
set_option linter.unusedSimpArgs false
section
/- What the listed package-level variables hold; a world that meets the condition. -/
namespace Go.Proofs.YthkmcfiijooddaaGreatDoor
open Go.ChangeShapes Go.WideShapes Go.RowKit Go.Ab Go.Ab.Seat

def laidVars : List (String × DataW Unit) := [("math/bits.deBruijn32tab", Rows.laid_math_bits_deBruijn32tab), ("errors.errorType", Rows.laid_errors_errorType)]

theorem own : ownKnob Tryz.prog.godebug = none := by kernel_rfl
theorem laidOut : laidOutB Tryz.prog = true := by kernel_rfl
theorem gTab : Tryz.prog.globalNamed "math/bits.deBruijn32tab" = some 1 := by kernel_rfl
theorem gEt : Tryz.prog.globalNamed "errors.errorType" = some 0 := by kernel_rfl
theorem rtNo : (Tryz.prog.cutTypes.find? (·.1 == "internal/reflectlite.rtype")).map (·.2) = some tRt := by kernel_rfl
theorem tSize : Tryz.prog.types.size = 406 := by kernel_rfl
theorem oneRow : ((List.range 406).filter fun t => Tryz.prog.rowNamed t [101, 114, 114, 111, 114]) = [tErr] := by kernel_rfl
theorem gType : (Tryz.prog.globals[1]?).map (·.type) = some 269 := by kernel_rfl
theorem uTab : Tryz.prog.underlying 269 = some (.array 32 5) := by kernel_rfl
theorem uU8 : Tryz.prog.underlying 5 = some (.int .u8) := by kernel_rfl
theorem cU8 : Tryz.prog.cellsOf 5 = 1 := by kernel_rfl
theorem begSize : 2 < (begin Tryz.prog (fun _ _ => 0) default).world.heap.size := by
  have h : decide (2 < (begin Tryz.prog (fun _ _ => 0) default).world.heap.size) = true := by kernel_rfl
  exact of_decide_eq_true h
theorem gSize : Tryz.prog.globals.size = 2 := by kernel_rfl

/-- What the row's condition gives. -/
theorem laid_of {W : World} (h : laidMetH Tryz.prog laidVars W) (hs : W.ShapedOpen Tryz.prog) : Laid W := by
  have h' : laidMet Tryz.prog [("math/bits.deBruijn32tab", Rows.laid_math_bits_deBruijn32tab)] W ∧ handlesMet Tryz.prog [("errors.errorType", Rows.laid_errors_errorType)] W := h
  refine ⟨?_, ?_, ?_⟩
  · obtain ⟨ps, ⟨g, t, cs, fuel, p, q, hg, ht, hvar, hd, _, _⟩, _⟩ := h'.1
    obtain rfl := Option.some.inj (gTab.symm.trans hg)
    obtain rfl := Option.some.inj (gType.symm.trans ht)
    obtain ⟨h1, h2⟩ := arr_of_trod uTab uU8 cU8 hd
    have hcell : ∀ (i : Nat) (x : Value), tab[i]? = some x → cs[i]? = some x := by
      intro i x hx
      have hx' : ([0, 1, 28, 2, 29, 14, 24, 3, 30, 22, 20, 15, 25, 17, 4, 8, 31, 27, 13, 23, 21, 19, 16, 7, 26, 12, 18, 6, 11, 5, 10, 9].map fun n : Int => Value.int .u8 n)[i]? = some x := hx
      rw [List.getElem?_map, Option.map_eq_some_iff] at hx'
      obtain ⟨m, hm, rfl⟩ := hx'
      have := h2 i m (by
        have e : ([0, 1, 28, 2, 29, 14, 24, 3, 30, 22, 20, 15, 25, 17, 4, 8, 31, 27, 13, 23, 21, 19, 16, 7, 26, 12, 18, 6, 11, 5, 10, 9].map fun n : Int => (DataW.lit (.int .u8 n) : DataW Unit))[i]? = some (.lit (.int .u8 m)) := by rw [List.getElem?_map, hm]; rfl
        exact e)
      rw [Array.getElem?_toList] at this
      exact this
    have hv := hvar
    unfold World.var? at hv
    rw [hg] at hv
    simp only [Option.bind_some] at hv
    split at hv
    · rename_i c t fr hH
      obtain rfl := Option.some.inj hv
      refine ⟨_, t, fr, hH, ?_, hcell⟩
      have h31 := (Array.getElem?_eq_some_iff.1 (hcell 31 (.int .u8 9) rfl)).1
      show 32 ≤ _
      omega
    · cases hv
  · obtain ⟨name, u, ty, e1, e2, e3, e4, e5⟩ := h'.2 _ (List.mem_singleton.2 rfl)
    have en : name = [101, 114, 114, 111, 114] := (Option.some.inj e1).symm
    subst en
    obtain rfl := Option.some.inj (rtNo.symm.trans e2)
    have hm : ty ∈ (List.range 406).filter fun t => Tryz.prog.rowNamed t [101, 114, 114, 111, 114] := List.mem_filter.2 ⟨List.mem_range.2 (by rw [← tSize]; exact e3), e4⟩
    rw [oneRow] at hm
    obtain rfl := List.mem_singleton.1 hm
    have hv := e5
    unfold World.var? at hv
    rw [gEt] at hv
    simp only [Option.bind_some] at hv
    split at hv
    · rename_i c t fr hH
      obtain rfl := Option.some.inj hv
      refine ⟨_, t, fr, hH, ?_⟩
      have hh : typeHandle Tryz.prog tErr = hd tErr := by unfold typeHandle; rw [gSize]; rfl
      rw [hh]
      rfl
    · cases hv
  · obtain ⟨o, _, h1, _⟩ := hs.2 2 (by rw [gSize]; exact Nat.le_refl _) begSize
    exact (Array.getElem?_eq_some_iff.1 h1).1

theorem _root_.Go.Ab.Seat.Laid.left {w w' : World} (h : Laid w) (hl : Go.Ab.Seat.Left w w') : Laid w' := by
  obtain ⟨⟨c, t, fr, h1, h2, h3⟩, ⟨c1, t1, fr1, h4, h5⟩, h6⟩ := h
  exact ⟨⟨c, t, fr, (hl.heap 1 (by omega)).trans h1, h2, h3⟩, ⟨c1, t1, fr1, (hl.heap 0 (by omega)).trans h4, h5⟩, Nat.lt_of_lt_of_le h6 hl.size⟩

/-- A world that meets the condition. -/
noncomputable def laidWorld (os : Os) : World :=
  let w0 := World.holding Tryz.prog os ⟨#[], #[], []⟩
  { w0 with heap := (w0.heap.modify 1 fun
      | .cells _ t frozen => .cells tab.toArray t frozen
      | o => o).modify 0 fun
      | .cells _ t frozen => .cells #[rt tErr] t frozen
      | o => o }

theorem laidWorld_met (os : Os) (args : Array Value) : laidMetH Tryz.prog laidVars ((laidWorld os).forCall (fun _ _ => 0) ⟨#[], args, []⟩).memory :=
  laidMetH_of_parts (laidMet_of_run (ps := (List.range 32).map fun i => .cell 1 i) 8 (by kernel_rfl) (by kernel_rfl) (by kernel_rfl)) (by kernel_rfl)
#print axioms laidWorld_met
#print axioms laid_of
end Go.Proofs.YthkmcfiijooddaaGreatDoor
end
section
/- The machine with law 13's begun known. -/
namespace Go.Ab.Seat
open Go.Extern Go.Proofs
set_option maxRecDepth 1000000

def fBegun18 : Nat := 9

noncomputable def sm18 : Nat → Option (List Value → M Value) := smIns fun f => bif Nat.beq f fSorted then some (sumSorted kindOf) else bif Nat.beq f fBegun13 then some gTrue else bif Nat.beq f fBegun7 then some gTrue else bif Nat.beq f fBegun4 then some gTrue else bif Nat.beq f fBegun1 then some gTrue else none
noncomputable def C18 : Ctx := Cs sm18
theorem whole18 : C18.Whole eg Tryz.prog 3 := whole _ (smOk _ (smIns_one (one_more smSorted (one_more begun13 (one_more begun7 (one_more begun4 (one_more begun1 fun f g hg => by cases hg)))))))
end Go.Ab.Seat
end
section
/- Law 18's begun answers true. -/
namespace Go.Ab.Seat
open Go.Extern Go.Proofs
set_option maxRecDepth 1000000

theorem run18 : isTrue (callB C18 (exec C18 eg 10000) fBegun18 [] s0) = true := by kernel_rfl
theorem begun18_calls {w : World} (hw : Laid w) : Callable Tryz.prog fBegun18 ∧ Calls Tryz.prog fBegun18 #[] w fun e w' => e = .returned (.bool true) ∧ Left w w' := closed_true whole18 run18 hw
theorem begun18 : SmOne fBegun18 gTrue := known_true fun _ hw => begun18_calls hw
#print axioms begun18
end Go.Ab.Seat
end
section
/- The end of a function run by the abstract machine: from a place in the midst of a walk on. -/
namespace Go.Ab
open Go.RowKit (Below)

noncomputable def tailB (C : Ctx) (eg : TypeId → Bool) (fuel km : Nat) (c1 c2 : Code) (e : Env) (rs : List ResultVar) : M Value :=
  (exec C eg fuel km c1 e).bind fun p =>
    match p.1 with
    | .normal => (exec C eg fuel km c2 p.2).bind fun q => (match q.1 with | .ret => resultsA C q.2 rs | _ => M.fail)
    | _ => M.fail

noncomputable def isT (x : Option (Value × St)) : Bool := match x with | some (.bool true, _) => true | _ => false

theorem isT_some {x : Option (Value × St)} (h : isT x = true) : ∃ s, x = some (.bool true, s) := by
  unfold isT at h
  split at h
  · exact ⟨_, rfl⟩
  · cases h

section
variable {C : Ctx} {eg : TypeId → Bool} {P : Program} {G : Nat}

theorem tail_true (W : C.Whole eg P G) {fuel km : Nat} {c1 c2 : Code} {e : Env} {s : St} {fn : Func} (h : isT (tailB C eg fuel km c1 c2 e fn.results.toList s) = true) (ok1 : codeOk C G fn.ntmps c1 = true) (ok2 : codeOk C G fn.ntmps c2 = true) (hk : KeptOk km e)
    {ι : Iota} {w : World} {a : Act} {R : Ending → World → Prop} (hr : HR G ι s.h w.heap) (he : EnvR ι e a) (hn : a.tmps.size = fn.ntmps) (hd : a.defers = []) (fr : ∀ b, s.c ≤ b → ι b = none) (ho : ∀ k, ¬Owned ι s.h k)
    {K : Act → World → Prop} (hK : ∀ a w, c2.wp P (bodyPost P fn R) a w → K a w) (hR : ∀ w', Below w.heap.size w w' → R (.returned (.bool true)) w') :
    c1.wp P (Exit.then K (bodyPost P fn R)) a w := by
  obtain ⟨sE, h⟩ := isT_some h
  obtain ⟨⟨x1, e1⟩, s1, h1, h2⟩ := bind_some h
  cases x1 with
  | exit j => exact (fail_some (s := s1) h2).elim
  | ret => exact (fail_some (s := s1) h2).elim
  | normal =>
    obtain ⟨⟨x2, e2⟩, s2, h3, h4⟩ := bind_some (show ((exec C eg fuel km c2 e1).bind fun q => (match q.1 with | .ret => resultsA C q.2 fn.results.toList | _ => M.fail)) s1 = _ from h2)
    cases x2 with
    | exit j => exact (fail_some (s := s2) h4).elim
    | normal => exact (fail_some (s := s2) h4).elim
    | ret =>
      obtain ⟨vs, s3, q1, q2⟩ := bind_some (show resultsA C e2 fn.results.toList s2 = some (.bool true, sE) from h4)
      obtain ⟨q4, rfl⟩ := ret_some q2
      obtain ⟨k1, w1⟩ := soundRec W fuel fn.ntmps km c1 e e1 s s1 _ h1 ok1 hk
      obtain ⟨_, w2⟩ := soundRec W fuel fn.ntmps km c2 e1 e2 s1 s2 _ h3 ok2 k1
      refine (w1 ι w a _ hr he hn (fun b hb _ => fr b hb) fun ι' a' w' p1 p2 p3 p4 => ?_).1
      refine hK a' w' ((w2 ι' w' a' _ p2.hr p1 p3 (fun b hb _ => p2.new b (fr b (Nat.le_trans p2.cle hb)) (.inr hb)) fun ι2 a2 w2 r1 r2 r3 r4 => ?_).1)
      obtain ⟨z1, z2, v', hv', hrun⟩ := run_results (P := P) (fn := fn) W.ok r1 w2 q1 r2.hr
      rw [← q4] at hv'
      cases hv'
      have hp := p2.trans r2
      exact ⟨by rw [r4, p4]; exact hd, _, hrun, hR w2 ⟨hp.os, hp.tape, hp.output, hp.size, fun k hk' => hp.frame k hk' (ho k)⟩⟩

/-- One slot that is known. -/
theorem envAt {ι : Iota} {km : Nat} {vs : List Value} {a : Act} (h : ∀ (t : Nat) (v : Value), vs[t]? = some v → VR ι v (a.tmps.getD t undef)) : EnvR ι (envOf km vs) a := by
  intro t
  show VR ι ((keepFrom km vs 0 .nil).look (fun _ => top) t) _
  rcases keep_rd km vs 0 .nil t with e | ⟨_, e⟩ | e
  · rw [e]; exact .top _
  · exact h t _ e
  · rw [e]; exact .top _

end

/-- The parts of a code. -/
def Code.l : Code → Code | .seq a _ => a | c => c
def Code.r : Code → Code | .seq _ b => b | c => c
end Go.Ab
end
section
/- A closed call with plain arguments, as a contract. -/
namespace Go.Ab

/-- Values that stand for themselves alone. -/
noncomputable def exact : Nat → Value → Bool
  | 0, _ => false
  | d + 1, v =>
    match v with
    | .bool _ => true
    | .int _ _ => true
    | .string _ => true
    | .pointer none => true
    | .slice none _ _ => true
    | .map none => true
    | .nilIface => true
    | .agg cs => allB (exact d) cs.toList
    | .tuple cs => allB (exact d) cs.toList
    | _ => false

theorem exact_VR {ι : Iota} : ∀ (d : Nat) (v v' : Value), exact d v = true → VR ι v v' → v' = v := by
  intro d
  induction d with
  | zero => intro v v' h; cases h
  | succ d ih =>
    intro v v' h hv
    have key : ∀ (a a' : Array Value), allB (exact d) a.toList = true → a.toList.length = a'.toList.length → (∀ (i : Nat) (x y : Value), a.toList[i]? = some x → a'.toList[i]? = some y → VR ι x y) → a' = a := by
      intro a a' ha hl hr
      rw [allB_eq, List.all_eq_true] at ha
      apply Array.toList_inj.1
      apply List.ext_getElem?
      intro i
      by_cases hi : i < a.toList.length
      · have hi' : i < a'.toList.length := by rw [← hl]; exact hi
        rw [List.getElem?_eq_getElem hi, List.getElem?_eq_getElem hi']
        exact congrArg some (ih _ _ (ha _ (List.getElem_mem hi)) (hr i _ _ (List.getElem?_eq_getElem hi) (List.getElem?_eq_getElem hi')))
      · rw [List.getElem?_eq_none (by omega), List.getElem?_eq_none (by omega)]
    cases hv with
    | bool => rfl
    | int => rfl
    | string => rfl
    | nilPtr => rfl
    | nilSlice => rfl
    | nilMap => rfl
    | nilIface => rfl
    | agg a a' ha ra => rw [key a a' h ha ra]
    | tuple a a' ha ra => rw [key a a' h ha ra]
    | _ => cases h

end Go.Ab
end
section
/- Closed calls with plain arguments: what they give. -/
namespace Go.Ab.Seat
open Go.Extern Go.Proofs Go.RowKit

noncomputable def sameV : Nat → Value → Value → Bool
  | 0, _, _ => false
  | d + 1, a, b =>
    match a, b with
    | .int j x, .int k y => decide (j = k) && decide (x = y)
    | .bool x, .bool y => x == y
    | .agg xs, .agg ys => Nat.beq (len xs.toList) (len ys.toList) && allB (fun p => sameV d p.1 p.2) (xs.toList.zip ys.toList)
    | .tuple xs, .tuple ys => Nat.beq (len xs.toList) (len ys.toList) && allB (fun p => sameV d p.1 p.2) (xs.toList.zip ys.toList)
    | _, _ => false

theorem sameV_exact : ∀ (d : Nat) (a b : Value), sameV d a b = true → a = b ∧ exact d b = true := by
  intro d
  induction d with
  | zero => intro a b h; cases h
  | succ d ih =>
    intro a b h
    have key : ∀ (xs ys : Array Value), (Nat.beq (len xs.toList) (len ys.toList) && allB (fun p => sameV d p.1 p.2) (xs.toList.zip ys.toList)) = true → xs = ys ∧ allB (exact d) ys.toList = true := by
      intro xs ys h
      rw [Bool.and_eq_true, allB_eq, List.all_eq_true] at h
      have hl := beq_iff.1 h.1
      rw [len_eq, len_eq] at hl
      have each : ∀ (i : Nat) (h1 : i < xs.toList.length) (h2 : i < ys.toList.length), xs.toList[i] = ys.toList[i] ∧ exact d ys.toList[i] = true := by
        intro i h1 h2
        refine ih _ _ (h.2 (xs.toList[i], ys.toList[i]) ?_)
        have hz : i < (xs.toList.zip ys.toList).length := by rw [List.length_zip]; omega
        have := List.getElem_mem hz
        rw [List.getElem_zip] at this
        exact this
      refine ⟨Array.toList_inj.1 (List.ext_getElem hl fun i h1 h2 => (each i h1 h2).1), ?_⟩
      rw [allB_eq, List.all_eq_true]
      intro y hy
      obtain ⟨i, hi, rfl⟩ := List.getElem_of_mem hy
      exact (each i (by omega) hi).2
    unfold sameV at h
    split at h
    · simp only [Bool.and_eq_true, decide_eq_true_eq] at h; obtain ⟨rfl, rfl⟩ := h; exact ⟨rfl, rfl⟩
    · rw [beq_iff_eq] at h; rw [h]; exact ⟨rfl, rfl⟩
    · obtain ⟨rfl, h2⟩ := key _ _ h; exact ⟨rfl, h2⟩
    · obtain ⟨rfl, h2⟩ := key _ _ h; exact ⟨rfl, h2⟩
    · cases h

noncomputable def givesV (x : Option (Value × St)) (v : Value) : Bool := match x with | some (r, _) => sameV 5 r v | none => false

/-- A closed call with plain arguments: what the kernel's run gives. -/
theorem closed_gives {C : Ctx} (W : C.Whole eg Tryz.prog 3) {fuel f : Nat} {args : List Value} {v : Value} (h : givesV (callB C (exec C eg fuel) f args s0) v = true) (hf : allB (flat 5) args = true) {w : World} (hl : Laid w) :
    Calls Tryz.prog f args.toArray w fun e w' => e = .returned v ∧ Below w.heap.size w w' := by
  cases hc : callB C (exec C eg fuel) f args s0 with
  | none => rw [hc] at h; cases h
  | some p =>
    obtain ⟨r, s'⟩ := p
    rw [hc] at h
    obtain ⟨rfl, he⟩ := sameV_exact 5 r v h
    rw [allB_eq, List.all_eq_true] at hf
    refine (calls_of_abs W fuel f (args' := args) hc (VRl_flat _ 5 args hf) hl.hr (fun b h1 _ => ?_) fun v' w' ι' hv hp => ?_).2
    · show ι0 w b = none
      have : 3 ≤ b := h1
      exact if_neg (by omega)
    · rw [exact_VR 5 r v' he hv]
      exact ⟨rfl, hp.os, hp.tape, hp.output, hp.size, fun k hk => hp.frame k hk s0_owned⟩

theorem laid_below {w w' : World} (h : Laid w) (hb : Below w.heap.size w w') : Laid w' := h.left ⟨hb.os, hb.tape, hb.output, hb.size, hb.block⟩
end Go.Ab.Seat
end
section
/- fail.Code of an error that says where: the machine's run. -/
namespace Go.Ab.Seat
open Go.Extern Go.Proofs
set_option maxRecDepth 1000000

def fCode : Nat := 15
noncomputable def smE : Nat → Option (List Value → M Value) := smIns fun _ => none
noncomputable def CE : Ctx := Cs smE
theorem wholeE : CE.Whole eg Tryz.prog 3 := whole _ (smOk _ (smIns_one fun f g hg => by cases hg))

/-- A heap with an error. -/
noncomputable def sE (w : ByteArray) (z : Int) : St := ⟨s0.h.set 3 (some (.ro [.string w, .iface 35 (.int .i64 z)])), 4, [], []⟩

def isI (x : Option (Value × St)) (z : Int) : Bool := match x with | some (.int .i64 y, _) => decide (y = z) | _ => false

/-- The numbers of errors. -/
def errnos : List Int := (List.range 32).map Int.ofNat

theorem runCodes (w : ByteArray) : allB (fun z => isI (callB CE (exec CE eg 10000) fCode [.iface 122 (.pointer (some ⟨3, 0, none⟩))] (sE w z)) z) errnos = true := by kernel_rfl
theorem runNil : isI (callB CE (exec CE eg 10000) fCode [.nilIface] s0) 0 = true := by kernel_rfl
#print axioms runCodes
end Go.Ab.Seat
end
section
/- fail.Code is known: of nil, of an error that says where. -/
namespace Go.Ab.Seat
open Go.Extern Go.Proofs Go.RowKit
set_option maxRecDepth 1000000

noncomputable def codeIn (z : Int) : Bool := errnos.any fun y => decide (y = z)

noncomputable def gCode1 (cs : List Value) : M Value :=
  match cs with
  | [.string _, .iface 35 (.int .i64 z)] => bif codeIn z then M.ret (.int .i64 z) else M.fail
  | _ => M.fail

/-- What fail.Code answers. -/
noncomputable def gCode (args : List Value) : M Value :=
  match args with
  | [.nilIface] => globOk.bind fun _ => M.ret (.int .i64 0)
  | [.iface 122 (.pointer (some ⟨b, 0, none⟩))] => globOk.bind fun _ => (getCells b).bind gCode1
  | _ => M.fail

theorem local_globOk : Local globOk := by
  unfold globOk
  refine Local.bind (local_getCells _) fun c0 => Local.bind (local_getCells _) fun c1 => ?_
  split
  · split
    · rename_i r u _ _ e _
      cases (Nat.beq r tRt && Nat.beq e tErr)
      · exact Local.fail
      · exact Local.ret _
    · exact Local.fail
  · exact Local.fail

theorem local_gCode (args : List Value) : Local (gCode args) := by
  unfold gCode
  split
  · exact Local.bind local_globOk fun _ => Local.ret _
  · refine Local.bind local_globOk fun _ => Local.bind (local_getCells _) fun cs => ?_
    unfold gCode1
    split
    · rename_i z
      cases codeIn z
      · exact Local.fail
      · exact Local.ret _
    · exact Local.fail
  · exact Local.fail

/-- What is laid, from a heap that meets the check. -/
theorem laid_hr {ι : Iota} {s s1 : St} {u : Unit} {w : World} (hr : HR 3 ι s.h w.heap) (h1 : globOk s = some (u, s1)) : Laid w := by
  obtain ⟨e1, e2, g0, y, g1, hy⟩ := globOk_some h1
  obtain ⟨L0, c0, t0, fr0, hL0, hH0, hc0⟩ := hr.cells g0
  obtain ⟨L1, c1, t1, fr1, hL1, hH1, hc1⟩ := hr.cells g1
  obtain ⟨M0, hM0, b0, o0⟩ := hr.glob 1 (by decide)
  obtain ⟨M1, hM1, b1, o1⟩ := hr.glob 0 (by decide)
  obtain ⟨M2, hM2, b2, _⟩ := hr.glob 2 (by decide)
  rw [hL0] at hM0; cases hM0
  rw [hL1] at hM1; cases hM1
  refine ⟨⟨c0, t0, fr0, by rw [← b0]; exact hH0, by have := hc0.2.1; omega, fun i x hx => ?_⟩, ⟨c1, t1, fr1, by rw [← b1]; exact hH1, ?_⟩, by have := hr.lt _ _ hM2; omega⟩
  · obtain ⟨z, hz, hv⟩ := hc0.2.2 i x hx
    rw [o0, Nat.zero_add] at hz
    have hxm := List.mem_of_getElem? hx
    unfold tab at hxm
    obtain ⟨n, _, rfl⟩ := List.mem_map.1 hxm
    cases hv
    exact hz
  · obtain ⟨z, hz, hv⟩ := hc1.2.2 0 _ rfl
    rw [o1] at hz
    cases hv with
    | iface _ _ z' hv =>
      rw [unRt_VR hr hy hv] at hz
      exact hz

/-- One block more in an abstract heap, over the same world. -/
theorem HR.add {G : Nat} {ι : Iota} {h : T AObj} {H : Array Obj} (hr : HR G ι h H) {c : Nat} {o : AObj} {L : Loc} (hc : h.get c = none) (hi : ι c = none) (hO : OR (ι.upd c L) L H o) (hL : L.blk < H.size)
    (hne : ∀ b o' L', h.get b = some o' → ι b = some L' → L'.blk ≠ L.blk) : HR G (ι.upd c L) (h.set c (some o)) H := by
  have hle := Iota.le_upd (ι := ι) (c := c) L hi
  have old : ∀ {b o'}, (h.set c (some o)).get b = some o' → b ≠ c → h.get b = some o' := fun {b o'} hb hn => by rw [T.get_set, if_neg hn] at hb; exact hb
  refine ⟨?_, ?_, ?_, ?_⟩
  · intro b o' hb
    by_cases hbc : b = c
    · subst hbc
      rw [T.get_set, if_pos rfl] at hb
      cases hb
      exact ⟨L, Iota.upd_same _ _ _, hO⟩
    · obtain ⟨L', h1, h2⟩ := hr.obj b o' (old hb hbc)
      exact ⟨L', hle _ _ h1, h2.mono hle⟩
  · intro b1 b2 o1 o2 L1 L2 g1 g2 i1 i2 he
    by_cases h1 : b1 = c
    · by_cases h2 : b2 = c
      · rw [h1, h2]
      · rw [h1, Iota.upd_same] at i1
        cases i1
        rw [Iota.upd_ne _ _ h2] at i2
        exact absurd he.symm (hne b2 o2 L2 (old g2 h2) i2)
    · rw [Iota.upd_ne _ _ h1] at i1
      by_cases h2 : b2 = c
      · rw [h2, Iota.upd_same] at i2
        cases i2
        exact absurd he (hne b1 o1 L1 (old g1 h1) i1)
      · rw [Iota.upd_ne _ _ h2] at i2
        exact hr.inj b1 b2 o1 o2 L1 L2 (old g1 h1) (old g2 h2) i1 i2 he
  · intro b L' hb
    by_cases h1 : b = c
    · rw [h1, Iota.upd_same] at hb
      cases hb; exact hL
    · rw [Iota.upd_ne _ _ h1] at hb
      exact hr.lt b L' hb
  · intro g hg
    obtain ⟨L', h1, h2⟩ := hr.glob g hg
    exact ⟨L', hle _ _ h1, h2⟩

theorem isI_some {x : Option (Value × St)} {z : Int} (h : isI x z = true) : ∃ s, x = some (.int .i64 z, s) := by
  unfold isI at h
  split at h
  · rw [of_decide_eq_true h]; exact ⟨_, rfl⟩
  · cases h

theorem code_calls_nil {w : World} (hl : Laid w) : Callable Tryz.prog fCode ∧ Calls Tryz.prog fCode #[.nilIface] w fun e w' => e = .returned (.int .i64 0) ∧ Below w.heap.size w w' := by
  obtain ⟨s', hc⟩ := isI_some runNil
  refine calls_of_abs wholeE 10000 fCode (args' := [.nilIface]) hc (VRl.cons .nilIface (VRl.nil _)) hl.hr (fun b h1 _ => ?_) fun v' w' ι' hv hp => ?_
  · show ι0 w b = none
    have : 3 ≤ b := h1
    exact if_neg (by omega)
  · cases hv
    exact ⟨rfl, hp.os, hp.tape, hp.output, hp.size, fun k hk => hp.frame k hk s0_owned⟩

theorem sE_owned {ι : Iota} {w : ByteArray} {z : Int} {k : Nat} : ¬Owned ι (sE w z).h k := by
  rintro ⟨b, o, L, h1, h2, h3⟩
  have e : (sE w z).h.get b = if b = 3 then some (.ro [.string w, .iface 35 (.int .i64 z)]) else s0.h.get b := by
    show (s0.h.set 3 (some (.ro [.string w, .iface 35 (.int .i64 z)]))).get b = _
    rw [T.get_set]
  rw [e] at h1
  split at h1
  · cases h1; cases h2
  · exact s0_owned ⟨b, o, L, h1, h2, h3⟩

theorem code_calls {w : World} (hl : Laid w) {a : Addr} {str : ByteArray} {z : Int} (hz : codeIn z = true) {c : Array Value} {t : TypeId} {fr : Nat × Nat} (hH : w.heap[a.block]? = some (.cells c t fr)) (h0 : c[a.off]? = some (.string str)) (h1 : c[a.off + 1]? = some (.iface 35 (.int .i64 z)))
    (hs : a.spot = none) (n0 : a.block ≠ 0) (n1 : a.block ≠ 1) :
    Callable Tryz.prog fCode ∧ Calls Tryz.prog fCode #[.iface 122 (.pointer (some a))] w fun e w' => e = .returned (.int .i64 z) ∧ Below w.heap.size w w' := by
  have hz' : z ∈ errnos := by
    obtain ⟨y, hy, he⟩ := List.any_eq_true.1 hz
    rw [← of_decide_eq_true he]; exact hy
  have hrun := runCodes str
  rw [allB_eq, List.all_eq_true] at hrun
  obtain ⟨s', hc⟩ := isI_some (hrun z hz')
  obtain ⟨b, o, sp⟩ := a
  simp only at hs hH h0 h1 n0 n1
  subst hs
  have hlt := (Array.getElem?_eq_some_iff.1 hH).1
  have hr := hl.hr
  have i3 : ι0 w 3 = none := if_neg (by omega)
  have hr' : HR 3 ((ι0 w).upd 3 ⟨b, o, c.size⟩) (sE str z).h w.heap := by
    refine HR.add hr (by rw [s0_get, if_neg (by omega), if_neg (by omega)]) i3 ?_ hlt ?_
    · refine ⟨c, t, fr, hH, rfl, ?_, ?_⟩
      · have := (Array.getElem?_eq_some_iff.1 h1).1
        show o + 2 ≤ c.size
        omega
      · intro i x hx
        match i, hx with
        | 0, hx => cases hx; exact ⟨_, h0, .string _⟩
        | 1, hx => cases hx; exact ⟨_, h1, .iface _ _ _ (.int _ _)⟩
        | i + 2, hx => simp at hx
    · intro b' o' L' hb' hL' he
      rw [s0_get] at hb'
      unfold ι0 at hL'
      split at hL'
      · cases hL'
        simp only at he
        subst he
        rw [if_neg n0, if_neg n1] at hb'
        cases hb'
      · cases hL'
  refine calls_of_abs wholeE 10000 fCode (args' := [.iface 122 (.pointer (some ⟨b, o, none⟩))]) hc (VRl.cons (.iface _ _ _ ?_) (VRl.nil _)) hr' (fun x h2 _ => ?_) fun v' w' ι' hv hp => ?_
  · have := VR.ptr (ι := (ι0 w).upd 3 ⟨b, o, c.size⟩) 3 0 ⟨b, o, c.size⟩ (Iota.upd_same _ _ _)
    exact this
  · have h3 : 4 ≤ x := h2
    rw [Iota.upd_ne _ _ (by omega)]
    exact if_neg (by omega)
  · cases hv
    exact ⟨rfl, hp.os, hp.tape, hp.output, hp.size, fun k hk => hp.frame k hk sE_owned⟩

theorem smCode : SmOne fCode gCode := by
  refine ⟨local_gCode, ?_⟩
  intro args s s' v ι w args' R hg ha hr _ hR
  unfold gCode at hg
  split at hg
  · obtain ⟨u, s1, h1, h2⟩ := bind_some hg
    obtain ⟨rfl, rfl⟩ := ret_some h2
    obtain ⟨y, l', rfl, hy, hl'⟩ := ha.cons_inv
    obtain rfl := hl'.nil_inv
    cases hy
    obtain ⟨e1, e2, _⟩ := globOk_some h1
    obtain ⟨hcall, hcalls⟩ := code_calls_nil (laid_hr hr h1)
    refine ⟨hcall, Calls.mono hcalls ?_⟩
    rintro e w' ⟨rfl, hb⟩
    exact hR _ w' ι (.int _ _) (Post.grown0 hr hb e1 e2)
  · rename_i b
    obtain ⟨u, s1, h1, h2⟩ := bind_some hg
    obtain ⟨cs, s2, h3, h4⟩ := bind_some h2
    obtain ⟨e1, e2, g0, yv, g1, hyv⟩ := globOk_some h1
    obtain ⟨g, _, rfl⟩ := getCells_some h3
    unfold gCode1 at h4
    split at h4
    · rename_i str z
      cases hz : codeIn z with
      | false => rw [hz] at h4; exact (fail_some (s := ⟨s1.h, s1.c, b :: s1.rl, s1.wl⟩) h4).elim
      | true =>
        rw [hz] at h4
        obtain ⟨rfl, rfl⟩ := ret_some h4
        obtain ⟨y, l', rfl, hy, hl'⟩ := ha.cons_inv
        obtain rfl := hl'.nil_inv
        rw [e1] at g
        obtain ⟨L, c, t, fr, hL, hH, hcr⟩ := hr.cells g
        obtain ⟨y0, hy0, hv0⟩ := hcr.2.2 0 _ rfl
        obtain ⟨y1, hy1, hv1⟩ := hcr.2.2 1 _ rfl
        cases hv0
        cases hv1 with
        | iface _ _ v1 hv1 =>
        cases hv1
        cases hy with
        | iface _ _ v2 hv2 =>
        cases hv2 with
        | ptr _ _ L' hL' =>
        rw [hL] at hL'
        cases hL'
        have ne : ∀ k, k < 2 → L.blk ≠ k := by
          intro k hk he
          obtain ⟨M0, hM0, b0, _⟩ := hr.glob k (by omega)
          have hb : ∃ o, s.h.get b = some o := by rcases g with q | q | q <;> exact ⟨_, q⟩
          have hk' : ∃ o, s.h.get k = some o := by
            match k, hk with
            | 0, _ => rcases g1 with q | q | q <;> exact ⟨_, q⟩
            | 1, _ => rcases g0 with q | q | q <;> exact ⟨_, q⟩
          obtain ⟨o1, ho1⟩ := hb
          obtain ⟨o2, ho2⟩ := hk'
          have := hr.inj b k o1 o2 L M0 ho1 ho2 hL hM0 (by rw [he, b0])
          subst this
          match b, hk with
          | 0, _ => rcases g with q | q | q <;> rcases g1 with q1 | q1 | q1 <;> (rw [q] at q1; cases q1)
          | 1, _ => rcases g with q | q | q <;> rcases g0 with q1 | q1 | q1 <;> (rw [q] at q1; cases q1)
        obtain ⟨hcall, hcalls⟩ := code_calls (laid_hr hr h1) (a := ⟨L.blk, L.off + 0, none⟩) hz hH hy0 hy1 rfl (ne 0 (by omega)) (ne 1 (by omega))
        refine ⟨hcall, Calls.mono hcalls ?_⟩
        rintro e w' ⟨rfl, hb⟩
        exact hR _ w' ι (.int _ _) (Post.grown0 hr hb e1 e2)
    · exact (fail_some h4).elim
  · exact (fail_some hg).elim
#print axioms smCode
end Go.Ab.Seat
end
section
/- The laws' own ground: begun is known; what is known and not run. -/
namespace Go.Ab.Seat
open Go.Extern Go.Proofs
set_option linter.unusedSimpArgs false
set_option linter.unusedVariables false
set_option maxRecDepth 1000000

noncomputable def smQ : Nat → Option (List Value → M Value) := smIns fun f => bif Nat.beq f fCode then some gCode else bif Nat.beq f fSorted then some (sumSorted kindOf) else bif Nat.beq f fBegun18 then some gTrue else bif Nat.beq f fBegun13 then some gTrue else bif Nat.beq f fBegun7 then some gTrue else bif Nat.beq f fBegun4 then some gTrue else bif Nat.beq f fBegun1 then some gTrue else none
noncomputable def CQ : Ctx := Cs smQ
theorem wholeQ : CQ.Whole eg Tryz.prog 3 := whole _ (smOk _ (smIns_one (one_more smCode (one_more smSorted (one_more begun18 (one_more begun13 (one_more begun7 (one_more begun4 (one_more begun1 fun f g hg => by cases hg)))))))))

theorem stdQ : Std smQ := by
  intro f hf
  have h : ∀ k ∈ [9, 83, 118, 205, 250, 63, 154, 191, 15], Nat.beq f k = false := by
    intro k hk
    refine beq_false.2 fun e => ?_
    subst e
    unfold special at hf
    rw [List.contains_eq_mem] at hf
    simp [hk] at hf
  simp only [List.mem_cons, List.not_mem_nil, or_false, forall_eq_or_imp, forall_eq] at h
  obtain ⟨h1, h2, h3, h4, h5, h6, h7, h8, h9⟩ := h
  show smIns _ f = none
  unfold smIns
  simp only [show Nat.beq f fCode = false from h9, show Nat.beq f fInsHit = false from h8, show Nat.beq f fInsInt = false from h7, show Nat.beq f fSorted = false from h6, show Nat.beq f fBegun18 = false from h1, show Nat.beq f fBegun13 = false from h2, show Nat.beq f fBegun7 = false from h3, show Nat.beq f fBegun4 = false from h4, show Nat.beq f fBegun1 = false from h5, cond_false]

theorem eqAll_tab : eqAll tab tab = true := by kernel_rfl

/-- What is laid. -/
structure Glob (h : T AObj) : Prop where
  g0 : Has h 0 (.ro [rt tErr])
  g1 : Has h 1 (.ro tab)

theorem globOk_run {h : T AObj} {c : Nat} {rl wl : List Nat} (hf : Fresh h c) (hg : Glob h) : globOk ⟨h, c, rl, wl⟩ = some ((), ⟨h, c, 0 :: 1 :: rl, wl⟩) := by
  unfold globOk
  rw [bind_run (getCells_run hg.g1.celR (hg.g1.lt hf)), bind_run (getCells_run hg.g0.celR (hg.g0.lt hf))]
  rw [eqAll_tab]
  rfl

theorem begunQ {h : T AObj} {c : Nat} {rl wl : List Nat} (hf : Fresh h c) (hg : Glob h) : ∃ v s', FnTo (Cs smQ) eg 9 [] ⟨h, c, rl, wl⟩ v s' ∧ (v = .bool true ∧ s' = ⟨h, c, 0 :: 1 :: rl, wl⟩) := by
  refine ⟨_, _, ⟨0, ?_⟩, rfl, rfl⟩
  have hs : (Cs smQ).sm 9 = some gTrue := rfl
  unfold callF
  rw [hs]
  show gTrue [] _ = _
  have h0 := hg.g0.lt hf
  have h1 := hg.g1.lt hf
  have : globOk ⟨h, c, rl, wl⟩ = some ((), ⟨h, c, 0 :: 1 :: rl, wl⟩) := by
    unfold globOk
    rw [bind_run (getCells_run hg.g1.celR h1), bind_run (getCells_run hg.g0.celR h0)]
    rw [eqAll_tab]
    rfl
  show (globOk.bind fun _ => M.ret (Value.bool true)) _ = _
  rw [bind_run this]; rfl

theorem tmod_lt (n : Int) (c : Int) (hc : 0 < c) : -c < n.tmod c ∧ n.tmod c < c := by
  have h1 : n.tmod c < c := Int.tmod_lt_of_pos n hc
  have h3 := Int.tmod_lt_of_pos (-n) hc
  rw [Int.neg_tmod] at h3
  omega

/-- fail.Code's answer. -/
theorem code_nil {h : T AObj} {c : Nat} {rl wl : List Nat} (hf : Fresh h c) (hg : Glob h) : ∃ v s', FnTo (Cs smQ) eg 15 [.nilIface] ⟨h, c, rl, wl⟩ v s' ∧ (v = .int .i64 0 ∧ s' = ⟨h, c, 0 :: 1 :: rl, wl⟩) := by
  refine ⟨_, _, ⟨0, ?_⟩, rfl, rfl⟩
  have hs : (Cs smQ).sm 15 = some gCode := rfl
  unfold callF
  rw [hs]
  show gCode [.nilIface] _ = _
  show (globOk.bind fun _ => M.ret (Value.int .i64 0)) _ = _
  rw [bind_run (globOk_run hf hg)]; rfl

theorem code_at {h : T AObj} {c b : Nat} {rl wl : List Nat} (hf : Fresh h c) (hg : Glob h) {w : ByteArray} {z : Int} (hb : Has h b (.cells [.string w, .iface 35 (.int .i64 z)])) (hz : codeIn z = true) :
    ∃ v s', FnTo (Cs smQ) eg 15 [.iface 122 (.pointer (some ⟨b, 0, none⟩))] ⟨h, c, rl, wl⟩ v s' ∧ (v = .int .i64 z ∧ s' = ⟨h, c, b :: 0 :: 1 :: rl, wl⟩) := by
  refine ⟨_, _, ⟨0, ?_⟩, rfl, rfl⟩
  have hs : (Cs smQ).sm 15 = some gCode := rfl
  unfold callF
  rw [hs]
  show gCode [.iface 122 (.pointer (some ⟨b, 0, none⟩))] _ = _
  show (globOk.bind fun _ => (getCells b).bind gCode1) _ = _
  rw [bind_run (globOk_run hf hg), bind_run (getCells_run hb.cel (hb.lt hf))]
  show (bif codeIn z then M.ret (Value.int .i64 z) else M.fail) _ = _
  rw [hz]; rfl
end Go.Ab.Seat
end
