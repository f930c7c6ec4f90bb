import Derived.Test.YtmpijgfndnikpaaGreatDoorE25
import Derived.Test.YtmpijgfndnikpaaGreatDoorRows
import Derived.Test.YtmpijgfndnikpaaGreatDoorE21
import Derived.Test.YtmpijgfndnikpaaGreatDoorBS8
set_option linter.unusedVariables false
set_option linter.unusedSimpArgs false
section
/- What the listed package-level variables hold; a world that meets the condition. -/
namespace Go.Proofs.YtmpijgfndnikpaaGreatDoor
open Go.ChangeShapes Go.WideShapes Go.RowKit Go.Ab Go.Ab.Seat

def laidVars : List (String × DataW Unit) := [("math/bits.deBruijn32tab", Rows.laid_math_bits_deBruijn32tab), ("errors.errorType", Rows.laid_errors_errorType)]

theorem own : ownKnob Tryz.prog.godebug = none := by kernel_rfl
theorem laidOut : laidOutB Tryz.prog = true := by kernel_rfl
theorem gTab : Tryz.prog.globalNamed "math/bits.deBruijn32tab" = some 1 := by kernel_rfl
theorem gEt : Tryz.prog.globalNamed "errors.errorType" = some 0 := by kernel_rfl
theorem rtNo : (Tryz.prog.cutTypes.find? (·.1 == "internal/reflectlite.rtype")).map (·.2) = some tRt := by kernel_rfl
theorem tSize : Tryz.prog.types.size = 414 := by kernel_rfl
theorem oneRow : ((List.range 414).filter fun t => Tryz.prog.rowNamed t [101, 114, 114, 111, 114]) = [tErr] := by kernel_rfl
theorem gType : (Tryz.prog.globals[1]?).map (·.type) = some 250 := by kernel_rfl
theorem uTab : Tryz.prog.underlying 250 = some (.array 32 5) := by kernel_rfl
theorem uU8 : Tryz.prog.underlying 5 = some (.int .u8) := by kernel_rfl
theorem cU8 : Tryz.prog.cellsOf 5 = 1 := by kernel_rfl
theorem begSize : 2 < (begin Tryz.prog (fun _ _ => 0) default).world.heap.size := by
  have h : decide (2 < (begin Tryz.prog (fun _ _ => 0) default).world.heap.size) = true := by kernel_rfl
  exact of_decide_eq_true h
theorem gSize : Tryz.prog.globals.size = 2 := by kernel_rfl

/-- What the row's condition gives. -/
theorem laid_of {W : World} (h : laidMetH Tryz.prog laidVars W) (hs : W.ShapedOpen Tryz.prog) : Laid W := by
  have h' : laidMet Tryz.prog [("math/bits.deBruijn32tab", Rows.laid_math_bits_deBruijn32tab)] W ∧ handlesMet Tryz.prog [("errors.errorType", Rows.laid_errors_errorType)] W := h
  refine ⟨?_, ?_, ?_⟩
  · obtain ⟨ps, ⟨g, t, cs, fuel, p, q, hg, ht, hvar, hd, _, _⟩, _⟩ := h'.1
    obtain rfl := Option.some.inj (gTab.symm.trans hg)
    obtain rfl := Option.some.inj (gType.symm.trans ht)
    obtain ⟨h1, h2⟩ := arr_of_trod uTab uU8 cU8 hd
    have hcell : ∀ (i : Nat) (x : Value), tab[i]? = some x → cs[i]? = some x := by
      intro i x hx
      have hx' : ([0, 1, 28, 2, 29, 14, 24, 3, 30, 22, 20, 15, 25, 17, 4, 8, 31, 27, 13, 23, 21, 19, 16, 7, 26, 12, 18, 6, 11, 5, 10, 9].map fun n : Int => Value.int .u8 n)[i]? = some x := hx
      rw [List.getElem?_map, Option.map_eq_some_iff] at hx'
      obtain ⟨m, hm, rfl⟩ := hx'
      have := h2 i m (by
        have e : ([0, 1, 28, 2, 29, 14, 24, 3, 30, 22, 20, 15, 25, 17, 4, 8, 31, 27, 13, 23, 21, 19, 16, 7, 26, 12, 18, 6, 11, 5, 10, 9].map fun n : Int => (DataW.lit (.int .u8 n) : DataW Unit))[i]? = some (.lit (.int .u8 m)) := by rw [List.getElem?_map, hm]; rfl
        exact e)
      rw [Array.getElem?_toList] at this
      exact this
    have hv := hvar
    unfold World.var? at hv
    rw [hg] at hv
    simp only [Option.bind_some] at hv
    split at hv
    · rename_i c t fr hH
      obtain rfl := Option.some.inj hv
      refine ⟨_, t, fr, hH, ?_, hcell⟩
      have h31 := (Array.getElem?_eq_some_iff.1 (hcell 31 (.int .u8 9) rfl)).1
      show 32 ≤ _
      omega
    · cases hv
  · obtain ⟨name, u, ty, e1, e2, e3, e4, e5⟩ := h'.2 _ (List.mem_singleton.2 rfl)
    have en : name = [101, 114, 114, 111, 114] := (Option.some.inj e1).symm
    subst en
    obtain rfl := Option.some.inj (rtNo.symm.trans e2)
    have hm : ty ∈ (List.range 414).filter fun t => Tryz.prog.rowNamed t [101, 114, 114, 111, 114] := List.mem_filter.2 ⟨List.mem_range.2 (by rw [← tSize]; exact e3), e4⟩
    rw [oneRow] at hm
    obtain rfl := List.mem_singleton.1 hm
    have hv := e5
    unfold World.var? at hv
    rw [gEt] at hv
    simp only [Option.bind_some] at hv
    split at hv
    · rename_i c t fr hH
      obtain rfl := Option.some.inj hv
      refine ⟨_, t, fr, hH, ?_⟩
      have hh : typeHandle Tryz.prog tErr = hd tErr := by unfold typeHandle; rw [gSize]; rfl
      rw [hh]
      rfl
    · cases hv
  · obtain ⟨o, _, h1, _⟩ := hs.2 2 (by rw [gSize]; exact Nat.le_refl _) begSize
    exact (Array.getElem?_eq_some_iff.1 h1).1

theorem _root_.Go.Ab.Seat.Laid.left {w w' : World} (h : Laid w) (hl : Go.Ab.Seat.Left w w') : Laid w' := by
  obtain ⟨⟨c, t, fr, h1, h2, h3⟩, ⟨c1, t1, fr1, h4, h5⟩, h6⟩ := h
  exact ⟨⟨c, t, fr, (hl.heap 1 (by omega)).trans h1, h2, h3⟩, ⟨c1, t1, fr1, (hl.heap 0 (by omega)).trans h4, h5⟩, Nat.lt_of_lt_of_le h6 hl.size⟩

/-- A world that meets the condition. -/
noncomputable def laidWorld (os : Os) : World :=
  let w0 := World.holding Tryz.prog os ⟨#[], #[], []⟩
  { w0 with heap := (w0.heap.modify 1 fun
      | .cells _ t frozen => .cells tab.toArray t frozen
      | o => o).modify 0 fun
      | .cells _ t frozen => .cells #[rt tErr] t frozen
      | o => o }

theorem laidWorld_met (os : Os) (args : Array Value) : laidMetH Tryz.prog laidVars ((laidWorld os).forCall (fun _ _ => 0) ⟨#[], args, []⟩).memory :=
  laidMetH_of_parts (laidMet_of_run (ps := (List.range 32).map fun i => .cell 1 i) 8 (by kernel_rfl) (by kernel_rfl) (by kernel_rfl)) (by kernel_rfl)
#print axioms laidWorld_met
#print axioms laid_of
end Go.Proofs.YtmpijgfndnikpaaGreatDoor
end
section
/- The machine with law 13's begun known. -/
namespace Go.Ab.Seat
open Go.Extern Go.Proofs
set_option maxRecDepth 1000000

def fBegun18 : Nat := 50

noncomputable def sm18 : Nat → Option (List Value → M Value) := smIns fun f => bif Nat.beq f fSorted then some (sumSorted kindOf) else bif Nat.beq f fBegun13 then some gTrue else bif Nat.beq f fBegun7 then some gTrue else bif Nat.beq f fBegun4 then some gTrue else bif Nat.beq f fBegun1 then some gTrue else none
noncomputable def C18 : Ctx := Cs sm18
theorem whole18 : C18.Whole eg Tryz.prog 3 := whole _ (smOk _ (smIns_one (one_more smSorted (one_more begun13 (one_more begun7 (one_more begun4 (one_more begun1 fun f g hg => by cases hg)))))))
end Go.Ab.Seat
end
section
/- Law 18's begun answers true. -/
namespace Go.Ab.Seat
open Go.Extern Go.Proofs
set_option maxRecDepth 1000000

theorem run18 : isTrue (callB C18 (exec C18 eg 10000) fBegun18 [] s0) = true := by kernel_rfl
theorem begun18_calls {w : World} (hw : Laid w) : Callable Tryz.prog fBegun18 ∧ Calls Tryz.prog fBegun18 #[] w fun e w' => e = .returned (.bool true) ∧ Left w w' := closed_true whole18 run18 hw
theorem begun18 : SmOne fBegun18 gTrue := known_true fun _ hw => begun18_calls hw
#print axioms begun18
end Go.Ab.Seat
end
section
/- The end of a function run by the abstract machine: from a place in the midst of a walk on. -/
namespace Go.Ab
open Go.RowKit (Below)

noncomputable def tailB (C : Ctx) (eg : TypeId → Bool) (fuel km : Nat) (c1 c2 : Code) (e : Env) (rs : List ResultVar) : M Value :=
  (exec C eg fuel km c1 e).bind fun p =>
    match p.1 with
    | .normal => (exec C eg fuel km c2 p.2).bind fun q => (match q.1 with | .ret => resultsA C q.2 rs | _ => M.fail)
    | _ => M.fail

noncomputable def isT (x : Option (Value × St)) : Bool := match x with | some (.bool true, _) => true | _ => false

theorem isT_some {x : Option (Value × St)} (h : isT x = true) : ∃ s, x = some (.bool true, s) := by
  unfold isT at h
  split at h
  · exact ⟨_, rfl⟩
  · cases h

section
variable {C : Ctx} {eg : TypeId → Bool} {P : Program} {G : Nat}

theorem tail_true (W : C.Whole eg P G) {fuel km : Nat} {c1 c2 : Code} {e : Env} {s : St} {fn : Func} (h : isT (tailB C eg fuel km c1 c2 e fn.results.toList s) = true) (ok1 : codeOk C G fn.ntmps c1 = true) (ok2 : codeOk C G fn.ntmps c2 = true) (hk : KeptOk km e)
    {ι : Iota} {w : World} {a : Act} {R : Ending → World → Prop} (hr : HR G ι s.h w.heap) (he : EnvR ι e a) (hn : a.tmps.size = fn.ntmps) (hd : a.defers = []) (fr : ∀ b, s.c ≤ b → ι b = none) (ho : ∀ k, ¬Owned ι s.h k)
    {K : Act → World → Prop} (hK : ∀ a w, c2.wp P (bodyPost P fn R) a w → K a w) (hR : ∀ w', Below w.heap.size w w' → R (.returned (.bool true)) w') :
    c1.wp P (Exit.then K (bodyPost P fn R)) a w := by
  obtain ⟨sE, h⟩ := isT_some h
  obtain ⟨⟨x1, e1⟩, s1, h1, h2⟩ := bind_some h
  cases x1 with
  | exit j => exact (fail_some (s := s1) h2).elim
  | ret => exact (fail_some (s := s1) h2).elim
  | normal =>
    obtain ⟨⟨x2, e2⟩, s2, h3, h4⟩ := bind_some (show ((exec C eg fuel km c2 e1).bind fun q => (match q.1 with | .ret => resultsA C q.2 fn.results.toList | _ => M.fail)) s1 = _ from h2)
    cases x2 with
    | exit j => exact (fail_some (s := s2) h4).elim
    | normal => exact (fail_some (s := s2) h4).elim
    | ret =>
      obtain ⟨vs, s3, q1, q2⟩ := bind_some (show resultsA C e2 fn.results.toList s2 = some (.bool true, sE) from h4)
      obtain ⟨q4, rfl⟩ := ret_some q2
      obtain ⟨k1, w1⟩ := soundRec W fuel fn.ntmps km c1 e e1 s s1 _ h1 ok1 hk
      obtain ⟨_, w2⟩ := soundRec W fuel fn.ntmps km c2 e1 e2 s1 s2 _ h3 ok2 k1
      refine (w1 ι w a _ hr he hn (fun b hb _ => fr b hb) fun ι' a' w' p1 p2 p3 p4 => ?_).1
      refine hK a' w' ((w2 ι' w' a' _ p2.hr p1 p3 (fun b hb _ => p2.new b (fr b (Nat.le_trans p2.cle hb)) (.inr hb)) fun ι2 a2 w2 r1 r2 r3 r4 => ?_).1)
      obtain ⟨z1, z2, v', hv', hrun⟩ := run_results (P := P) (fn := fn) W.ok r1 w2 q1 r2.hr
      rw [← q4] at hv'
      cases hv'
      have hp := p2.trans r2
      exact ⟨by rw [r4, p4]; exact hd, _, hrun, hR w2 ⟨hp.os, hp.tape, hp.output, hp.size, fun k hk' => hp.frame k hk' (ho k)⟩⟩

/-- One slot that is known. -/
theorem envAt {ι : Iota} {km : Nat} {vs : List Value} {a : Act} (h : ∀ (t : Nat) (v : Value), vs[t]? = some v → VR ι v (a.tmps.getD t undef)) : EnvR ι (envOf km vs) a := by
  intro t
  show VR ι ((keepFrom km vs 0 .nil).look (fun _ => top) t) _
  rcases keep_rd km vs 0 .nil t with e | ⟨_, e⟩ | e
  · rw [e]; exact .top _
  · exact h t _ e
  · rw [e]; exact .top _

end

/-- The parts of a code. -/
def Code.l : Code → Code | .seq a _ => a | c => c
def Code.r : Code → Code | .seq _ b => b | c => c
end Go.Ab
end
section
/- A closed call with plain arguments, as a contract. -/
namespace Go.Ab

/-- Values that stand for themselves alone. -/
noncomputable def exact : Nat → Value → Bool
  | 0, _ => false
  | d + 1, v =>
    match v with
    | .bool _ => true
    | .int _ _ => true
    | .string _ => true
    | .pointer none => true
    | .slice none _ _ => true
    | .map none => true
    | .nilIface => true
    | .agg cs => allB (exact d) cs.toList
    | .tuple cs => allB (exact d) cs.toList
    | _ => false

theorem exact_VR {ι : Iota} : ∀ (d : Nat) (v v' : Value), exact d v = true → VR ι v v' → v' = v := by
  intro d
  induction d with
  | zero => intro v v' h; cases h
  | succ d ih =>
    intro v v' h hv
    have key : ∀ (a a' : Array Value), allB (exact d) a.toList = true → a.toList.length = a'.toList.length → (∀ (i : Nat) (x y : Value), a.toList[i]? = some x → a'.toList[i]? = some y → VR ι x y) → a' = a := by
      intro a a' ha hl hr
      rw [allB_eq, List.all_eq_true] at ha
      apply Array.toList_inj.1
      apply List.ext_getElem?
      intro i
      by_cases hi : i < a.toList.length
      · have hi' : i < a'.toList.length := by rw [← hl]; exact hi
        rw [List.getElem?_eq_getElem hi, List.getElem?_eq_getElem hi']
        exact congrArg some (ih _ _ (ha _ (List.getElem_mem hi)) (hr i _ _ (List.getElem?_eq_getElem hi) (List.getElem?_eq_getElem hi')))
      · rw [List.getElem?_eq_none (by omega), List.getElem?_eq_none (by omega)]
    cases hv with
    | bool => rfl
    | int => rfl
    | string => rfl
    | nilPtr => rfl
    | nilSlice => rfl
    | nilMap => rfl
    | nilIface => rfl
    | agg a a' ha ra => rw [key a a' h ha ra]
    | tuple a a' ha ra => rw [key a a' h ha ra]
    | _ => cases h

end Go.Ab
end
section
/- Closed calls with plain arguments: what they give. -/
namespace Go.Ab.Seat
open Go.Extern Go.Proofs Go.RowKit

noncomputable def sameV : Nat → Value → Value → Bool
  | 0, _, _ => false
  | d + 1, a, b =>
    match a, b with
    | .int j x, .int k y => decide (j = k) && decide (x = y)
    | .bool x, .bool y => x == y
    | .agg xs, .agg ys => Nat.beq (len xs.toList) (len ys.toList) && allB (fun p => sameV d p.1 p.2) (xs.toList.zip ys.toList)
    | .tuple xs, .tuple ys => Nat.beq (len xs.toList) (len ys.toList) && allB (fun p => sameV d p.1 p.2) (xs.toList.zip ys.toList)
    | _, _ => false

theorem sameV_exact : ∀ (d : Nat) (a b : Value), sameV d a b = true → a = b ∧ exact d b = true := by
  intro d
  induction d with
  | zero => intro a b h; cases h
  | succ d ih =>
    intro a b h
    have key : ∀ (xs ys : Array Value), (Nat.beq (len xs.toList) (len ys.toList) && allB (fun p => sameV d p.1 p.2) (xs.toList.zip ys.toList)) = true → xs = ys ∧ allB (exact d) ys.toList = true := by
      intro xs ys h
      rw [Bool.and_eq_true, allB_eq, List.all_eq_true] at h
      have hl := beq_iff.1 h.1
      rw [len_eq, len_eq] at hl
      have each : ∀ (i : Nat) (h1 : i < xs.toList.length) (h2 : i < ys.toList.length), xs.toList[i] = ys.toList[i] ∧ exact d ys.toList[i] = true := by
        intro i h1 h2
        refine ih _ _ (h.2 (xs.toList[i], ys.toList[i]) ?_)
        have hz : i < (xs.toList.zip ys.toList).length := by rw [List.length_zip]; omega
        have := List.getElem_mem hz
        rw [List.getElem_zip] at this
        exact this
      refine ⟨Array.toList_inj.1 (List.ext_getElem hl fun i h1 h2 => (each i h1 h2).1), ?_⟩
      rw [allB_eq, List.all_eq_true]
      intro y hy
      obtain ⟨i, hi, rfl⟩ := List.getElem_of_mem hy
      exact (each i (by omega) hi).2
    unfold sameV at h
    split at h
    · simp only [Bool.and_eq_true, decide_eq_true_eq] at h; obtain ⟨rfl, rfl⟩ := h; exact ⟨rfl, rfl⟩
    · rw [beq_iff_eq] at h; rw [h]; exact ⟨rfl, rfl⟩
    · obtain ⟨rfl, h2⟩ := key _ _ h; exact ⟨rfl, h2⟩
    · obtain ⟨rfl, h2⟩ := key _ _ h; exact ⟨rfl, h2⟩
    · cases h

noncomputable def givesV (x : Option (Value × St)) (v : Value) : Bool := match x with | some (r, _) => sameV 5 r v | none => false

/-- A closed call with plain arguments: what the kernel's run gives. -/
theorem closed_gives {C : Ctx} (W : C.Whole eg Tryz.prog 3) {fuel f : Nat} {args : List Value} {v : Value} (h : givesV (callB C (exec C eg fuel) f args s0) v = true) (hf : allB (flat 5) args = true) {w : World} (hl : Laid w) :
    Calls Tryz.prog f args.toArray w fun e w' => e = .returned v ∧ Below w.heap.size w w' := by
  cases hc : callB C (exec C eg fuel) f args s0 with
  | none => rw [hc] at h; cases h
  | some p =>
    obtain ⟨r, s'⟩ := p
    rw [hc] at h
    obtain ⟨rfl, he⟩ := sameV_exact 5 r v h
    rw [allB_eq, List.all_eq_true] at hf
    refine (calls_of_abs W fuel f (args' := args) hc (VRl_flat _ 5 args hf) hl.hr (fun b h1 _ => ?_) fun v' w' ι' hv hp => ?_).2
    · show ι0 w b = none
      have : 3 ≤ b := h1
      exact if_neg (by omega)
    · rw [exact_VR 5 r v' he hv]
      exact ⟨rfl, hp.os, hp.tape, hp.output, hp.size, fun k hk => hp.frame k hk s0_owned⟩

theorem laid_below {w w' : World} (h : Laid w) (hb : Below w.heap.size w w') : Laid w' := h.left ⟨hb.os, hb.tape, hb.output, hb.size, hb.block⟩
end Go.Ab.Seat
end
section
/- fail.Code of an error that says where: the machine's run. -/
namespace Go.Ab.Seat
open Go.Extern Go.Proofs
set_option maxRecDepth 1000000

def fCode : Nat := 37
noncomputable def smE : Nat → Option (List Value → M Value) := smIns fun _ => none
noncomputable def CE : Ctx := Cs smE
theorem wholeE : CE.Whole eg Tryz.prog 3 := whole _ (smOk _ (smIns_one fun f g hg => by cases hg))

/-- A heap with an error. -/
noncomputable def sE (w : ByteArray) (z : Int) : St := ⟨s0.h.set 3 (some (.ro [.string w, .iface 55 (.int .i64 z)])), 4, [], []⟩

def isI (x : Option (Value × St)) (z : Int) : Bool := match x with | some (.int .i64 y, _) => decide (y = z) | _ => false

/-- The numbers of errors. -/
def errnos : List Int := (List.range 32).map Int.ofNat

theorem runCodes (w : ByteArray) : allB (fun z => isI (callB CE (exec CE eg 10000) fCode [.iface 252 (.pointer (some ⟨3, 0, none⟩))] (sE w z)) z) errnos = true := by kernel_rfl
theorem runNil : isI (callB CE (exec CE eg 10000) fCode [.nilIface] s0) 0 = true := by kernel_rfl
#print axioms runCodes
end Go.Ab.Seat
end
