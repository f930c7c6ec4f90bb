import Derived.Test.YtofikbfljjjgeaaGreatDoorDS9
import Derived.Test.YtofikbfljjjgeaaGreatDoorE31
import Derived.Test.YtofikbfljjjgeaaGreatDoorRows
import Derived.Test.YtofikbfljjjgeaaGreatDoorE22
import Derived.Test.YtofikbfljjjgeaaGreatDoorDI2
import Derived.Test.YtofikbfljjjgeaaGreatDoorDJ2
import Derived.Test.YtofikbfljjjgeaaGreatDoorDI1
import Derived.Test.YtofikbfljjjgeaaGreatDoorDF2
set_option linter.unusedVariables false
set_option linter.unusedSimpArgs false
section
/- The contract of slices.Sorted over the seat's iterators. -/
namespace Go.Ab.Seat
open Go.Proofs Go.RowKit Go.Shelf
attribute [local go_sem] Oper.semAt_some
set_option maxRecDepth 100000 in
set_option maxHeartbeats 1000000 in
theorem values1_nil (F : Fence) (n : Nat) (h7 : F.fn 250) (hro : F.round = none) (l Bs os : Nat) (J : List Int → World → Prop) (W : World) (hBs : W.cell? ⟨Bs, os, none⟩ = some (.slice none 0 0)) (h0 : J [] W) :
  CallsIn F n Tryz.prog 250 #[.func (.yield l) #[] #[], .pointer (some ⟨Bs, os, none⟩)] W fun e W' => (∃ v, e = .returned v) ∧ J [] W' := by
 refine callsIn_of_wp Tryz.func250 rfl h7 ?_ hro
 simp only [Tryz.ntmps250, List.size_toArray, List.length_cons, List.length_nil, Nat.reduceAdd, Nat.reduceSub, Array.replicate_succ, Array.replicate_zero, List.push_toArray, List.append_toArray, List.nil_append, List.cons_append]
 gi_wp2
 gi_loopw [7] (fun i wr => i = .int .i64 0 ∧ J [] wr) (fun _ _ => 0)
 case atStart => exact ⟨rfl, h0⟩
 case round =>
  obtain ⟨rfl, hJs⟩ := hrel
  gi_wp2
  go_end0
  exact ⟨⟨_, rfl⟩, hJs⟩
theorem valuesB (n : Nat) (hn : 1 ≤ n) {w : World} {b o : Nat} {v : Value} {l : List Int} (hv : w.cell? ⟨b, o, none⟩ = some v) (hb : b < w.heap.size) (hs : SeqHolds false w v l) (hl : l.length ≤ 1000000) :
  SeqB Tryz.prog Fence.wide n 250 #[.pointer (some ⟨b, o, none⟩)] (fun ss => ss.Perm l) l.length w := by
 intro l0 J W hW _ hJB hY h0
 have hc : W.cell? ⟨b, o, none⟩ = some v := (hW.cell (p := ⟨b, o, none⟩) hb).trans hv
 rcases hs with ⟨rfl, rfl⟩ | ⟨sb, so, c, rfl, hsb, hcs⟩
 ·refine (values1_nil Fence.wide n trivial rfl l0 b o J W hc h0).mono ?_
  rintro e W' ⟨he, hj⟩
  exact ⟨he, [], .refl _, hj⟩
 ·refine (Tryz.values1 Fence.wide n trivial rfl hn l0 b o sb so c l (by omega) J w.heap.size w hsb hJB (fun pre x W1 hj hlt => hY pre x W1 hj hlt) W hc hcs h0).mono ?_
  rintro e W' ⟨he, ys, rfl, hj⟩
  exact ⟨he, _, .refl _, hj⟩
abbrev OwesAt (g : Nat) (keys : Bool) : Prop :=
 ∀ (w : World) (b o : Nat) (v : Value) (l : List Int), w.cell? ⟨b, o, none⟩ = some v → b < w.heap.size → SeqHolds keys w v l → (∀ n ∈ l, wfI n = true) → l.length ≤ 1000000 →
  Calls Tryz.prog 84 #[.func (.func g) #[] #[.pointer (some ⟨b, o, none⟩)]] w fun e w' => ∃ v, e = .returned v ∧ w'.ownsRow w.heap.size 3 1 v l.length ((sortI l).map fun n => Value.int .i64 n) ∧ (v = .slice none 0 0 ↔ l = []) ∧ Below w.heap.size w w'
theorem owes_none : SortedOwes Tryz.prog 84 3 (fun _ => none) := fun g keys h => by cases h
theorem owes_more {k : Nat} {keys : Bool} {rest : Nat → Option Bool} (h : OwesAt k keys) (r : SortedOwes Tryz.prog 84 3 rest) : SortedOwes Tryz.prog 84 3 (fun g => bif Nat.beq g k then some keys else rest g) := by
 intro g keys' hk0
 have hk : (bif Nat.beq g k then some keys else rest g) = some keys' := hk0
 cases h1 : Nat.beq g k with
 | false => rw [h1] at hk; exact r g keys' hk
 | true =>
  rw [h1] at hk
  cases hk
  obtain rfl := beq_iff.1 h1
  exact h
theorem eSort : ∀ args w, (callFunc 153 args).run Tryz.prog w = .ok (.enter 153 args) w := enters_of Tryz.func153 (by kernel_rfl) rfl
theorem owesA : OwesAt 206 true := fun w b o v l hv hb hs hw hl => sortedOwed Tryz.sortedA (Tryz.sortsA _) eSort (enters_of Tryz.func206 (by kernel_rfl) rfl) hl (keysB (ρ' := Tryz.keysA_ren) { Tryz.keysA with } 7 (by omega) hv hb hs hw hl)
theorem owesB : OwesAt 154 true := fun w b o v l hv hb hs hw hl => sortedOwed Tryz.sortedA (Tryz.sortsA _) eSort (enters_of Tryz.func154 (by kernel_rfl) rfl) hl (keysB (ρ' := Tryz.keysB_ren) { Tryz.keysB with } 7 (by omega) hv hb hs hw hl)
theorem owesC : OwesAt 217 true := fun w b o v l hv hb hs hw hl => sortedOwed Tryz.sortedA (Tryz.sortsA _) eSort (enters_of Tryz.func217 (by kernel_rfl) rfl) hl (keysB (ρ' := Tryz.keysC_ren) { Tryz.keysC with } 7 (by omega) hv hb hs hw hl)
theorem owesD : OwesAt 164 true := fun w b o v l hv hb hs hw hl => sortedOwed Tryz.sortedA (Tryz.sortsA _) eSort (enters_of Tryz.func164 (by kernel_rfl) rfl) hl (keysB (ρ' := Tryz.keysD_ren) { Tryz.keysD with } 7 (by omega) hv hb hs hw hl)
theorem owesV : OwesAt 250 false := fun w b o v l hv hb hs hw hl => sortedOwed Tryz.sortedA (Tryz.sortsA _) eSort (enters_of Tryz.func250 (by kernel_rfl) rfl) hl (valuesB 7 (by omega) hv hb hs hl)
noncomputable def kindV : Nat → Option Bool := fun g => bif Nat.beq g 250 then some false else none
theorem kindV_owes : SortedOwes Tryz.prog 84 3 kindV := owes_more owesV owes_none
noncomputable def kindA : Nat → Option Bool := fun g => bif Nat.beq g 206 then some true else kindV g
theorem kindA_owes : SortedOwes Tryz.prog 84 3 kindA := owes_more owesA kindV_owes
noncomputable def kindB : Nat → Option Bool := fun g => bif Nat.beq g 154 then some true else kindA g
theorem kindB_owes : SortedOwes Tryz.prog 84 3 kindB := owes_more owesB kindA_owes
noncomputable def kindC : Nat → Option Bool := fun g => bif Nat.beq g 217 then some true else kindB g
theorem kindC_owes : SortedOwes Tryz.prog 84 3 kindC := owes_more owesC kindB_owes
noncomputable def kindD : Nat → Option Bool := fun g => bif Nat.beq g 164 then some true else kindC g
theorem kindD_owes : SortedOwes Tryz.prog 84 3 kindD := owes_more owesD kindC_owes
noncomputable def kindE : Nat → Option Bool := kindD
theorem kindE_owes : SortedOwes Tryz.prog 84 3 kindE := kindD_owes
noncomputable def kindOf : Nat → Option Bool := kindE
theorem sortedOwes : SortedOwes Tryz.prog 84 3 kindOf := kindE_owes
def fSorted : Nat := 84
theorem smSorted : SmOne fSorted (sumSorted kindOf) :=
 ⟨local_sumSorted kindOf, fun args s s' v ι w args' R h1 h2 h3 h4 h5 => sorted_sound ⟨Tryz.f84, _, Tryz.func84, rfl, by kernel_rfl⟩ sortedOwes args s s' v ι w args' R h1 h2 h3 h4 h5⟩
#print axioms smSorted
end Go.Ab.Seat
end
section
/- Law 7's Begun answers true. -/
namespace Go.Ab.Seat
open Go.Extern Go.Proofs
set_option maxRecDepth 1000000
def fBegun7 : Nat := 71
noncomputable def sm7 : Nat → Option (List Value → M Value) := smIns fun f => bif Nat.beq f fSorted then some (sumSorted kindOf) else bif Nat.beq f fBegun4 then some gTrue else bif Nat.beq f fBegun1 then some gTrue else none
noncomputable def C7 : Ctx := Cs sm7
theorem whole7 : C7.Whole eg Tryz.prog 3 := whole _ (smOk _ (smIns_one (one_more smSorted (one_more begun4 (one_more begun1 fun f g hg => by cases hg)))))
theorem run7 : isTrue (callB C7 (exec C7 eg 10000) fBegun7 [] s0) = true := by kernel_rfl
theorem begun7 : SmOne fBegun7 gTrue := known_true fun _ hw => closed_true whole7 run7 hw
#print axioms begun7
end Go.Ab.Seat
end
section
/- Law 13's begun answers true. -/
namespace Go.Ab.Seat
open Go.Extern Go.Proofs
set_option maxRecDepth 1000000
def fBegun13 : Nat := 15
noncomputable def sm13 : Nat → Option (List Value → M Value) := smIns fun f => bif Nat.beq f fSorted then some (sumSorted kindOf) else bif Nat.beq f fBegun7 then some gTrue else bif Nat.beq f fBegun4 then some gTrue else bif Nat.beq f fBegun1 then some gTrue else none
noncomputable def C13 : Ctx := Cs sm13
theorem whole13 : C13.Whole eg Tryz.prog 3 := whole _ (smOk _ (smIns_one (one_more smSorted (one_more begun7 (one_more begun4 (one_more begun1 fun f g hg => by cases hg))))))
theorem run13 : isTrue (callB C13 (exec C13 eg 10000) fBegun13 [] s0) = true := by kernel_rfl
theorem begun13_calls {w : World} (hw : Laid w) : Callable Tryz.prog fBegun13 ∧ Calls Tryz.prog fBegun13 #[] w fun e w' => e = .returned (.bool true) ∧ Left w w' := closed_true whole13 run13 hw
theorem begun13 : SmOne fBegun13 gTrue := known_true fun _ hw => begun13_calls hw
#print axioms begun13
end Go.Ab.Seat
end
section
/- What the listed package-level variables hold; a world that meets the condition. -/
namespace Go.Proofs.YtofikbfljjjgeaaGreatDoor
open Go.ChangeShapes Go.WideShapes Go.RowKit Go.Ab Go.Ab.Seat
def laidVars : List (String × DataW Unit) := [("math/bits.deBruijn32tab", Rows.laid_math_bits_deBruijn32tab), ("errors.errorType", Rows.laid_errors_errorType)]
theorem own : ownKnob Tryz.prog.godebug = none := by kernel_rfl
theorem laidOut : laidOutB Tryz.prog = true := by kernel_rfl
theorem gTab : Tryz.prog.globalNamed "math/bits.deBruijn32tab" = some 0 := by kernel_rfl
theorem gEt : Tryz.prog.globalNamed "errors.errorType" = some 1 := by kernel_rfl
theorem rtNo : (Tryz.prog.cutTypes.find? (·.1 == "internal/reflectlite.rtype")).map (·.2) = some tRt := by kernel_rfl
theorem tSize : Tryz.prog.types.size = 391 := by kernel_rfl
theorem oneRow : ((List.range 391).filter fun t => Tryz.prog.rowNamed t [101, 114, 114, 111, 114]) = [tErr] := by kernel_rfl
theorem gType : (Tryz.prog.globals[0]?).map (·.type) = some 193 := by kernel_rfl
theorem uTab : Tryz.prog.underlying 193 = some (.array 32 5) := by kernel_rfl
theorem uU8 : Tryz.prog.underlying 5 = some (.int .u8) := by kernel_rfl
theorem cU8 : Tryz.prog.cellsOf 5 = 1 := by kernel_rfl
theorem begSize : 2 < (begin Tryz.prog (fun _ _ => 0) default).world.heap.size := by
 have h : decide (2 < (begin Tryz.prog (fun _ _ => 0) default).world.heap.size) = true := by kernel_rfl
 exact of_decide_eq_true h
theorem gSize : Tryz.prog.globals.size = 2 := by kernel_rfl
theorem laid_of {W : World} (h : laidMetH Tryz.prog laidVars W) (hs : W.ShapedOpen Tryz.prog) : Laid W := by
 have h' : laidMet Tryz.prog [("math/bits.deBruijn32tab", Rows.laid_math_bits_deBruijn32tab)] W ∧ handlesMet Tryz.prog [("errors.errorType", Rows.laid_errors_errorType)] W := h
 refine ⟨?_, ?_, ?_⟩
 ·obtain ⟨ps, ⟨g, t, cs, fuel, p, q, hg, ht, hvar, hd, _, _⟩, _⟩ := h'.1
  obtain rfl := Option.some.inj (gTab.symm.trans hg)
  obtain rfl := Option.some.inj (gType.symm.trans ht)
  obtain ⟨h1, h2⟩ := arr_of_trod uTab uU8 cU8 hd
  have hcell : ∀ (i : Nat) (x : Value), tab[i]? = some x → cs[i]? = some x := by
   intro i x hx
   have hx' : ([0, 1, 28, 2, 29, 14, 24, 3, 30, 22, 20, 15, 25, 17, 4, 8, 31, 27, 13, 23, 21, 19, 16, 7, 26, 12, 18, 6, 11, 5, 10, 9].map fun n : Int => Value.int .u8 n)[i]? = some x := hx
   rw [List.getElem?_map, Option.map_eq_some_iff] at hx'
   obtain ⟨m, hm, rfl⟩ := hx'
   have := h2 i m (by
    have e : ([0, 1, 28, 2, 29, 14, 24, 3, 30, 22, 20, 15, 25, 17, 4, 8, 31, 27, 13, 23, 21, 19, 16, 7, 26, 12, 18, 6, 11, 5, 10, 9].map fun n : Int => (DataW.lit (.int .u8 n) : DataW Unit))[i]? = some (.lit (.int .u8 m)) := by rw [List.getElem?_map, hm]; rfl
    exact e)
   rw [Array.getElem?_toList] at this
   exact this
  have hv := hvar
  unfold World.var? at hv
  rw [hg] at hv
  simp only [Option.bind_some] at hv
  split at hv
  ·rename_i c t fr hH
   obtain rfl := Option.some.inj hv
   refine ⟨_, t, fr, hH, ?_, hcell⟩
   have h31 := (Array.getElem?_eq_some_iff.1 (hcell 31 (.int .u8 9) rfl)).1
   show 32 ≤ _
   omega
  ·cases hv
 ·obtain ⟨name, u, ty, e1, e2, e3, e4, e5⟩ := h'.2 _ (List.mem_singleton.2 rfl)
  have en : name = [101, 114, 114, 111, 114] := (Option.some.inj e1).symm
  subst en
  obtain rfl := Option.some.inj (rtNo.symm.trans e2)
  have hm : ty ∈ (List.range 391).filter fun t => Tryz.prog.rowNamed t [101, 114, 114, 111, 114] := List.mem_filter.2 ⟨List.mem_range.2 (by rw [← tSize]; exact e3), e4⟩
  rw [oneRow] at hm
  obtain rfl := List.mem_singleton.1 hm
  have hv := e5
  unfold World.var? at hv
  rw [gEt] at hv
  simp only [Option.bind_some] at hv
  split at hv
  ·rename_i c t fr hH
   obtain rfl := Option.some.inj hv
   refine ⟨_, t, fr, hH, ?_⟩
   have hh : typeHandle Tryz.prog tErr = hd tErr := by unfold typeHandle; rw [gSize]; rfl
   rw [hh]
   rfl
  ·cases hv
 ·obtain ⟨o, _, h1, _⟩ := hs.2 2 (by rw [gSize]; exact Nat.le_refl _) begSize
  exact (Array.getElem?_eq_some_iff.1 h1).1
theorem _root_.Go.Ab.Seat.Laid.left {w w' : World} (h : Laid w) (hl : Go.Ab.Seat.Left w w') : Laid w' := by
 obtain ⟨⟨c, t, fr, h1, h2, h3⟩, ⟨c1, t1, fr1, h4, h5⟩, h6⟩ := h
 exact ⟨⟨c, t, fr, (hl.heap 0 (by omega)).trans h1, h2, h3⟩, ⟨c1, t1, fr1, (hl.heap 1 (by omega)).trans h4, h5⟩, Nat.lt_of_lt_of_le h6 hl.size⟩
noncomputable def laidWorld (os : Os) : World :=
 let w0 := World.holding Tryz.prog os ⟨#[], #[], []⟩
 { w0 with heap := (w0.heap.modify 0 fun
   | .cells _ t frozen => .cells tab.toArray t frozen
   | o => o).modify 1 fun
   | .cells _ t frozen => .cells #[rt tErr] t frozen
   | o => o }
theorem laidWorld_met (os : Os) (args : Array Value) : laidMetH Tryz.prog laidVars ((laidWorld os).forCall (fun _ _ => 0) ⟨#[], args, []⟩).memory :=
 laidMetH_of_parts (laidMet_of_run (ps := (List.range 32).map fun i => .cell 0 i) 8 (by kernel_rfl) (by kernel_rfl) (by kernel_rfl)) (by kernel_rfl)
#print axioms laidWorld_met
#print axioms laid_of
end Go.Proofs.YtofikbfljjjgeaaGreatDoor
end
section
/- The machine with law 13's begun known. -/
namespace Go.Ab.Seat
open Go.Extern Go.Proofs
set_option maxRecDepth 1000000
end Go.Ab.Seat
end
section
/- The end of a function run by the abstract machine: from a place in the midst of a walk on. -/
namespace Go.Ab
open Go.RowKit (Below)
section
variable {C : Ctx} {eg : TypeId → Bool} {P : Program} {G : Nat}
end
def Code.l : Code → Code | .seq a _ => a | c => c
def Code.r : Code → Code | .seq _ b => b | c => c
end Go.Ab
end
section
/- A closed call with plain arguments, as a contract. -/
namespace Go.Ab
noncomputable def exact : Nat → Value → Bool
 | 0, _ => false
 | d + 1, v =>
  match v with
  | .bool _ => true
  | .int _ _ => true
  | .string _ => true
  | .pointer none => true
  | .slice none _ _ => true
  | .map none => true
  | .nilIface => true
  | .agg cs => allB (exact d) cs.toList
  | .tuple cs => allB (exact d) cs.toList
  | _ => false
end Go.Ab
end
section
/- Closed calls with plain arguments: what they give. -/
namespace Go.Ab.Seat
open Go.Extern Go.Proofs Go.RowKit
end Go.Ab.Seat
end
section
/- The laws' own ground: begun is known; what is known and not run. -/
namespace Go.Ab.Seat
open Go.Extern Go.Proofs
set_option maxRecDepth 1000000
noncomputable def smQ : Nat → Option (List Value → M Value) := fun f => bif Nat.beq f fInsHit then some gIns else bif Nat.beq f fInsInt then some InsI.gIns else smIns (fun f => bif Nat.beq f fSorted then some (sumSorted kindOf) else bif Nat.beq f fBegun13 then some gTrue else bif Nat.beq f fBegun7 then some gTrue else bif Nat.beq f fBegun4 then some gTrue else bif Nat.beq f fBegun1 then some gTrue else none) f
noncomputable def CQ : Ctx := Cs smQ
theorem wholeQ : CQ.Whole eg Tryz.prog 3 := whole _ (smOk _ (one_more smInsG (one_more InsI.smInsG (smIns_one (one_more smSorted (one_more begun13 (one_more begun7 (one_more begun4 (one_more begun1 fun f g hg => by cases hg)))))))))
theorem stdQ : Std smQ := by
 intro f hf
 have h : ∀ k ∈ [15, 71, 195, 262, 84, 144, 200], Nat.beq f k = false := by
  intro k hk
  refine beq_false.2 fun e => ?_
  subst e
  unfold special at hf
  rw [List.contains_eq_mem] at hf
  simp [hk] at hf
 simp only [List.mem_cons, List.not_mem_nil, or_false, forall_eq_or_imp, forall_eq] at h
 obtain ⟨h2, h3, h4, h5, h6, h7, h8⟩ := h
 show (bif Nat.beq f fInsHit then some gIns else bif Nat.beq f fInsInt then some InsI.gIns else smIns _ f) = none
 unfold smIns
 simp only [show Nat.beq f fInsHit = false from h8, show Nat.beq f fInsInt = false from h7, show Nat.beq f fSorted = false from h6, show Nat.beq f fBegun13 = false from h2, show Nat.beq f fBegun7 = false from h3, show Nat.beq f fBegun4 = false from h4, show Nat.beq f fBegun1 = false from h5, cond_false]
theorem eqAll_tab : eqAll tab tab = true := by kernel_rfl
structure Glob (h : T AObj) : Prop where
 g0 : Has h 0 (.ro tab)
 g1 : Has h 1 (.ro [rt tErr])
theorem globOk_run {h : T AObj} {c : Nat} {rl wl : List Nat} (hf : Fresh h c) (hg : Glob h) : globOk ⟨h, c, rl, wl⟩ = some ((), ⟨h, c, 1 :: 0 :: rl, wl⟩) := by
 unfold globOk
 rw [bind_run (getCells_run hg.g0.celR (hg.g0.lt hf)), bind_run (getCells_run hg.g1.celR (hg.g1.lt hf))]
 rw [eqAll_tab]
 rfl
theorem begunQ {h : T AObj} {c : Nat} {rl wl : List Nat} (hf : Fresh h c) (hg : Glob h) : ∃ v s', FnTo (Cs smQ) eg 15 [] ⟨h, c, rl, wl⟩ v s' ∧ (v = .bool true ∧ s' = ⟨h, c, 1 :: 0 :: rl, wl⟩) := by
 refine ⟨_, _, FnTo.of_sm (q := gTrue) rfl ?_, rfl, rfl⟩
 show (globOk.bind fun _ => M.ret (Value.bool true)) _ = _
 rw [bind_run (globOk_run hf hg)]; rfl
theorem tmod_lt (n : Int) (c : Int) (hc : 0 < c) : -c < n.tmod c ∧ n.tmod c < c := by
 have h1 : n.tmod c < c := Int.tmod_lt_of_pos n hc
 have h3 := Int.tmod_lt_of_pos (-n) hc
 rw [Int.neg_tmod] at h3
 omega
end Go.Ab.Seat
end
section
/- slices.SortFunc of a dozen hits or fewer; vectors in a row (the abstract machine). -/
namespace Go.Ab.Seat
open Go.Extern Go.Proofs
set_option maxRecDepth 4000
end Go.Ab.Seat
end
section
/- Vectors that come in, cut to size; hits, ids compared (the abstract machine). -/
namespace Go.Ab.Seat
open Go.Extern Go.Proofs
set_option maxRecDepth 4000
variable {sm : Nat → Option (List Value → M Value)}
def VecsIn (h : T AObj) (v : Value) (zss : List (List Int)) : Prop :=
 ∃ oa cap, v = .slice oa zss.length cap ∧ ∀ (i : Nat) (zs : List Int), zss[i]? = some zs → ∃ b o sp cs a k, oa = some ⟨b, o, sp⟩ ∧ Cel h b cs ∧ nth cs (o + i * 1) = some (.slice a zs.length k) ∧ Row h (.slice a zs.length k) zs.length 1 (zs.map (Value.int .i32))
def VRow (h : T AObj) (c0 : Nat) (v : Value) (dim : Nat) (vss : List (List Int)) : Prop :=
 (v = .slice none 0 0 ∧ vss = []) ∨ ∃ b vals, v = .slice (some ⟨b, 0, some 1⟩) vss.length vss.length ∧ vss ≠ [] ∧ c0 ≤ b ∧ Has h b (.cells vals) ∧ vals.length = vss.length ∧ ∀ (i : Nat) (zs : List Int), vss[i]? = some zs → zs.length = dim ∧ ∃ bi, vals[i]? = some (.slice (some ⟨bi, 0, none⟩) dim dim) ∧ c0 ≤ bi ∧ Has h bi (.cells (zs.map (Value.int .i32)))
theorem VRow.keep {h h' : T AObj} {c c0 : Nat} {v : Value} {dim : Nat} {vss : List (List Int)} (x : VRow h c0 v dim vss) (hf : Fresh h c) (k : ∀ b, b < c → (∃ cs, Has h b (.cells cs)) → c0 ≤ b → h'.get b = h.get b) : VRow h' c0 v dim vss := by
 rcases x with x | ⟨b, vals, h1, h2, h3, h4, h5, h6⟩
 ·exact .inl x
 ·refine .inr ⟨b, vals, h1, h2, h3, (k b (h4.lt hf) ⟨_, h4⟩ h3).trans h4, h5, fun i zs hi => ?_⟩
  obtain ⟨g1, bi, g2, g3, g4⟩ := h6 i zs hi
  exact ⟨g1, bi, g2, g3, (k bi (g4.lt hf) ⟨_, g4⟩ g3).trans g4⟩
theorem VRow.val {h : T AObj} {c0 : Nat} {v : Value} {dim : Nat} {vss : List (List Int)} (x : VRow h c0 v dim vss) : ∃ oa, v = .slice oa vss.length vss.length := by
 rcases x with ⟨rfl, rfl⟩ | ⟨b, vals, h1, _⟩
 ·exact ⟨_, rfl⟩
 ·exact ⟨_, h1⟩
theorem VRow.at {h : T AObj} {c0 : Nat} {oa : Option Addr} {n cap dim : Nat} {vss : List (List Int)} (x : VRow h c0 (.slice oa n cap) dim vss) {i : Nat} {zs : List Int} (hi : vss[i]? = some zs) :
  zs.length = dim ∧ ∃ b vals bi, oa = some ⟨b, 0, some 1⟩ ∧ c0 ≤ b ∧ Has h b (.cells vals) ∧ nth vals (0 + i * 1) = some (.slice (some ⟨bi, 0, none⟩) dim dim) ∧ c0 ≤ bi ∧ Has h bi (.cells (zs.map (Value.int .i32))) := by
 rcases x with ⟨_, rfl⟩ | ⟨b, vals, h1, h2, h3, h4, h5, h6⟩
 ·cases hi
 ·obtain ⟨g1, bi, g2, g3, g4⟩ := h6 i zs hi
  simp only [Value.slice.injEq] at h1
  exact ⟨g1, b, vals, bi, h1.1, h3, h4, by rw [nth_eq, Nat.zero_add, Nat.mul_one]; exact g2, g3, g4⟩
end Go.Ab.Seat
end
section
/- The places of middles, the nearest first (the abstract machine). -/
namespace Go.Ab.Seat
open Go.Extern Go.Proofs
set_option maxRecDepth 4000
def GVals (h : T AObj) (dim : Nat) (mid : List (List Int)) (U : Nat → Prop) (vals : List Value) : Prop :=
 vals.length = mid.length ∧ ∀ (i : Nat) (zs : List Int), mid[i]? = some zs → zs.length = dim ∧ Bnd zs ∧ ∃ a k, vals[i]? = some (.slice a dim k) ∧ Row h (.slice a dim k) dim 1 (zs.map (Value.int .i32)) ∧ ∀ b', blkOf (.slice a dim k) = some b' → U b'
theorem GVals.nil {h : T AObj} {dim : Nat} {U : Nat → Prop} : GVals h dim [] U [] := ⟨rfl, fun i zs hi => by cases hi⟩
theorem GVals.keep {h h' : T AObj} {c dim : Nat} {mid : List (List Int)} {U U' : Nat → Prop} {vals : List Value} (x : GVals h dim mid U vals) (hf : Fresh h c) (hU : ∀ b, U b → U' b) (k : ∀ b, U b → b < c → (∃ cs, Cel h b cs) → h'.get b = h.get b) : GVals h' dim mid U' vals := by
 refine ⟨x.1, fun i zs hi => ?_⟩
 obtain ⟨g1, g2, a, kk, g3, g4, g5⟩ := x.2 i zs hi
 refine ⟨g1, g2, a, kk, g3, ?_, fun b' hb' => hU b' (g5 b' hb')⟩
 rcases g4 with g4 | ⟨b', o, sp', cap', cs, e, g6, g7⟩
 ·exact .inl g4
 ·refine .inr ⟨b', o, sp', cap', cs, e, ?_, g7⟩
  have q := k b' (g5 b' (by rw [e]; rfl)) (g6.lt hf) ⟨_, g6⟩
  unfold Cel Has at g6 ⊢
  rw [q]; exact g6
def MRow (h : T AObj) (v : Value) (dim : Nat) (mid : List (List Int)) (U : Nat → Prop) : Prop :=
 (v = .slice none 0 0 ∧ mid = []) ∨ ∃ b sp cap vals, v = .slice (some ⟨b, 0, sp⟩) mid.length cap ∧ mid ≠ [] ∧ mid.length ≤ cap ∧ U b ∧ Has h b (.cells vals) ∧ GVals h dim mid U vals
def GRow (h : T AObj) (v : Value) (dim : Nat) (mid : List (List Int)) (U : Nat → Prop) : Prop :=
 (v = .slice none 0 0 ∧ mid = []) ∨ ∃ b vals, v = .slice (some ⟨b, 0, some 1⟩) mid.length mid.length ∧ mid ≠ [] ∧ U b ∧ Has h b (.cells vals) ∧ GVals h dim mid U vals
theorem GRow.keep {h h' : T AObj} {c : Nat} {v : Value} {dim : Nat} {mid : List (List Int)} {U U' : Nat → Prop} (x : GRow h v dim mid U) (hf : Fresh h c) (hU : ∀ b, U b → U' b) (k : ∀ b, U b → b < c → (∃ cs, Cel h b cs) → h'.get b = h.get b) : GRow h' v dim mid U' := by
 rcases x with x | ⟨b, vals, h1, h2, h3, h4, h5⟩
 ·exact .inl x
 ·exact .inr ⟨b, vals, h1, h2, hU b h3, (k b h3 (h4.lt hf) ⟨_, h4.cel⟩).trans h4, h5.keep hf hU k⟩
theorem MRow.val {h : T AObj} {v : Value} {dim : Nat} {mid : List (List Int)} {U : Nat → Prop} (x : MRow h v dim mid U) : ∃ oa cap, v = .slice oa mid.length cap := by
 rcases x with ⟨rfl, rfl⟩ | ⟨b, sp, cap, vals, h1, _⟩
 ·exact ⟨_, _, rfl⟩
 ·exact ⟨_, _, h1⟩
theorem MRow.at {h : T AObj} {oa : Option Addr} {n cap dim : Nat} {mid : List (List Int)} {U : Nat → Prop} (x : MRow h (.slice oa n cap) dim mid U) {i : Nat} {zs : List Int} (hi : mid[i]? = some zs) :
  zs.length = dim ∧ Bnd zs ∧ ∃ b sp vals a k, oa = some ⟨b, 0, sp⟩ ∧ U b ∧ Has h b (.cells vals) ∧ nth vals (0 + i * 1) = some (.slice a dim k) ∧ Row h (.slice a dim k) dim 1 (zs.map (Value.int .i32)) ∧ ∀ b', blkOf (.slice a dim k) = some b' → U b' := by
 rcases x with ⟨_, rfl⟩ | ⟨b, sp, cap', vals, h1, h2, h3, h4, h5, h6, h7⟩
 ·cases hi
 ·obtain ⟨g1, g2, a, k, g3, g4, g5⟩ := h7 i zs hi
  simp only [Value.slice.injEq] at h1
  exact ⟨g1, g2, b, sp, vals, a, k, h1.1, h4, h5, by rw [nth_eq, Nat.zero_add, Nat.mul_one]; exact g3, g4, g5⟩
theorem MRow.keep {h h' : T AObj} {c : Nat} {v : Value} {dim : Nat} {mid : List (List Int)} {U U' : Nat → Prop} (x : MRow h v dim mid U) (hf : Fresh h c) (hU : ∀ b, U b → U' b) (k : ∀ b, U b → b < c → (∃ cs, Cel h b cs) → h'.get b = h.get b) : MRow h' v dim mid U' := by
 rcases x with x | ⟨b, sp, cap, vals, h1, h2, h3, h4, h5, h6⟩
 ·exact .inl x
 ·exact .inr ⟨b, sp, cap, vals, h1, h2, h3, hU b h4, (k b h4 (h5.lt hf) ⟨_, h5.cel⟩).trans h5, h6.keep hf hU k⟩
def hitO (qs : List Int) (mid : List (List Int)) : List Ht := (List.range mid.length).map fun (i : Nat) => ⟨(i : Int), scoreZ 1 (mid.getD i []) qs⟩
theorem hitO_len (qs : List Int) (mid : List (List Int)) : (hitO qs mid).length = mid.length := by unfold hitO; simp
theorem hitO_nodup (qs : List Int) (mid : List (List Int)) : ((hitO qs mid).map Ht.id).Nodup := by
 unfold hitO
 rw [List.map_map]
 exact (List.pairwise_map.2 ((List.nodup_range (n := mid.length)).imp fun {a b} h => by
  show ((a : Nat) : Int) ≠ ((b : Nat) : Int)
  omega))
def ordZ (mid : List (List Int)) (qs : List Int) : List Int := (bestOf mid.length (hitO qs mid)).map Ht.id
def HI (h : T AObj) (c0 : Nat) (v : Value) (l : List Int) : Prop := (v = .slice none 0 0 ∧ l = []) ∨ ∃ b, v = .slice (some ⟨b, 0, some 1⟩) l.length l.length ∧ l ≠ [] ∧ c0 ≤ b ∧ Has h b (.cells (l.map (Value.int .i64)))
end Go.Ab.Seat
end
section
/- The nearest middle; vectors copied; an index of lists: made (the abstract machine). -/
namespace Go.Ab.Seat
open Go.Extern Go.Proofs
set_option maxRecDepth 4000
theorem HI.val {h : T AObj} {c : Nat} {v : Value} {l : List Int} (x : HI h c v l) : ∃ oa, v = .slice oa l.length l.length ∧ Row h v l.length 1 (l.map (Value.int .i64)) ∧ ∀ b, blkOf v = some b → c ≤ b := by
 rcases x with ⟨rfl, rfl⟩ | ⟨b, rfl, _, h1, h2⟩
 ·exact ⟨_, rfl, .inl ⟨rfl, rfl, _, _, rfl⟩, fun b hb => by cases hb⟩
 ·exact ⟨_, rfl, .inr ⟨b, 0, _, _, _, rfl, h2.cel, subN_all _ _ (by simp)⟩, fun b hb => by cases hb; exact h1⟩
def nearZ (mid : List (List Int)) (qs : List Int) : Int := if mid.length = 0 then -1 else (ordZ mid qs).getD 0 0
theorem GVals.ne {h : T AObj} {dim b : Nat} {mid : List (List Int)} {U : Nat → Prop} {vals : List Value} (x : GVals h dim mid U vals) (hd : 1 ≤ dim) (hb : Has h b (.cells vals)) {a : Option Addr} {k : Nat} {zs : List Int} (hr : Row h (.slice a dim k) dim 1 (zs.map (Value.int .i32))) (hz : zs.length = dim) : blkOf (.slice a dim k) ≠ some b := by
 intro e
 rcases hr with ⟨_, q, _⟩ | ⟨b', o, sp', cap', cs, e1, g6, g7⟩
 ·omega
 ·rw [e1] at e
  obtain rfl : b' = b := by simpa [blkOf] using e
  have hcs : cs = vals := by
   rcases g6 with q | q | q
   ·have := q.symm.trans hb
    simpa using this
   ·have := q.symm.trans hb
    simp at this
   ·have := q.symm.trans hb
    simp at this
  subst hcs
  have h1 := (subN_some _ _ _ _ g7).2.2 0 (by omega)
  rw [Nat.add_zero, List.getElem?_map, List.getElem?_eq_getElem (by omega : 0 < zs.length)] at h1
  have h2 := (List.getElem?_eq_some_iff.1 h1.symm).1
  rw [x.1] at h2
  obtain ⟨_, _, a', k', h3, _⟩ := x.2 o mid[o] (List.getElem?_eq_getElem h2)
  rw [h3] at h1
  cases h1
end Go.Ab.Seat
end
section
/- The places of middles, plainly. -/
namespace Go.Ab.Seat
open Go.Extern Go.Proofs
theorem putM_len (r : Rc) : ∀ l : List Rc, (putM r l).length ≤ l.length + 1
 | [] => by simp [putM]
 | x :: l => by
  have := putM_len r l
  unfold putM
  split
  ·simp
  ·split
   ·simp
   ·simp; omega
theorem VecsIn.keep {h h' : T AObj} {c : Nat} {v : Value} {zss : List (List Int)} (x : VecsIn h v zss) (hf : Fresh h c) (k : ∀ b, b < c → h'.get b = h.get b) : VecsIn h' v zss := by
 obtain ⟨oa, cap, e, hat⟩ := x
 refine ⟨oa, cap, e, fun i zs hi => ?_⟩
 obtain ⟨b, o, sp, cs, a, kk, e1, e2, e3, e4⟩ := hat i zs hi
 refine ⟨b, o, sp, cs, a, kk, e1, ?_, e3, Row.keepF e4 hf k⟩
 have q := k b (e2.lt hf)
 unfold Cel Has at e2 ⊢
 rw [q]; exact e2
end Go.Ab.Seat
end
section
/- Middles, plainly: the whole part of a mean, towards below; the first ones that are unlike; rounds. -/
namespace Go.Ab.Seat
open Go.Extern Go.Proofs
end Go.Ab.Seat
end
