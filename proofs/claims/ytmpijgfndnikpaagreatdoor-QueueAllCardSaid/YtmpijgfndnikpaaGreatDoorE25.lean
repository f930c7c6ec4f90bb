import Derived.Test.YtmpijgfndnikpaaGreatDoorBS9
import Derived.Below
import Derived.Carry
import Derived.Handed
import Derived.ChangeSame
import Derived.ChangeVars
import Derived.JoinedOf
import Derived.RowKit
import Derived.RowKitTokens
import Derived.LaidLaws
import Derived.LaidHandle
import Derived.Stop.Joined
import Derived.ChangeReads
set_option linter.unusedVariables false
set_option linter.unusedSimpArgs false
section
/- The contract of slices.Sorted over the seat's iterators. -/
namespace Go.Ab.Seat
open Go.Proofs Go.RowKit Go.Shelf

attribute [local go_sem] Oper.semAt_some

set_option maxRecDepth 100000 in
set_option maxHeartbeats 1000000 in
theorem values1_nil (F : Fence) (n : Nat) (h7 : F.fn 250) (hro : F.round = none) (l Bs os : Nat) (J : List Int → World → Prop) (W : World) (hBs : W.cell? ⟨Bs, os, none⟩ = some (.slice none 0 0)) (h0 : J [] W) :
    CallsIn F n Tryz.prog 250 #[.func (.yield l) #[] #[], .pointer (some ⟨Bs, os, none⟩)] W fun e W' => (∃ v, e = .returned v) ∧ J [] W' := by
  refine callsIn_of_wp Tryz.func250 rfl h7 ?_ hro
  simp only [Tryz.ntmps250, List.size_toArray, List.length_cons, List.length_nil, Nat.reduceAdd, Nat.reduceSub, Array.replicate_succ, Array.replicate_zero, List.push_toArray, List.append_toArray, List.nil_append, List.cons_append]
  gi_wp2
  gi_loopw [7] (fun i wr => i = .int .i64 0 ∧ J [] wr) (fun _ _ => 0)
  case atStart => exact ⟨rfl, h0⟩
  case round =>
    obtain ⟨rfl, hJs⟩ := hrel
    gi_wp2
    go_end0
    exact ⟨⟨_, rfl⟩, hJs⟩

theorem valuesB (n : Nat) (hn : 1 ≤ n) {w : World} {b o : Nat} {v : Value} {l : List Int} (hv : w.cell? ⟨b, o, none⟩ = some v) (hb : b < w.heap.size) (hs : SeqHolds false w v l) (hl : l.length ≤ 1000000) :
    SeqB Tryz.prog Fence.wide n 250 #[.pointer (some ⟨b, o, none⟩)] (fun ss => ss.Perm l) l.length w := by
  intro l0 J W hW _ hJB hY h0
  have hc : W.cell? ⟨b, o, none⟩ = some v := (hW.cell (p := ⟨b, o, none⟩) hb).trans hv
  rcases hs with ⟨rfl, rfl⟩ | ⟨sb, so, c, rfl, hsb, hcs⟩
  · refine (values1_nil Fence.wide n trivial rfl l0 b o J W hc h0).mono ?_
    rintro e W' ⟨he, hj⟩
    exact ⟨he, [], .refl _, hj⟩
  · refine (Tryz.values1 Fence.wide n trivial rfl hn l0 b o sb so c l (by omega) J w.heap.size w hsb hJB (fun pre x W1 hj hlt => hY pre x W1 hj hlt) W hc hcs h0).mono ?_
    rintro e W' ⟨he, ys, rfl, hj⟩
    exact ⟨he, _, .refl _, hj⟩

/-- What one iterator owes. -/
abbrev OwesAt (g : Nat) (keys : Bool) : Prop :=
  ∀ (w : World) (b o : Nat) (v : Value) (l : List Int), w.cell? ⟨b, o, none⟩ = some v → b < w.heap.size → SeqHolds keys w v l → (∀ n ∈ l, wfI n = true) → l.length ≤ 1000000 →
    Calls Tryz.prog 104 #[.func (.func g) #[] #[.pointer (some ⟨b, o, none⟩)]] w fun e w' => ∃ v, e = .returned v ∧ w'.ownsRow w.heap.size 3 1 v l.length ((sortI l).map fun n => Value.int .i64 n) ∧ (v = .slice none 0 0 ↔ l = []) ∧ Below w.heap.size w w'

theorem owes_none : SortedOwes Tryz.prog 104 3 (fun _ => none) := fun g keys h => by cases h

theorem owes_more {k : Nat} {keys : Bool} {rest : Nat → Option Bool} (h : OwesAt k keys) (r : SortedOwes Tryz.prog 104 3 rest) : SortedOwes Tryz.prog 104 3 (fun g => bif Nat.beq g k then some keys else rest g) := by
  intro g keys' hk0
  have hk : (bif Nat.beq g k then some keys else rest g) = some keys' := hk0
  cases h1 : Nat.beq g k with
  | false => rw [h1] at hk; exact r g keys' hk
  | true =>
    rw [h1] at hk
    cases hk
    obtain rfl := beq_iff.1 h1
    exact h

theorem eSort : ∀ args w, (callFunc 162 args).run Tryz.prog w = .ok (.enter 162 args) w := enters_of Tryz.func162 (by kernel_rfl) rfl

theorem owesA : OwesAt 163 true := fun w b o v l hv hb hs hw hl => sortedOwed Tryz.sortedA (Tryz.sortsA _) eSort (enters_of Tryz.func163 (by kernel_rfl) rfl) hl (keysB (ρ' := Tryz.keysA_ren) { Tryz.keysA with } 7 (by omega) hv hb hs hw hl)
theorem owesB : OwesAt 183 true := fun w b o v l hv hb hs hw hl => sortedOwed Tryz.sortedA (Tryz.sortsA _) eSort (enters_of Tryz.func183 (by kernel_rfl) rfl) hl (keysB (ρ' := Tryz.keysB_ren) { Tryz.keysB with } 7 (by omega) hv hb hs hw hl)
theorem owesC : OwesAt 211 true := fun w b o v l hv hb hs hw hl => sortedOwed Tryz.sortedA (Tryz.sortsA _) eSort (enters_of Tryz.func211 (by kernel_rfl) rfl) hl (keysB (ρ' := Tryz.keysC_ren) { Tryz.keysC with } 7 (by omega) hv hb hs hw hl)
theorem owesD : OwesAt 169 true := fun w b o v l hv hb hs hw hl => sortedOwed Tryz.sortedA (Tryz.sortsA _) eSort (enters_of Tryz.func169 (by kernel_rfl) rfl) hl (keysB (ρ' := Tryz.keysD_ren) { Tryz.keysD with } 7 (by omega) hv hb hs hw hl)
theorem owesE : OwesAt 182 true := fun w b o v l hv hb hs hw hl => sortedOwed Tryz.sortedA (Tryz.sortsA _) eSort (enters_of Tryz.func182 (by kernel_rfl) rfl) hl (keysB (ρ' := Tryz.keysE_ren) { Tryz.keysE with } 7 (by omega) hv hb hs hw hl)
theorem owesV : OwesAt 250 false := fun w b o v l hv hb hs hw hl => sortedOwed Tryz.sortedA (Tryz.sortsA _) eSort (enters_of Tryz.func250 (by kernel_rfl) rfl) hl (valuesB 7 (by omega) hv hb hs hl)

noncomputable def kindV : Nat → Option Bool := fun g => bif Nat.beq g 250 then some false else none
theorem kindV_owes : SortedOwes Tryz.prog 104 3 kindV := owes_more owesV owes_none
noncomputable def kindA : Nat → Option Bool := fun g => bif Nat.beq g 163 then some true else kindV g
theorem kindA_owes : SortedOwes Tryz.prog 104 3 kindA := owes_more owesA kindV_owes
noncomputable def kindB : Nat → Option Bool := fun g => bif Nat.beq g 183 then some true else kindA g
theorem kindB_owes : SortedOwes Tryz.prog 104 3 kindB := owes_more owesB kindA_owes
noncomputable def kindC : Nat → Option Bool := fun g => bif Nat.beq g 211 then some true else kindB g
theorem kindC_owes : SortedOwes Tryz.prog 104 3 kindC := owes_more owesC kindB_owes
noncomputable def kindD : Nat → Option Bool := fun g => bif Nat.beq g 169 then some true else kindC g
theorem kindD_owes : SortedOwes Tryz.prog 104 3 kindD := owes_more owesD kindC_owes
noncomputable def kindE : Nat → Option Bool := fun g => bif Nat.beq g 182 then some true else kindD g
theorem kindE_owes : SortedOwes Tryz.prog 104 3 kindE := owes_more owesE kindD_owes
noncomputable def kindOf : Nat → Option Bool := kindE
theorem sortedOwes : SortedOwes Tryz.prog 104 3 kindOf := kindE_owes

def fSorted : Nat := 104

theorem smSorted : SmOne fSorted (sumSorted kindOf) :=
  ⟨local_sumSorted kindOf, fun args s s' v ι w args' R h1 h2 h3 h4 h5 => sorted_sound ⟨Tryz.f104, _, Tryz.func104, rfl, by kernel_rfl⟩ sortedOwes args s s' v ι w args' R h1 h2 h3 h4 h5⟩
#print axioms smSorted
end Go.Ab.Seat
end
section
/- Law 7's Begun answers true. -/
namespace Go.Ab.Seat
open Go.Extern Go.Proofs
set_option maxRecDepth 1000000

def fBegun7 : Nat := 102

noncomputable def sm7 : Nat → Option (List Value → M Value) := smIns fun f => bif Nat.beq f fSorted then some (sumSorted kindOf) else bif Nat.beq f fBegun4 then some gTrue else bif Nat.beq f fBegun1 then some gTrue else none
noncomputable def C7 : Ctx := Cs sm7
theorem whole7 : C7.Whole eg Tryz.prog 3 := whole _ (smOk _ (smIns_one (one_more smSorted (one_more begun4 (one_more begun1 fun f g hg => by cases hg)))))
theorem run7 : isTrue (callB C7 (exec C7 eg 10000) fBegun7 [] s0) = true := by kernel_rfl
theorem begun7 : SmOne fBegun7 gTrue := known_true fun _ hw => closed_true whole7 run7 hw
#print axioms begun7
end Go.Ab.Seat
end
section
/- Law 13's begun answers true. -/
namespace Go.Ab.Seat
open Go.Extern Go.Proofs
set_option maxRecDepth 1000000

def fBegun13 : Nat := 25

noncomputable def sm13 : Nat → Option (List Value → M Value) := smIns fun f => bif Nat.beq f fSorted then some (sumSorted kindOf) else bif Nat.beq f fBegun7 then some gTrue else bif Nat.beq f fBegun4 then some gTrue else bif Nat.beq f fBegun1 then some gTrue else none
noncomputable def C13 : Ctx := Cs sm13
theorem whole13 : C13.Whole eg Tryz.prog 3 := whole _ (smOk _ (smIns_one (one_more smSorted (one_more begun7 (one_more begun4 (one_more begun1 fun f g hg => by cases hg))))))
theorem run13 : isTrue (callB C13 (exec C13 eg 10000) fBegun13 [] s0) = true := by kernel_rfl
theorem begun13_calls {w : World} (hw : Laid w) : Callable Tryz.prog fBegun13 ∧ Calls Tryz.prog fBegun13 #[] w fun e w' => e = .returned (.bool true) ∧ Left w w' := closed_true whole13 run13 hw
theorem begun13 : SmOne fBegun13 gTrue := known_true fun _ hw => begun13_calls hw
#print axioms begun13
end Go.Ab.Seat
end
section
/- The frame of a law's row: a law that answers true and turns nothing that lay before; what a listed array variable holds. -/
namespace Go.Ab
open Go.ChangeShapes Go.WideShapes Go.RowKit

theorem mapM_each {α β : Type} {f : α → Option β} : ∀ {l : List α} {r : List β}, l.mapM f = some r → l.length = r.length ∧ ∀ (i : Nat) (x : α), l[i]? = some x → ∃ y, r[i]? = some y ∧ f x = some y
  | [], r, h => by
    simp at h
    subst h
    exact ⟨rfl, fun i x hx => by simp at hx⟩
  | a :: l, r, h => by
    rw [List.mapM_cons] at h
    simp only [bind, Option.bind_eq_some_iff, pure, Option.some.injEq] at h
    obtain ⟨y, hy, ys, hys, rfl⟩ := h
    obtain ⟨h1, h2⟩ := mapM_each hys
    refine ⟨by simp [h1], fun i x hx => ?_⟩
    cases i with
    | zero => simp at hx; subst hx; exact ⟨y, by simp, hy⟩
    | succ i => simpa using h2 i x (by simpa using hx)

/-- An array of integers that reads as a datum holds the datum's integers. -/
theorem arr_of_trod {H : Type} {enc : TypeId × Value → H} {P : Program} {w : World} {base : Nat} {sp : Nat → Bool} {held : Bool} {fuel : Nat} {t e n : Nat} {q : IntKind} (hu : P.underlying t = some (.array n e)) (he : P.underlying e = some (.int q)) (hc : P.cellsOf e = 1)
    {cs : List Value} {ds : List (DataW H)} {p : List MemPlace} (h : DataW.trod enc P w base sp held fuel t cs = some (.agg ds, p)) :
    ds.length = n ∧ ∀ (i : Nat) (m : Int), ds[i]? = some (.lit (.int q m)) → cs[i]? = some (.int q m) := by
  cases fuel with
  | zero => simp [DataW.trod] at h
  | succ k =>
    rw [DataW.trod_step] at h
    unfold DataW.trodStep at h
    simp only [hu, hc] at h
    split at h
    · simp only [Option.map_eq_some_iff, Prod.mk.injEq, DataW.agg.injEq] at h
      obtain ⟨xs, hx, rfl, _⟩ := h
      obtain ⟨h1, h2⟩ := mapM_each hx
      simp only [List.length_range] at h1
      refine ⟨by simp [h1], fun i m hm => ?_⟩
      have hi : i < n := by
        rcases Nat.lt_or_ge i n with hh | hh
        · exact hh
        · rw [List.getElem?_eq_none (by simp; omega)] at hm; cases hm
      obtain ⟨y, hy, hty⟩ := h2 i i (by rw [List.getElem?_range hi])
      obtain ⟨a, ha, rfl, _⟩ := DataW.trod_int he hty
      rw [List.getElem?_map, hy] at hm
      simp only [Option.map_some, Option.some.injEq, DataW.lit.injEq, Lit.int.injEq, true_and] at hm
      subst hm
      have h3 : (cs.drop i).take 1 = [.int q a] := by rw [Nat.mul_one] at ha; exact ha
      have h4 : ((cs.drop i).take 1)[0]? = some (.int q a) := by rw [h3]; rfl
      rw [List.getElem?_take_of_lt (by omega), List.getElem?_drop, Nat.add_zero] at h4
      exact h4
    · cases h

section
variable {H : Type} {enc : TypeId × Value → H} {P : Program}

theorem trodAll_len : ∀ {ts : List TypeId} {vs : List Value} {ds : List (DataW H)} {ps : List MemPlace} {w : World} {base : Nat} {sp : Nat → Bool} {held : Bool}, DataW.TrodAll enc P w base sp held ts vs ds ps → ds.length = ts.length ∧ vs.length = ts.length
  | [], [], [], _, _, _, _, _, _ => ⟨rfl, rfl⟩
  | [], [], _ :: _, _, _, _, _, _, h => h.elim
  | [], _ :: _, _, _, _, _, _, _, h => h.elim
  | _ :: _, [], _, _, _, _, _, _, h => h.elim
  | _ :: _, _ :: _, [], _, _, _, _, _, h => h.elim
  | _ :: ts, _ :: vs, _ :: ds, _, _, _, _, _, h => by
    obtain ⟨p, q, _, h2, _⟩ := h
    obtain ⟨a, b⟩ := trodAll_len h2
    exact ⟨by simp [a], by simp [b]⟩

theorem trodAll_below (hl : laidOutB P = true) {W W' : World} (hb : Below W.heap.size W W') : ∀ {ts : List TypeId} {vs : List Value} {ds : List (DataW H)} {ps : List MemPlace}, (∀ t ∈ ts, P.readableRec t = true ∧ t < P.types.size) →
    DataW.TrodAll enc P W 0 (fun _ => true) true ts vs ds ps → DataW.TrodAll enc P W' 0 (fun b => decide (b < W.heap.size)) true ts vs ds ps
  | [], [], [], _, _, h => h
  | [], [], _ :: _, _, _, h => h.elim
  | [], _ :: _, _, _, _, h => h.elim
  | _ :: _, [], _, _, _, h => h.elim
  | _ :: _, _ :: _, [], _, _, h => h.elim
  | t :: ts, _ :: vs, _ :: ds, _, hr, h => by
    have hlt := h.lt
    obtain ⟨p, q, h1, h2, rfl⟩ := h
    obtain ⟨r1, r2⟩ := hr t (List.mem_cons_self ..)
    exact ⟨p, q, Below.trod hl r1 r2 h1 hb (fun x hx => hlt x (List.mem_append_left _ hx)), trodAll_below hl hb (fun t' ht' => hr t' (List.mem_cons_of_mem _ ht')) h2, rfl⟩

/-- A law's row. -/
theorem law_lifts {a : Assume} {C : Checked} {os : Os} {f : FuncId} {fn : Func} {s : ChangeSpec} {conds : List PathCond} {X : World → Array Value → Prop} {tb : TypeId}
    (hX : ∀ (w w' : World) (args : Array Value), w.heap = w'.heap → X w args → X w' args)
    (own : ownKnob C.prog.godebug = none) (started : os.Started) (noInit : C.prog.inits.idxOf? f = none) (hfn : C.prog.funcs[f]? = some fn)
    (witness : ∃ (w : World) (tape : Tape) (i : Input), w.os = os ∧ (w.forCall tape i).Shaped C.prog ∧ i.vars = [] ∧ Input.okWide C.prog (w.forCall tape i) .any w.heap.size f i ∧
      ((s.pre enc C.prog fn conds false (w.forCall tape i).memory i.args ∧ X (w.forCall tape i).memory i.args) ∧ sizedMet enc C.prog fn (OpenSpec.ofChange s) false (w.forCall tape i).memory i.args) ∧ a.holds C.prog (lone (Frame.enter C.prog f i.args .normal) [] (w.forCall tape i)))
    (hl : laidOutB C.prog = true) (hread : ∀ t ∈ fn.params.toList, C.prog.readableRec t = true ∧ t < C.prog.types.size) (hres : fn.resultTypes = #[tb]) (htb : C.prog.underlying tb = some .bool)
    (hs : ∀ ds : List (DataW H), ds.length = fn.params.toList.length → s.fn H (ds ++ []) = { results := [.lit (.bool true)], args := ds }) (hv : s.vars = [])
    (contract : ∀ (W : World) (base : Nat) (args : Array Value) (ds : List (DataW H)) (ps : List MemPlace), W.ShapedOpen C.prog →
      (∀ (j : Nat) t v, fn.params[j]? = some t → args[j]? = some v → Value.okWide C.prog W .any base t v) →
      DataW.TrodAll enc C.prog W 0 (fun _ => true) true fn.params.toList args.toList ds ps →
      (DataW.weightsEach C.prog (fn.params.toList ++ s.plain.varTypes C.prog) (ds ++ [])).all (· ≤ reachBytes) = true → X W args →
      Calls C.prog f args W fun e W' => e = .returned (.bool true) ∧ Below W.heap.size W W') :
    ReturnsInHanded a C os f .any (fun w args => (s.pre enc C.prog fn conds false w args ∧ X w args) ∧ sizedMet enc C.prog fn (OpenSpec.ofChange s) false w args) (s.post enc C.prog fn false true false false) := by
  refine returnsInHanded_of_calls own started noInit witness ?_
  intro w tape i _ hshape _ hok hpre hholds
  obtain ⟨_, _, _, fn', hfn', _, _, _, _, hval⟩ := hok
  have e : fn' = fn := Option.some.inj (hfn'.symm.trans hfn)
  subst e
  obtain ⟨⟨⟨ds, gs, before, hw, hc⟩, hx⟩, hz⟩ := hpre
  have hw' := DataW.Whole.of_heap (w' := w.forCall tape i) (by rfl) hw
  have hwt := hz.weights hw
  have hw0 := hw'
  obtain ⟨p, q, hA, hV, _, _, _⟩ := hw0
  rw [hv] at hV
  have hgs : gs = [] ∧ q = [] := by
    cases gs with
    | nil => exact ⟨rfl, hV⟩
    | cons g r => exact absurd hV (by intro h; cases h)
  obtain ⟨rfl, rfl⟩ := hgs
  refine (contract (w.forCall tape i) w.heap.size i.args ds p hshape hval hA hwt (hX _ _ _ (by rfl) hx)).mono fun e W' ⟨he, hb⟩ => ?_
  subst he
  have hlen := (trodAll_len hA).1
  refine ChangeSpec.post_blind ⟨ds, [], before, [], p, [], hw', ?_, ?_, ?_, Below.frame hb _, fun h => by cases h⟩
  · rw [hs ds hlen, hres]
    exact trodAll_mk1 (shut_bool htb true)
  · rw [hs ds hlen]
    exact trodAll_below hl hb hread hA
  · rw [hs ds hlen, hv]
    rfl

end
end Go.Ab
end
