import Derived.Test.YtcnfbfiakkjabaaGreatDoorE26
import Derived.Test.YtcnfbfiakkjabaaGreatDoorDI2
import Derived.Test.YtcnfbfiakkjabaaGreatDoorE23
import Derived.Test.YtcnfbfiakkjabaaGreatDoorE44
set_option linter.unusedVariables false
set_option linter.unusedSimpArgs false
section
/- A closed call with plain arguments, as a contract. -/
namespace Go.Ab

/-- Values that stand for themselves alone. -/
noncomputable def exact : Nat → Value → Bool
  | 0, _ => false
  | d + 1, v =>
    match v with
    | .bool _ => true
    | .int _ _ => true
    | .string _ => true
    | .pointer none => true
    | .slice none _ _ => true
    | .map none => true
    | .nilIface => true
    | .agg cs => allB (exact d) cs.toList
    | .tuple cs => allB (exact d) cs.toList
    | _ => false

theorem exact_VR {ι : Iota} : ∀ (d : Nat) (v v' : Value), exact d v = true → VR ι v v' → v' = v := by
  intro d
  induction d with
  | zero => intro v v' h; cases h
  | succ d ih =>
    intro v v' h hv
    have key : ∀ (a a' : Array Value), allB (exact d) a.toList = true → a.toList.length = a'.toList.length → (∀ (i : Nat) (x y : Value), a.toList[i]? = some x → a'.toList[i]? = some y → VR ι x y) → a' = a := by
      intro a a' ha hl hr
      rw [allB_eq, List.all_eq_true] at ha
      apply Array.toList_inj.1
      apply List.ext_getElem?
      intro i
      by_cases hi : i < a.toList.length
      · have hi' : i < a'.toList.length := by rw [← hl]; exact hi
        rw [List.getElem?_eq_getElem hi, List.getElem?_eq_getElem hi']
        exact congrArg some (ih _ _ (ha _ (List.getElem_mem hi)) (hr i _ _ (List.getElem?_eq_getElem hi) (List.getElem?_eq_getElem hi')))
      · rw [List.getElem?_eq_none (by omega), List.getElem?_eq_none (by omega)]
    cases hv with
    | bool => rfl
    | int => rfl
    | string => rfl
    | nilPtr => rfl
    | nilSlice => rfl
    | nilMap => rfl
    | nilIface => rfl
    | agg a a' ha ra => rw [key a a' h ha ra]
    | tuple a a' ha ra => rw [key a a' h ha ra]
    | _ => cases h

end Go.Ab
end
section
/- Closed calls with plain arguments: what they give. -/
namespace Go.Ab.Seat
open Go.Extern Go.Proofs Go.RowKit

noncomputable def sameV : Nat → Value → Value → Bool
  | 0, _, _ => false
  | d + 1, a, b =>
    match a, b with
    | .int j x, .int k y => decide (j = k) && decide (x = y)
    | .bool x, .bool y => x == y
    | .agg xs, .agg ys => Nat.beq (len xs.toList) (len ys.toList) && allB (fun p => sameV d p.1 p.2) (xs.toList.zip ys.toList)
    | .tuple xs, .tuple ys => Nat.beq (len xs.toList) (len ys.toList) && allB (fun p => sameV d p.1 p.2) (xs.toList.zip ys.toList)
    | _, _ => false

theorem sameV_exact : ∀ (d : Nat) (a b : Value), sameV d a b = true → a = b ∧ exact d b = true := by
  intro d
  induction d with
  | zero => intro a b h; cases h
  | succ d ih =>
    intro a b h
    have key : ∀ (xs ys : Array Value), (Nat.beq (len xs.toList) (len ys.toList) && allB (fun p => sameV d p.1 p.2) (xs.toList.zip ys.toList)) = true → xs = ys ∧ allB (exact d) ys.toList = true := by
      intro xs ys h
      rw [Bool.and_eq_true, allB_eq, List.all_eq_true] at h
      have hl := beq_iff.1 h.1
      rw [len_eq, len_eq] at hl
      have each : ∀ (i : Nat) (h1 : i < xs.toList.length) (h2 : i < ys.toList.length), xs.toList[i] = ys.toList[i] ∧ exact d ys.toList[i] = true := by
        intro i h1 h2
        refine ih _ _ (h.2 (xs.toList[i], ys.toList[i]) ?_)
        have hz : i < (xs.toList.zip ys.toList).length := by rw [List.length_zip]; omega
        have := List.getElem_mem hz
        rw [List.getElem_zip] at this
        exact this
      refine ⟨Array.toList_inj.1 (List.ext_getElem hl fun i h1 h2 => (each i h1 h2).1), ?_⟩
      rw [allB_eq, List.all_eq_true]
      intro y hy
      obtain ⟨i, hi, rfl⟩ := List.getElem_of_mem hy
      exact (each i (by omega) hi).2
    unfold sameV at h
    split at h
    · simp only [Bool.and_eq_true, decide_eq_true_eq] at h; obtain ⟨rfl, rfl⟩ := h; exact ⟨rfl, rfl⟩
    · rw [beq_iff_eq] at h; rw [h]; exact ⟨rfl, rfl⟩
    · obtain ⟨rfl, h2⟩ := key _ _ h; exact ⟨rfl, h2⟩
    · obtain ⟨rfl, h2⟩ := key _ _ h; exact ⟨rfl, h2⟩
    · cases h

noncomputable def givesV (x : Option (Value × St)) (v : Value) : Bool := match x with | some (r, _) => sameV 5 r v | none => false

/-- A closed call with plain arguments: what the kernel's run gives. -/
theorem closed_gives {C : Ctx} (W : C.Whole eg Tryz.prog 3) {fuel f : Nat} {args : List Value} {v : Value} (h : givesV (callB C (exec C eg fuel) f args s0) v = true) (hf : allB (flat 5) args = true) {w : World} (hl : Laid w) :
    Calls Tryz.prog f args.toArray w fun e w' => e = .returned v ∧ Below w.heap.size w w' := by
  cases hc : callB C (exec C eg fuel) f args s0 with
  | none => rw [hc] at h; cases h
  | some p =>
    obtain ⟨r, s'⟩ := p
    rw [hc] at h
    obtain ⟨rfl, he⟩ := sameV_exact 5 r v h
    rw [allB_eq, List.all_eq_true] at hf
    refine (calls_of_abs W fuel f (args' := args) hc (VRl_flat _ 5 args hf) hl.hr (fun b h1 _ => ?_) fun v' w' ι' hv hp => ?_).2
    · show ι0 w b = none
      have : 3 ≤ b := h1
      exact if_neg (by omega)
    · rw [exact_VR 5 r v' he hv]
      exact ⟨rfl, hp.os, hp.tape, hp.output, hp.size, fun k hk => hp.frame k hk s0_owned⟩

theorem laid_below {w w' : World} (h : Laid w) (hb : Below w.heap.size w w') : Laid w' := h.left ⟨hb.os, hb.tape, hb.output, hb.size, hb.block⟩
end Go.Ab.Seat
end
section
/- The laws' own ground: begun is known; what is known and not run. -/
namespace Go.Ab.Seat
open Go.Extern Go.Proofs
set_option linter.unusedSimpArgs false
set_option linter.unusedVariables false
set_option maxRecDepth 1000000

noncomputable def smQ : Nat → Option (List Value → M Value) := fun f => bif Nat.beq f fInsHit then some gIns else smIns (fun f => bif Nat.beq f fSorted then some (sumSorted kindOf) else bif Nat.beq f fBegun13 then some gTrue else bif Nat.beq f fBegun7 then some gTrue else bif Nat.beq f fBegun4 then some gTrue else bif Nat.beq f fBegun1 then some gTrue else none) f
noncomputable def CQ : Ctx := Cs smQ
theorem wholeQ : CQ.Whole eg Tryz.prog 3 := whole _ (smOk _ (one_more smInsG (smIns_one (one_more smSorted (one_more begun13 (one_more begun7 (one_more begun4 (one_more begun1 fun f g hg => by cases hg))))))))

theorem stdQ : Std smQ := by
  intro f hf
  have h : ∀ k ∈ [9, 43, 150, 234, 49, 135, 155], Nat.beq f k = false := by
    intro k hk
    refine beq_false.2 fun e => ?_
    subst e
    unfold special at hf
    rw [List.contains_eq_mem] at hf
    simp [hk] at hf
  simp only [List.mem_cons, List.not_mem_nil, or_false, forall_eq_or_imp, forall_eq] at h
  obtain ⟨h2, h3, h4, h5, h6, h7, h8⟩ := h
  show (bif Nat.beq f fInsHit then some gIns else smIns _ f) = none
  unfold smIns
  simp only [show Nat.beq f fInsHit = false from h8, show Nat.beq f fInsInt = false from h7, show Nat.beq f fSorted = false from h6, show Nat.beq f fBegun13 = false from h2, show Nat.beq f fBegun7 = false from h3, show Nat.beq f fBegun4 = false from h4, show Nat.beq f fBegun1 = false from h5, cond_false]

theorem eqAll_tab : eqAll tab tab = true := by kernel_rfl

/-- What is laid. -/
structure Glob (h : T AObj) : Prop where
  g0 : Has h 0 (.ro tab)
  g1 : Has h 1 (.ro [rt tErr])

theorem globOk_run {h : T AObj} {c : Nat} {rl wl : List Nat} (hf : Fresh h c) (hg : Glob h) : globOk ⟨h, c, rl, wl⟩ = some ((), ⟨h, c, 1 :: 0 :: rl, wl⟩) := by
  unfold globOk
  rw [bind_run (getCells_run hg.g0.celR (hg.g0.lt hf)), bind_run (getCells_run hg.g1.celR (hg.g1.lt hf))]
  rw [eqAll_tab]
  rfl

theorem begunQ {h : T AObj} {c : Nat} {rl wl : List Nat} (hf : Fresh h c) (hg : Glob h) : ∃ v s', FnTo (Cs smQ) eg 9 [] ⟨h, c, rl, wl⟩ v s' ∧ (v = .bool true ∧ s' = ⟨h, c, 1 :: 0 :: rl, wl⟩) := by
  refine ⟨_, _, FnTo.of_sm (q := gTrue) rfl ?_, rfl, rfl⟩
  show (globOk.bind fun _ => M.ret (Value.bool true)) _ = _
  rw [bind_run (globOk_run hf hg)]; rfl

theorem tmod_lt (n : Int) (c : Int) (hc : 0 < c) : -c < n.tmod c ∧ n.tmod c < c := by
  have h1 : n.tmod c < c := Int.tmod_lt_of_pos n hc
  have h3 := Int.tmod_lt_of_pos (-n) hc
  rw [Int.neg_tmod] at h3
  omega

end Go.Ab.Seat
end
section
/- A store as a list of records that rises by ids (plain lists). -/
namespace Go.Ab
set_option linter.unusedVariables false

/-- What a store has of an id. -/
structure Rc where
  id : Int
  xs : List Value
  pay : ByteArray
  seq : Int
  gone : Bool

def Rises (l : List Rc) : Prop := l.Pairwise fun a b => a.id < b.id

noncomputable def getM (x : Int) : List Rc → Option Rc
  | [] => none
  | r :: l => if r.id = x then some r else getM x l

noncomputable def putM (r : Rc) : List Rc → List Rc
  | [] => [r]
  | y :: l => if r.id < y.id then r :: y :: l else if r.id = y.id then r :: l else y :: putM r l

noncomputable def seqM (x : Int) (l : List Rc) : Int := match getM x l with | some r => r.seq | none => 0
def liveM (l : List Rc) : List Rc := l.filter fun r => !r.gone
def nextM (after : Int) (l : List Rc) : Option Rc := l.find? fun r => decide (after < r.id) && !r.gone
def sweptR (upto : Int) (r : Rc) : Bool := r.gone && decide (r.seq ≤ upto)
def sweepM (upto : Int) (l : List Rc) : List Rc := l.filter fun r => !sweptR upto r

theorem Rises.nil : Rises [] := List.Pairwise.nil
theorem Rises.filter {l : List Rc} (h : Rises l) (p : Rc → Bool) : Rises (l.filter p) := List.Pairwise.filter p h

theorem getM_mem {x : Int} : ∀ {l : List Rc} {r : Rc}, getM x l = some r → r ∈ l ∧ r.id = x
  | [], _, h => by cases h
  | y :: l, r, h => by
    unfold getM at h
    split at h
    · cases h
      exact ⟨List.mem_cons_self .., by assumption⟩
    · exact ⟨List.mem_cons_of_mem _ (getM_mem h).1, (getM_mem h).2⟩

theorem getM_none {x : Int} : ∀ {l : List Rc}, getM x l = none ↔ ∀ r ∈ l, r.id ≠ x
  | [] => ⟨(fun _ r h => by cases h), (fun _ => rfl)⟩
  | y :: l => by
    unfold getM
    by_cases hy : y.id = x
    · rw [if_pos hy]
      exact ⟨(fun h => by cases h), (fun h => absurd hy (h y (List.mem_cons_self ..)))⟩
    · rw [if_neg hy, getM_none]
      constructor
      · intro h r hr
        rcases List.mem_cons.1 hr with rfl | hr
        · exact hy
        · exact h r hr
      · exact fun h r hr => h r (List.mem_cons_of_mem _ hr)

theorem getM_some {x : Int} {l : List Rc} (h : Rises l) {r : Rc} (hr : r ∈ l) (hx : r.id = x) : getM x l = some r := by
  induction l with
  | nil => cases hr
  | cons y l ih =>
    obtain ⟨h1, h2⟩ := List.pairwise_cons.1 h
    unfold getM
    rcases List.mem_cons.1 hr with rfl | hr
    · rw [if_pos hx]
    · have := h1 r hr
      rw [if_neg (by omega)]
      exact ih h2 hr

theorem mem_putM {r x : Rc} : ∀ {l : List Rc}, x ∈ putM r l → x = r ∨ x ∈ l
  | [], h => .inl (List.mem_singleton.1 h)
  | y :: l, h => by
    unfold putM at h
    split at h
    · rcases List.mem_cons.1 h with h | h
      · exact .inl h
      · exact .inr h
    · split at h
      · rcases List.mem_cons.1 h with h | h
        · exact .inl h
        · exact .inr (List.mem_cons_of_mem _ h)
      · rcases List.mem_cons.1 h with h | h
        · exact .inr (h ▸ List.mem_cons_self ..)
        · rcases mem_putM h with h | h
          · exact .inl h
          · exact .inr (List.mem_cons_of_mem _ h)

theorem Rises.put {l : List Rc} (h : Rises l) (r : Rc) : Rises (putM r l) := by
  induction l with
  | nil => exact List.pairwise_singleton ..
  | cons y l ih =>
    obtain ⟨h1, h2⟩ := List.pairwise_cons.1 h
    unfold putM
    split
    · refine List.pairwise_cons.2 ⟨fun z hz => ?_, h⟩
      rcases List.mem_cons.1 hz with rfl | hz
      · assumption
      · have := h1 z hz
        omega
    · split
      · refine List.pairwise_cons.2 ⟨fun z hz => ?_, h2⟩
        have := h1 z hz
        omega
      · refine List.pairwise_cons.2 ⟨fun z hz => ?_, ih h2⟩
        rcases mem_putM hz with rfl | hz
        · omega
        · exact h1 z hz

theorem getM_put {l : List Rc} (r : Rc) (x : Int) : getM x (putM r l) = if r.id = x then some r else getM x l := by
  induction l with
  | nil => unfold putM getM; rfl
  | cons y l ih =>
    unfold putM
    split
    · rw [getM]
    · split
      · rw [getM, getM]
        split
        · rfl
        · rw [if_neg (by omega)]
      · rw [getM, ih, getM]
        by_cases hr : r.id = x
        · rw [if_pos hr, if_neg (by omega), if_pos hr]
        · rw [if_neg hr, if_neg hr]

theorem getM_filter {l : List Rc} (h : Rises l) (p : Rc → Bool) (x : Int) : getM x (l.filter p) = match getM x l with | some r => if p r then some r else none | none => none := by
  cases hg : getM x l with
  | none =>
    exact getM_none.2 fun r hr => getM_none.1 hg r (List.mem_filter.1 hr).1
  | some r =>
    obtain ⟨h1, h2⟩ := getM_mem hg
    simp only
    split
    · exact getM_some (h.filter p) (List.mem_filter.2 ⟨h1, by assumption⟩) h2
    · refine getM_none.2 fun y hy he => ?_
      obtain ⟨h3, h4⟩ := List.mem_filter.1 hy
      have := getM_some h h3 he
      rw [hg] at this
      cases this
      contradiction

/-- Two lists that rise and have the same are the same. -/
theorem rises_ext : ∀ {a b : List Int}, a.Pairwise (fun x y => x < y) → b.Pairwise (fun x y => x < y) → (∀ x, x ∈ a ↔ x ∈ b) → a = b
  | [], [], _, _, _ => rfl
  | [], y :: b, _, _, h => by cases (h y).2 (List.mem_cons_self ..)
  | x :: a, [], _, _, h => by cases (h x).1 (List.mem_cons_self ..)
  | x :: a, y :: b, ha, hb, h => by
    obtain ⟨a1, a2⟩ := List.pairwise_cons.1 ha
    obtain ⟨b1, b2⟩ := List.pairwise_cons.1 hb
    have hxy : x = y := by
      have h1 := (h x).1 (List.mem_cons_self ..)
      have h2 := (h y).2 (List.mem_cons_self ..)
      rcases List.mem_cons.1 h1 with h1 | h1
      · exact h1
      · rcases List.mem_cons.1 h2 with h2 | h2
        · exact h2.symm
        · have := a1 y h2
          have := b1 x h1
          omega
    subst hxy
    rw [rises_ext a2 b2 fun z => ?_]
    constructor
    · intro hz
      rcases List.mem_cons.1 ((h z).1 (List.mem_cons_of_mem _ hz)) with rfl | h1
      · have := a1 z hz
        omega
      · exact h1
    · intro hz
      rcases List.mem_cons.1 ((h z).2 (List.mem_cons_of_mem _ hz)) with rfl | h1
      · have := b1 z hz
        omega
      · exact h1

theorem sortI_rises {l : List Int} (h : l.Nodup) : (sortI l).Pairwise fun x y => x < y := by
  have h1 := sortI_sorted l
  have h2 : (sortI l).Nodup := (sortI_perm l).nodup_iff.2 h
  have := List.pairwise_and_iff.2 ⟨h1, h2⟩
  exact this.imp fun {a b} h => by have := h.1; have := h.2; omega

theorem Rises.ids {l : List Rc} (h : Rises l) : (l.map Rc.id).Pairwise fun x y => x < y := List.pairwise_map.2 h

/-- Ids of a small range are few. -/
theorem rises_len {n : Int} : ∀ {l : List Int} {lo : Int}, l.Pairwise (fun x y => x < y) → (∀ x ∈ l, lo ≤ x ∧ x ≤ n) → 0 ≤ n + 1 - lo → (l.length : Int) ≤ n + 1 - lo
  | [], _, _, _, h => by simpa using h
  | x :: l, lo, h, hl, h0 => by
    obtain ⟨h1, h2⟩ := List.pairwise_cons.1 h
    have hx := hl x (List.mem_cons_self ..)
    have := rises_len (n := n) (lo := x + 1) h2 (fun y hy => ⟨by have := h1 y hy; omega, (hl y (List.mem_cons_of_mem _ hy)).2⟩) (by omega)
    rw [List.length_cons]
    omega

theorem sweepM_len (upto : Int) (l : List Rc) : (sweepM upto l).length + (l.filter (sweptR upto)).length = l.length := by
  unfold sweepM
  induction l with
  | nil => rfl
  | cons y l ih =>
    rw [List.filter_cons, List.filter_cons, List.length_cons]
    cases sweptR upto y <;> simp <;> omega
end Go.Ab
end
section
/- Maps by ints: their keys are apart; what put and del make of them (plain lists). -/
namespace Go.Ab.Seat
open Go.Extern Go.Proofs
set_option linter.unusedVariables false

theorem mapA_eq {α β : Type} (f : α → β) (l : List α) : mapA f l = l.map f := by
  induction l with
  | nil => rfl
  | cons x xs ih => show f x :: mapA f xs = _; rw [ih]; rfl

theorem nodup_apartI {l : List Int} (h : l.Nodup) : apartI l = true := by
  induction l with
  | nil => rfl
  | cons x xs ih =>
    obtain ⟨h1, h2⟩ := List.nodup_cons.1 h
    rw [apartI_cons]
    cases hm : memI x xs with
    | true => exact absurd ((memI_eq x xs).1 hm) h1
    | false => exact ih h2

theorem nodup_apartN {l : List Nat} (h : l.Nodup) : apartN l = true := by
  induction l with
  | nil => rfl
  | cons x xs ih =>
    obtain ⟨h1, h2⟩ := List.nodup_cons.1 h
    rw [apartN_cons]
    cases hm : mem x xs with
    | true => exact absurd ((mem_eq x xs).1 hm) h1
    | false => exact ih h2

/-- A map keyed by ints, its ids. -/
structure Keyed (es : List (Value × Value × Nat)) (n : Nat) (ids : List Int) : Prop where
  keys : es.map (fun e => e.1) = ids.map (Value.int .i64)
  nodup : ids.Nodup
  born : (es.map fun e => e.2.2).Nodup
  lt : ∀ e ∈ es, e.2.2 < n
  wf : ∀ x ∈ ids, wfI x = true

theorem Keyed.nil (n : Nat) : Keyed [] n [] := ⟨rfl, .nil, .nil, (fun e he => by cases he), (fun x hx => by cases hx)⟩

theorem intsOf_ints {ids : List Int} (h : ∀ x ∈ ids, wfI x = true) : intsOf (ids.map (Value.int .i64)) = some ids := by
  induction ids with
  | nil => rfl
  | cons x xs ih =>
    rw [List.map_cons, intsOf_cons, ih fun y hy => h y (List.mem_cons_of_mem _ hy)]
    have : intOf1 (.int .i64 x) = some x := by
      unfold intOf1
      simp only [h x (List.mem_cons_self ..)]
    rw [this]

theorem Keyed.keyInts {es : List (Value × Value × Nat)} {n : Nat} {ids : List Int} (k : Keyed es n ids) : Go.Ab.keyInts es n = some ids := by
  unfold Go.Ab.keyInts
  rw [mapA_eq, k.keys, intsOf_ints k.wf]
  have h3 : allB (fun e : Value × Value × Nat => Nat.blt e.2.2 n) es = true := by
    rw [allB_eq, List.all_eq_true]
    intro e he
    have := k.lt e he
    exact blt_iff.2 this
  rw [mapA_eq]
  simp only [nodup_apartI k.nodup, nodup_apartN k.born, h3]
  rfl

theorem findI_none_iff {x : Int} : ∀ {es : List (Value × Value × Nat)} {ids : List Int}, es.map (fun e => e.1) = ids.map (Value.int .i64) → (findI x es = none ↔ x ∉ ids)
  | [], [], _ => ⟨(fun _ h => by cases h), (fun _ => rfl)⟩
  | [], _ :: _, h => by cases h
  | _ :: _, [], h => by cases h
  | (a, v, b) :: es, y :: ids, h => by
    simp only [List.map_cons, List.cons.injEq] at h
    obtain ⟨rfl, h⟩ := h
    have ih := findI_none_iff (x := x) h
    unfold findI
    by_cases hxy : x = y
    · rw [if_pos hxy]
      exact ⟨(fun h => by cases h), (fun h => absurd (by rw [hxy]; exact List.mem_cons_self ..) h)⟩
    · rw [if_neg hxy, Option.map_eq_none_iff, ih, List.mem_cons]
      exact ⟨fun h1 h2 => h2.elim hxy h1, fun h1 h2 => h1 (.inr h2)⟩

theorem findI_some_get {x : Int} : ∀ {es : List (Value × Value × Nat)} {ids : List Int} {i : Nat} {v : Value}, es.map (fun e => e.1) = ids.map (Value.int .i64) → findI x es = some (i, v) → ids[i]? = some x ∧ ∃ b, es[i]? = some (.int .i64 x, v, b)
  | [], _, _, _, _, h => by cases h
  | _ :: _, [], _, _, h, _ => by cases h
  | (a, w, b) :: es, y :: ids, i, v, h, hf => by
    simp only [List.map_cons, List.cons.injEq] at h
    obtain ⟨rfl, h⟩ := h
    unfold findI at hf
    by_cases hxy : x = y
    · rw [if_pos hxy] at hf
      cases hf
      subst hxy
      exact ⟨rfl, b, rfl⟩
    · rw [if_neg hxy, Option.map_eq_some_iff] at hf
      obtain ⟨p, hp, he⟩ := hf
      cases he
      obtain ⟨h1, b', h2⟩ := findI_some_get h hp
      exact ⟨by simpa using h1, b', by simpa using h2⟩

theorem Keyed.find {es : List (Value × Value × Nat)} {n : Nat} {ids : List Int} (k : Keyed es n ids) {x : Int} (hx : x ∈ ids) : ∃ i v b, findI x es = some (i, v) ∧ es[i]? = some (.int .i64 x, v, b) := by
  cases hf : findI x es with
  | none => exact absurd hx ((findI_none_iff k.keys).1 hf)
  | some p =>
    obtain ⟨i, v⟩ := p
    obtain ⟨_, b, h2⟩ := findI_some_get k.keys hf
    exact ⟨i, v, b, rfl, h2⟩

theorem modA_keys {x : Int} {v : Value} : ∀ {es : List (Value × Value × Nat)} {ids : List Int} {i : Nat}, es.map (fun e => e.1) = ids.map (Value.int .i64) → ids[i]? = some x → (modA (.int .i64 x) v es i).map (fun e => e.1) = ids.map (Value.int .i64) ∧ (modA (.int .i64 x) v es i).map (fun e => e.2.2) = es.map (fun e => e.2.2)
  | [], [], _, _, h => by cases h
  | [], _ :: _, _, h, _ => by cases h
  | _ :: _, [], _, h, _ => by cases h
  | (a, w, b) :: es, y :: ids, 0, h, hi => by
    simp only [List.map_cons, List.cons.injEq] at h
    obtain ⟨rfl, h⟩ := h
    cases hi
    exact ⟨by simp only [modA, List.map_cons, h], rfl⟩
  | (a, w, b) :: es, y :: ids, i + 1, h, hi => by
    simp only [List.map_cons, List.cons.injEq] at h
    obtain ⟨rfl, h⟩ := h
    obtain ⟨h1, h2⟩ := modA_keys (v := v) h (by simpa using hi)
    exact ⟨by simp only [modA, List.map_cons, h1], by simp only [modA, List.map_cons, h2]⟩

/-- The ids after a put. -/
def putIds (x : Int) (ids : List Int) : List Int := if x ∈ ids then ids else ids ++ [x]

theorem Keyed.put {es : List (Value × Value × Nat)} {n : Nat} {ids : List Int} (k : Keyed es n ids) {x : Int} (hw : wfI x = true) (v : Value) : Keyed (putI .i64 x v n es).1 (putI .i64 x v n es).2 (putIds x ids) := by
  unfold putI putIds
  cases hf : findI x es with
  | none =>
    have hx := (findI_none_iff k.keys).1 hf
    rw [if_neg hx]
    refine ⟨by simp [k.keys], ?_, ?_, ?_, ?_⟩
    · exact List.nodup_append.2 ⟨k.nodup, List.nodup_cons.2 ⟨List.not_mem_nil, .nil⟩, fun a ha b hb => by
        obtain rfl := List.mem_singleton.1 hb
        rintro rfl
        exact hx ha⟩
    · rw [List.map_append]
      refine List.nodup_append.2 ⟨k.born, List.nodup_cons.2 ⟨List.not_mem_nil, .nil⟩, fun a ha b hb => ?_⟩
      obtain rfl := List.mem_singleton.1 hb
      obtain ⟨e, he, rfl⟩ := List.mem_map.1 ha
      have := k.lt e he
      omega
    · intro e he
      rcases List.mem_append.1 he with he | he
      · have := k.lt e he
        show e.2.2 < n + 1
        omega
      · obtain rfl := List.mem_singleton.1 he
        exact Nat.lt_succ_self n
    · intro y hy
      rcases List.mem_append.1 hy with hy | hy
      · exact k.wf y hy
      · obtain rfl := List.mem_singleton.1 hy
        exact hw
  | some p =>
    obtain ⟨i, w⟩ := p
    obtain ⟨h1, b, h2⟩ := findI_some_get k.keys hf
    rw [if_pos (List.mem_of_getElem? h1)]
    obtain ⟨h3, h4⟩ := modA_keys (v := v) k.keys h1
    refine ⟨h3, k.nodup, by rw [h4]; exact k.born, fun e he => ?_, k.wf⟩
    have : e.2.2 ∈ (modA (.int .i64 x) v es i).map fun e => e.2.2 := List.mem_map_of_mem he
    rw [h4] at this
    obtain ⟨e', he', h5⟩ := List.mem_map.1 this
    rw [← h5]
    exact k.lt e' he'

theorem Keyed.del {es : List (Value × Value × Nat)} {n : Nat} {ids : List Int} (k : Keyed es n ids) (x : Int) : ∃ ids', Keyed (delI x es) n ids' ∧ (∀ y, y ∈ ids' ↔ y ∈ ids ∧ y ≠ x) ∧ ids'.length = (if x ∈ ids then ids.length - 1 else ids.length) := by
  unfold delI
  cases hf : findI x es with
  | none =>
    have hx := (findI_none_iff k.keys).1 hf
    exact ⟨ids, k, fun y => ⟨fun h => ⟨h, fun e => hx (e ▸ h)⟩, fun h => h.1⟩, by rw [if_neg hx]⟩
  | some p =>
    obtain ⟨i, w⟩ := p
    obtain ⟨h1, b, h2⟩ := findI_some_get k.keys hf
    have hi := (List.getElem?_eq_some_iff.1 h1).1
    simp only
    rw [eraseA_eq]
    have hsub : (ids.eraseIdx i).Sublist ids := List.eraseIdx_sublist ids i
    have hsube : (es.eraseIdx i).Sublist es := List.eraseIdx_sublist es i
    refine ⟨ids.eraseIdx i, ⟨?_, k.nodup.sublist hsub, k.born.sublist (hsube.map _), fun e he => k.lt e (hsube.subset he), fun y hy => k.wf y (hsub.subset hy)⟩, fun y => ?_, ?_⟩
    · have hm : ∀ {α β : Type} (f : α → β) (l : List α) (i : Nat), (l.eraseIdx i).map f = (l.map f).eraseIdx i := by
        intro α β f l
        induction l with
        | nil => intro i; rfl
        | cons a l ih =>
          intro i
          cases i with
          | zero => rfl
          | succ i => simp only [List.eraseIdx_cons_succ, List.map_cons, ih]
      rw [hm, k.keys, ← hm]
    · rw [List.mem_eraseIdx_iff_getElem?]
      constructor
      · rintro ⟨j, hj, hy⟩
        refine ⟨List.mem_of_getElem? hy, ?_⟩
        rintro rfl
        obtain ⟨hj1, hj2⟩ := List.getElem?_eq_some_iff.1 hy
        obtain ⟨hi1, hi2⟩ := List.getElem?_eq_some_iff.1 h1
        exact hj ((List.getElem_inj k.nodup).1 (hj2.trans hi2.symm))
      · rintro ⟨hy, hne⟩
        obtain ⟨j, hj⟩ := List.mem_iff_getElem?.1 hy
        refine ⟨j, ?_, hj⟩
        rintro rfl
        rw [h1] at hj
        cases hj
        exact hne rfl
    · rw [if_pos (List.mem_of_getElem? h1), List.length_eraseIdx_of_lt hi]

noncomputable def valI (x : Int) (es : List (Value × Value × Nat)) : Option Value := (findI x es).map fun p => p.2

theorem valI_none {x : Int} {es : List (Value × Value × Nat)} : valI x es = none ↔ findI x es = none := by unfold valI; exact Option.map_eq_none_iff
theorem valI_some {x : Int} {es : List (Value × Value × Nat)} {v : Value} (h : valI x es = some v) : ∃ i, findI x es = some (i, v) := by
  unfold valI at h
  obtain ⟨⟨i, w⟩, h1, h2⟩ := Option.map_eq_some_iff.1 h
  cases h2
  exact ⟨i, h1⟩

theorem valI_cons (x : Int) (k v : Value) (b : Nat) (es : List (Value × Value × Nat)) (y : Int) (hk : k = .int .i64 y) : valI x ((k, v, b) :: es) = if x = y then some v else valI x es := by
  subst hk
  unfold valI
  rw [findI]
  by_cases h : x = y
  · rw [if_pos h, if_pos h]; rfl
  · rw [if_neg h, if_neg h]
    cases findI x es <;> rfl

theorem valI_app (x y : Int) (v : Value) (b : Nat) : ∀ {es : List (Value × Value × Nat)} {ids : List Int}, es.map (fun e => e.1) = ids.map (Value.int .i64) → y ∉ ids → valI x (es ++ [(.int .i64 y, v, b)]) = if x = y then some v else valI x es
  | [], _, _, _ => by rw [List.nil_append, valI_cons x _ v b [] y rfl]
  | (k, w, b') :: es, [], h, _ => by cases h
  | (k, w, b') :: es, z :: ids, h, hy => by
    simp only [List.map_cons, List.cons.injEq] at h
    obtain ⟨h1, h2⟩ := h
    rw [List.cons_append, valI_cons x k w b' _ z h1, valI_cons x k w b' _ z h1, valI_app x y v b h2 fun q => hy (List.mem_cons_of_mem _ q)]
    by_cases hz : x = z
    · rw [if_pos hz, if_pos hz, if_neg fun e => hy (by rw [← e, hz]; exact List.mem_cons_self ..)]
    · rw [if_neg hz, if_neg hz]

theorem valI_mod (x y : Int) (v : Value) : ∀ {es : List (Value × Value × Nat)} {ids : List Int} {i : Nat}, es.map (fun e => e.1) = ids.map (Value.int .i64) → ids.Nodup → ids[i]? = some y → valI x (modA (.int .i64 y) v es i) = if x = y then some v else valI x es
  | [], [], _, _, _, h => by cases h
  | [], _ :: _, _, h, _, _ => by cases h
  | _ :: _, [], _, h, _, _ => by cases h
  | (k, w, b) :: es, z :: ids, 0, h, hn, hi => by
    simp only [List.map_cons, List.cons.injEq] at h
    cases hi
    show valI x ((.int .i64 y, v, b) :: es) = _
    rw [valI_cons x _ v b es y rfl, valI_cons x k w b es y h.1]
    by_cases hz : x = y
    · rw [if_pos hz, if_pos hz]
    · rw [if_neg hz, if_neg hz, if_neg hz]
  | (k, w, b) :: es, z :: ids, i + 1, h, hn, hi => by
    simp only [List.map_cons, List.cons.injEq] at h
    obtain ⟨h1, h2⟩ := h
    obtain ⟨n1, n2⟩ := List.nodup_cons.1 hn
    have hi' : ids[i]? = some y := by simpa using hi
    show valI x ((k, w, b) :: modA (.int .i64 y) v es i) = _
    rw [valI_cons x k w b _ z h1, valI_cons x k w b es z h1, valI_mod x y v h2 n2 hi']
    by_cases hz : x = z
    · rw [if_pos hz, if_pos hz, if_neg fun e => n1 (by rw [← hz, e]; exact List.mem_of_getElem? hi')]
    · rw [if_neg hz, if_neg hz]

theorem valI_put {es : List (Value × Value × Nat)} {n : Nat} {ids : List Int} (k : Keyed es n ids) (x y : Int) (v : Value) : valI x (putI .i64 y v n es).1 = if x = y then some v else valI x es := by
  unfold putI
  cases hf : findI y es with
  | none => exact valI_app x y v n k.keys ((findI_none_iff k.keys).1 hf)
  | some p =>
    obtain ⟨i, w⟩ := p
    exact valI_mod x y v k.keys k.nodup (findI_some_get k.keys hf).1

theorem valI_erase (x y : Int) : ∀ {es : List (Value × Value × Nat)} {ids : List Int} {i : Nat}, es.map (fun e => e.1) = ids.map (Value.int .i64) → ids.Nodup → ids[i]? = some y → valI x (es.eraseIdx i) = if x = y then none else valI x es
  | [], [], _, _, _, h => by cases h
  | [], _ :: _, _, h, _, _ => by cases h
  | _ :: _, [], _, h, _, _ => by cases h
  | (k, w, b) :: es, z :: ids, 0, h, hn, hi => by
    simp only [List.map_cons, List.cons.injEq] at h
    cases hi
    obtain ⟨n1, n2⟩ := List.nodup_cons.1 hn
    rw [List.eraseIdx_cons_zero, valI_cons x k w b es y h.1]
    by_cases hz : x = y
    · rw [if_pos hz, hz]
      exact valI_none.2 ((findI_none_iff h.2).2 n1)
    · rw [if_neg hz, if_neg hz]
  | (k, w, b) :: es, z :: ids, i + 1, h, hn, hi => by
    simp only [List.map_cons, List.cons.injEq] at h
    obtain ⟨h1, h2⟩ := h
    obtain ⟨n1, n2⟩ := List.nodup_cons.1 hn
    have hi' : ids[i]? = some y := by simpa using hi
    rw [List.eraseIdx_cons_succ, valI_cons x k w b _ z h1, valI_cons x k w b es z h1, valI_erase x y h2 n2 hi']
    by_cases hz : x = z
    · rw [if_pos hz, if_pos hz, if_neg fun e => n1 (by rw [← hz, e]; exact List.mem_of_getElem? hi')]
    · rw [if_neg hz, if_neg hz]

theorem valI_del {es : List (Value × Value × Nat)} {n : Nat} {ids : List Int} (k : Keyed es n ids) (x y : Int) : valI x (delI y es) = if x = y then none else valI x es := by
  unfold delI
  cases hf : findI y es with
  | none =>
    by_cases hz : x = y
    · rw [if_pos hz, hz]
      exact valI_none.2 hf
    · rw [if_neg hz]
  | some p =>
    obtain ⟨i, w⟩ := p
    simp only
    rw [eraseA_eq]
    exact valI_erase x y k.keys k.nodup (findI_some_get k.keys hf).1


theorem Keyed.ks {es : List (Value × Value × Nat)} {n : Nat} {ids : List Int} (k : Keyed es n ids) : KeysI .i64 es := fun p hp => by
  have : p.1 ∈ es.map fun e => e.1 := List.mem_map_of_mem hp
  rw [k.keys] at this
  obtain ⟨y, _, hy⟩ := List.mem_map.1 this
  exact ⟨y, hy.symm⟩
end Go.Ab.Seat
end
