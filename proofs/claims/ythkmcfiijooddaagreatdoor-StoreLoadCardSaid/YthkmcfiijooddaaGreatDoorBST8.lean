import Derived.Test.YthkmcfiijooddaaGreatDoorBST6
import Derived.Test.YthkmcfiijooddaaGreatDoorE23
set_option linter.unusedVariables false
set_option linter.unusedSimpArgs false
section
/- A store's map: its keys are apart; what put and del make of them (plain lists). -/
namespace Go.Ab.Seat
open Go.Extern Go.Proofs
set_option linter.unusedVariables false

theorem nodup_apartI {l : List Int} (h : l.Nodup) : apartI l = true := by
  induction l with
  | nil => rfl
  | cons x xs ih =>
    obtain ⟨h1, h2⟩ := List.nodup_cons.1 h
    rw [apartI_cons]
    cases hm : memI x xs with
    | true => exact absurd ((memI_eq x xs).1 hm) h1
    | false => exact ih h2

theorem nodup_apartN {l : List Nat} (h : l.Nodup) : apartN l = true := by
  induction l with
  | nil => rfl
  | cons x xs ih =>
    obtain ⟨h1, h2⟩ := List.nodup_cons.1 h
    rw [apartN_cons]
    cases hm : mem x xs with
    | true => exact absurd ((mem_eq x xs).1 hm) h1
    | false => exact ih h2

/-- A map keyed by ints, its ids. -/
structure Keyed (es : List (Value × Value × Nat)) (n : Nat) (ids : List Int) : Prop where
  keys : es.map (fun e => e.1) = ids.map (Value.int .i64)
  nodup : ids.Nodup
  born : (es.map fun e => e.2.2).Nodup
  lt : ∀ e ∈ es, e.2.2 < n
  wf : ∀ x ∈ ids, wfI x = true

theorem Keyed.nil (n : Nat) : Keyed [] n [] := ⟨rfl, .nil, .nil, (fun e he => by cases he), (fun x hx => by cases hx)⟩

theorem intsOf_ints {ids : List Int} (h : ∀ x ∈ ids, wfI x = true) : intsOf (ids.map (Value.int .i64)) = some ids := by
  induction ids with
  | nil => rfl
  | cons x xs ih =>
    rw [List.map_cons, intsOf_cons, ih fun y hy => h y (List.mem_cons_of_mem _ hy)]
    have : intOf1 (.int .i64 x) = some x := by
      unfold intOf1
      simp only [h x (List.mem_cons_self ..)]
    rw [this]

theorem Keyed.keyInts {es : List (Value × Value × Nat)} {n : Nat} {ids : List Int} (k : Keyed es n ids) : Go.Ab.keyInts es n = some ids := by
  unfold Go.Ab.keyInts
  rw [mapA_eq, k.keys, intsOf_ints k.wf]
  have h3 : allB (fun e : Value × Value × Nat => Nat.blt e.2.2 n) es = true := by
    rw [allB_eq, List.all_eq_true]
    intro e he
    have := k.lt e he
    exact blt_iff.2 this
  rw [mapA_eq]
  simp only [nodup_apartI k.nodup, nodup_apartN k.born, h3]
  rfl

theorem findI_none_iff {x : Int} : ∀ {es : List (Value × Value × Nat)} {ids : List Int}, es.map (fun e => e.1) = ids.map (Value.int .i64) → (findI x es = none ↔ x ∉ ids)
  | [], [], _ => ⟨(fun _ h => by cases h), (fun _ => rfl)⟩
  | [], _ :: _, h => by cases h
  | _ :: _, [], h => by cases h
  | (a, v, b) :: es, y :: ids, h => by
    simp only [List.map_cons, List.cons.injEq] at h
    obtain ⟨rfl, h⟩ := h
    have ih := findI_none_iff (x := x) h
    unfold findI
    by_cases hxy : x = y
    · rw [if_pos hxy]
      exact ⟨(fun h => by cases h), (fun h => absurd (by rw [hxy]; exact List.mem_cons_self ..) h)⟩
    · rw [if_neg hxy, Option.map_eq_none_iff, ih, List.mem_cons]
      exact ⟨fun h1 h2 => h2.elim hxy h1, fun h1 h2 => h1 (.inr h2)⟩

theorem findI_some_get {x : Int} : ∀ {es : List (Value × Value × Nat)} {ids : List Int} {i : Nat} {v : Value}, es.map (fun e => e.1) = ids.map (Value.int .i64) → findI x es = some (i, v) → ids[i]? = some x ∧ ∃ b, es[i]? = some (.int .i64 x, v, b)
  | [], _, _, _, _, h => by cases h
  | _ :: _, [], _, _, h, _ => by cases h
  | (a, w, b) :: es, y :: ids, i, v, h, hf => by
    simp only [List.map_cons, List.cons.injEq] at h
    obtain ⟨rfl, h⟩ := h
    unfold findI at hf
    by_cases hxy : x = y
    · rw [if_pos hxy] at hf
      cases hf
      subst hxy
      exact ⟨rfl, b, rfl⟩
    · rw [if_neg hxy, Option.map_eq_some_iff] at hf
      obtain ⟨p, hp, he⟩ := hf
      cases he
      obtain ⟨h1, b', h2⟩ := findI_some_get h hp
      exact ⟨by simpa using h1, b', by simpa using h2⟩

theorem Keyed.find {es : List (Value × Value × Nat)} {n : Nat} {ids : List Int} (k : Keyed es n ids) {x : Int} (hx : x ∈ ids) : ∃ i v b, findI x es = some (i, v) ∧ es[i]? = some (.int .i64 x, v, b) := by
  cases hf : findI x es with
  | none => exact absurd hx ((findI_none_iff k.keys).1 hf)
  | some p =>
    obtain ⟨i, v⟩ := p
    obtain ⟨_, b, h2⟩ := findI_some_get k.keys hf
    exact ⟨i, v, b, rfl, h2⟩

theorem modA_keys {x : Int} {v : Value} : ∀ {es : List (Value × Value × Nat)} {ids : List Int} {i : Nat}, es.map (fun e => e.1) = ids.map (Value.int .i64) → ids[i]? = some x → (modA (.int .i64 x) v es i).map (fun e => e.1) = ids.map (Value.int .i64) ∧ (modA (.int .i64 x) v es i).map (fun e => e.2.2) = es.map (fun e => e.2.2)
  | [], [], _, _, h => by cases h
  | [], _ :: _, _, h, _ => by cases h
  | _ :: _, [], _, h, _ => by cases h
  | (a, w, b) :: es, y :: ids, 0, h, hi => by
    simp only [List.map_cons, List.cons.injEq] at h
    obtain ⟨rfl, h⟩ := h
    cases hi
    exact ⟨by simp only [modA, List.map_cons, h], rfl⟩
  | (a, w, b) :: es, y :: ids, i + 1, h, hi => by
    simp only [List.map_cons, List.cons.injEq] at h
    obtain ⟨rfl, h⟩ := h
    obtain ⟨h1, h2⟩ := modA_keys (v := v) h (by simpa using hi)
    exact ⟨by simp only [modA, List.map_cons, h1], by simp only [modA, List.map_cons, h2]⟩

/-- The ids after a put. -/
def putIds (x : Int) (ids : List Int) : List Int := if x ∈ ids then ids else ids ++ [x]

theorem Keyed.put {es : List (Value × Value × Nat)} {n : Nat} {ids : List Int} (k : Keyed es n ids) {x : Int} (hw : wfI x = true) (v : Value) : Keyed (putI .i64 x v n es).1 (putI .i64 x v n es).2 (putIds x ids) := by
  unfold putI putIds
  cases hf : findI x es with
  | none =>
    have hx := (findI_none_iff k.keys).1 hf
    rw [if_neg hx]
    refine ⟨by simp [k.keys], ?_, ?_, ?_, ?_⟩
    · exact List.nodup_append.2 ⟨k.nodup, List.nodup_cons.2 ⟨List.not_mem_nil, .nil⟩, fun a ha b hb => by
        obtain rfl := List.mem_singleton.1 hb
        rintro rfl
        exact hx ha⟩
    · rw [List.map_append]
      refine List.nodup_append.2 ⟨k.born, List.nodup_cons.2 ⟨List.not_mem_nil, .nil⟩, fun a ha b hb => ?_⟩
      obtain rfl := List.mem_singleton.1 hb
      obtain ⟨e, he, rfl⟩ := List.mem_map.1 ha
      have := k.lt e he
      omega
    · intro e he
      rcases List.mem_append.1 he with he | he
      · have := k.lt e he
        show e.2.2 < n + 1
        omega
      · obtain rfl := List.mem_singleton.1 he
        exact Nat.lt_succ_self n
    · intro y hy
      rcases List.mem_append.1 hy with hy | hy
      · exact k.wf y hy
      · obtain rfl := List.mem_singleton.1 hy
        exact hw
  | some p =>
    obtain ⟨i, w⟩ := p
    obtain ⟨h1, b, h2⟩ := findI_some_get k.keys hf
    rw [if_pos (List.mem_of_getElem? h1)]
    obtain ⟨h3, h4⟩ := modA_keys (v := v) k.keys h1
    refine ⟨h3, k.nodup, by rw [h4]; exact k.born, fun e he => ?_, k.wf⟩
    have : e.2.2 ∈ (modA (.int .i64 x) v es i).map fun e => e.2.2 := List.mem_map_of_mem he
    rw [h4] at this
    obtain ⟨e', he', h5⟩ := List.mem_map.1 this
    rw [← h5]
    exact k.lt e' he'

theorem Keyed.del {es : List (Value × Value × Nat)} {n : Nat} {ids : List Int} (k : Keyed es n ids) (x : Int) : ∃ ids', Keyed (delI x es) n ids' ∧ (∀ y, y ∈ ids' ↔ y ∈ ids ∧ y ≠ x) ∧ ids'.length = (if x ∈ ids then ids.length - 1 else ids.length) := by
  unfold delI
  cases hf : findI x es with
  | none =>
    have hx := (findI_none_iff k.keys).1 hf
    exact ⟨ids, k, fun y => ⟨fun h => ⟨h, fun e => hx (e ▸ h)⟩, fun h => h.1⟩, by rw [if_neg hx]⟩
  | some p =>
    obtain ⟨i, w⟩ := p
    obtain ⟨h1, b, h2⟩ := findI_some_get k.keys hf
    have hi := (List.getElem?_eq_some_iff.1 h1).1
    simp only
    rw [eraseA_eq]
    have hsub : (ids.eraseIdx i).Sublist ids := List.eraseIdx_sublist ids i
    have hsube : (es.eraseIdx i).Sublist es := List.eraseIdx_sublist es i
    refine ⟨ids.eraseIdx i, ⟨?_, k.nodup.sublist hsub, k.born.sublist (hsube.map _), fun e he => k.lt e (hsube.subset he), fun y hy => k.wf y (hsub.subset hy)⟩, fun y => ?_, ?_⟩
    · have hm : ∀ {α β : Type} (f : α → β) (l : List α) (i : Nat), (l.eraseIdx i).map f = (l.map f).eraseIdx i := by
        intro α β f l
        induction l with
        | nil => intro i; rfl
        | cons a l ih =>
          intro i
          cases i with
          | zero => rfl
          | succ i => simp only [List.eraseIdx_cons_succ, List.map_cons, ih]
      rw [hm, k.keys, ← hm]
    · rw [List.mem_eraseIdx_iff_getElem?]
      constructor
      · rintro ⟨j, hj, hy⟩
        refine ⟨List.mem_of_getElem? hy, ?_⟩
        rintro rfl
        obtain ⟨hj1, hj2⟩ := List.getElem?_eq_some_iff.1 hy
        obtain ⟨hi1, hi2⟩ := List.getElem?_eq_some_iff.1 h1
        exact hj ((List.getElem_inj k.nodup).1 (hj2.trans hi2.symm))
      · rintro ⟨hy, hne⟩
        obtain ⟨j, hj⟩ := List.mem_iff_getElem?.1 hy
        refine ⟨j, ?_, hj⟩
        rintro rfl
        rw [h1] at hj
        cases hj
        exact hne rfl
    · rw [if_pos (List.mem_of_getElem? h1), List.length_eraseIdx_of_lt hi]

/-- A store's items in order. -/
theorem StoreR.items {h : T AObj} {p m n : Nat} {es : List (Value × Value × Nat)} {U : Nat → Prop} (q : StoreR h p m es n U) {ids : List Int} (k : Keyed es n ids) (hb : ∀ e ∈ es, ∀ it : It, e.2.1 = it.val → e.1 = .int .i64 it.id → Own h 0 it.vec it.xs.length it.xs → it.xs.length ≤ bigV) :
    ∃ its : List It, sortI ids = its.map It.id ∧ ∀ x ∈ its, InStore h p m es U x := by
  have one : ∀ x ∈ ids, ∃ it : It, it.id = x ∧ InStore h p m es U it := by
    intro x hx
    obtain ⟨i, v, b, h1, h2⟩ := k.find hx
    obtain ⟨it, e1, e2, e3, e4⟩ := q.ents _ (List.mem_of_getElem? h2)
    simp only at e1 e2
    cases e1
    refine ⟨it, rfl, i, by rw [h1, e2], ?_, e3, e4⟩
    exact hb _ (List.mem_of_getElem? h2) it e2 rfl e3
  have all : ∀ l : List Int, (∀ x ∈ l, x ∈ ids) → ∃ its : List It, l = its.map It.id ∧ ∀ x ∈ its, InStore h p m es U x := by
    intro l
    induction l with
    | nil => exact fun _ => ⟨[], rfl, fun x hx => by cases hx⟩
    | cons y ys ih =>
      intro hl
      obtain ⟨its, h1, h2⟩ := ih fun x hx => hl x (List.mem_cons_of_mem _ hx)
      obtain ⟨it, h3, h4⟩ := one y (hl y (List.mem_cons_self ..))
      refine ⟨it :: its, by rw [List.map_cons, h3, ← h1], fun x hx => ?_⟩
      rcases List.mem_cons.1 hx with rfl | hx
      · exact h4
      · exact h2 x hx
  exact all (sortI ids) fun x hx => (sortI_perm ids).mem_iff.1 hx
end Go.Ab.Seat
end
section
/- A store as a list of records that rises by ids (plain lists). -/
namespace Go.Ab
set_option linter.unusedVariables false

/-- What a store has of an id. -/
structure Rc where
  id : Int
  xs : List Value
  pay : ByteArray
  seq : Int
  gone : Bool

def Rises (l : List Rc) : Prop := l.Pairwise fun a b => a.id < b.id

noncomputable def getM (x : Int) : List Rc → Option Rc
  | [] => none
  | r :: l => if r.id = x then some r else getM x l

noncomputable def putM (r : Rc) : List Rc → List Rc
  | [] => [r]
  | y :: l => if r.id < y.id then r :: y :: l else if r.id = y.id then r :: l else y :: putM r l

noncomputable def seqM (x : Int) (l : List Rc) : Int := match getM x l with | some r => r.seq | none => 0
def liveM (l : List Rc) : List Rc := l.filter fun r => !r.gone
def nextM (after : Int) (l : List Rc) : Option Rc := l.find? fun r => decide (after < r.id) && !r.gone
def sweptR (upto : Int) (r : Rc) : Bool := r.gone && decide (r.seq ≤ upto)
def sweepM (upto : Int) (l : List Rc) : List Rc := l.filter fun r => !sweptR upto r

theorem Rises.nil : Rises [] := List.Pairwise.nil
theorem Rises.filter {l : List Rc} (h : Rises l) (p : Rc → Bool) : Rises (l.filter p) := List.Pairwise.filter p h

theorem getM_mem {x : Int} : ∀ {l : List Rc} {r : Rc}, getM x l = some r → r ∈ l ∧ r.id = x
  | [], _, h => by cases h
  | y :: l, r, h => by
    unfold getM at h
    split at h
    · cases h
      exact ⟨List.mem_cons_self .., by assumption⟩
    · exact ⟨List.mem_cons_of_mem _ (getM_mem h).1, (getM_mem h).2⟩

theorem getM_none {x : Int} : ∀ {l : List Rc}, getM x l = none ↔ ∀ r ∈ l, r.id ≠ x
  | [] => ⟨(fun _ r h => by cases h), (fun _ => rfl)⟩
  | y :: l => by
    unfold getM
    by_cases hy : y.id = x
    · rw [if_pos hy]
      exact ⟨(fun h => by cases h), (fun h => absurd hy (h y (List.mem_cons_self ..)))⟩
    · rw [if_neg hy, getM_none]
      constructor
      · intro h r hr
        rcases List.mem_cons.1 hr with rfl | hr
        · exact hy
        · exact h r hr
      · exact fun h r hr => h r (List.mem_cons_of_mem _ hr)

theorem getM_some {x : Int} {l : List Rc} (h : Rises l) {r : Rc} (hr : r ∈ l) (hx : r.id = x) : getM x l = some r := by
  induction l with
  | nil => cases hr
  | cons y l ih =>
    obtain ⟨h1, h2⟩ := List.pairwise_cons.1 h
    unfold getM
    rcases List.mem_cons.1 hr with rfl | hr
    · rw [if_pos hx]
    · have := h1 r hr
      rw [if_neg (by omega)]
      exact ih h2 hr

theorem mem_putM {r x : Rc} : ∀ {l : List Rc}, x ∈ putM r l → x = r ∨ x ∈ l
  | [], h => .inl (List.mem_singleton.1 h)
  | y :: l, h => by
    unfold putM at h
    split at h
    · rcases List.mem_cons.1 h with h | h
      · exact .inl h
      · exact .inr h
    · split at h
      · rcases List.mem_cons.1 h with h | h
        · exact .inl h
        · exact .inr (List.mem_cons_of_mem _ h)
      · rcases List.mem_cons.1 h with h | h
        · exact .inr (h ▸ List.mem_cons_self ..)
        · rcases mem_putM h with h | h
          · exact .inl h
          · exact .inr (List.mem_cons_of_mem _ h)

theorem Rises.put {l : List Rc} (h : Rises l) (r : Rc) : Rises (putM r l) := by
  induction l with
  | nil => exact List.pairwise_singleton ..
  | cons y l ih =>
    obtain ⟨h1, h2⟩ := List.pairwise_cons.1 h
    unfold putM
    split
    · refine List.pairwise_cons.2 ⟨fun z hz => ?_, h⟩
      rcases List.mem_cons.1 hz with rfl | hz
      · assumption
      · have := h1 z hz
        omega
    · split
      · refine List.pairwise_cons.2 ⟨fun z hz => ?_, h2⟩
        have := h1 z hz
        omega
      · refine List.pairwise_cons.2 ⟨fun z hz => ?_, ih h2⟩
        rcases mem_putM hz with rfl | hz
        · omega
        · exact h1 z hz

theorem getM_put {l : List Rc} (r : Rc) (x : Int) : getM x (putM r l) = if r.id = x then some r else getM x l := by
  induction l with
  | nil => unfold putM getM; rfl
  | cons y l ih =>
    unfold putM
    split
    · rw [getM]
    · split
      · rw [getM, getM]
        split
        · rfl
        · rw [if_neg (by omega)]
      · rw [getM, ih, getM]
        by_cases hr : r.id = x
        · rw [if_pos hr, if_neg (by omega), if_pos hr]
        · rw [if_neg hr, if_neg hr]

theorem getM_filter {l : List Rc} (h : Rises l) (p : Rc → Bool) (x : Int) : getM x (l.filter p) = match getM x l with | some r => if p r then some r else none | none => none := by
  cases hg : getM x l with
  | none =>
    exact getM_none.2 fun r hr => getM_none.1 hg r (List.mem_filter.1 hr).1
  | some r =>
    obtain ⟨h1, h2⟩ := getM_mem hg
    simp only
    split
    · exact getM_some (h.filter p) (List.mem_filter.2 ⟨h1, by assumption⟩) h2
    · refine getM_none.2 fun y hy he => ?_
      obtain ⟨h3, h4⟩ := List.mem_filter.1 hy
      have := getM_some h h3 he
      rw [hg] at this
      cases this
      contradiction

/-- Two lists that rise and have the same are the same. -/
theorem rises_ext : ∀ {a b : List Int}, a.Pairwise (fun x y => x < y) → b.Pairwise (fun x y => x < y) → (∀ x, x ∈ a ↔ x ∈ b) → a = b
  | [], [], _, _, _ => rfl
  | [], y :: b, _, _, h => by cases (h y).2 (List.mem_cons_self ..)
  | x :: a, [], _, _, h => by cases (h x).1 (List.mem_cons_self ..)
  | x :: a, y :: b, ha, hb, h => by
    obtain ⟨a1, a2⟩ := List.pairwise_cons.1 ha
    obtain ⟨b1, b2⟩ := List.pairwise_cons.1 hb
    have hxy : x = y := by
      have h1 := (h x).1 (List.mem_cons_self ..)
      have h2 := (h y).2 (List.mem_cons_self ..)
      rcases List.mem_cons.1 h1 with h1 | h1
      · exact h1
      · rcases List.mem_cons.1 h2 with h2 | h2
        · exact h2.symm
        · have := a1 y h2
          have := b1 x h1
          omega
    subst hxy
    rw [rises_ext a2 b2 fun z => ?_]
    constructor
    · intro hz
      rcases List.mem_cons.1 ((h z).1 (List.mem_cons_of_mem _ hz)) with rfl | h1
      · have := a1 z hz
        omega
      · exact h1
    · intro hz
      rcases List.mem_cons.1 ((h z).2 (List.mem_cons_of_mem _ hz)) with rfl | h1
      · have := b1 z hz
        omega
      · exact h1

theorem sortI_rises {l : List Int} (h : l.Nodup) : (sortI l).Pairwise fun x y => x < y := by
  have h1 := sortI_sorted l
  have h2 : (sortI l).Nodup := (sortI_perm l).nodup_iff.2 h
  have := List.pairwise_and_iff.2 ⟨h1, h2⟩
  exact this.imp fun {a b} h => by have := h.1; have := h.2; omega

theorem Rises.ids {l : List Rc} (h : Rises l) : (l.map Rc.id).Pairwise fun x y => x < y := List.pairwise_map.2 h

/-- Ids of a small range are few. -/
theorem rises_len {n : Int} : ∀ {l : List Int} {lo : Int}, l.Pairwise (fun x y => x < y) → (∀ x ∈ l, lo ≤ x ∧ x ≤ n) → 0 ≤ n + 1 - lo → (l.length : Int) ≤ n + 1 - lo
  | [], _, _, _, h => by simpa using h
  | x :: l, lo, h, hl, h0 => by
    obtain ⟨h1, h2⟩ := List.pairwise_cons.1 h
    have hx := hl x (List.mem_cons_self ..)
    have := rises_len (n := n) (lo := x + 1) h2 (fun y hy => ⟨by have := h1 y hy; omega, (hl y (List.mem_cons_of_mem _ hy)).2⟩) (by omega)
    rw [List.length_cons]
    omega

theorem sweepM_len (upto : Int) (l : List Rc) : (sweepM upto l).length + (l.filter (sweptR upto)).length = l.length := by
  unfold sweepM
  induction l with
  | nil => rfl
  | cons y l ih =>
    rw [List.filter_cons, List.filter_cons, List.length_cons]
    cases sweptR upto y <;> simp <;> omega
end Go.Ab
end
section
/- Stores: how many there are (the abstract machine). -/
namespace Go.Ab.Seat
open Go.Extern Go.Proofs
set_option linter.unusedSimpArgs false
set_option linter.unusedVariables false
set_option maxRecDepth 4000
set_option pp.deepTerms false
set_option pp.deepTerms.threshold 6

/-- How many are not gone. -/
def liveN (l : List It) : Nat := (l.filter fun x => !x.gone).length

theorem liveN_take {l : List It} {i : Nat} {x : It} (hx : l[i]? = some x) : liveN (l.take (i + 1)) = liveN (l.take i) + (if x.gone then 0 else 1) := by
  unfold liveN
  rw [List.take_add_one, hx, List.filter_append, List.length_append]
  cases hg : x.gone <;> simp [hg]

def EM (p : Nat) (oa : Option Addr) (n : Nat) (cnt z : Int) (j5 j10 j15 : Value) : L :=
  .cons 0 (.pointer (some ⟨p, 0, none⟩)) (.cons 2 (.int .i64 0) (.cons 3 (.int .i64 cnt) (.cons 5 j5 (.cons 7 (.slice oa n n) (.cons 8 (.int .i64 (n : Int)) (.cons 9 (.int .i64 z) (.cons 10 j10 (.cons 15 j15 .nil))))))))

theorem slen_spec {h : T AObj} {c : Nat} {rl wl : List Nat} (hf : Fresh h c) {p m n : Nat} {es : List (Value × Value × Nat)} {U : Nat → Prop} (q : StoreR h p m es n U) {ids : List Int} {its : List It} (hk : keyInts es n = some ids) (hs : sortI ids = its.map It.id) (hits : ∀ x ∈ its, InStore h p m es U x) (hl : its.length ≤ 1000000) :
    ∃ r s', FnTo (Cs smQ) eg 27 [.pointer (some ⟨p, 0, none⟩)] ⟨h, c, rl, wl⟩ r s' ∧ r = .int .i64 (liveN its : Int) ∧ Ext ⟨h, c, rl, wl⟩ s' U (fun _ => False) := by
  have H := stdQ
  have hp1 := q.ptr
  have hm1 := q.map
  have hpc := hp1.lt hf
  have hmc := hm1.lt hf
  refine Fn.go (H 27 rfl) ex27 fn27 km27 rfl rfl ?_
  intro e he
  (simp only [ke, Nat.testBit, Nat.reduceShiftRight, Nat.reduceAnd, Nat.reduceBNe, Nat.reduceEqDiff, Nat.reduceAdd, ↓reduceIte, reduceCtorEq, Bool.false_eq_true] at he; subst he)
  (repeat (first | (with_reducible refine Then.go ?_) | (with_reducible refine Wx.seq ?_) | (with_reducible refine Wx.reg ?_) | ((with_reducible refine Wseq.nil ?_); intro e he; (simp only [ke, Nat.testBit, Nat.reduceShiftRight, Nat.reduceAnd, Nat.reduceBNe, Nat.reduceEqDiff, Nat.reduceAdd, ↓reduceIte, reduceCtorEq, Bool.false_eq_true] at he; subst he)) | ((with_reducible apply Wseq.mv); rfl; (intro v hv; (simp only [kv, Nat.reduceEqDiff, eq_self, ↓reduceIte, reduceCtorEq, List.map_cons, List.map_nil] at hv); subst hv)) | ((with_reducible apply Wseq.as); rfl; (intro v hv; (simp only [kv, Nat.reduceEqDiff, eq_self, ↓reduceIte, reduceCtorEq, List.map_cons, List.map_nil] at hv); subst hv))))
  refine Wseq.call rfl rfl (items_spec (by ((repeat (apply Fresh.put; omega)); ((assumption)))) q hk hs hits hl) ?_
  rintro v h1 c1 r1 w1 ⟨⟨l, hR, hst⟩, hext⟩
  obtain ⟨oa, rfl⟩ := hR.val
  have hll : l.length = its.length := by have := congrArg List.length hst; simpa using this
  have hln : ∀ (a b : List It), a.map It.strip = b.map It.strip → liveN a = liveN b := by
    intro a
    induction a with
    | nil => intro b h; cases b with | nil => rfl | cons _ _ => cases h
    | cons x xs ih =>
      intro b h
      cases b with
      | nil => cases h
      | cons y ys =>
        simp only [List.map_cons, List.cons.injEq] at h
        have hg : x.gone = y.gone := congrArg (fun t => t.2.2.2.2) h.1
        have := ih ys h.2
        unfold liveN at this ⊢
        rw [List.filter_cons, List.filter_cons, hg]
        cases y.gone <;> simp [this]
  have q1 := hext.c
  dsimp only at q1 hR
  have hf1 : Fresh h1 c1 := hext.fresh
  have kp := Kp.ext (W := fun _ => False) (h := h) (c := c) (by (repeat ((exact Kp.refl)))) hext (by omega) (fun _ _ q => q)
  have lr := Lg.extR (R := U) (c := c) (by (repeat ((exact Lg.nil)))) hext (fun _ _ q => q)
  have lw := Lg.extW (W := fun _ => False) (c := c) (by (repeat ((exact Lg.nil)))) hext (fun _ _ q => q)
  (repeat (first | (with_reducible refine Then.go ?_) | (with_reducible refine Wx.block ?_) | ((with_reducible refine Wseq.nil ?_); intro e he; (simp only [ke, Nat.testBit, Nat.reduceShiftRight, Nat.reduceAnd, Nat.reduceBNe, Nat.reduceEqDiff, Nat.reduceAdd, ↓reduceIte, reduceCtorEq, Bool.false_eq_true] at he; subst he)) | ((with_reducible apply Wseq.mv); rfl; (intro v hv; (simp only [kv, Nat.reduceEqDiff, eq_self, ↓reduceIte, reduceCtorEq, List.map_cons, List.map_nil] at hv); subst hv)) | ((with_reducible apply Wseq.stg (op := Op.call ⟨Callee.builtin Builtin.len, _, _⟩)); rfl; exact to_lenS (sl_ rfl) rfl)))
  refine Wx.loopE (fun k1 e s => ∃ (i : Nat) (z cnt : Int) (h' : T AObj) (c' : Nat) (rl' wl' : List Nat) (j5 j10 j15 : Value), e = EM p oa l.length cnt z j5 j10 j15 ∧ z = i ∧ cnt = (liveN (l.take i) : Int) ∧ cnt ≤ i ∧ s = ⟨h', c', rl', wl'⟩ ∧ Fresh h' c' ∧ c ≤ c' ∧ Kp h h' c (fun _ => False) ∧ ItemsR h' c (.slice oa l.length l.length) l ∧ i ≤ l.length ∧ Lg c U rl' ∧ Lg c (fun _ => False) wl' ∧ k1 = l.length - i) l.length (EM p oa l.length 0 0 top top top) (by (repeat (first | (exact Resp.fn) | (apply Resp.then) | (apply Resp.out)))) ?_ ?_ ?_
  · unfold EM
    (refine EqK.of ?_ ?_ <;> (repeat (first | (exact all_nil) | (apply all_cons; rfl))))
  · exact ⟨0, 0, 0, _, _, _, _, _, _, _, rfl, rfl, rfl, by omega, rfl, hf1, by omega, kp, hR, by omega, (by (repeat ((assumption)))), (by (repeat ((assumption)))), rfl⟩
  · rintro k1 e s ⟨i, z, cnt, h2, c2, rl2, wl2, j5, j10, j15, rfl, hz, hcnt, hci, rfl, hf2, hc2, hkp, hR2, hil, hlr, hlw, rfl⟩
    unfold EM
    by_cases hi : i < l.length
    · have hx := List.getElem?_eq_getElem hi
      generalize l[i] = x at hx
      have hxm := List.mem_of_getElem? hx
      have hown := hR2.vec x hxm
      have hlt := liveN_take hx
      rcases hR2.row with ⟨_, rfl⟩ | ⟨b0, o0, cs1, hv, hb0, hs0⟩
      · cases hx
      obtain ⟨rfl, hv2⟩ : oa = some ⟨b0, o0, some 5⟩ ∧ True := by
        simp only [Value.slice.injEq] at hv
        exact ⟨hv.1, trivial⟩
      have hsub := sub_item hs0 hx
      have hb0c := hR2.blk b0 rfl
      have hb0l := hb0.lt hf2
      obtain ⟨tid, tvec, txs, tpay, tseq, tg⟩ := x
      dsimp only at hown hlt
      obtain ⟨a0, k0, rfl⟩ := hown.val
      cases tg with
      | true =>
        rw [if_pos rfl] at hlt
        (repeat (first | (with_reducible refine Then.go ?_) | (with_reducible refine Wx.seq ?_) | (with_reducible refine Wx.skip ?_) | (with_reducible refine Wx.block ?_) | (with_reducible refine Wx.reg ?_) | (refine Wx.condT rfl (by rfl) ?_) | ((with_reducible refine Wseq.nil ?_); intro e he; (simp only [ke, Nat.testBit, Nat.reduceShiftRight, Nat.reduceAnd, Nat.reduceBNe, Nat.reduceEqDiff, Nat.reduceAdd, ↓reduceIte, reduceCtorEq, Bool.false_eq_true] at he; subst he)) | ((with_reducible apply Wseq.stg (op := Op.binOp BinOp.lss _ _ _ _)); rfl; exact to_lssT rfl rfl (by omega))))
        ((with_reducible apply Wseq.stg); rfl; exact to_indexAddr (k := i) el49 rfl rfl hz (by omega))
        ((with_reducible apply Wseq.stg); rfl; exact to_loadS ag59 rfl hb0.cel (by omega) hsub)
        (repeat (first | (with_reducible refine Then.go ?_) | (with_reducible refine Out.go ?_) | (with_reducible refine Wx.seq ?_) | (with_reducible refine Wx.skip ?_) | (with_reducible refine Wx.reg ?_) | (refine Wx.condF rfl (by rfl) ?_) | ((with_reducible refine Wseq.nil ?_); intro e he; (simp only [ke, Nat.testBit, Nat.reduceShiftRight, Nat.reduceAnd, Nat.reduceBNe, Nat.reduceEqDiff, Nat.reduceAdd, ↓reduceIte, reduceCtorEq, Bool.false_eq_true] at he; subst he)) | ((with_reducible apply Wseq.mv); rfl; (intro v hv; (simp only [kv, Nat.reduceEqDiff, eq_self, ↓reduceIte, reduceCtorEq, List.map_cons, List.map_nil] at hv); subst hv)) | ((with_reducible apply Wseq.so); rfl; exact (sz_ rfl); rfl; exact (by (repeat ((exact Has.same)))); omega; (intro v hv; (simp only [kv, Nat.reduceEqDiff, eq_self, ↓reduceIte, reduceCtorEq, List.map_cons, List.map_nil] at hv); subst hv); refine ⟨_, _, (by ((exact cellsA_agg _))), rfl, rfl, ?_⟩) | ((with_reducible apply Wseq.stg (op := Op.fieldAddr _ _ _)); rfl; exact to_fieldAddr (fa_ rfl) rfl) | ((with_reducible apply Wseq.stg (op := Op.load _ _)); rfl; exact to_load (pl_ rfl) rfl (by (repeat ((exact Has.same.cel)))) (by omega) (by rfl)) | ((with_reducible apply Wseq.stg (op := Op.alloc _)); rfl; exact to_alloc (ze_ rfl) (by ((exact cellsA_agg _))) (by ((repeat (apply Fresh.put; omega)); ((assumption))))) | ((with_reducible apply Wseq.stg (op := Op.unOp UnOp.not _ _)); rfl; exact to_notT rfl) | ((with_reducible apply Wseq.stg (op := Op.binOp BinOp.add _ _ _ _)); rfl; exact to_add rfl rfl (by omega) (by omega))))
        refine RoundE.go (l.length - (i + 1)) (EM p _ l.length cnt (z + 1) _ _ _) (by omega) (by (refine EqK.of ?_ ?_ <;> (repeat (first | (exact all_nil) | (apply all_cons; rfl))))) ⟨i + 1, z + 1, cnt, _, _, _, _, _, _, _, rfl, by omega, by omega, by omega, rfl, (by ((repeat (apply Fresh.put; omega)); ((exact Fresh.up (by assumption) (by omega))))), by omega, (by (repeat (first | (assumption) | (apply Kp.set; (focus (left; omega)))))), ?_, by omega, (by (repeat (first | (assumption) | (apply Lg.cons; (focus (left; omega)))))), (by (repeat (first | (assumption) | (apply Lg.cons; (focus (left; omega)))))), rfl⟩
        exact hR2.keep hf2 fun b h1 h2 => by rw [get_other (by omega), get_other (by omega)]
      | false =>
        rw [if_neg (by decide)] at hlt
        (repeat (first | (with_reducible refine Then.go ?_) | (with_reducible refine Wx.seq ?_) | (with_reducible refine Wx.skip ?_) | (with_reducible refine Wx.block ?_) | (with_reducible refine Wx.reg ?_) | (refine Wx.condT rfl (by rfl) ?_) | ((with_reducible refine Wseq.nil ?_); intro e he; (simp only [ke, Nat.testBit, Nat.reduceShiftRight, Nat.reduceAnd, Nat.reduceBNe, Nat.reduceEqDiff, Nat.reduceAdd, ↓reduceIte, reduceCtorEq, Bool.false_eq_true] at he; subst he)) | ((with_reducible apply Wseq.stg (op := Op.binOp BinOp.lss _ _ _ _)); rfl; exact to_lssT rfl rfl (by omega))))
        ((with_reducible apply Wseq.stg); rfl; exact to_indexAddr (k := i) el49 rfl rfl hz (by omega))
        ((with_reducible apply Wseq.stg); rfl; exact to_loadS ag59 rfl hb0.cel (by omega) hsub)
        (repeat (first | (with_reducible refine Then.go ?_) | (with_reducible refine Out.go ?_) | (with_reducible refine Wx.seq ?_) | (with_reducible refine Wx.reg ?_) | (refine Wx.condT rfl (by rfl) ?_) | ((with_reducible refine Wseq.nil ?_); intro e he; (simp only [ke, Nat.testBit, Nat.reduceShiftRight, Nat.reduceAnd, Nat.reduceBNe, Nat.reduceEqDiff, Nat.reduceAdd, ↓reduceIte, reduceCtorEq, Bool.false_eq_true] at he; subst he)) | ((with_reducible apply Wseq.mv); rfl; (intro v hv; (simp only [kv, Nat.reduceEqDiff, eq_self, ↓reduceIte, reduceCtorEq, List.map_cons, List.map_nil] at hv); subst hv)) | ((with_reducible apply Wseq.as); rfl; (intro v hv; (simp only [kv, Nat.reduceEqDiff, eq_self, ↓reduceIte, reduceCtorEq, List.map_cons, List.map_nil] at hv); subst hv)) | ((with_reducible apply Wseq.so); rfl; exact (sz_ rfl); rfl; exact (by (repeat ((exact Has.same)))); omega; (intro v hv; (simp only [kv, Nat.reduceEqDiff, eq_self, ↓reduceIte, reduceCtorEq, List.map_cons, List.map_nil] at hv); subst hv); refine ⟨_, _, (by ((exact cellsA_agg _))), rfl, rfl, ?_⟩) | ((with_reducible apply Wseq.stg (op := Op.fieldAddr _ _ _)); rfl; exact to_fieldAddr (fa_ rfl) rfl) | ((with_reducible apply Wseq.stg (op := Op.load _ _)); rfl; exact to_load (pl_ rfl) rfl (by (repeat ((exact Has.same.cel)))) (by omega) (by rfl)) | ((with_reducible apply Wseq.stg (op := Op.alloc _)); rfl; exact to_alloc (ze_ rfl) (by ((exact cellsA_agg _))) (by ((repeat (apply Fresh.put; omega)); ((assumption))))) | ((with_reducible apply Wseq.stg (op := Op.unOp UnOp.not _ _)); rfl; exact to_notF rfl) | ((with_reducible apply Wseq.stg (op := Op.binOp BinOp.add _ _ _ _)); rfl; exact to_add rfl rfl (by omega) (by omega))))
        refine RoundE.go (l.length - (i + 1)) (EM p _ l.length (cnt + 1) (z + 1) _ _ _) (by omega) (by (refine EqK.of ?_ ?_ <;> (repeat (first | (exact all_nil) | (apply all_cons; rfl))))) ⟨i + 1, z + 1, cnt + 1, _, _, _, _, _, _, _, rfl, by omega, by omega, by omega, rfl, (by ((repeat (apply Fresh.put; omega)); ((exact Fresh.up (by assumption) (by omega))))), by omega, (by (repeat (first | (assumption) | (apply Kp.set; (focus (left; omega)))))), ?_, by omega, (by (repeat (first | (assumption) | (apply Lg.cons; (focus (left; omega)))))), (by (repeat (first | (assumption) | (apply Lg.cons; (focus (left; omega)))))), rfl⟩
        exact hR2.keep hf2 fun b h1 h2 => by rw [get_other (by omega), get_other (by omega)]
    · have hil2 : i = l.length := by omega
      subst hil2
      rw [List.take_length, hln l its hst] at hcnt
      (repeat (first | (with_reducible refine Then.go ?_) | (with_reducible refine Then.ex ?_) | (with_reducible refine Out.hit ?_) | (with_reducible refine Wx.seq ?_) | (with_reducible refine Wx.exit ?_) | (with_reducible refine Wx.ret ?_) | (with_reducible refine Wx.reg ?_) | (with_reducible refine RoundE.ex ?_) | (refine Wx.condF rfl (by rfl) ?_) | ((with_reducible refine Wseq.nil ?_); intro e he; (simp only [ke, Nat.testBit, Nat.reduceShiftRight, Nat.reduceAnd, Nat.reduceBNe, Nat.reduceEqDiff, Nat.reduceAdd, ↓reduceIte, reduceCtorEq, Bool.false_eq_true] at he; subst he)) | ((with_reducible apply Wseq.mv); rfl; (intro v hv; (simp only [kv, Nat.reduceEqDiff, eq_self, ↓reduceIte, reduceCtorEq, List.map_cons, List.map_nil] at hv); subst hv)) | ((with_reducible apply Wseq.as); rfl; (intro v hv; (simp only [kv, Nat.reduceEqDiff, eq_self, ↓reduceIte, reduceCtorEq, List.map_cons, List.map_nil] at hv); subst hv)) | ((with_reducible apply Wseq.stg (op := Op.binOp BinOp.lss _ _ _ _)); rfl; exact to_lssF rfl rfl (by omega))))
      refine ⟨.inr rfl, Wres.one rfl ⟨by rw [hcnt]; rfl, ?_⟩⟩
      (dsimp only; exact Ext.of (by omega) (by ((repeat (apply Fresh.put; omega)); ((assumption)))) (by (repeat ((assumption)))) (by (repeat ((assumption)))) (by (repeat ((assumption)))))
end Go.Ab.Seat
end
