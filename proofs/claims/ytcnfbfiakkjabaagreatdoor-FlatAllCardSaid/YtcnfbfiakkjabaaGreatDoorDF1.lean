import Derived.Test.YtcnfbfiakkjabaaGreatDoorE46
import Derived.Test.YtcnfbfiakkjabaaGreatDoorE48
import Derived.Test.YtcnfbfiakkjabaaGreatDoorE51
set_option linter.unusedVariables false
set_option linter.unusedSimpArgs false
section
/- Maps by ints: their keys are apart; what put and del make of them (plain lists). -/
namespace Go.Ab.Seat
open Go.Extern Go.Proofs
set_option linter.unusedVariables false

theorem mapA_eq {α β : Type} (f : α → β) (l : List α) : mapA f l = l.map f := by
  induction l with
  | nil => rfl
  | cons x xs ih => show f x :: mapA f xs = _; rw [ih]; rfl

theorem nodup_apartI {l : List Int} (h : l.Nodup) : apartI l = true := by
  induction l with
  | nil => rfl
  | cons x xs ih =>
    obtain ⟨h1, h2⟩ := List.nodup_cons.1 h
    rw [apartI_cons]
    cases hm : memI x xs with
    | true => exact absurd ((memI_eq x xs).1 hm) h1
    | false => exact ih h2

theorem nodup_apartN {l : List Nat} (h : l.Nodup) : apartN l = true := by
  induction l with
  | nil => rfl
  | cons x xs ih =>
    obtain ⟨h1, h2⟩ := List.nodup_cons.1 h
    rw [apartN_cons]
    cases hm : mem x xs with
    | true => exact absurd ((mem_eq x xs).1 hm) h1
    | false => exact ih h2

/-- A map keyed by ints, its ids. -/
structure Keyed (es : List (Value × Value × Nat)) (n : Nat) (ids : List Int) : Prop where
  keys : es.map (fun e => e.1) = ids.map (Value.int .i64)
  nodup : ids.Nodup
  born : (es.map fun e => e.2.2).Nodup
  lt : ∀ e ∈ es, e.2.2 < n
  wf : ∀ x ∈ ids, wfI x = true

theorem Keyed.nil (n : Nat) : Keyed [] n [] := ⟨rfl, .nil, .nil, (fun e he => by cases he), (fun x hx => by cases hx)⟩

theorem intsOf_ints {ids : List Int} (h : ∀ x ∈ ids, wfI x = true) : intsOf (ids.map (Value.int .i64)) = some ids := by
  induction ids with
  | nil => rfl
  | cons x xs ih =>
    rw [List.map_cons, intsOf_cons, ih fun y hy => h y (List.mem_cons_of_mem _ hy)]
    have : intOf1 (.int .i64 x) = some x := by
      unfold intOf1
      simp only [h x (List.mem_cons_self ..)]
    rw [this]

theorem Keyed.keyInts {es : List (Value × Value × Nat)} {n : Nat} {ids : List Int} (k : Keyed es n ids) : Go.Ab.keyInts es n = some ids := by
  unfold Go.Ab.keyInts
  rw [mapA_eq, k.keys, intsOf_ints k.wf]
  have h3 : allB (fun e : Value × Value × Nat => Nat.blt e.2.2 n) es = true := by
    rw [allB_eq, List.all_eq_true]
    intro e he
    have := k.lt e he
    exact blt_iff.2 this
  rw [mapA_eq]
  simp only [nodup_apartI k.nodup, nodup_apartN k.born, h3]
  rfl

theorem findI_none_iff {x : Int} : ∀ {es : List (Value × Value × Nat)} {ids : List Int}, es.map (fun e => e.1) = ids.map (Value.int .i64) → (findI x es = none ↔ x ∉ ids)
  | [], [], _ => ⟨(fun _ h => by cases h), (fun _ => rfl)⟩
  | [], _ :: _, h => by cases h
  | _ :: _, [], h => by cases h
  | (a, v, b) :: es, y :: ids, h => by
    simp only [List.map_cons, List.cons.injEq] at h
    obtain ⟨rfl, h⟩ := h
    have ih := findI_none_iff (x := x) h
    unfold findI
    by_cases hxy : x = y
    · rw [if_pos hxy]
      exact ⟨(fun h => by cases h), (fun h => absurd (by rw [hxy]; exact List.mem_cons_self ..) h)⟩
    · rw [if_neg hxy, Option.map_eq_none_iff, ih, List.mem_cons]
      exact ⟨fun h1 h2 => h2.elim hxy h1, fun h1 h2 => h1 (.inr h2)⟩

theorem findI_some_get {x : Int} : ∀ {es : List (Value × Value × Nat)} {ids : List Int} {i : Nat} {v : Value}, es.map (fun e => e.1) = ids.map (Value.int .i64) → findI x es = some (i, v) → ids[i]? = some x ∧ ∃ b, es[i]? = some (.int .i64 x, v, b)
  | [], _, _, _, _, h => by cases h
  | _ :: _, [], _, _, h, _ => by cases h
  | (a, w, b) :: es, y :: ids, i, v, h, hf => by
    simp only [List.map_cons, List.cons.injEq] at h
    obtain ⟨rfl, h⟩ := h
    unfold findI at hf
    by_cases hxy : x = y
    · rw [if_pos hxy] at hf
      cases hf
      subst hxy
      exact ⟨rfl, b, rfl⟩
    · rw [if_neg hxy, Option.map_eq_some_iff] at hf
      obtain ⟨p, hp, he⟩ := hf
      cases he
      obtain ⟨h1, b', h2⟩ := findI_some_get h hp
      exact ⟨by simpa using h1, b', by simpa using h2⟩

theorem Keyed.find {es : List (Value × Value × Nat)} {n : Nat} {ids : List Int} (k : Keyed es n ids) {x : Int} (hx : x ∈ ids) : ∃ i v b, findI x es = some (i, v) ∧ es[i]? = some (.int .i64 x, v, b) := by
  cases hf : findI x es with
  | none => exact absurd hx ((findI_none_iff k.keys).1 hf)
  | some p =>
    obtain ⟨i, v⟩ := p
    obtain ⟨_, b, h2⟩ := findI_some_get k.keys hf
    exact ⟨i, v, b, rfl, h2⟩

theorem modA_keys {x : Int} {v : Value} : ∀ {es : List (Value × Value × Nat)} {ids : List Int} {i : Nat}, es.map (fun e => e.1) = ids.map (Value.int .i64) → ids[i]? = some x → (modA (.int .i64 x) v es i).map (fun e => e.1) = ids.map (Value.int .i64) ∧ (modA (.int .i64 x) v es i).map (fun e => e.2.2) = es.map (fun e => e.2.2)
  | [], [], _, _, h => by cases h
  | [], _ :: _, _, h, _ => by cases h
  | _ :: _, [], _, h, _ => by cases h
  | (a, w, b) :: es, y :: ids, 0, h, hi => by
    simp only [List.map_cons, List.cons.injEq] at h
    obtain ⟨rfl, h⟩ := h
    cases hi
    exact ⟨by simp only [modA, List.map_cons, h], rfl⟩
  | (a, w, b) :: es, y :: ids, i + 1, h, hi => by
    simp only [List.map_cons, List.cons.injEq] at h
    obtain ⟨rfl, h⟩ := h
    obtain ⟨h1, h2⟩ := modA_keys (v := v) h (by simpa using hi)
    exact ⟨by simp only [modA, List.map_cons, h1], by simp only [modA, List.map_cons, h2]⟩

/-- The ids after a put. -/
def putIds (x : Int) (ids : List Int) : List Int := if x ∈ ids then ids else ids ++ [x]

theorem Keyed.put {es : List (Value × Value × Nat)} {n : Nat} {ids : List Int} (k : Keyed es n ids) {x : Int} (hw : wfI x = true) (v : Value) : Keyed (putI .i64 x v n es).1 (putI .i64 x v n es).2 (putIds x ids) := by
  unfold putI putIds
  cases hf : findI x es with
  | none =>
    have hx := (findI_none_iff k.keys).1 hf
    rw [if_neg hx]
    refine ⟨by simp [k.keys], ?_, ?_, ?_, ?_⟩
    · exact List.nodup_append.2 ⟨k.nodup, List.nodup_cons.2 ⟨List.not_mem_nil, .nil⟩, fun a ha b hb => by
        obtain rfl := List.mem_singleton.1 hb
        rintro rfl
        exact hx ha⟩
    · rw [List.map_append]
      refine List.nodup_append.2 ⟨k.born, List.nodup_cons.2 ⟨List.not_mem_nil, .nil⟩, fun a ha b hb => ?_⟩
      obtain rfl := List.mem_singleton.1 hb
      obtain ⟨e, he, rfl⟩ := List.mem_map.1 ha
      have := k.lt e he
      omega
    · intro e he
      rcases List.mem_append.1 he with he | he
      · have := k.lt e he
        show e.2.2 < n + 1
        omega
      · obtain rfl := List.mem_singleton.1 he
        exact Nat.lt_succ_self n
    · intro y hy
      rcases List.mem_append.1 hy with hy | hy
      · exact k.wf y hy
      · obtain rfl := List.mem_singleton.1 hy
        exact hw
  | some p =>
    obtain ⟨i, w⟩ := p
    obtain ⟨h1, b, h2⟩ := findI_some_get k.keys hf
    rw [if_pos (List.mem_of_getElem? h1)]
    obtain ⟨h3, h4⟩ := modA_keys (v := v) k.keys h1
    refine ⟨h3, k.nodup, by rw [h4]; exact k.born, fun e he => ?_, k.wf⟩
    have : e.2.2 ∈ (modA (.int .i64 x) v es i).map fun e => e.2.2 := List.mem_map_of_mem he
    rw [h4] at this
    obtain ⟨e', he', h5⟩ := List.mem_map.1 this
    rw [← h5]
    exact k.lt e' he'

theorem Keyed.del {es : List (Value × Value × Nat)} {n : Nat} {ids : List Int} (k : Keyed es n ids) (x : Int) : ∃ ids', Keyed (delI x es) n ids' ∧ (∀ y, y ∈ ids' ↔ y ∈ ids ∧ y ≠ x) ∧ ids'.length = (if x ∈ ids then ids.length - 1 else ids.length) := by
  unfold delI
  cases hf : findI x es with
  | none =>
    have hx := (findI_none_iff k.keys).1 hf
    exact ⟨ids, k, fun y => ⟨fun h => ⟨h, fun e => hx (e ▸ h)⟩, fun h => h.1⟩, by rw [if_neg hx]⟩
  | some p =>
    obtain ⟨i, w⟩ := p
    obtain ⟨h1, b, h2⟩ := findI_some_get k.keys hf
    have hi := (List.getElem?_eq_some_iff.1 h1).1
    simp only
    rw [eraseA_eq]
    have hsub : (ids.eraseIdx i).Sublist ids := List.eraseIdx_sublist ids i
    have hsube : (es.eraseIdx i).Sublist es := List.eraseIdx_sublist es i
    refine ⟨ids.eraseIdx i, ⟨?_, k.nodup.sublist hsub, k.born.sublist (hsube.map _), fun e he => k.lt e (hsube.subset he), fun y hy => k.wf y (hsub.subset hy)⟩, fun y => ?_, ?_⟩
    · have hm : ∀ {α β : Type} (f : α → β) (l : List α) (i : Nat), (l.eraseIdx i).map f = (l.map f).eraseIdx i := by
        intro α β f l
        induction l with
        | nil => intro i; rfl
        | cons a l ih =>
          intro i
          cases i with
          | zero => rfl
          | succ i => simp only [List.eraseIdx_cons_succ, List.map_cons, ih]
      rw [hm, k.keys, ← hm]
    · rw [List.mem_eraseIdx_iff_getElem?]
      constructor
      · rintro ⟨j, hj, hy⟩
        refine ⟨List.mem_of_getElem? hy, ?_⟩
        rintro rfl
        obtain ⟨hj1, hj2⟩ := List.getElem?_eq_some_iff.1 hy
        obtain ⟨hi1, hi2⟩ := List.getElem?_eq_some_iff.1 h1
        exact hj ((List.getElem_inj k.nodup).1 (hj2.trans hi2.symm))
      · rintro ⟨hy, hne⟩
        obtain ⟨j, hj⟩ := List.mem_iff_getElem?.1 hy
        refine ⟨j, ?_, hj⟩
        rintro rfl
        rw [h1] at hj
        cases hj
        exact hne rfl
    · rw [if_pos (List.mem_of_getElem? h1), List.length_eraseIdx_of_lt hi]

noncomputable def valI (x : Int) (es : List (Value × Value × Nat)) : Option Value := (findI x es).map fun p => p.2

theorem valI_none {x : Int} {es : List (Value × Value × Nat)} : valI x es = none ↔ findI x es = none := by unfold valI; exact Option.map_eq_none_iff
theorem valI_some {x : Int} {es : List (Value × Value × Nat)} {v : Value} (h : valI x es = some v) : ∃ i, findI x es = some (i, v) := by
  unfold valI at h
  obtain ⟨⟨i, w⟩, h1, h2⟩ := Option.map_eq_some_iff.1 h
  cases h2
  exact ⟨i, h1⟩

theorem valI_cons (x : Int) (k v : Value) (b : Nat) (es : List (Value × Value × Nat)) (y : Int) (hk : k = .int .i64 y) : valI x ((k, v, b) :: es) = if x = y then some v else valI x es := by
  subst hk
  unfold valI
  rw [findI]
  by_cases h : x = y
  · rw [if_pos h, if_pos h]; rfl
  · rw [if_neg h, if_neg h]
    cases findI x es <;> rfl

theorem valI_app (x y : Int) (v : Value) (b : Nat) : ∀ {es : List (Value × Value × Nat)} {ids : List Int}, es.map (fun e => e.1) = ids.map (Value.int .i64) → y ∉ ids → valI x (es ++ [(.int .i64 y, v, b)]) = if x = y then some v else valI x es
  | [], _, _, _ => by rw [List.nil_append, valI_cons x _ v b [] y rfl]
  | (k, w, b') :: es, [], h, _ => by cases h
  | (k, w, b') :: es, z :: ids, h, hy => by
    simp only [List.map_cons, List.cons.injEq] at h
    obtain ⟨h1, h2⟩ := h
    rw [List.cons_append, valI_cons x k w b' _ z h1, valI_cons x k w b' _ z h1, valI_app x y v b h2 fun q => hy (List.mem_cons_of_mem _ q)]
    by_cases hz : x = z
    · rw [if_pos hz, if_pos hz, if_neg fun e => hy (by rw [← e, hz]; exact List.mem_cons_self ..)]
    · rw [if_neg hz, if_neg hz]

theorem valI_mod (x y : Int) (v : Value) : ∀ {es : List (Value × Value × Nat)} {ids : List Int} {i : Nat}, es.map (fun e => e.1) = ids.map (Value.int .i64) → ids.Nodup → ids[i]? = some y → valI x (modA (.int .i64 y) v es i) = if x = y then some v else valI x es
  | [], [], _, _, _, h => by cases h
  | [], _ :: _, _, h, _, _ => by cases h
  | _ :: _, [], _, h, _, _ => by cases h
  | (k, w, b) :: es, z :: ids, 0, h, hn, hi => by
    simp only [List.map_cons, List.cons.injEq] at h
    cases hi
    show valI x ((.int .i64 y, v, b) :: es) = _
    rw [valI_cons x _ v b es y rfl, valI_cons x k w b es y h.1]
    by_cases hz : x = y
    · rw [if_pos hz, if_pos hz]
    · rw [if_neg hz, if_neg hz, if_neg hz]
  | (k, w, b) :: es, z :: ids, i + 1, h, hn, hi => by
    simp only [List.map_cons, List.cons.injEq] at h
    obtain ⟨h1, h2⟩ := h
    obtain ⟨n1, n2⟩ := List.nodup_cons.1 hn
    have hi' : ids[i]? = some y := by simpa using hi
    show valI x ((k, w, b) :: modA (.int .i64 y) v es i) = _
    rw [valI_cons x k w b _ z h1, valI_cons x k w b es z h1, valI_mod x y v h2 n2 hi']
    by_cases hz : x = z
    · rw [if_pos hz, if_pos hz, if_neg fun e => n1 (by rw [← hz, e]; exact List.mem_of_getElem? hi')]
    · rw [if_neg hz, if_neg hz]

theorem valI_put {es : List (Value × Value × Nat)} {n : Nat} {ids : List Int} (k : Keyed es n ids) (x y : Int) (v : Value) : valI x (putI .i64 y v n es).1 = if x = y then some v else valI x es := by
  unfold putI
  cases hf : findI y es with
  | none => exact valI_app x y v n k.keys ((findI_none_iff k.keys).1 hf)
  | some p =>
    obtain ⟨i, w⟩ := p
    exact valI_mod x y v k.keys k.nodup (findI_some_get k.keys hf).1

theorem valI_erase (x y : Int) : ∀ {es : List (Value × Value × Nat)} {ids : List Int} {i : Nat}, es.map (fun e => e.1) = ids.map (Value.int .i64) → ids.Nodup → ids[i]? = some y → valI x (es.eraseIdx i) = if x = y then none else valI x es
  | [], [], _, _, _, h => by cases h
  | [], _ :: _, _, h, _, _ => by cases h
  | _ :: _, [], _, h, _, _ => by cases h
  | (k, w, b) :: es, z :: ids, 0, h, hn, hi => by
    simp only [List.map_cons, List.cons.injEq] at h
    cases hi
    obtain ⟨n1, n2⟩ := List.nodup_cons.1 hn
    rw [List.eraseIdx_cons_zero, valI_cons x k w b es y h.1]
    by_cases hz : x = y
    · rw [if_pos hz, hz]
      exact valI_none.2 ((findI_none_iff h.2).2 n1)
    · rw [if_neg hz, if_neg hz]
  | (k, w, b) :: es, z :: ids, i + 1, h, hn, hi => by
    simp only [List.map_cons, List.cons.injEq] at h
    obtain ⟨h1, h2⟩ := h
    obtain ⟨n1, n2⟩ := List.nodup_cons.1 hn
    have hi' : ids[i]? = some y := by simpa using hi
    rw [List.eraseIdx_cons_succ, valI_cons x k w b _ z h1, valI_cons x k w b es z h1, valI_erase x y h2 n2 hi']
    by_cases hz : x = z
    · rw [if_pos hz, if_pos hz, if_neg fun e => n1 (by rw [← hz, e]; exact List.mem_of_getElem? hi')]
    · rw [if_neg hz, if_neg hz]

theorem valI_del {es : List (Value × Value × Nat)} {n : Nat} {ids : List Int} (k : Keyed es n ids) (x y : Int) : valI x (delI y es) = if x = y then none else valI x es := by
  unfold delI
  cases hf : findI y es with
  | none =>
    by_cases hz : x = y
    · rw [if_pos hz, hz]
      exact valI_none.2 hf
    · rw [if_neg hz]
  | some p =>
    obtain ⟨i, w⟩ := p
    simp only
    rw [eraseA_eq]
    exact valI_erase x y k.keys k.nodup (findI_some_get k.keys hf).1


theorem Keyed.ks {es : List (Value × Value × Nat)} {n : Nat} {ids : List Int} (k : Keyed es n ids) : KeysI .i64 es := fun p hp => by
  have : p.1 ∈ es.map fun e => e.1 := List.mem_map_of_mem hp
  rw [k.keys] at this
  obtain ⟨y, _, hy⟩ := List.mem_map.1 this
  exact ⟨y, hy.symm⟩
end Go.Ab.Seat
end
section
/- A map's keys, in order (the abstract machine). -/
namespace Go.Ab.Seat
open Go.Extern Go.Proofs
set_option linter.unusedSimpArgs false
set_option linter.unusedVariables false
set_option maxRecDepth 4000
set_option pp.deepTerms false
set_option pp.deepTerms.threshold 6
variable {sm : Nat → Option (List Value → M Value)}

/-- A map's keys, in order. -/
theorem sorted_none {h : T AObj} {c b m n : Nat} {rl wl : List Nat} {es : List (Value × Value × Nat)} (hf : Fresh h c) (hb : Has h b (.cells [.map (some m)])) (hm : Has h m (.map es n)) (hk : keyInts es n = some []) :
    ∃ v s', FnTo (Cs smQ) eg 49 [.func (.func 90) #[] ⟨[.pointer (some ⟨b, 0, none⟩)]⟩] ⟨h, c, rl, wl⟩ v s' ∧ (v = .slice none 0 0 ∧ s' = ⟨h, c, m :: b :: rl, wl⟩) := by
  refine ⟨_, _, ⟨0, ?_⟩, rfl, rfl⟩
  have hs : (Cs smQ).sm 49 = some (sumSorted kindOf) := rfl
  unfold callF
  rw [hs]
  show sumSorted kindOf _ _ = _
  unfold sumSorted
  have e1 : iterOf kindOf [.func (.func 90) #[] ⟨[.pointer (some ⟨b, 0, none⟩)]⟩] = some (90, true, b, 0) := rfl
  rw [e1, bind_run (lift_run (a := (90, true, b, 0)) rfl)]
  dsimp only
  rw [bind_run (getCells_run hb.cel (hb.lt hf))]
  have e2 : nth [Value.map (some m)] 0 = some (.map (some m)) := rfl
  rw [e2, bind_run (lift_run (a := Value.map (some m)) rfl)]
  unfold seqInts
  dsimp only
  rw [bind_run (show ((M.lift (mapAt (Value.map (some m)))).bind mapInts) _ = some ([], ⟨h, c, m :: b :: rl, wl⟩) from by
    have e3 : mapAt (Value.map (some m)) = some (some m) := rfl
    rw [e3, bind_run (lift_run (a := some m) rfl)]
    unfold mapInts
    dsimp only
    rw [bind_run (getMap_run hm (hm.lt hf))]
    exact lift_run hk)]
  rfl

theorem sorted_some {h : T AObj} {c b m n : Nat} {rl wl : List Nat} {es : List (Value × Value × Nat)} {x : Int} {xs : List Int} (hf : Fresh h c) (hb : Has h b (.cells [.map (some m)])) (hm : Has h m (.map es n)) (hk : keyInts es n = some (x :: xs)) (hl : (x :: xs).length ≤ 1000000) :
    ∃ v s', FnTo (Cs smQ) eg 49 [.func (.func 90) #[] ⟨[.pointer (some ⟨b, 0, none⟩)]⟩] ⟨h, c, rl, wl⟩ v s' ∧ (v = .slice (some ⟨c, 0, some 1⟩) (x :: xs).length (x :: xs).length ∧ s' = ⟨h.set c (some (.cells ((sortI (x :: xs)).map fun n => Value.int .i64 n))), c + 1, m :: b :: rl, wl⟩) := by
  refine ⟨_, _, ⟨0, ?_⟩, rfl, rfl⟩
  have hs : (Cs smQ).sm 49 = some (sumSorted kindOf) := rfl
  unfold callF
  rw [hs]
  show sumSorted kindOf _ _ = _
  unfold sumSorted
  have e1 : iterOf kindOf [.func (.func 90) #[] ⟨[.pointer (some ⟨b, 0, none⟩)]⟩] = some (90, true, b, 0) := rfl
  rw [e1, bind_run (lift_run (a := (90, true, b, 0)) rfl)]
  dsimp only
  rw [bind_run (getCells_run hb.cel (hb.lt hf))]
  have e2 : nth [Value.map (some m)] 0 = some (.map (some m)) := rfl
  rw [e2, bind_run (lift_run (a := Value.map (some m)) rfl)]
  unfold seqInts
  dsimp only
  rw [bind_run (show ((M.lift (mapAt (Value.map (some m)))).bind mapInts) _ = some (x :: xs, ⟨h, c, m :: b :: rl, wl⟩) from by
    have e3 : mapAt (Value.map (some m)) = some (some m) := rfl
    rw [e3, bind_run (lift_run (a := some m) rfl)]
    unfold mapInts
    dsimp only
    rw [bind_run (getMap_run hm (hm.lt hf))]
    exact lift_run hk)]
  unfold giveInts
  dsimp only
  rw [show Nat.ble (len (x :: xs)) 1000000 = true from by rw [len_eq]; rw [Nat.ble_eq]; exact hl]
  dsimp only
  rw [bind_run (newCells_run hf), mapA_eq, len_eq]
  rfl

theorem keys_spec (H : Std sm) {h : T AObj} {c m : Nat} {rl wl : List Nat} (hf : Fresh h c) :
    ∃ v s', FnTo (Cs sm) eg 50 [.map (some m)] ⟨h, c, rl, wl⟩ v s' ∧ (v = .func (.func 90) #[] ⟨[.pointer (some ⟨c, 0, none⟩)]⟩ ∧ s' = ⟨h.set c (some (.cells [.map (some m)])), c + 1, rl, wl⟩) := by
  refine Fn.go (H 50 rfl) ex50 fn50 km50 rfl rfl ?_
  refine Zev ?_
  refine Zgo ?_
  exact ⟨.inr rfl, Wres.one rfl ⟨rfl, rfl⟩⟩
end Go.Ab.Seat
end
section
/- Vectors: alike, cut to size; stores: the next one (the abstract machine). -/
namespace Go.Ab.Seat
open Go.Extern Go.Proofs
set_option linter.unusedSimpArgs false
set_option linter.unusedVariables false
set_option maxRecDepth 4000
set_option pp.deepTerms false
set_option pp.deepTerms.threshold 6
variable {sm : Nat → Option (List Value → M Value)}

theorem rowCell {h : T AObj} {oa : Option Addr} {n cap k : Nat} {xs : List Value} (hr : Row h (.slice oa n cap) n k xs) {j : Nat} {x : Value} (hj : j < n * k) (hx : xs[j]? = some x) :
    ∃ b o sp cs, oa = some ⟨b, o, sp⟩ ∧ Cel h b cs ∧ nth cs (o + j) = some x := by
  rcases hr with ⟨rfl, rfl, _⟩ | ⟨b, o, sp, cap', cs, e, hc, hs⟩
  · simp at hx
  · cases e
    refine ⟨b, o, sp, cs, rfl, hc, ?_⟩
    rw [nth_eq, ← (subN_some _ _ _ _ hs).2.2 j hj]
    exact hx

theorem Row.keepR {h h' : T AObj} {v : Value} {n k : Nat} {xs : List Value} (x : Row h v n k xs) (hk : ∀ b, blkOf v = some b → h'.get b = h.get b) : Row h' v n k xs := by
  rcases x with x | ⟨b, o, sp, cap, cs, rfl, hc, hs⟩
  · exact .inl x
  · refine .inr ⟨b, o, sp, cap, cs, rfl, ?_, hs⟩
    have := hk b rfl
    unfold Cel Has at hc ⊢
    rw [this]; exact hc

end Go.Ab.Seat
end
section
/- Hits compared; a vector's score; a metric (the abstract machine). -/
namespace Go.Ab.Seat
open Go.Extern Go.Proofs
set_option linter.unusedSimpArgs false
set_option linter.unusedVariables false
set_option maxRecDepth 4000
set_option pp.deepTerms false
set_option pp.deepTerms.threshold 6
variable {sm : Nat → Option (List Value → M Value)}

/-- A hit. -/
abbrev hitv (id sc : Int) : Value := .agg ⟨[.int .i64 id, .int .i64 sc]⟩
structure Ht where
  id : Int
  sc : Int
def Ht.val (x : Ht) : Value := hitv x.id x.sc
def Ht.cells (x : Ht) : List Value := [.int .i64 x.id, .int .i64 x.sc]
/-- The better one first. -/
def lessH (a b : Ht) : Bool := if a.sc = b.sc then decide (a.id < b.id) else decide (a.sc < b.sc)

theorem less_spec (H : Std sm) {h : T AObj} {c : Nat} {rl wl : List Nat} (hf : Fresh h c) (a b : Ht) :
    ∃ r s', FnTo (Cs sm) eg 93 [hitv a.id a.sc, hitv b.id b.sc] ⟨h, c, rl, wl⟩ r s' ∧ r = .bool (lessH a b) ∧ Ext ⟨h, c, rl, wl⟩ s' (fun _ => False) (fun _ => False) := by
  refine Fn.go (H 93 rfl) ex93 fn93 km93 rfl rfl ?_
  refine Zev ?_
  by_cases h1 : a.sc = b.sc
  · refine Zgo ?_
    refine ⟨.inr rfl, Wres.one rfl ⟨?_, ?_⟩⟩
    · unfold lessH
      rw [if_pos h1]
      rfl
    · exact Zex
  · refine Zgo ?_
    refine ⟨.inr rfl, Wres.one rfl ⟨?_, ?_⟩⟩
    · unfold lessH
      rw [if_neg h1]
      rfl
    · exact Zex

theorem known_spec (H : Std sm) {h : T AObj} {c : Nat} {rl wl : List Nat} (hf : Fresh h c) (m : Int) (hm : m = 1 ∨ m = 2) :
    ∃ r s', FnTo (Cs sm) eg 45 [.int .i64 m] ⟨h, c, rl, wl⟩ r s' ∧ (r = .bool true ∧ s' = ⟨h, c, rl, wl⟩) := by
  refine Fn.go (H 45 rfl) ex45 fn45 km45 rfl rfl ?_
  refine Zev ?_
  rcases hm with rfl | rfl
  · refine Zgo ?_
    exact ⟨.inr rfl, Wres.one rfl ⟨rfl, rfl⟩⟩
  · refine Zgo ?_
    exact ⟨.inr rfl, Wres.one rfl ⟨rfl, rfl⟩⟩

/-- A flat index, made. -/
theorem fnew_spec (H : Std sm) {h : T AObj} {c : Nat} {rl wl : List Nat} (hf : Fresh h c) (m : Int) (hm : m = 1 ∨ m = 2) :
    ∃ r s', FnTo (Cs sm) eg 11 [.int .i64 m] ⟨h, c, rl, wl⟩ r s' ∧ (r = .pointer (some ⟨c + 1, 0, none⟩) ∧ Has s'.h c (.map [] 0) ∧ Has s'.h (c + 1) (.cells [.int .i64 m, .map (some c)]) ∧ s'.c = c + 2) ∧ Ext ⟨h, c, rl, wl⟩ s' (fun _ => False) (fun _ => False) := by
  refine Fn.go (H 11 rfl) ex11 fn11 km11 rfl rfl ?_
  refine Zev ?_
  refine Zgo ?_
  refine Wseq.call rfl rfl (known_spec H Zfr m hm) ?_
  rintro v h1 c1 r1 w1 ⟨rfl, e1⟩
  cases e1
  refine Zgo ?_
  refine ⟨.inr rfl, Wres.one rfl ⟨⟨rfl, Has.other (by omega) Has.same, Has.same, rfl⟩, ?_⟩⟩
  exact Zex

theorem bnew_spec (H : Std sm) {h : T AObj} {c : Nat} {rl wl : List Nat} (hf : Fresh h c) (k : Int) :
    ∃ r s', FnTo (Cs sm) eg 85 [.int .i64 k] ⟨h, c, rl, wl⟩ r s' ∧ (r = .pointer (some ⟨c, 0, none⟩) ∧ Has s'.h c (.cells [.slice none 0 0, .int .i64 (max k 0)]) ∧ s'.c = c + 1) ∧ Ext ⟨h, c, rl, wl⟩ s' (fun _ => False) (fun _ => False) := by
  refine Fn.go (H 85 rfl) ex85 fn85 km85 rfl rfl ?_
  refine Zev ?_
  refine Zgo ?_
  refine ⟨.inr rfl, Wres.one rfl ⟨⟨rfl, ?_, rfl⟩, ?_⟩⟩
  · exact Has.same
  · exact Zex

/-- The closure that best.Put hands over: has a hit that id? -/
theorem clo_spec (H : Std sm) {h : T AObj} {c b : Nat} {rl wl : List Nat} (hf : Fresh h c) (x y : Ht) (hb : Has h b (.cells [.int .i64 y.id, .int .i64 y.sc])) :
    ∃ r s', FnTo (Cs sm) eg 154 [hitv x.id x.sc, .pointer (some ⟨b, 0, none⟩)] ⟨h, c, rl, wl⟩ r s' ∧ r = .bool (decide (x.id = y.id)) ∧ Ext ⟨h, c, rl, wl⟩ s' (fun z => z = b) (fun _ => False) := by
  have l1 := hb.lt hf
  refine Fn.go (H 154 rfl) ex154 fn154 km154 rfl rfl ?_
  refine Zev ?_
  refine Zgo ?_
  refine ⟨.inr rfl, Wres.one rfl ⟨rfl, ?_⟩⟩
  exact Zex
end Go.Ab.Seat
end
