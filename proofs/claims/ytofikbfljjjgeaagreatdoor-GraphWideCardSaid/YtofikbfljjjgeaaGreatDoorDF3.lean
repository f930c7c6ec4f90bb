import Derived.Test.YtofikbfljjjgeaaGreatDoorDP0
import Derived.Test.YtofikbfljjjgeaaGreatDoorE48
import Derived.Test.YtofikbfljjjgeaaGreatDoorDI1
import Derived.Test.YtofikbfljjjgeaaGreatDoorDF2
set_option linter.unusedVariables false
set_option linter.unusedSimpArgs false
section
/- Maps by ints: their keys are apart; what put and del make of them (plain lists). -/
namespace Go.Ab.Seat
open Go.Extern Go.Proofs
theorem mapA_eq {α β : Type} (f : α → β) (l : List α) : mapA f l = l.map f := by
 induction l with
 | nil => rfl
 | cons x xs ih => show f x :: mapA f xs = _; rw [ih]; rfl
theorem nodup_apartI {l : List Int} (h : l.Nodup) : apartI l = true := by
 induction l with
 | nil => rfl
 | cons x xs ih =>
  obtain ⟨h1, h2⟩ := List.nodup_cons.1 h
  rw [apartI_cons]
  cases hm : memI x xs with
  | true => exact absurd ((memI_eq x xs).1 hm) h1
  | false => exact ih h2
theorem nodup_apartN {l : List Nat} (h : l.Nodup) : apartN l = true := by
 induction l with
 | nil => rfl
 | cons x xs ih =>
  obtain ⟨h1, h2⟩ := List.nodup_cons.1 h
  rw [apartN_cons]
  cases hm : mem x xs with
  | true => exact absurd ((mem_eq x xs).1 hm) h1
  | false => exact ih h2
structure Keyed (es : List (Value × Value × Nat)) (n : Nat) (ids : List Int) : Prop where
 keys : es.map (fun e => e.1) = ids.map (Value.int .i64)
 nodup : ids.Nodup
 born : (es.map fun e => e.2.2).Nodup
 lt : ∀ e ∈ es, e.2.2 < n
 wf : ∀ x ∈ ids, wfI x = true
theorem Keyed.nil (n : Nat) : Keyed [] n [] := ⟨rfl, .nil, .nil, (fun e he => by cases he), (fun x hx => by cases hx)⟩
theorem intsOf_ints {ids : List Int} (h : ∀ x ∈ ids, wfI x = true) : intsOf (ids.map (Value.int .i64)) = some ids := by
 induction ids with
 | nil => rfl
 | cons x xs ih =>
  rw [List.map_cons, intsOf_cons, ih fun y hy => h y (List.mem_cons_of_mem _ hy)]
  have : intOf1 (.int .i64 x) = some x := by
   unfold intOf1
   simp only [h x (List.mem_cons_self ..)]
  rw [this]
theorem Keyed.keyInts {es : List (Value × Value × Nat)} {n : Nat} {ids : List Int} (k : Keyed es n ids) : Go.Ab.keyInts es n = some ids := by
 unfold Go.Ab.keyInts
 rw [mapA_eq, k.keys, intsOf_ints k.wf]
 have h3 : allB (fun e : Value × Value × Nat => Nat.blt e.2.2 n) es = true := by
  rw [allB_eq, List.all_eq_true]
  intro e he
  have := k.lt e he
  exact blt_iff.2 this
 rw [mapA_eq]
 simp only [nodup_apartI k.nodup, nodup_apartN k.born, h3]
 rfl
theorem findI_none_iff {x : Int} : ∀ {es : List (Value × Value × Nat)} {ids : List Int}, es.map (fun e => e.1) = ids.map (Value.int .i64) → (findI x es = none ↔ x ∉ ids)
 | [], [], _ => ⟨(fun _ h => by cases h), (fun _ => rfl)⟩
 | [], _ :: _, h => by cases h
 | _ :: _, [], h => by cases h
 | (a, v, b) :: es, y :: ids, h => by
  simp only [List.map_cons, List.cons.injEq] at h
  obtain ⟨rfl, h⟩ := h
  have ih := findI_none_iff (x := x) h
  unfold findI
  by_cases hxy : x = y
  ·rw [if_pos hxy]
   exact ⟨(fun h => by cases h), (fun h => absurd (by rw [hxy]; exact List.mem_cons_self ..) h)⟩
  ·rw [if_neg hxy, Option.map_eq_none_iff, ih, List.mem_cons]
   exact ⟨fun h1 h2 => h2.elim hxy h1, fun h1 h2 => h1 (.inr h2)⟩
theorem findI_some_get {x : Int} : ∀ {es : List (Value × Value × Nat)} {ids : List Int} {i : Nat} {v : Value}, es.map (fun e => e.1) = ids.map (Value.int .i64) → findI x es = some (i, v) → ids[i]? = some x ∧ ∃ b, es[i]? = some (.int .i64 x, v, b)
 | [], _, _, _, _, h => by cases h
 | _ :: _, [], _, _, h, _ => by cases h
 | (a, w, b) :: es, y :: ids, i, v, h, hf => by
  simp only [List.map_cons, List.cons.injEq] at h
  obtain ⟨rfl, h⟩ := h
  unfold findI at hf
  by_cases hxy : x = y
  ·rw [if_pos hxy] at hf
   cases hf
   subst hxy
   exact ⟨rfl, b, rfl⟩
  ·rw [if_neg hxy, Option.map_eq_some_iff] at hf
   obtain ⟨p, hp, he⟩ := hf
   cases he
   obtain ⟨h1, b', h2⟩ := findI_some_get h hp
   exact ⟨by simpa using h1, b', by simpa using h2⟩
theorem modA_keys {x : Int} {v : Value} : ∀ {es : List (Value × Value × Nat)} {ids : List Int} {i : Nat}, es.map (fun e => e.1) = ids.map (Value.int .i64) → ids[i]? = some x → (modA (.int .i64 x) v es i).map (fun e => e.1) = ids.map (Value.int .i64) ∧ (modA (.int .i64 x) v es i).map (fun e => e.2.2) = es.map (fun e => e.2.2)
 | [], [], _, _, h => by cases h
 | [], _ :: _, _, h, _ => by cases h
 | _ :: _, [], _, h, _ => by cases h
 | (a, w, b) :: es, y :: ids, 0, h, hi => by
  simp only [List.map_cons, List.cons.injEq] at h
  obtain ⟨rfl, h⟩ := h
  cases hi
  exact ⟨by simp only [modA, List.map_cons, h], rfl⟩
 | (a, w, b) :: es, y :: ids, i + 1, h, hi => by
  simp only [List.map_cons, List.cons.injEq] at h
  obtain ⟨rfl, h⟩ := h
  obtain ⟨h1, h2⟩ := modA_keys (v := v) h (by simpa using hi)
  exact ⟨by simp only [modA, List.map_cons, h1], by simp only [modA, List.map_cons, h2]⟩
def putIds (x : Int) (ids : List Int) : List Int := if x ∈ ids then ids else ids ++ [x]
theorem Keyed.put {es : List (Value × Value × Nat)} {n : Nat} {ids : List Int} (k : Keyed es n ids) {x : Int} (hw : wfI x = true) (v : Value) : Keyed (putI .i64 x v n es).1 (putI .i64 x v n es).2 (putIds x ids) := by
 unfold putI putIds
 cases hf : findI x es with
 | none =>
  have hx := (findI_none_iff k.keys).1 hf
  rw [if_neg hx]
  refine ⟨by simp [k.keys], ?_, ?_, ?_, ?_⟩
  ·exact List.nodup_append.2 ⟨k.nodup, List.nodup_cons.2 ⟨List.not_mem_nil, .nil⟩, fun a ha b hb => by
    obtain rfl := List.mem_singleton.1 hb
    rintro rfl
    exact hx ha⟩
  ·rw [List.map_append]
   refine List.nodup_append.2 ⟨k.born, List.nodup_cons.2 ⟨List.not_mem_nil, .nil⟩, fun a ha b hb => ?_⟩
   obtain rfl := List.mem_singleton.1 hb
   obtain ⟨e, he, rfl⟩ := List.mem_map.1 ha
   have := k.lt e he
   omega
  ·intro e he
   rcases List.mem_append.1 he with he | he
   ·have := k.lt e he
    show e.2.2 < n + 1
    omega
   ·obtain rfl := List.mem_singleton.1 he
    exact Nat.lt_succ_self n
  ·intro y hy
   rcases List.mem_append.1 hy with hy | hy
   ·exact k.wf y hy
   ·obtain rfl := List.mem_singleton.1 hy
    exact hw
 | some p =>
  obtain ⟨i, w⟩ := p
  obtain ⟨h1, b, h2⟩ := findI_some_get k.keys hf
  rw [if_pos (List.mem_of_getElem? h1)]
  obtain ⟨h3, h4⟩ := modA_keys (v := v) k.keys h1
  refine ⟨h3, k.nodup, by rw [h4]; exact k.born, fun e he => ?_, k.wf⟩
  have : e.2.2 ∈ (modA (.int .i64 x) v es i).map fun e => e.2.2 := List.mem_map_of_mem he
  rw [h4] at this
  obtain ⟨e', he', h5⟩ := List.mem_map.1 this
  rw [← h5]
  exact k.lt e' he'
theorem Keyed.del {es : List (Value × Value × Nat)} {n : Nat} {ids : List Int} (k : Keyed es n ids) (x : Int) : ∃ ids', Keyed (delI x es) n ids' ∧ (∀ y, y ∈ ids' ↔ y ∈ ids ∧ y ≠ x) ∧ ids'.length = (if x ∈ ids then ids.length - 1 else ids.length) := by
 unfold delI
 cases hf : findI x es with
 | none =>
  have hx := (findI_none_iff k.keys).1 hf
  exact ⟨ids, k, fun y => ⟨fun h => ⟨h, fun e => hx (e ▸ h)⟩, fun h => h.1⟩, by rw [if_neg hx]⟩
 | some p =>
  obtain ⟨i, w⟩ := p
  obtain ⟨h1, b, h2⟩ := findI_some_get k.keys hf
  have hi := (List.getElem?_eq_some_iff.1 h1).1
  simp only
  rw [eraseA_eq]
  have hsub : (ids.eraseIdx i).Sublist ids := List.eraseIdx_sublist ids i
  have hsube : (es.eraseIdx i).Sublist es := List.eraseIdx_sublist es i
  refine ⟨ids.eraseIdx i, ⟨?_, k.nodup.sublist hsub, k.born.sublist (hsube.map _), fun e he => k.lt e (hsube.subset he), fun y hy => k.wf y (hsub.subset hy)⟩, fun y => ?_, ?_⟩
  ·have hm : ∀ {α β : Type} (f : α → β) (l : List α) (i : Nat), (l.eraseIdx i).map f = (l.map f).eraseIdx i := by
    intro α β f l
    induction l with
    | nil => intro i; rfl
    | cons a l ih =>
     intro i
     cases i with
     | zero => rfl
     | succ i => simp only [List.eraseIdx_cons_succ, List.map_cons, ih]
   rw [hm, k.keys, ← hm]
  ·rw [List.mem_eraseIdx_iff_getElem?]
   constructor
   ·rintro ⟨j, hj, hy⟩
    refine ⟨List.mem_of_getElem? hy, ?_⟩
    rintro rfl
    obtain ⟨hj1, hj2⟩ := List.getElem?_eq_some_iff.1 hy
    obtain ⟨hi1, hi2⟩ := List.getElem?_eq_some_iff.1 h1
    exact hj ((List.getElem_inj k.nodup).1 (hj2.trans hi2.symm))
   ·rintro ⟨hy, hne⟩
    obtain ⟨j, hj⟩ := List.mem_iff_getElem?.1 hy
    refine ⟨j, ?_, hj⟩
    rintro rfl
    rw [h1] at hj
    cases hj
    exact hne rfl
  ·rw [if_pos (List.mem_of_getElem? h1), List.length_eraseIdx_of_lt hi]
noncomputable def valI (x : Int) (es : List (Value × Value × Nat)) : Option Value := (findI x es).map fun p => p.2
theorem valI_none {x : Int} {es : List (Value × Value × Nat)} : valI x es = none ↔ findI x es = none := by unfold valI; exact Option.map_eq_none_iff
theorem valI_some {x : Int} {es : List (Value × Value × Nat)} {v : Value} (h : valI x es = some v) : ∃ i, findI x es = some (i, v) := by
 unfold valI at h
 obtain ⟨⟨i, w⟩, h1, h2⟩ := Option.map_eq_some_iff.1 h
 cases h2
 exact ⟨i, h1⟩
theorem valI_cons (x : Int) (k v : Value) (b : Nat) (es : List (Value × Value × Nat)) (y : Int) (hk : k = .int .i64 y) : valI x ((k, v, b) :: es) = if x = y then some v else valI x es := by
 subst hk
 unfold valI
 rw [findI]
 by_cases h : x = y
 ·rw [if_pos h, if_pos h]; rfl
 ·rw [if_neg h, if_neg h]
  cases findI x es <;> rfl
theorem valI_app (x y : Int) (v : Value) (b : Nat) : ∀ {es : List (Value × Value × Nat)} {ids : List Int}, es.map (fun e => e.1) = ids.map (Value.int .i64) → y ∉ ids → valI x (es ++ [(.int .i64 y, v, b)]) = if x = y then some v else valI x es
 | [], _, _, _ => by rw [List.nil_append, valI_cons x _ v b [] y rfl]
 | (k, w, b') :: es, [], h, _ => by cases h
 | (k, w, b') :: es, z :: ids, h, hy => by
  simp only [List.map_cons, List.cons.injEq] at h
  obtain ⟨h1, h2⟩ := h
  rw [List.cons_append, valI_cons x k w b' _ z h1, valI_cons x k w b' _ z h1, valI_app x y v b h2 fun q => hy (List.mem_cons_of_mem _ q)]
  by_cases hz : x = z
  ·rw [if_pos hz, if_pos hz, if_neg fun e => hy (by rw [← e, hz]; exact List.mem_cons_self ..)]
  ·rw [if_neg hz, if_neg hz]
theorem valI_mod (x y : Int) (v : Value) : ∀ {es : List (Value × Value × Nat)} {ids : List Int} {i : Nat}, es.map (fun e => e.1) = ids.map (Value.int .i64) → ids.Nodup → ids[i]? = some y → valI x (modA (.int .i64 y) v es i) = if x = y then some v else valI x es
 | [], [], _, _, _, h => by cases h
 | [], _ :: _, _, h, _, _ => by cases h
 | _ :: _, [], _, h, _, _ => by cases h
 | (k, w, b) :: es, z :: ids, 0, h, hn, hi => by
  simp only [List.map_cons, List.cons.injEq] at h
  cases hi
  show valI x ((.int .i64 y, v, b) :: es) = _
  rw [valI_cons x _ v b es y rfl, valI_cons x k w b es y h.1]
  by_cases hz : x = y
  ·rw [if_pos hz, if_pos hz]
  ·rw [if_neg hz, if_neg hz, if_neg hz]
 | (k, w, b) :: es, z :: ids, i + 1, h, hn, hi => by
  simp only [List.map_cons, List.cons.injEq] at h
  obtain ⟨h1, h2⟩ := h
  obtain ⟨n1, n2⟩ := List.nodup_cons.1 hn
  have hi' : ids[i]? = some y := by simpa using hi
  show valI x ((k, w, b) :: modA (.int .i64 y) v es i) = _
  rw [valI_cons x k w b _ z h1, valI_cons x k w b es z h1, valI_mod x y v h2 n2 hi']
  by_cases hz : x = z
  ·rw [if_pos hz, if_pos hz, if_neg fun e => n1 (by rw [← hz, e]; exact List.mem_of_getElem? hi')]
  ·rw [if_neg hz, if_neg hz]
theorem valI_put {es : List (Value × Value × Nat)} {n : Nat} {ids : List Int} (k : Keyed es n ids) (x y : Int) (v : Value) : valI x (putI .i64 y v n es).1 = if x = y then some v else valI x es := by
 unfold putI
 cases hf : findI y es with
 | none => exact valI_app x y v n k.keys ((findI_none_iff k.keys).1 hf)
 | some p =>
  obtain ⟨i, w⟩ := p
  exact valI_mod x y v k.keys k.nodup (findI_some_get k.keys hf).1
theorem valI_erase (x y : Int) : ∀ {es : List (Value × Value × Nat)} {ids : List Int} {i : Nat}, es.map (fun e => e.1) = ids.map (Value.int .i64) → ids.Nodup → ids[i]? = some y → valI x (es.eraseIdx i) = if x = y then none else valI x es
 | [], [], _, _, _, h => by cases h
 | [], _ :: _, _, h, _, _ => by cases h
 | _ :: _, [], _, h, _, _ => by cases h
 | (k, w, b) :: es, z :: ids, 0, h, hn, hi => by
  simp only [List.map_cons, List.cons.injEq] at h
  cases hi
  obtain ⟨n1, n2⟩ := List.nodup_cons.1 hn
  rw [List.eraseIdx_cons_zero, valI_cons x k w b es y h.1]
  by_cases hz : x = y
  ·rw [if_pos hz, hz]
   exact valI_none.2 ((findI_none_iff h.2).2 n1)
  ·rw [if_neg hz, if_neg hz]
 | (k, w, b) :: es, z :: ids, i + 1, h, hn, hi => by
  simp only [List.map_cons, List.cons.injEq] at h
  obtain ⟨h1, h2⟩ := h
  obtain ⟨n1, n2⟩ := List.nodup_cons.1 hn
  have hi' : ids[i]? = some y := by simpa using hi
  rw [List.eraseIdx_cons_succ, valI_cons x k w b _ z h1, valI_cons x k w b es z h1, valI_erase x y h2 n2 hi']
  by_cases hz : x = z
  ·rw [if_pos hz, if_pos hz, if_neg fun e => n1 (by rw [← hz, e]; exact List.mem_of_getElem? hi')]
  ·rw [if_neg hz, if_neg hz]
theorem valI_del {es : List (Value × Value × Nat)} {n : Nat} {ids : List Int} (k : Keyed es n ids) (x y : Int) : valI x (delI y es) = if x = y then none else valI x es := by
 unfold delI
 cases hf : findI y es with
 | none =>
  by_cases hz : x = y
  ·rw [if_pos hz, hz]
   exact valI_none.2 hf
  ·rw [if_neg hz]
 | some p =>
  obtain ⟨i, w⟩ := p
  simp only
  rw [eraseA_eq]
  exact valI_erase x y k.keys k.nodup (findI_some_get k.keys hf).1
theorem Keyed.ks {es : List (Value × Value × Nat)} {n : Nat} {ids : List Int} (k : Keyed es n ids) : KeysI .i64 es := fun p hp => by
 have : p.1 ∈ es.map fun e => e.1 := List.mem_map_of_mem hp
 rw [k.keys] at this
 obtain ⟨y, _, hy⟩ := List.mem_map.1 this
 exact ⟨y, hy.symm⟩
end Go.Ab.Seat
end
section
/- A map's keys, in order (the abstract machine). -/
namespace Go.Ab.Seat
open Go.Extern Go.Proofs
set_option maxRecDepth 4000
variable {sm : Nat → Option (List Value → M Value)}
end Go.Ab.Seat
end
section
/- A map's keys, in order (the abstract machine). -/
namespace Go.Ab.Seat
open Go.Extern Go.Proofs
set_option maxRecDepth 4000
variable {sm : Nat → Option (List Value → M Value)}
end Go.Ab.Seat
end
section
/- An index of lists: its members as a rising list (the abstract machine). -/
namespace Go.Ab.Seat
open Go.Extern Go.Proofs
set_option maxRecDepth 4000
abbrev mbI (id : Int) (zs : List Int) (k : Int) : Rc := ⟨id, zs.map (Value.int .i32), .empty, k, false⟩
def listZ (mid : List (List Int)) (zs : List Int) : Int := max (nearZ mid zs) 0
def IRep (h : T AObj) (p m : Nat) (U : Nat → Prop) (r : Rc) (v : Value) : Prop := ∃ w, v = .agg ⟨[w, .int .i64 r.seq]⟩ ∧ Own h 0 w r.xs.length r.xs ∧ ∀ b, blkOf w = some b → U b ∧ b ≠ p ∧ b ≠ m
def IFits (h : T AObj) (p m : Nat) (U : Nat → Prop) (o : Option Rc) (w : Option Value) : Prop := (o = none ∧ w = none) ∨ ∃ r v, o = some r ∧ w = some v ∧ IRep h p m U r v
structure IvfM (h : T AObj) (p m : Nat) (mv : Value) (mt : Int) (dim : Nat) (mid : List (List Int)) (M : List Rc) (U : Nat → Prop) : Prop where
 ptr : Has h p (.cells [.int .i64 mt, mv, .map (some m)])
 mids : MRow h mv dim mid (fun b => U b ∧ b ≠ p ∧ b ≠ m)
 ex : ∃ es n, Has h m (.map es n) ∧ (∃ ids, Keyed es n ids) ∧ ∀ x, IFits h p m U (getM x M) (valI x es)
 pU : U p
 mU : U m
 ne : p ≠ m
 rises : Rises M
 ok : ∀ r ∈ M, ∃ zs : List Int, r = mbI r.id zs (listZ mid zs) ∧ zs.length = dim ∧ Bnd zs
theorem IRep.keep {h h' : T AObj} {p m c : Nat} {U U' : Nat → Prop} {r : Rc} {v : Value} (x : IRep h p m U r v) (hf : Fresh h c) (hU : ∀ b, U b → U' b) (k : ∀ b, U b → b < c → b ≠ p → b ≠ m → h'.get b = h.get b) : IRep h' p m U' r v := by
 obtain ⟨w, e, x1, x2⟩ := x
 exact ⟨w, e, x1.keep fun b hb => k b (x2 b hb).1 ((x1.blk hb).2.lt hf) (x2 b hb).2.1 (x2 b hb).2.2, fun b hb => ⟨hU b (x2 b hb).1, (x2 b hb).2⟩⟩
theorem IFits.keep {h h' : T AObj} {p m c : Nat} {U U' : Nat → Prop} {o : Option Rc} {w : Option Value} (x : IFits h p m U o w) (hf : Fresh h c) (hU : ∀ b, U b → U' b) (k : ∀ b, U b → b < c → b ≠ p → b ≠ m → h'.get b = h.get b) : IFits h' p m U' o w := by
 rcases x with x | ⟨r, v, h1, h2, h3⟩
 ·exact .inl x
 ·exact .inr ⟨r, v, h1, h2, h3.keep hf hU k⟩
theorem IvfM.keep {h h' : T AObj} {c p m dim : Nat} {mv : Value} {mt : Int} {mid : List (List Int)} {M : List Rc} {U : Nat → Prop} (q : IvfM h p m mv mt dim mid M U) (hf : Fresh h c) (k : ∀ b, U b → b < c → h'.get b = h.get b) : IvfM h' p m mv mt dim mid M U := by
 obtain ⟨es, n, h1, h2, h3⟩ := q.ex
 exact ⟨(k p q.pU (q.ptr.lt hf)).trans q.ptr, q.mids.keep hf (fun _ q => q) (fun b hb hc _ => k b hb.1 hc), ⟨es, n, (k m q.mU (h1.lt hf)).trans h1, h2, fun x => (h3 x).keep hf (fun _ q => q) fun b hb hc _ _ => k b hb hc⟩, q.pU, q.mU, q.ne, q.rises, q.ok⟩
theorem IvfM.lt {h : T AObj} {c p m dim : Nat} {mv : Value} {mt : Int} {mid : List (List Int)} {M : List Rc} {U : Nat → Prop} (q : IvfM h p m mv mt dim mid M U) (hf : Fresh h c) : p < c ∧ m < c := by
 obtain ⟨es, n, h1, h2, h3⟩ := q.ex
 exact ⟨q.ptr.lt hf, h1.lt hf⟩
theorem IvfM.hm {h : T AObj} {p m dim : Nat} {mv : Value} {mt : Int} {mid : List (List Int)} {M : List Rc} {U : Nat → Prop} (q : IvfM h p m mv mt dim mid M U) : ∃ es n, Has h m (.map es n) := by
 obtain ⟨es, n, h1, _⟩ := q.ex
 exact ⟨es, n, h1⟩
theorem IvfM.ids {h : T AObj} {p m : Nat} {U : Nat → Prop} {M : List Rc} {n : Nat} {es : List (Value × Value × Nat)} {ids : List Int} (hk : Keyed es n ids) (hr : Rises M) (hv : ∀ x, IFits h p m U (getM x M) (valI x es)) : sortI ids = M.map Rc.id := by
 refine rises_ext (sortI_rises hk.nodup) hr.ids fun x => ?_
 rw [(sortI_perm ids).mem_iff]
 constructor
 ·intro hx
  rcases hv x with ⟨_, h4⟩ | ⟨r, v, h4, _, _⟩
  ·exact absurd hx ((findI_none_iff hk.keys).1 (valI_none.1 h4))
  ·obtain ⟨h5, h6⟩ := getM_mem h4
   exact List.mem_map.2 ⟨r, h5, h6⟩
 ·intro hx
  obtain ⟨r, h5, rfl⟩ := List.mem_map.1 hx
  refine Classical.byContradiction fun hn => ?_
  rcases hv r.id with ⟨h4, _⟩ | ⟨r', v, _, h4, _⟩
  ·exact absurd rfl (getM_none.1 h4 r h5)
  ·rw [valI_none.2 ((findI_none_iff hk.keys).2 hn)] at h4
   cases h4
end Go.Ab.Seat
end
section
/- An index of lists: one is put, let go; the ids (the abstract machine). -/
namespace Go.Ab.Seat
open Go.Extern Go.Proofs
set_option maxRecDepth 4000
end Go.Ab.Seat
end
section
/- An index of lists: its lists (the abstract machine). -/
namespace Go.Ab.Seat
open Go.Extern Go.Proofs
set_option maxRecDepth 4000
theorem HI.keep {h h' : T AObj} {c0 : Nat} {w : Value} {l : List Int} (x : HI h c0 w l) (k : ∀ b, blkOf w = some b → h'.get b = h.get b) : HI h' c0 w l := by
 rcases x with x | ⟨b, h1, h2, h3, h4⟩
 ·exact .inl x
 ·exact .inr ⟨b, h1, h2, h3, (k b (by rw [h1]; rfl)).trans h4⟩
theorem HI.lt {h : T AObj} {c c0 : Nat} {w : Value} {l : List Int} (x : HI h c0 w l) (hf : Fresh h c) {b : Nat} (hb : blkOf w = some b) : c0 ≤ b ∧ b < c := by
 rcases x with ⟨rfl, _⟩ | ⟨b', rfl, _, h3, h4⟩
 ·cases hb
 ·cases hb; exact ⟨h3, h4.lt hf⟩
structure IntG (h : T AObj) (c0 : Nat) (ws : List Value) (ls : List (List Int)) : Prop where
 len : ws.length = ls.length
 row : ∀ (i : Nat) (l : List Int), ls[i]? = some l → ∃ w, ws[i]? = some w ∧ HI h c0 w l
 inj : ∀ (i j : Nat) (w w' : Value) (b : Nat), ws[i]? = some w → ws[j]? = some w' → blkOf w = some b → blkOf w' = some b → i = j
theorem IntG.keep {h h' : T AObj} {c c0 : Nat} {ws : List Value} {ls : List (List Int)} (x : IntG h c0 ws ls) (hf : Fresh h c) (k : ∀ b, b < c → c0 ≤ b → h'.get b = h.get b) : IntG h' c0 ws ls :=
 ⟨x.len, fun i l hi => by
  obtain ⟨w, h1, h2⟩ := x.row i l hi
  exact ⟨w, h1, h2.keep fun b hb => k b (h2.lt hf hb).2 (h2.lt hf hb).1⟩, x.inj⟩
theorem IntG.step {h h' : T AObj} {c c0 : Nat} {ws : List Value} {ls : List (List Int)} (x : IntG h c0 ws ls) (hf : Fresh h c) {i : Nat} {w0 w : Value} {l : List Int} (h0 : ws[i]? = some w0) (hw : HI h' c0 w l) (hb : ∀ b, blkOf w = some b → c ≤ b)
  (k : ∀ b, b < c → blkOf w0 ≠ some b → c0 ≤ b → h'.get b = h.get b) : IntG h' c0 (ws.set i w) (ls.set i l) := by
 have hil : i < ws.length := (List.getElem?_eq_some_iff.1 h0).1
 have hold : ∀ j w1, ws[j]? = some w1 → ∀ b, blkOf w1 = some b → b < c := fun j w1 hj b hb1 => by
  have h2 := (List.getElem?_eq_some_iff.1 hj).1
  rw [x.len] at h2
  obtain ⟨w2, h3, h4⟩ := x.row j ls[j] (List.getElem?_eq_getElem h2)
  rw [hj] at h3; cases h3
  exact (h4.lt hf hb1).2
 refine ⟨by rw [List.length_set, List.length_set]; exact x.len, fun j l1 hj => ?_, fun j j' w1 w1' b e1 e2 b1 b2 => ?_⟩
 ·rw [List.getElem?_set] at hj ⊢
  by_cases hij : i = j
  ·subst hij
   rw [if_pos rfl] at hj ⊢
   rw [if_pos (by rw [← x.len]; exact hil)] at hj
   cases hj
   rw [if_pos hil]
   exact ⟨w, rfl, hw⟩
  ·rw [if_neg hij] at hj ⊢
   obtain ⟨w1, h1, h2⟩ := x.row j l1 hj
   refine ⟨w1, h1, h2.keep fun b hb => k b (h2.lt hf hb).2 (fun q => ?_) (h2.lt hf hb).1⟩
   exact hij (x.inj i j w0 w1 b h0 h1 q hb)
 ·rw [List.getElem?_set] at e1 e2
  by_cases hij : i = j
  ·by_cases hij' : i = j'
   ·omega
   ·rw [if_neg hij'] at e2
    rw [if_pos hij, if_pos hil] at e1
    cases e1
    have h1 := hb b b1
    have h2 := hold j' w1' e2 b b2
    omega
  ·rw [if_neg hij] at e1
   by_cases hij' : i = j'
   ·rw [if_pos hij', if_pos hil] at e2
    cases e2
    have h1 := hb b b2
    have h2 := hold j w1 e1 b b1
    omega
   ·rw [if_neg hij'] at e2
    exact x.inj j j' w1 w1' b e1 e2 b1 b2
end Go.Ab.Seat
end
section
/- The best ones of some, whichever order they come in; the nearest middle (plain). -/
namespace Go.Ab.Seat
open Go.Extern Go.Proofs
def hitJ (mid : List (List Int)) (qs : List Int) (i : Nat) : Ht := ⟨(i : Int), scoreZ 1 (mid.getD i []) qs⟩
theorem hitJ_mem {mid : List (List Int)} {qs : List Int} {i : Nat} (hi : i < mid.length) : hitJ mid qs i ∈ hitO qs mid := List.mem_map.2 ⟨i, List.mem_range.2 hi, rfl⟩
theorem hitJ_of {mid : List (List Int)} {qs : List Int} {x : Ht} (h : x ∈ hitO qs mid) : ∃ i, i < mid.length ∧ x = hitJ mid qs i := by
 obtain ⟨i, h1, rfl⟩ := List.mem_map.1 h
 exact ⟨i, List.mem_range.1 h1, rfl⟩
theorem near_char {mid : List (List Int)} {qs : List Int} {j : Nat} (hj : j < mid.length) (h : ∀ i, i < mid.length → lessH (hitJ mid qs i) (hitJ mid qs j) = false) : nearZ mid qs = (j : Int) := by
 have h0 := hitO_len qs mid
 have hd := hitO_nodup qs mid
 obtain ⟨p1, p2⟩ := bestOf_ord (k := mid.length) hd (hitO qs mid).length (Nat.le_refl _) (by omega)
 rw [List.take_length] at p1 p2
 unfold nearZ ordZ
 rw [if_neg (by omega)]
 have hl : (bestOf mid.length (hitO qs mid)).length = mid.length := by rw [p1.length_eq, h0]
 cases hb : bestOf mid.length (hitO qs mid) with
 | nil => rw [hb] at hl; simp at hl; omega
 | cons x l =>
  rw [hb] at p1 p2
  obtain ⟨i, hi, rfl⟩ := hitJ_of (p1.mem_iff.1 (List.mem_cons_self ..))
  show (i : Int) = j
  rcases List.mem_cons.1 (p1.mem_iff.2 (hitJ_mem (qs := qs) hj)) with e | hm
  ·have := congrArg Ht.id e
   exact this.symm
  ·have h1 := (List.pairwise_cons.1 p2).1 _ hm
   rw [h i hi] at h1
   cases h1
def NearUp (mid : List (List Int)) (qs : List Int) (i : Nat) (z : Int) : Prop := (i = 0 ∧ z = -1) ∨ ∃ j : Nat, z = (j : Int) ∧ j < i ∧ ∀ i', i' < i → lessH (hitJ mid qs i') (hitJ mid qs j) = false
theorem NearUp.end {mid : List (List Int)} {qs : List Int} {z : Int} (h : NearUp mid qs mid.length z) : nearZ mid qs = z := by
 rcases h with ⟨h1, rfl⟩ | ⟨j, rfl, h2, h3⟩
 ·unfold nearZ; rw [if_pos h1]
 ·exact near_char h2 h3
theorem NearUp.take {mid : List (List Int)} {qs : List Int} {i : Nat} : NearUp mid qs (i + 1) (i : Int) ↔ ∀ i', i' < i → lessH (hitJ mid qs i') (hitJ mid qs i) = false := by
 constructor
 ·rintro (⟨h1, _⟩ | ⟨j, h1, h2, h3⟩) i' hi
  ·cases h1
  ·obtain rfl : j = i := by omega
   exact h3 i' (by omega)
 ·intro h
  refine .inr ⟨i, rfl, by omega, fun i' hi => ?_⟩
  rcases Nat.lt_or_ge i' i with q | q
  ·exact h i' q
  ·obtain rfl : i' = i := by omega
   rw [lessH_not]; omega
theorem NearUp.up {mid : List (List Int)} {qs : List Int} {i : Nat} {j : Nat} (h : NearUp mid qs i (j : Int)) : NearUp mid qs (i + 1) (if scoreZ 1 (mid.getD i []) qs < scoreZ 1 (mid.getD j []) qs then (i : Int) else (j : Int)) := by
 rcases h with ⟨_, h⟩ | ⟨j', h1, h2, h3⟩
 ·omega
 obtain rfl : j' = j := by omega
 split
 ·rename_i q
  rw [NearUp.take]
  intro i' hi
  have h4 := h3 i' hi
  rw [lessH_not] at h4 ⊢
  unfold hitJ at h4 ⊢
  dsimp only at h4 ⊢
  omega
 ·rename_i q
  refine .inr ⟨j', rfl, by omega, fun i' hi => ?_⟩
  rcases Nat.lt_or_ge i' i with q2 | q2
  ·exact h3 i' q2
  ·obtain rfl : i' = i := by omega
   rw [lessH_not]
   unfold hitJ
   dsimp only
   omega
end Go.Ab.Seat
end
section
/- A flat index: its members as a rising list (the abstract machine). -/
namespace Go.Ab.Seat
open Go.Extern Go.Proofs
set_option maxRecDepth 4000
def FRep (h : T AObj) (p m : Nat) (U : Nat → Prop) (r : Rc) (v : Value) : Prop := Own h 0 v r.xs.length r.xs ∧ ∀ b, blkOf v = some b → U b ∧ b ≠ p ∧ b ≠ m
def FFits (h : T AObj) (p m : Nat) (U : Nat → Prop) (o : Option Rc) (w : Option Value) : Prop := (o = none ∧ w = none) ∨ ∃ r v, o = some r ∧ w = some v ∧ FRep h p m U r v
structure FlatM (h : T AObj) (p m : Nat) (mt : Int) (dim : Nat) (M : List Rc) (U : Nat → Prop) : Prop where
 ptr : Has h p (.cells [.int .i64 mt, .map (some m)])
 ex : ∃ es n, Has h m (.map es n) ∧ (∃ ids, Keyed es n ids) ∧ ∀ x, FFits h p m U (getM x M) (valI x es)
 pU : U p
 mU : U m
 ne : p ≠ m
 rises : Rises M
 ok : ∀ r ∈ M, ∃ zs : List Int, r.xs = zs.map (Value.int .i32) ∧ zs.length = dim ∧ Bnd zs
theorem FRep.keep {h h' : T AObj} {p m c : Nat} {U U' : Nat → Prop} {r : Rc} {v : Value} (x : FRep h p m U r v) (hf : Fresh h c) (hU : ∀ b, U b → U' b) (k : ∀ b, U b → b < c → b ≠ p → b ≠ m → h'.get b = h.get b) : FRep h' p m U' r v :=
 ⟨x.1.keep fun b hb => k b (x.2 b hb).1 ((x.1.blk hb).2.lt hf) (x.2 b hb).2.1 (x.2 b hb).2.2, fun b hb => ⟨hU b (x.2 b hb).1, (x.2 b hb).2⟩⟩
theorem FFits.keep {h h' : T AObj} {p m c : Nat} {U U' : Nat → Prop} {o : Option Rc} {w : Option Value} (x : FFits h p m U o w) (hf : Fresh h c) (hU : ∀ b, U b → U' b) (k : ∀ b, U b → b < c → b ≠ p → b ≠ m → h'.get b = h.get b) : FFits h' p m U' o w := by
 rcases x with x | ⟨r, v, h1, h2, h3⟩
 ·exact .inl x
 ·exact .inr ⟨r, v, h1, h2, h3.keep hf hU k⟩
theorem FlatM.keep {h h' : T AObj} {c p m dim : Nat} {mt : Int} {M : List Rc} {U : Nat → Prop} (q : FlatM h p m mt dim M U) (hf : Fresh h c) (k : ∀ b, U b → b < c → h'.get b = h.get b) : FlatM h' p m mt dim M U := by
 obtain ⟨es, n, h1, h2, h3⟩ := q.ex
 exact ⟨(k p q.pU (q.ptr.lt hf)).trans q.ptr, ⟨es, n, (k m q.mU (h1.lt hf)).trans h1, h2, fun x => (h3 x).keep hf (fun _ q => q) fun b hb hc _ _ => k b hb hc⟩, q.pU, q.mU, q.ne, q.rises, q.ok⟩
theorem FlatM.lt {h : T AObj} {c p m dim : Nat} {mt : Int} {M : List Rc} {U : Nat → Prop} (q : FlatM h p m mt dim M U) (hf : Fresh h c) : p < c ∧ m < c := by
 obtain ⟨es, n, h1, h2, h3⟩ := q.ex
 exact ⟨q.ptr.lt hf, h1.lt hf⟩
theorem FlatM.new {h : T AObj} {p m dim : Nat} {mt : Int} (hp : Has h p (.cells [.int .i64 mt, .map (some m)])) (hm : Has h m (.map [] 0)) (hne : p ≠ m) : FlatM h p m mt dim [] (fun b => b = p ∨ b = m) :=
 ⟨hp, ⟨[], 0, hm, ⟨[], .nil 0⟩, fun x => .inl ⟨rfl, rfl⟩⟩, .inl rfl, .inr rfl, hne, Rises.nil, fun r hr => by cases hr⟩
theorem FlatM.ids {h : T AObj} {p m : Nat} {U : Nat → Prop} {M : List Rc} {n : Nat} {es : List (Value × Value × Nat)} {ids : List Int} (hk : Keyed es n ids) (hr : Rises M) (hv : ∀ x, FFits h p m U (getM x M) (valI x es)) : sortI ids = M.map Rc.id := by
 refine rises_ext (sortI_rises hk.nodup) hr.ids fun x => ?_
 rw [(sortI_perm ids).mem_iff]
 constructor
 ·intro hx
  rcases hv x with ⟨_, h4⟩ | ⟨r, v, h4, _, _⟩
  ·exact absurd hx ((findI_none_iff hk.keys).1 (valI_none.1 h4))
  ·obtain ⟨h5, h6⟩ := getM_mem h4
   exact List.mem_map.2 ⟨r, h5, h6⟩
 ·intro hx
  obtain ⟨r, h5, rfl⟩ := List.mem_map.1 hx
  refine Classical.byContradiction fun hn => ?_
  rcases hv r.id with ⟨h4, _⟩ | ⟨r', v, _, h4, _⟩
  ·exact absurd rfl (getM_none.1 h4 r h5)
  ·rw [valI_none.2 ((findI_none_iff hk.keys).2 hn)] at h4
   cases h4
end Go.Ab.Seat
end
section
/- Is a hit's id among some? (the abstract machine) -/
namespace Go.Ab.Seat
open Go.Extern Go.Proofs
set_option maxRecDepth 4000
variable {sm : Nat → Option (List Value → M Value)}
theorem rowB {h : T AObj} {oa : Option Addr} {n cap k : Nat} {xs : List Value} (hr : Row h (.slice oa n cap) n k xs) (hn : 0 < n) : ∃ b o sp cs, oa = some ⟨b, o, sp⟩ ∧ Cel h b cs ∧ subN o (n * k) cs = some xs := by
 rcases hr with ⟨rfl, _⟩ | ⟨b, o, sp, cap', cs, e, hc, hs⟩
 ·omega
 ·cases e
  exact ⟨b, o, sp, cs, rfl, hc, hs⟩
abbrev cloV (bx : Nat) : Value := .func (.func 199) ⟨[]⟩ ⟨[.pointer (some ⟨bx, 0, none⟩)]⟩
def EIx (oa : Option Addr) (n cap bx : Nat) (z : Int) (j5 j9 j16 : Value) : L :=
 .cons 0 (.slice oa n cap) (.cons 1 (cloV bx) (.cons 4 (.int .i64 0) (.cons 7 (.int .i64 (n : Int)) (.cons 8 (.int .i64 z) (.cons 5 j5 (.cons 9 j9 (.cons 16 j16 .nil)))))))
set_option maxHeartbeats 4000000 in
theorem idxf_spec (H : Std sm) {h : T AObj} {c : Nat} {rl wl : List Nat} (hf : Fresh h c) {oa : Option Addr} {cap bx : Nat} {l : List Ht} {y : Ht} (hx : Row h (.slice oa l.length cap) l.length 2 (flatH l)) (hy : Has h bx (.cells [.int .i64 y.id, .int .i64 y.sc])) (hb : l.length ≤ 100000) (R : Nat → Prop) (hR : ∀ x, blkOf (.slice oa l.length cap) = some x → R x) (hRy : R bx) :
  ∃ r s', FnTo (Cs sm) eg 226 [.slice oa l.length cap, cloV bx] ⟨h, c, rl, wl⟩ r s' ∧ (∃ z, r = .int .i64 z ∧ decide (0 ≤ z) = l.any (fun x => decide (x.id = y.id))) ∧ Ext ⟨h, c, rl, wl⟩ s' R (fun _ => False) := by
 refine Fn.go (H 226 rfl) ex226 fn226 km226 rfl rfl ?_
 refine Zev ?_
 have ly := hy.lt hf
 refine Zgo ?_
 refine Wx.cutO (fun e s => ∃ (j5 j9 j16 : Value) (h' : T AObj) (c' : Nat) (rl' wl' : List Nat), e = EIx oa l.length cap bx l.length j5 j9 j16 ∧ s = ⟨h', c', rl', wl'⟩ ∧ c ≤ c' ∧ Fresh h' c' ∧ Kp h h' c (fun _ => False) ∧ Lg c R rl' ∧ Lg c (fun _ => False) wl' ∧ l.any (fun x => decide (x.id = y.id)) = false) Zrs ?_ ?_
 ·refine Wx.loopE (fun k1 e s => ∃ (i : Nat) (z : Int) (j5 j9 j16 : Value) (h' : T AObj) (c' : Nat) (rl' wl' : List Nat), e = EIx oa l.length cap bx z j5 j9 j16 ∧ z = i ∧ s = ⟨h', c', rl', wl'⟩ ∧ c ≤ c' ∧ Fresh h' c' ∧ Kp h h' c (fun _ => False) ∧ Lg c R rl' ∧ Lg c (fun _ => False) wl' ∧ (∀ x ∈ l.take i, x.id ≠ y.id) ∧ i ≤ l.length ∧ k1 = l.length - i) l.length (EIx oa l.length cap bx 0 top top top) Zrs ?_ ?_ ?_
  ·unfold EIx
   exact Zek
  ·exact ⟨0, 0, _, _, _, _, _, _, _, rfl, rfl, rfl, Nat.le_refl _, Zfr, Zkp, Zlg, Zlg, (fun x hx => by simp at hx), by omega, rfl⟩
  ·rintro k1 e s ⟨i, z, j5, j9, j16, h', c', rl', wl', rfl, hz, rfl, hcc, hf', hkp, hlr, hlw, hno, hid, rfl⟩
   unfold EIx
   by_cases hi : i < l.length
   ·have hx' := Row.keepF hx hf (fun b hb => hkp b hb (fun q => q))
    have hy' : Has h' bx (.cells [.int .i64 y.id, .int .i64 y.sc]) := (hkp bx ly (fun q => q)).trans hy
    obtain ⟨b1, o1, sp1, cs1, rfl, hc1, hs1⟩ := rowB hx' (by omega)
    have hR1 := hR b1 rfl
    have l1 := hc1.lt hf'
    have hg := sub_hit hs1 (List.getElem?_eq_getElem hi)
    refine Zgo ?_
    refine Zu (to_indexAddr (k := i) el37 rfl rfl hz (by omega)) ?_
    refine Zu (to_loadS ag52 rfl hc1 (by omega) hg) ?_
    refine Wseq.callV rfl rfl rfl (clo_spec H Zfr l[i] y hy') ?_
    rintro v h1 c1 r1 w1 ⟨rfl, hext⟩
    have kp := Kp.ext (W := fun _ => False) (h := h) (c := c) hkp hext (by omega) (fun _ _ q => q)
    have lr := Lg.extR (R := R) (c := c) Zlg hext (fun q _ hq => by rw [hq]; exact hRy)
    have lw := Lg.extW (W := fun _ => False) (c := c) Zlg hext (fun _ _ q => q)
    have fr1 := hext.fresh
    have le1 := hext.c
    simp only at le1 fr1
    by_cases hid2 : l[i].id = y.id
    ·rw [decide_eq_true hid2]
     refine Zgo ?_
     refine ⟨.inr rfl, Wres.one rfl ⟨⟨_, rfl, ?_⟩, ?_⟩⟩
     ·rw [decide_eq_true (show (0 : Int) ≤ z by omega)]
      exact (List.any_eq_true.2 ⟨l[i], List.getElem_mem hi, decide_eq_true hid2⟩).symm
     ·exact Zex
    ·rw [decide_eq_false hid2]
     refine Zgo ?_
     refine RoundE.go (l.length - (i + 1)) (EIx _ l.length cap bx (z + 1) _ _ _) (by omega) Zek ⟨i + 1, z + 1, _, _, _, _, _, _, _, rfl, by omega, rfl, by omega, fr1, kp, lr, lw, ?_, by omega, rfl⟩
     intro x hx
     rw [List.take_succ_eq_append_getElem hi] at hx
     rcases List.mem_append.1 hx with hx | hx
     ·exact hno x hx
     ·rw [List.mem_singleton.1 hx]; exact hid2
   ·refine Zgo ?_
    obtain rfl : i = l.length := by omega
    subst hz
    refine CutQ.go (EIx _ l.length cap bx l.length _ _ _) Zek ⟨_, _, _, _, _, _, _, rfl, rfl, hcc, hf', hkp, Zlg, Zlg, ?_⟩
    rw [List.take_length] at hno
    exact List.any_eq_false.2 fun x hx => by simpa using hno x hx
 ·rintro e s ⟨j5, j9, j16, h', c', rl', wl', rfl, rfl, hcc, hf', hkp, hlr, hlw, hno⟩
  unfold EIx
  refine Zgo ?_
  refine ⟨.inr rfl, Wres.one rfl ⟨⟨_, rfl, by rw [hno]; rfl⟩, ?_⟩⟩
  exact Zex
theorem contains_spec (H : Std sm) {h : T AObj} {c : Nat} {rl wl : List Nat} (hf : Fresh h c) {oa : Option Addr} {cap bx : Nat} {l : List Ht} {y : Ht} (hx : Row h (.slice oa l.length cap) l.length 2 (flatH l)) (hy : Has h bx (.cells [.int .i64 y.id, .int .i64 y.sc])) (hb : l.length ≤ 100000) (R : Nat → Prop) (hR : ∀ x, blkOf (.slice oa l.length cap) = some x → R x) (hRy : R bx) :
  ∃ r s', FnTo (Cs sm) eg 198 [.slice oa l.length cap, cloV bx] ⟨h, c, rl, wl⟩ r s' ∧ (r = .bool (l.any (fun x => decide (x.id = y.id)))) ∧ Ext ⟨h, c, rl, wl⟩ s' R (fun _ => False) := by
 refine Fn.go (H 198 rfl) ex198 fn198 km198 rfl rfl ?_
 refine Zev ?_
 refine Zgo ?_
 refine Wseq.call rfl rfl (idxf_spec H Zfr hx hy hb R hR hRy) ?_
 rintro v h1 c1 r1 w1 ⟨⟨z, rfl, hz⟩, hext⟩
 have kp := Kp.ext (W := fun _ => False) (h := h) (c := c) Zkp hext (by omega) (fun _ _ q => q)
 have lr := Lg.extR (R := R) (c := c) Zlg hext (fun _ _ hq => hq)
 have lw := Lg.extW (W := fun _ => False) (c := c) Zlg hext (fun _ _ q => q)
 have fr1 := hext.fresh
 have le1 := hext.c
 simp only at le1 fr1
 refine Zu (to_geq rfl rfl) ?_
 refine Zgo ?_
 refine ⟨.inr rfl, Wres.one rfl ⟨?_, ?_⟩⟩
 ·rw [← hz]; rfl
 ·exact Zex
end Go.Ab.Seat
end
