import Derived.Test.YtofikbfljjjgeaaGreatDoorE23
import Derived.Test.YtofikbfljjjgeaaGreatDoorE50
import Derived.Test.YtofikbfljjjgeaaGreatDoorDF2
set_option linter.unusedVariables false
set_option linter.unusedSimpArgs false
section
/- A store as a list of records that rises by ids (plain lists). -/
namespace Go.Ab
structure Rc where
 id : Int
 xs : List Value
 pay : ByteArray
 seq : Int
 gone : Bool
def Rises (l : List Rc) : Prop := l.Pairwise fun a b => a.id < b.id
noncomputable def getM (x : Int) : List Rc → Option Rc
 | [] => none
 | r :: l => if r.id = x then some r else getM x l
noncomputable def putM (r : Rc) : List Rc → List Rc
 | [] => [r]
 | y :: l => if r.id < y.id then r :: y :: l else if r.id = y.id then r :: l else y :: putM r l
theorem Rises.nil : Rises [] := List.Pairwise.nil
theorem getM_mem {x : Int} : ∀ {l : List Rc} {r : Rc}, getM x l = some r → r ∈ l ∧ r.id = x
 | [], _, h => by cases h
 | y :: l, r, h => by
  unfold getM at h
  split at h
  ·cases h
   exact ⟨List.mem_cons_self .., by assumption⟩
  ·exact ⟨List.mem_cons_of_mem _ (getM_mem h).1, (getM_mem h).2⟩
theorem getM_none {x : Int} : ∀ {l : List Rc}, getM x l = none ↔ ∀ r ∈ l, r.id ≠ x
 | [] => ⟨(fun _ r h => by cases h), (fun _ => rfl)⟩
 | y :: l => by
  unfold getM
  by_cases hy : y.id = x
  ·rw [if_pos hy]
   exact ⟨(fun h => by cases h), (fun h => absurd hy (h y (List.mem_cons_self ..)))⟩
  ·rw [if_neg hy, getM_none]
   constructor
   ·intro h r hr
    rcases List.mem_cons.1 hr with rfl | hr
    ·exact hy
    ·exact h r hr
   ·exact fun h r hr => h r (List.mem_cons_of_mem _ hr)
theorem mem_putM {r x : Rc} : ∀ {l : List Rc}, x ∈ putM r l → x = r ∨ x ∈ l
 | [], h => .inl (List.mem_singleton.1 h)
 | y :: l, h => by
  unfold putM at h
  split at h
  ·rcases List.mem_cons.1 h with h | h
   ·exact .inl h
   ·exact .inr h
  ·split at h
   ·rcases List.mem_cons.1 h with h | h
    ·exact .inl h
    ·exact .inr (List.mem_cons_of_mem _ h)
   ·rcases List.mem_cons.1 h with h | h
    ·exact .inr (h ▸ List.mem_cons_self ..)
    ·rcases mem_putM h with h | h
     ·exact .inl h
     ·exact .inr (List.mem_cons_of_mem _ h)
theorem Rises.put {l : List Rc} (h : Rises l) (r : Rc) : Rises (putM r l) := by
 induction l with
 | nil => exact List.pairwise_singleton ..
 | cons y l ih =>
  obtain ⟨h1, h2⟩ := List.pairwise_cons.1 h
  unfold putM
  split
  ·refine List.pairwise_cons.2 ⟨fun z hz => ?_, h⟩
   rcases List.mem_cons.1 hz with rfl | hz
   ·assumption
   ·have := h1 z hz
    omega
  ·split
   ·refine List.pairwise_cons.2 ⟨fun z hz => ?_, h2⟩
    have := h1 z hz
    omega
   ·refine List.pairwise_cons.2 ⟨fun z hz => ?_, ih h2⟩
    rcases mem_putM hz with rfl | hz
    ·omega
    ·exact h1 z hz
theorem getM_put {l : List Rc} (r : Rc) (x : Int) : getM x (putM r l) = if r.id = x then some r else getM x l := by
 induction l with
 | nil => unfold putM getM; rfl
 | cons y l ih =>
  unfold putM
  split
  ·rw [getM]
  ·split
   ·rw [getM, getM]
    split
    ·rfl
    ·rw [if_neg (by omega)]
   ·rw [getM, ih, getM]
    by_cases hr : r.id = x
    ·rw [if_pos hr, if_neg (by omega), if_pos hr]
    ·rw [if_neg hr, if_neg hr]
theorem rises_ext : ∀ {a b : List Int}, a.Pairwise (fun x y => x < y) → b.Pairwise (fun x y => x < y) → (∀ x, x ∈ a ↔ x ∈ b) → a = b
 | [], [], _, _, _ => rfl
 | [], y :: b, _, _, h => by cases (h y).2 (List.mem_cons_self ..)
 | x :: a, [], _, _, h => by cases (h x).1 (List.mem_cons_self ..)
 | x :: a, y :: b, ha, hb, h => by
  obtain ⟨a1, a2⟩ := List.pairwise_cons.1 ha
  obtain ⟨b1, b2⟩ := List.pairwise_cons.1 hb
  have hxy : x = y := by
   have h1 := (h x).1 (List.mem_cons_self ..)
   have h2 := (h y).2 (List.mem_cons_self ..)
   rcases List.mem_cons.1 h1 with h1 | h1
   ·exact h1
   ·rcases List.mem_cons.1 h2 with h2 | h2
    ·exact h2.symm
    ·have := a1 y h2
     have := b1 x h1
     omega
  subst hxy
  rw [rises_ext a2 b2 fun z => ?_]
  constructor
  ·intro hz
   rcases List.mem_cons.1 ((h z).1 (List.mem_cons_of_mem _ hz)) with rfl | h1
   ·have := a1 z hz
    omega
   ·exact h1
  ·intro hz
   rcases List.mem_cons.1 ((h z).2 (List.mem_cons_of_mem _ hz)) with rfl | h1
   ·have := b1 z hz
    omega
   ·exact h1
theorem sortI_rises {l : List Int} (h : l.Nodup) : (sortI l).Pairwise fun x y => x < y := by
 have h1 := sortI_sorted l
 have h2 : (sortI l).Nodup := (sortI_perm l).nodup_iff.2 h
 have := List.pairwise_and_iff.2 ⟨h1, h2⟩
 exact this.imp fun {a b} h => by have := h.1; have := h.2; omega
theorem Rises.ids {l : List Rc} (h : Rises l) : (l.map Rc.id).Pairwise fun x y => x < y := List.pairwise_map.2 h
end Go.Ab
end
section
/- Members let go, a block that is no map, a vector cut to size, a hit ahead of another one (plain). -/
namespace Go.Ab.Seat
open Go.Extern Go.Proofs
def delM (id : Int) (M : List Rc) : List Rc := M.filter fun r => !decide (r.id = id)
theorem getM_del (id x : Int) : ∀ M : List Rc, getM x (delM id M) = if x = id then none else getM x M
 | [] => by unfold delM getM; simp
 | y :: M => by
  have ih := getM_del id x M
  unfold delM at ih ⊢
  by_cases h : y.id = id
  ·rw [List.filter_cons, decide_eq_true h]
   simp only [Bool.not_true, Bool.false_eq_true, if_false]
   rw [ih]
   by_cases hx : x = id
   ·rw [if_pos hx, if_pos hx]
   ·rw [if_neg hx, if_neg hx, getM, if_neg (by omega)]
  ·rw [List.filter_cons, decide_eq_false h]
   simp only [Bool.not_false, if_true]
   rw [getM, ih, getM]
   by_cases hy : y.id = x
   ·rw [if_pos hy, if_pos hy, if_neg (by omega)]
   ·rw [if_neg hy, if_neg hy]
theorem notMap {h : T AObj} {b : Nat} {cs : List Value} {m n : Nat} {es : List (Value × Value × Nat)} (h1 : Has h b (.cells cs)) (h2 : Has h m (.map es n)) : b ≠ m := by
 rintro rfl
 unfold Has at h1 h2
 rw [h1] at h2
 cases h2
theorem Bnd_vecZ (zs : List Int) (dim : Nat) : Bnd (vecZ zs dim) := by
 intro i
 unfold vecZ
 rw [List.getD_eq_getElem?_getD, List.getElem?_map]
 cases h : (List.range dim)[i]? with
 | none => simp
 | some j =>
  show -1048576 ≤ clampZ _ ∧ clampZ _ ≤ 1048576
  unfold clampZ
  omega
theorem lessH_iff {a b : Ht} : lessH a b = true ↔ a.sc < b.sc ∨ a.sc = b.sc ∧ a.id < b.id := by
 unfold lessH
 split
 ·rw [decide_eq_true_eq]; omega
 ·rw [decide_eq_true_eq]; omega
theorem lessH_not {a b : Ht} : lessH a b = false ↔ b.sc < a.sc ∨ a.sc = b.sc ∧ b.id ≤ a.id := by
 rw [← Bool.not_eq_true, lessH_iff]; omega
end Go.Ab.Seat
end
section
/- Hits in a row, the best ones of some (plain). -/
namespace Go.Ab.Seat
open Go.Extern Go.Proofs
def flatH (l : List Ht) : List Value := l.flatMap Ht.cells
theorem flatH_len (l : List Ht) : (flatH l).length = l.length * 2 := by
 induction l with
 | nil => rfl
 | cons x l ih => unfold flatH at ih ⊢; rw [List.flatMap_cons, List.length_append, ih]; simp [Ht.cells]; omega
def iH (x : Ht) (l : List Ht) : Nat := (l.takeWhile fun y => lessH y x).length
def putB (k : Nat) (l : List Ht) (x : Ht) : List Ht :=
 if l.any (fun y => decide (y.id = x.id)) then l else if k ≤ iH x l then l else (l.take (iH x l) ++ x :: l.drop (iH x l)).take k
theorem iH_le (x : Ht) (l : List Ht) : iH x l ≤ l.length := by unfold iH; exact (List.takeWhile_sublist _).length_le
def bestOf (k : Nat) (l : List Ht) : List Ht := l.foldl (putB k) []
theorem bestOf_take {k : Nat} {l : List Ht} {i : Nat} (hi : i < l.length) : bestOf k (l.take (i + 1)) = putB k (bestOf k (l.take i)) l[i] := by
 unfold bestOf
 rw [List.take_succ_eq_append_getElem hi, List.foldl_append]; rfl
end Go.Ab.Seat
end
section
/- Hits that stand in order (plain). -/
namespace Go.Ab.Seat
open Go.Extern Go.Proofs
def insB (x : Ht) (p : List Ht) : List Ht := p.take (iH x p) ++ x :: p.drop (iH x p)
theorem putB_ins {k : Nat} {p : List Ht} {x : Ht} (hx : ∀ y ∈ p, y.id ≠ x.id) (hk : p.length < k) : putB k p x = insB x p := by
 have h1 : p.any (fun y => decide (y.id = x.id)) = false := by
  rw [List.any_eq_false]
  intro y hy
  simpa using hx y hy
 have h2 := iH_le x p
 unfold putB insB
 rw [h1, if_neg (by decide), if_neg (by omega), List.take_of_length_le (by rw [List.length_append, List.length_take, List.length_cons, List.length_drop]; omega)]
theorem insB_cons (x y : Ht) (p : List Ht) : insB x (y :: p) = if lessH y x then y :: insB x p else x :: y :: p := by
 cases hl : lessH y x <;> simp [insB, iH, List.takeWhile_cons, hl]
theorem lessH_trans {a b c : Ht} (h1 : lessH a b = true) (h2 : lessH b c = true) : lessH a c = true := by
 rw [lessH_iff] at *; omega
theorem lessH_total {a b : Ht} (h1 : lessH a b = false) (h2 : a.id ≠ b.id) : lessH b a = true := by
 rw [lessH_not] at h1; rw [lessH_iff]; omega
def Ord (p : List Ht) : Prop := p.Pairwise (fun a b => lessH a b = true)
theorem insB_perm (x : Ht) : ∀ p : List Ht, (insB x p).Perm (x :: p)
 | [] => .refl _
 | y :: p => by
  rw [insB_cons]
  split
  ·exact ((insB_perm x p).cons y).trans (List.Perm.swap x y p)
  ·exact .refl _
theorem insB_ord {x : Ht} : ∀ {p : List Ht}, Ord p → (∀ y ∈ p, y.id ≠ x.id) → Ord (insB x p)
 | [], _, _ => List.pairwise_cons.2 ⟨fun _ h => absurd h List.not_mem_nil, List.Pairwise.nil⟩
 | y :: p, ho, hx => by
  obtain ⟨h1, h2⟩ := List.pairwise_cons.1 ho
  rw [insB_cons]
  cases hl : lessH y x
  ·rw [if_neg (by decide)]
   have h3 := lessH_total hl (hx y List.mem_cons_self)
   refine List.pairwise_cons.2 ⟨fun z hz => ?_, ho⟩
   rcases List.mem_cons.1 hz with rfl | hz
   ·exact h3
   ·exact lessH_trans h3 (h1 z hz)
  ·rw [if_pos rfl]
   refine List.pairwise_cons.2 ⟨fun z hz => ?_, insB_ord h2 fun z hz => hx z (List.mem_cons_of_mem _ hz)⟩
   rcases List.mem_cons.1 ((insB_perm x p).mem_iff.1 hz) with rfl | hz
   ·exact hl
   ·exact h1 z hz
theorem ids_ne {l : List Ht} {i : Nat} (hd : (l.map Ht.id).Nodup) (hi : i < l.length) : ∀ y ∈ l.take i, y.id ≠ l[i].id := by
 intro y hy e
 obtain ⟨j, hj⟩ := List.mem_iff_getElem?.1 hy
 rw [List.getElem?_take] at hj
 split at hj
 ·rename_i hji
  obtain ⟨q1, q2⟩ := List.getElem?_eq_some_iff.1 hj
  have := (List.getElem_inj (h₀ := by rw [List.length_map]; exact q1) (h₁ := by rw [List.length_map]; exact hi) hd).1 (by rw [List.getElem_map, List.getElem_map, q2, e])
  omega
 ·cases hj
theorem bestOf_ord {k : Nat} {l : List Ht} (hd : (l.map Ht.id).Nodup) : ∀ m, m ≤ l.length → m ≤ k → (bestOf k (l.take m)).Perm (l.take m) ∧ Ord (bestOf k (l.take m))
 | 0, _, _ => by
  rw [List.take_zero]
  exact ⟨.refl _, List.Pairwise.nil⟩
 | m + 1, hm, hk => by
  obtain ⟨h1, h2⟩ := bestOf_ord (k := k) hd m (by omega) (by omega)
  have h3 : ∀ y ∈ bestOf k (l.take m), y.id ≠ (l[m]'(by omega)).id := fun y hy => ids_ne hd (by omega) y (h1.mem_iff.1 hy)
  have h4 : (bestOf k (l.take m)).length = m := by rw [h1.length_eq, List.length_take]; omega
  rw [bestOf_take (by omega), putB_ins h3 (by omega), List.take_succ_eq_append_getElem (by omega)]
  exact ⟨(insB_perm _ _).trans ((h1.cons _).trans (List.perm_append_singleton _ _).symm), insB_ord h2 h3⟩
end Go.Ab.Seat
end
section
/- Hits put in order by a closure: slices.SortFunc of a dozen or fewer (the abstract machine). -/
namespace Go.Ab
section
variable {C : Ctx} {eg : TypeId → Bool} {all os : List Oper} {loc kept : L} {h : T AObj} {c : Nat} {rl wl : List Nat} {Q : Env → St → Prop} {d : Nat} {ty : TypeId} {ps : String} {af : Array Edge} {g : Option (Nat × Bool)} {bef : List Nat} {done : List (Nat × Fp)} {j : Nat}
theorem Wtr.callV {f : Nat} {fo : Operand} {first cap : Array Value} {ar : Array Operand} {ts : Array TypeId} {args : List Value} {P : Value → St → Prop} (hw : wantedA all (.mk loc kept) ⟨some d, .call ⟨.value fo, ar, ts⟩, ty, ps, af, g⟩ = some true) (hf : evalA (.mk loc kept) fo = .func (.func f) first cap) (ha : mapA (evalA (.mk loc kept)) ar.toList = args)
  (hc : ∃ v s', FnTo C eg f (app first.toList (app args cap.toList)) ⟨h, c, [], []⟩ v s' ∧ P v s') (k : ∀ v h' c' r1 w1, P v ⟨h', c', r1, w1⟩ → (∀ p ∈ done, ordB bef j p.1 = true ∨ ApartP p.2 ⟨r1, w1, c, c'⟩) ∧ Wtr C eg all bef ((j, ⟨r1, w1, c, c'⟩) :: done) (j + 1) os (.mk (.cons d v loc) kept) ⟨h', c', r1 ++ rl, w1 ++ wl⟩ Q) :
  Wtr C eg all bef done j (⟨some d, .call ⟨.value fo, ar, ts⟩, ty, ps, af, g⟩ :: os) (.mk loc kept) ⟨h, c, rl, wl⟩ Q := by
 obtain ⟨v, ⟨h', c', r1, w1⟩, h1, h2⟩ := hc
 obtain ⟨k1, k2⟩ := k v h' c' r1 w1 h2
 exact Wtr.op hw (OpTo.ofCallV hf ha h1) k1 k2
end
end Go.Ab
namespace Go.Ab.Seat
open Go.Extern Go.Proofs
set_option maxRecDepth 4000
variable {sm : Nat → Option (List Value → M Value)}
end Go.Ab.Seat
end
