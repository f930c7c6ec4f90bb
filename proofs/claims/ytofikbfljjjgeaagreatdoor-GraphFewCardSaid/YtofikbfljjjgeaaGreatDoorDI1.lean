import Derived.Test.YtofikbfljjjgeaaGreatDoorE23
import Derived.Test.YtofikbfljjjgeaaGreatDoorE50
import Derived.Test.YtofikbfljjjgeaaGreatDoorDF2
set_option linter.unusedVariables false
set_option linter.unusedSimpArgs false
section
/- A store as a list of records that rises by ids (plain lists). -/
namespace Go.Ab
structure Rc where
 id : Int
 xs : List Value
 pay : ByteArray
 seq : Int
 gone : Bool
def Rises (l : List Rc) : Prop := l.Pairwise fun a b => a.id < b.id
noncomputable def getM (x : Int) : List Rc → Option Rc
 | [] => none
 | r :: l => if r.id = x then some r else getM x l
noncomputable def putM (r : Rc) : List Rc → List Rc
 | [] => [r]
 | y :: l => if r.id < y.id then r :: y :: l else if r.id = y.id then r :: l else y :: putM r l
theorem Rises.nil : Rises [] := List.Pairwise.nil
theorem Rises.filter {l : List Rc} (h : Rises l) (p : Rc → Bool) : Rises (l.filter p) := List.Pairwise.filter p h
theorem getM_mem {x : Int} : ∀ {l : List Rc} {r : Rc}, getM x l = some r → r ∈ l ∧ r.id = x
 | [], _, h => by cases h
 | y :: l, r, h => by
  unfold getM at h
  split at h
  ·cases h
   exact ⟨List.mem_cons_self .., by assumption⟩
  ·exact ⟨List.mem_cons_of_mem _ (getM_mem h).1, (getM_mem h).2⟩
theorem getM_none {x : Int} : ∀ {l : List Rc}, getM x l = none ↔ ∀ r ∈ l, r.id ≠ x
 | [] => ⟨(fun _ r h => by cases h), (fun _ => rfl)⟩
 | y :: l => by
  unfold getM
  by_cases hy : y.id = x
  ·rw [if_pos hy]
   exact ⟨(fun h => by cases h), (fun h => absurd hy (h y (List.mem_cons_self ..)))⟩
  ·rw [if_neg hy, getM_none]
   constructor
   ·intro h r hr
    rcases List.mem_cons.1 hr with rfl | hr
    ·exact hy
    ·exact h r hr
   ·exact fun h r hr => h r (List.mem_cons_of_mem _ hr)
theorem getM_some {x : Int} {l : List Rc} (h : Rises l) {r : Rc} (hr : r ∈ l) (hx : r.id = x) : getM x l = some r := by
 induction l with
 | nil => cases hr
 | cons y l ih =>
  obtain ⟨h1, h2⟩ := List.pairwise_cons.1 h
  unfold getM
  rcases List.mem_cons.1 hr with rfl | hr
  ·rw [if_pos hx]
  ·have := h1 r hr
   rw [if_neg (by omega)]
   exact ih h2 hr
theorem mem_putM {r x : Rc} : ∀ {l : List Rc}, x ∈ putM r l → x = r ∨ x ∈ l
 | [], h => .inl (List.mem_singleton.1 h)
 | y :: l, h => by
  unfold putM at h
  split at h
  ·rcases List.mem_cons.1 h with h | h
   ·exact .inl h
   ·exact .inr h
  ·split at h
   ·rcases List.mem_cons.1 h with h | h
    ·exact .inl h
    ·exact .inr (List.mem_cons_of_mem _ h)
   ·rcases List.mem_cons.1 h with h | h
    ·exact .inr (h ▸ List.mem_cons_self ..)
    ·rcases mem_putM h with h | h
     ·exact .inl h
     ·exact .inr (List.mem_cons_of_mem _ h)
theorem Rises.put {l : List Rc} (h : Rises l) (r : Rc) : Rises (putM r l) := by
 induction l with
 | nil => exact List.pairwise_singleton ..
 | cons y l ih =>
  obtain ⟨h1, h2⟩ := List.pairwise_cons.1 h
  unfold putM
  split
  ·refine List.pairwise_cons.2 ⟨fun z hz => ?_, h⟩
   rcases List.mem_cons.1 hz with rfl | hz
   ·assumption
   ·have := h1 z hz
    omega
  ·split
   ·refine List.pairwise_cons.2 ⟨fun z hz => ?_, h2⟩
    have := h1 z hz
    omega
   ·refine List.pairwise_cons.2 ⟨fun z hz => ?_, ih h2⟩
    rcases mem_putM hz with rfl | hz
    ·omega
    ·exact h1 z hz
theorem getM_put {l : List Rc} (r : Rc) (x : Int) : getM x (putM r l) = if r.id = x then some r else getM x l := by
 induction l with
 | nil => unfold putM getM; rfl
 | cons y l ih =>
  unfold putM
  split
  ·rw [getM]
  ·split
   ·rw [getM, getM]
    split
    ·rfl
    ·rw [if_neg (by omega)]
   ·rw [getM, ih, getM]
    by_cases hr : r.id = x
    ·rw [if_pos hr, if_neg (by omega), if_pos hr]
    ·rw [if_neg hr, if_neg hr]
theorem rises_ext : ∀ {a b : List Int}, a.Pairwise (fun x y => x < y) → b.Pairwise (fun x y => x < y) → (∀ x, x ∈ a ↔ x ∈ b) → a = b
 | [], [], _, _, _ => rfl
 | [], y :: b, _, _, h => by cases (h y).2 (List.mem_cons_self ..)
 | x :: a, [], _, _, h => by cases (h x).1 (List.mem_cons_self ..)
 | x :: a, y :: b, ha, hb, h => by
  obtain ⟨a1, a2⟩ := List.pairwise_cons.1 ha
  obtain ⟨b1, b2⟩ := List.pairwise_cons.1 hb
  have hxy : x = y := by
   have h1 := (h x).1 (List.mem_cons_self ..)
   have h2 := (h y).2 (List.mem_cons_self ..)
   rcases List.mem_cons.1 h1 with h1 | h1
   ·exact h1
   ·rcases List.mem_cons.1 h2 with h2 | h2
    ·exact h2.symm
    ·have := a1 y h2
     have := b1 x h1
     omega
  subst hxy
  rw [rises_ext a2 b2 fun z => ?_]
  constructor
  ·intro hz
   rcases List.mem_cons.1 ((h z).1 (List.mem_cons_of_mem _ hz)) with rfl | h1
   ·have := a1 z hz
    omega
   ·exact h1
  ·intro hz
   rcases List.mem_cons.1 ((h z).2 (List.mem_cons_of_mem _ hz)) with rfl | h1
   ·have := b1 z hz
    omega
   ·exact h1
theorem sortI_rises {l : List Int} (h : l.Nodup) : (sortI l).Pairwise fun x y => x < y := by
 have h1 := sortI_sorted l
 have h2 : (sortI l).Nodup := (sortI_perm l).nodup_iff.2 h
 have := List.pairwise_and_iff.2 ⟨h1, h2⟩
 exact this.imp fun {a b} h => by have := h.1; have := h.2; omega
theorem Rises.ids {l : List Rc} (h : Rises l) : (l.map Rc.id).Pairwise fun x y => x < y := List.pairwise_map.2 h
end Go.Ab
end
section
/- Members let go, a block that is no map, a vector cut to size, a hit ahead of another one (plain). -/
namespace Go.Ab.Seat
open Go.Extern Go.Proofs
def delM (id : Int) (M : List Rc) : List Rc := M.filter fun r => !decide (r.id = id)
theorem getM_del (id x : Int) : ∀ M : List Rc, getM x (delM id M) = if x = id then none else getM x M
 | [] => by unfold delM getM; simp
 | y :: M => by
  have ih := getM_del id x M
  unfold delM at ih ⊢
  by_cases h : y.id = id
  ·rw [List.filter_cons, decide_eq_true h]
   simp only [Bool.not_true, Bool.false_eq_true, if_false]
   rw [ih]
   by_cases hx : x = id
   ·rw [if_pos hx, if_pos hx]
   ·rw [if_neg hx, if_neg hx, getM, if_neg (by omega)]
  ·rw [List.filter_cons, decide_eq_false h]
   simp only [Bool.not_false, if_true]
   rw [getM, ih, getM]
   by_cases hy : y.id = x
   ·rw [if_pos hy, if_pos hy, if_neg (by omega)]
   ·rw [if_neg hy, if_neg hy]
theorem Bnd_vecZ (zs : List Int) (dim : Nat) : Bnd (vecZ zs dim) := by
 intro i
 unfold vecZ
 rw [List.getD_eq_getElem?_getD, List.getElem?_map]
 cases h : (List.range dim)[i]? with
 | none => simp
 | some j =>
  show -1048576 ≤ clampZ _ ∧ clampZ _ ≤ 1048576
  unfold clampZ
  omega
theorem lessH_iff {a b : Ht} : lessH a b = true ↔ a.sc < b.sc ∨ a.sc = b.sc ∧ a.id < b.id := by
 unfold lessH
 split
 ·rw [decide_eq_true_eq]; omega
 ·rw [decide_eq_true_eq]; omega
theorem lessH_not {a b : Ht} : lessH a b = false ↔ b.sc < a.sc ∨ a.sc = b.sc ∧ b.id ≤ a.id := by
 rw [← Bool.not_eq_true, lessH_iff]; omega
end Go.Ab.Seat
end
section
/- Hits in a row, the best ones of some (plain). -/
namespace Go.Ab.Seat
open Go.Extern Go.Proofs
def flatH (l : List Ht) : List Value := l.flatMap Ht.cells
theorem flatH_len (l : List Ht) : (flatH l).length = l.length * 2 := by
 induction l with
 | nil => rfl
 | cons x l ih => unfold flatH at ih ⊢; rw [List.flatMap_cons, List.length_append, ih]; simp [Ht.cells]; omega
theorem flatH_app (a b : List Ht) : flatH (a ++ b) = flatH a ++ flatH b := by unfold flatH; rw [List.flatMap_append]
theorem flatH_take (l : List Ht) (i : Nat) : (flatH l).take (i * 2) = flatH (l.take i) := by
 induction l generalizing i with
 | nil => cases i <;> rfl
 | cons x l ih =>
  cases i with
  | zero => rfl
  | succ i =>
   show ([Value.int .i64 x.id, .int .i64 x.sc] ++ flatH l).take ((i + 1) * 2) = [Value.int .i64 x.id, .int .i64 x.sc] ++ flatH (l.take i)
   rw [show (i + 1) * 2 = i * 2 + 1 + 1 by omega, ← ih]
   rfl
theorem flatH_drop (l : List Ht) (i : Nat) : (flatH l).drop (i * 2) = flatH (l.drop i) := by
 induction l generalizing i with
 | nil => cases i <;> simp [flatH]
 | cons x l ih =>
  cases i with
  | zero => rfl
  | succ i =>
   show ([Value.int .i64 x.id, .int .i64 x.sc] ++ flatH l).drop ((i + 1) * 2) = flatH (l.drop i)
   rw [show (i + 1) * 2 = i * 2 + 1 + 1 by omega, ← ih]
   rfl
theorem flatH_atom (l : List Ht) : ∀ v ∈ flatH l, atom v = true := by
 intro v hv
 unfold flatH at hv
 obtain ⟨x, _, hx⟩ := List.mem_flatMap.1 hv
 unfold Ht.cells at hx
 simp only [List.mem_cons, List.not_mem_nil, or_false] at hx
 rcases hx with rfl | rfl <;> rfl
theorem sub_hit {l : List Ht} {i o : Nat} {cs : List Value} {x : Ht} (h : subN o (l.length * 2) cs = some (flatH l)) (hx : l[i]? = some x) : subN (o + i * 2) 2 cs = some [.int .i64 x.id, .int .i64 x.sc] := by
 obtain ⟨hi, rfl⟩ := List.getElem?_eq_some_iff.1 hx
 have h1 : flatH l = flatH (l.take i) ++ (([.int .i64 l[i].id, .int .i64 l[i].sc] : List Value) ++ flatH (l.drop (i + 1))) := by
  conv => lhs; rw [show l = l.take i ++ (l[i] :: l.drop (i + 1)) by simp]
  rw [flatH_app]; rfl
 rw [h1] at h
 have h2 : subN o (i * 2 + (2 + (l.length - (i + 1)) * 2)) cs = some (flatH (l.take i) ++ (([.int .i64 l[i].id, .int .i64 l[i].sc] : List Value) ++ flatH (l.drop (i + 1)))) := by rw [← h]; congr 1; omega
 exact (subN_app (subN_app h2 (by rw [flatH_len, List.length_take]; omega)).2 rfl).1
def iH (x : Ht) (l : List Ht) : Nat := (l.takeWhile fun y => lessH y x).length
def putB (k : Nat) (l : List Ht) (x : Ht) : List Ht :=
 if l.any (fun y => decide (y.id = x.id)) then l else if k ≤ iH x l then l else (l.take (iH x l) ++ x :: l.drop (iH x l)).take k
theorem iH_le (x : Ht) (l : List Ht) : iH x l ≤ l.length := by unfold iH; exact (List.takeWhile_sublist _).length_le
theorem iH_at {x : Ht} : ∀ {l : List Ht} {i : Nat}, (∀ y ∈ l.take i, lessH y x = true) → (∀ y, l[i]? = some y → lessH y x = false) → i ≤ l.length → iH x l = i
 | [], 0, _, _, _ => rfl
 | [], i + 1, _, _, h => by cases h
 | y :: l, 0, _, h2, _ => by
  unfold iH
  rw [List.takeWhile_cons, h2 y rfl]
  rfl
 | y :: l, i + 1, h1, h2, h3 => by
  have := iH_at (x := x) (l := l) (i := i) (fun z hz => h1 z (List.mem_cons_of_mem _ hz)) (fun z hz => h2 z (by simpa using hz)) (by simpa using h3)
  unfold iH at this ⊢
  rw [List.takeWhile_cons, h1 y (List.mem_cons_self ..)]
  simp only [if_true, List.length_cons]
  omega
def bestOf (k : Nat) (l : List Ht) : List Ht := l.foldl (putB k) []
theorem putB_len (k : Nat) (l : List Ht) (x : Ht) : (putB k l x).length ≤ l.length + 1 := by
 unfold putB
 split
 ·omega
 ·split
  ·omega
  ·rw [List.length_take, List.length_append, List.length_take, List.length_cons, List.length_drop]; omega
theorem foldB_len (k : Nat) : ∀ (l a : List Ht), (l.foldl (putB k) a).length ≤ a.length + l.length
 | [], a => Nat.le_refl _
 | x :: l, a => by
  have h1 := foldB_len k l (putB k a x)
  have h2 := putB_len k a x
  rw [List.foldl_cons, List.length_cons]
  omega
theorem bestOf_len (k : Nat) (l : List Ht) : (bestOf k l).length ≤ l.length := by
 have := foldB_len k l []
 simp only [List.length_nil] at this
 unfold bestOf; omega
theorem bestOf_take {k : Nat} {l : List Ht} {i : Nat} (hi : i < l.length) : bestOf k (l.take (i + 1)) = putB k (bestOf k (l.take i)) l[i] := by
 unfold bestOf
 rw [List.take_succ_eq_append_getElem hi, List.foldl_append]; rfl
end Go.Ab.Seat
end
section
/- Hits that stand in order (plain). -/
namespace Go.Ab.Seat
open Go.Extern Go.Proofs
def insB (x : Ht) (p : List Ht) : List Ht := p.take (iH x p) ++ x :: p.drop (iH x p)
theorem putB_ins {k : Nat} {p : List Ht} {x : Ht} (hx : ∀ y ∈ p, y.id ≠ x.id) (hk : p.length < k) : putB k p x = insB x p := by
 have h1 : p.any (fun y => decide (y.id = x.id)) = false := by
  rw [List.any_eq_false]
  intro y hy
  simpa using hx y hy
 have h2 := iH_le x p
 unfold putB insB
 rw [h1, if_neg (by decide), if_neg (by omega), List.take_of_length_le (by rw [List.length_append, List.length_take, List.length_cons, List.length_drop]; omega)]
theorem insB_cons (x y : Ht) (p : List Ht) : insB x (y :: p) = if lessH y x then y :: insB x p else x :: y :: p := by
 cases hl : lessH y x <;> simp [insB, iH, List.takeWhile_cons, hl]
theorem lessH_trans {a b c : Ht} (h1 : lessH a b = true) (h2 : lessH b c = true) : lessH a c = true := by
 rw [lessH_iff] at *; omega
theorem lessH_total {a b : Ht} (h1 : lessH a b = false) (h2 : a.id ≠ b.id) : lessH b a = true := by
 rw [lessH_not] at h1; rw [lessH_iff]; omega
theorem lessH_asymm {a b : Ht} (h1 : lessH a b = true) : lessH b a = false := by
 rw [lessH_iff] at h1; rw [lessH_not]; omega
def Ord (p : List Ht) : Prop := p.Pairwise (fun a b => lessH a b = true)
theorem insB_perm (x : Ht) : ∀ p : List Ht, (insB x p).Perm (x :: p)
 | [] => .refl _
 | y :: p => by
  rw [insB_cons]
  split
  ·exact ((insB_perm x p).cons y).trans (List.Perm.swap x y p)
  ·exact .refl _
theorem insB_ord {x : Ht} : ∀ {p : List Ht}, Ord p → (∀ y ∈ p, y.id ≠ x.id) → Ord (insB x p)
 | [], _, _ => List.pairwise_cons.2 ⟨fun _ h => absurd h List.not_mem_nil, List.Pairwise.nil⟩
 | y :: p, ho, hx => by
  obtain ⟨h1, h2⟩ := List.pairwise_cons.1 ho
  rw [insB_cons]
  cases hl : lessH y x
  ·rw [if_neg (by decide)]
   have h3 := lessH_total hl (hx y List.mem_cons_self)
   refine List.pairwise_cons.2 ⟨fun z hz => ?_, ho⟩
   rcases List.mem_cons.1 hz with rfl | hz
   ·exact h3
   ·exact lessH_trans h3 (h1 z hz)
  ·rw [if_pos rfl]
   refine List.pairwise_cons.2 ⟨fun z hz => ?_, insB_ord h2 fun z hz => hx z (List.mem_cons_of_mem _ hz)⟩
   rcases List.mem_cons.1 ((insB_perm x p).mem_iff.1 hz) with rfl | hz
   ·exact hl
   ·exact h1 z hz
theorem ids_ne {l : List Ht} {i : Nat} (hd : (l.map Ht.id).Nodup) (hi : i < l.length) : ∀ y ∈ l.take i, y.id ≠ l[i].id := by
 intro y hy e
 obtain ⟨j, hj⟩ := List.mem_iff_getElem?.1 hy
 rw [List.getElem?_take] at hj
 split at hj
 ·rename_i hji
  obtain ⟨q1, q2⟩ := List.getElem?_eq_some_iff.1 hj
  have := (List.getElem_inj (h₀ := by rw [List.length_map]; exact q1) (h₁ := by rw [List.length_map]; exact hi) hd).1 (by rw [List.getElem_map, List.getElem_map, q2, e])
  omega
 ·cases hj
theorem bestOf_ord {k : Nat} {l : List Ht} (hd : (l.map Ht.id).Nodup) : ∀ m, m ≤ l.length → m ≤ k → (bestOf k (l.take m)).Perm (l.take m) ∧ Ord (bestOf k (l.take m))
 | 0, _, _ => by
  rw [List.take_zero]
  exact ⟨.refl _, List.Pairwise.nil⟩
 | m + 1, hm, hk => by
  obtain ⟨h1, h2⟩ := bestOf_ord (k := k) hd m (by omega) (by omega)
  have h3 : ∀ y ∈ bestOf k (l.take m), y.id ≠ (l[m]'(by omega)).id := fun y hy => ids_ne hd (by omega) y (h1.mem_iff.1 hy)
  have h4 : (bestOf k (l.take m)).length = m := by rw [h1.length_eq, List.length_take]; omega
  rw [bestOf_take (by omega), putB_ins h3 (by omega), List.take_succ_eq_append_getElem (by omega)]
  exact ⟨(insB_perm _ _).trans ((h1.cons _).trans (List.perm_append_singleton _ _).symm), insB_ord h2 h3⟩
end Go.Ab.Seat
end
section
/- Hits put in order by a closure: slices.SortFunc of a dozen or fewer (the abstract machine). -/
namespace Go.Ab
section
variable {C : Ctx} {eg : TypeId → Bool} {all os : List Oper} {loc kept : L} {h : T AObj} {c : Nat} {rl wl : List Nat} {Q : Env → St → Prop} {d : Nat} {ty : TypeId} {ps : String} {af : Array Edge} {g : Option (Nat × Bool)} {bef : List Nat} {done : List (Nat × Fp)} {j : Nat}
theorem Wtr.callV {f : Nat} {fo : Operand} {first cap : Array Value} {ar : Array Operand} {ts : Array TypeId} {args : List Value} {P : Value → St → Prop} (hw : wantedA all (.mk loc kept) ⟨some d, .call ⟨.value fo, ar, ts⟩, ty, ps, af, g⟩ = some true) (hf : evalA (.mk loc kept) fo = .func (.func f) first cap) (ha : mapA (evalA (.mk loc kept)) ar.toList = args)
  (hc : ∃ v s', FnTo C eg f (app first.toList (app args cap.toList)) ⟨h, c, [], []⟩ v s' ∧ P v s') (k : ∀ v h' c' r1 w1, P v ⟨h', c', r1, w1⟩ → (∀ p ∈ done, ordB bef j p.1 = true ∨ ApartP p.2 ⟨r1, w1, c, c'⟩) ∧ Wtr C eg all bef ((j, ⟨r1, w1, c, c'⟩) :: done) (j + 1) os (.mk (.cons d v loc) kept) ⟨h', c', r1 ++ rl, w1 ++ wl⟩ Q) :
  Wtr C eg all bef done j (⟨some d, .call ⟨.value fo, ar, ts⟩, ty, ps, af, g⟩ :: os) (.mk loc kept) ⟨h, c, rl, wl⟩ Q := by
 obtain ⟨v, ⟨h', c', r1, w1⟩, h1, h2⟩ := hc
 obtain ⟨k1, k2⟩ := k v h' c' r1 w1 h2
 exact Wtr.op hw (OpTo.ofCallV hf ha h1) k1 k2
end
end Go.Ab
namespace Go.Ab.Seat
open Go.Extern Go.Proofs
set_option maxRecDepth 4000
variable {sm : Nat → Option (List Value → M Value)}
end Go.Ab.Seat
end
section
/- slices.Insert of one hit, where there is room (the abstract machine). -/
namespace Go.Ab.Seat
open Go.Extern Go.Proofs
set_option maxRecDepth 4000
variable {sm : Nat → Option (List Value → M Value)}
theorem it3 : intT (Cs sm) 3 = true := by kernel_rfl
theorem exOver : (Cs sm).ex 227 = some xOverlaps := by kernel_rfl
theorem over_spec (H : sm 227 = none) {h : T AObj} {c : Nat} {rl wl : List Nat} {va vb : Addr} {n m vc cap : Nat} {ws cs : List Value} {y : Value} (hv : Has h va.block (.cells ws)) (hc : va.block < c) (hb : Has h vb.block (.cells cs)) (hcb : vb.block < c) (hne : va.block ≠ vb.block) (hy : nth cs 0 = some y) (hm : m = n + 1) :
  ∃ r s', FnTo (Cs sm) eg 227 [.slice (some va) 1 vc, .slice (some vb) m cap] ⟨h, c, rl, wl⟩ r s' ∧ (r = .bool false ∧ s' = ⟨h, c, vb.block :: va.block :: rl, wl⟩) := by
 subst hm
 refine ⟨_, _, FnTo.of_ex H exOver ?_, rfl, rfl⟩
 show (bif Nat.beq va.block vb.block then M.fail else (getCellsW va.block).bind fun _ => (getCellsW vb.block).bind fun cs => match nth cs 0 with | some _ => M.ret (Value.bool false) | none => M.fail) _ = _
 rw [beq_false.2 hne, cond_false, bind_run (getCellsW_run hv hc), bind_run (getCellsW_run hb hcb), hy]
 rfl
theorem nth_sub {o n : Nat} {cs xs : List Value} (h : subN o (n + 1) cs = some xs) : ∃ y, nth cs 0 = some y := by
 cases cs with
 | nil =>
  have := (subN_some _ _ _ _ h).2.1
  simp at this
 | cons y cs => exact ⟨y, rfl⟩
set_option maxHeartbeats 4000000 in
theorem ins_room (H : sm 200 = none) (H' : sm 227 = none) {h : T AObj} {c : Nat} {rl wl : List Nat} (hf : Fresh h c) {b o i m vb vo vc : Nat} {sp : Option Nat} {cs ws vv A B t2 : List Value} (hb : Has h b (.cells cs)) (hs : subN o ((i + 1 + m + 1) * 2) cs = some (A ++ B ++ t2)) (hA : A.length = i * 2) (hB : B.length = (m + 1) * 2)
  (hv : Has h vb (.cells ws)) (hvs : subN vo 2 ws = some vv) (hne : vb ≠ b) (hat : ∀ x ∈ B, atom x = true) (hat' : ∀ x ∈ vv, atom x = true) (hbig : i + 1 + m + 1 ≤ big) :
  ∃ r s', FnTo (Cs sm) eg 200 [.slice (some ⟨b, o, some 2⟩) (i + 1 + m) (i + 1 + m + 1), .int .i64 (i : Int), .slice (some ⟨vb, vo, sp⟩) 1 vc] ⟨h, c, rl, wl⟩ r s' ∧ (r = .slice (some ⟨b, o, some 2⟩) (i + 1 + m + 1) (i + 1 + m + 1) ∧ s'.c = c ∧ ∃ cs', Has s'.h b (.cells cs') ∧ subN o ((i + 1 + m + 1) * 2) cs' = some (A ++ vv ++ B)) ∧ Ext ⟨h, c, rl, wl⟩ s' (fun x => x = b ∨ x = vb) (fun x => x = b) := by
 have l1 := hb.lt hf
 have l2 := hv.lt hf
 have hbg : big = 1048576 := rfl
 have lv : vv.length = 2 := (subN_some _ _ _ _ hvs).1
 have lt2 : t2.length = 2 := by
  have := (subN_some _ _ _ _ hs).1
  simp only [List.length_append] at this
  omega
 -- the row, cut elsewhere
 obtain ⟨X, Y, hXY, hX, hY⟩ : ∃ X Y : List Value, B ++ t2 = X ++ Y ∧ X.length = 2 ∧ Y.length = (m + 1) * 2 := by
  refine ⟨(B ++ t2).take 2, (B ++ t2).drop 2, (List.take_append_drop 2 _).symm, ?_, ?_⟩
  ·rw [List.length_take, List.length_append]; omega
  ·rw [List.length_drop, List.length_append]; omega
 obtain ⟨c1, s1, s2⟩ := setMany_row (o := o) (k := (i + 1) * 2) (A := A ++ X) (B := Y) (B' := B) (D := []) (cs := cs) (n := (i + 1 + m + 1) * 2) (by rw [hs, List.append_assoc, hXY]; simp) (by rw [List.length_append]; omega) (by omega) hat
 obtain ⟨c2, s3, s4⟩ := setMany_row (o := o) (k := i * 2) (A := A) (B := X) (B' := vv) (D := B) (cs := c1) (n := (i + 1 + m + 1) * 2) (by rw [s2]; simp) hA (by omega) hat'
 have hsB : subN (o + i * 2) ((m + 1) * 2) cs = some B := by
  have e : subN o (i * 2 + ((m + 1) * 2 + 2)) cs = some (A ++ (B ++ t2)) := by rw [← List.append_assoc, ← hs]; congr 1; omega
  exact (subN_app (subN_app e hA).2 hB).1
 have hneB : B ≠ [] := by rintro rfl; simp at hB
 have hneV : vv ≠ [] := by rintro rfl; simp at lv
 obtain ⟨y, hy⟩ := nth_sub (n := (i + 1 + m) * 2 + 1) (o := o) (cs := cs) (xs := A ++ B ++ t2) (by rw [show (i + 1 + m) * 2 + 1 + 1 = (i + 1 + m + 1) * 2 by omega]; exact hs)
 refine Fn.go H ex200 fn200 km200 rfl rfl ?_
 refine Zev ?_
 refine Zgo ?_
 refine Zu (to_sliceOwn el37 rfl rfl rfl (by omega) (by omega)) ?_
 refine Zgo ?_
 refine Zu (to_capI sl37 rfl) ?_
 refine Zu (to_gtrLeast rfl rfl (m := i + 1 + m + 1) (by omega) (by omega)) ?_
 refine Zgo ?_
 refine Zu (to_sliceHi el37 rfl rfl (k := i + 1 + m + 1) (by omega) (by omega) (fun a ha => by cases ha; exact .inr rfl)) ?_
 refine Zgo ?_
 refine Zu (to_sliceOwn el37 rfl rfl (k := i + 1) (by omega) (by omega) (by omega)) ?_
 refine Wseq.call rfl rfl (over_spec (n := m) H' hv (by omega) hb (by omega) hne hy (by omega)) ?_
 rintro v h1 c1' r1 w1 ⟨rfl, e1⟩
 cases e1
 refine Zgo ?_
 refine Zq (to_sliceOwn el37 rfl rfl (k := i + 1) (by omega) (by omega) (by omega)) ?_
 refine Zgo ?_
 refine Zq (to_sliceOwn el37 rfl rfl (k := i) (by omega) (by omega) (by omega)) ?_
 refine Zd (to_copy ro37 rfl rfl (j := m) (by show min _ _ = _; omega) hb.cel (by omega) hsB hneB hb (by omega) s1) ?_
 refine Zgo ?_
 refine Zu (to_sliceOwn el37 rfl rfl (k := i) (by omega) (by omega) (by omega)) ?_
 refine Zgo ?_
 refine Zu (to_copy ro37 rfl rfl (j := 0) (by show min _ _ = _; omega) (hv.other hne).cel (by omega) hvs hneV Has.same (by omega) s3) ?_
 refine Zgo ?_
 refine ⟨.inr rfl, Wres.one rfl ⟨⟨rfl, rfl, _, Has.same, s4⟩, ?_⟩⟩
 exact Zex
theorem ins_roomE (H : sm 200 = none) {h : T AObj} {c : Nat} {rl wl : List Nat} (hf : Fresh h c) {b o n vb vo vc : Nat} {sp : Option Nat} {cs ws vv A t2 : List Value} (hb : Has h b (.cells cs)) (hs : subN o ((n + 1) * 2) cs = some (A ++ t2)) (hA : A.length = n * 2)
  (hv : Has h vb (.cells ws)) (hvs : subN vo 2 ws = some vv) (hat' : ∀ x ∈ vv, atom x = true) (hbig : n + 1 ≤ big) :
  ∃ r s', FnTo (Cs sm) eg 200 [.slice (some ⟨b, o, some 2⟩) n (n + 1), .int .i64 (n : Int), .slice (some ⟨vb, vo, sp⟩) 1 vc] ⟨h, c, rl, wl⟩ r s' ∧ (r = .slice (some ⟨b, o, some 2⟩) (n + 1) (n + 1) ∧ s'.c = c ∧ ∃ cs', Has s'.h b (.cells cs') ∧ subN o ((n + 1) * 2) cs' = some (A ++ vv)) ∧ Ext ⟨h, c, rl, wl⟩ s' (fun x => x = b ∨ x = vb) (fun x => x = b) := by
 have l1 := hb.lt hf
 have l2 := hv.lt hf
 have hbg : big = 1048576 := rfl
 have lv : vv.length = 2 := (subN_some _ _ _ _ hvs).1
 have lt2 : t2.length = 2 := by
  have := (subN_some _ _ _ _ hs).1
  simp only [List.length_append] at this
  omega
 obtain ⟨c2, s3, s4⟩ := setMany_row (o := o) (k := n * 2) (A := A) (B := t2) (B' := vv) (D := []) (cs := cs) (n := (n + 1) * 2) (by rw [hs]; simp) hA (by omega) hat'
 have hneV : vv ≠ [] := by rintro rfl; simp at lv
 refine Fn.go H ex200 fn200 km200 rfl rfl ?_
 refine Zev ?_
 refine Zgo ?_
 refine Zu (to_sliceOwn el37 rfl rfl rfl (by omega) (by omega)) ?_
 refine Zgo ?_
 refine Zu (to_appRoom ro37 sl37 rfl rfl (k := 0) hv.cel (by omega) hvs hneV (by omega) hb (by omega) s3) ?_
 refine Zgo ?_
 refine ⟨.inr rfl, Wres.one rfl ⟨⟨rfl, rfl, _, Has.same, by rw [s4, List.append_nil]⟩, ?_⟩⟩
 exact Zex
theorem ins_fullE (H : sm 200 = none) {h : T AObj} {c : Nat} {rl wl : List Nat} (hf : Fresh h c) {b o n vb vo vc : Nat} {sp : Option Nat} {cs ws vv A : List Value} (hb : Has h b (.cells cs)) (hs : subN o ((n + 1) * 2) cs = some A)
  (hv : Has h vb (.cells ws)) (hvs : subN vo 2 ws = some vv) (hbig : n + 2 ≤ big) :
  ∃ r s', FnTo (Cs sm) eg 200 [.slice (some ⟨b, o, none⟩) (n + 1) (n + 1), .int .i64 ((n + 1 : Nat) : Int), .slice (some ⟨vb, vo, sp⟩) 1 vc] ⟨h, c, rl, wl⟩ r s' ∧ (r = .slice (some ⟨c, 0, some 2⟩) (n + 2) (n + 2) ∧ s'.c = c + 1 ∧ Has s'.h c (.cells (A ++ vv))) ∧ Ext ⟨h, c, rl, wl⟩ s' (fun x => x = b ∨ x = vb) (fun _ => False) := by
 have l1 := hb.lt hf
 have l2 := hv.lt hf
 have hbg : big = 1048576 := rfl
 refine Fn.go H ex200 fn200 km200 rfl rfl ?_
 refine Zev ?_
 refine Zgo ?_
 refine Zu (to_sliceEnd el37 rfl rfl rfl) ?_
 refine Zgo ?_
 refine Zu (to_appFull ro37 sl37 rfl rfl (k := 0) hv.cel (by omega) hvs (by omega) (by omega) hb.cel (by omega) hs Zfr) ?_
 refine Zgo ?_
 refine ⟨.inr rfl, Wres.one rfl ⟨⟨rfl, rfl, Has.same⟩, ?_⟩⟩
 exact Zex
theorem ins_full0 (H : sm 200 = none) {h : T AObj} {c : Nat} {rl wl : List Nat} (hf : Fresh h c) {b o m vb vo vc : Nat} {sp : Option Nat} {cs ws vv B : List Value} (hb : Has h b (.cells cs)) (hs : subN o ((m + 1) * 2) cs = some B)
  (hv : Has h vb (.cells ws)) (hvs : subN vo 2 ws = some vv) (hat : ∀ x ∈ B, atom x = true) (hat' : ∀ x ∈ vv, atom x = true) (hbig : m + 2 ≤ big) :
  ∃ r s', FnTo (Cs sm) eg 200 [.slice (some ⟨b, o, none⟩) (m + 1) (m + 1), .int .i64 0, .slice (some ⟨vb, vo, sp⟩) 1 vc] ⟨h, c, rl, wl⟩ r s' ∧ (r = .slice (some ⟨c, 0, some 2⟩) (m + 2) (m + 2) ∧ s'.c = c + 1 ∧ ∃ cs', Has s'.h c (.cells cs') ∧ subN 0 ((m + 2) * 2) cs' = some (vv ++ B)) ∧ Ext ⟨h, c, rl, wl⟩ s' (fun x => x = b ∨ x = vb) (fun _ => False) := by
 have l1 := hb.lt hf
 have l2 := hv.lt hf
 have hbg : big = 1048576 := rfl
 have lv : vv.length = 2 := (subN_some _ _ _ _ hvs).1
 have lB : B.length = (m + 1) * 2 := (subN_some _ _ _ _ hs).1
 have hneB : B ≠ [] := by rintro rfl; simp at lB
 have hneV : vv ≠ [] := by rintro rfl; simp at lv
 obtain ⟨X, Y, hXY, hX, hY⟩ : ∃ X Y : List Value, [] ++ rep [Value.int .i64 0, Value.int .i64 0] (m + 2) = X ++ Y ∧ X.length = 2 ∧ Y.length = (m + 1) * 2 := by
  have hr : (rep [Value.int .i64 0, Value.int .i64 0] (m + 2)).length = (m + 2) * 2 := by rw [rep_length]; rfl
  refine ⟨(rep [Value.int .i64 0, Value.int .i64 0] (m + 2)).take 2, (rep [Value.int .i64 0, Value.int .i64 0] (m + 2)).drop 2, ?_, ?_, ?_⟩
  ·rw [List.take_append_drop]; rfl
  ·rw [List.length_take, hr]; omega
  ·rw [List.length_drop, hr]; omega
 have hc0 : subN 0 ((m + 2) * 2) ([] ++ rep [Value.int .i64 0, Value.int .i64 0] (m + 2)) = some (X ++ Y) := by
  rw [hXY]; exact subN_all _ _ (by rw [List.length_append]; omega)
 obtain ⟨c1, s1, s2⟩ := setMany_row (o := 0) (k := 0) (A := []) (B := X) (B' := vv) (D := Y) hc0 rfl (by omega) hat'
 obtain ⟨c2, s3, s4⟩ := setMany_row (o := 0) (k := 2) (A := vv) (B := Y) (B' := B) (D := []) (cs := c1) (n := (m + 2) * 2) (by rw [s2]; simp) lv (by omega) hat
 refine Fn.go H ex200 fn200 km200 rfl rfl ?_
 refine Zev ?_
 refine Zgo ?_
 refine Zu (to_sliceLo el37 rfl rfl (k := 0) rfl (by omega) (by omega) (by omega) (.inl rfl)) ?_
 refine Zgo ?_
 refine Zu (to_capX sl37 rfl) ?_
 refine Zgo ?_
 refine Zu (to_sliceHi el37 rfl rfl (k := 0) rfl (by omega) (fun a ha => by cases ha; exact .inl rfl)) ?_
 refine Zgo ?_
 refine Zu (to_appMake0 ro37 it3 rfl rfl (m := m + 2) (by omega) (by omega) (by omega) Zfr) ?_
 refine Zgo ?_
 refine Zu (to_sliceOwn el37 rfl rfl (k := 0) rfl (by omega) (by omega)) ?_
 refine Zgo ?_
 refine Zu (to_copy ro37 rfl rfl (j := 0) (by show min _ _ = _; omega) (hv.other (by omega)).cel (by omega) hvs hneV Has.same (by omega) (by rw [Nat.zero_mul]; exact s1)) ?_
 refine Zgo ?_
 refine Zq (to_sliceOwn el37 rfl rfl (k := 1) (by omega) (by omega) (by omega)) ?_
 refine Zgo ?_
 refine Zq (to_sliceLo el37 rfl rfl (k := 0) rfl (by omega) (by omega) (by omega) (.inl rfl)) ?_
 refine Zd (to_copy ro37 rfl rfl (j := m) (by show min _ _ = _; omega) ((hb.other (by omega)).other (by omega)).cel (by omega) (by rw [Nat.zero_mul]; exact hs) hneB Has.same (by omega) s3) ?_
 refine Zgo ?_
 refine ⟨.inr rfl, Wres.one rfl ⟨⟨congrArg (fun q => Value.slice (some ⟨c, 0, some 2⟩) q q) (Nat.zero_add (m + 2)), rfl, _, Has.same, by rw [s4, List.append_nil]⟩, ?_⟩⟩
 exact Zex
theorem ins_full (H : sm 200 = none) {h : T AObj} {c : Nat} {rl wl : List Nat} (hf : Fresh h c) {b o i m vb vo vc : Nat} {sp : Option Nat} {cs ws vv A B : List Value} (hb : Has h b (.cells cs)) (hs : subN o ((i + 1 + m + 1) * 2) cs = some (A ++ B)) (hA : A.length = (i + 1) * 2)
  (hv : Has h vb (.cells ws)) (hvs : subN vo 2 ws = some vv) (hat : ∀ x ∈ B, atom x = true) (hat' : ∀ x ∈ vv, atom x = true) (hbig : i + m + 3 ≤ big) :
  ∃ r s', FnTo (Cs sm) eg 200 [.slice (some ⟨b, o, none⟩) (i + 1 + m + 1) (i + 1 + m + 1), .int .i64 ((i + 1 : Nat) : Int), .slice (some ⟨vb, vo, sp⟩) 1 vc] ⟨h, c, rl, wl⟩ r s' ∧ (r = .slice (some ⟨c, 0, some 2⟩) (i + 1 + (m + 2)) (i + 1 + (m + 2)) ∧ s'.c = c + 1 ∧ ∃ cs', Has s'.h c (.cells cs') ∧ subN 0 ((i + 1 + (m + 2)) * 2) cs' = some (A ++ vv ++ B)) ∧ Ext ⟨h, c, rl, wl⟩ s' (fun x => x = b ∨ x = vb) (fun _ => False) := by
 have l1 := hb.lt hf
 have l2 := hv.lt hf
 have hbg : big = 1048576 := rfl
 have lv : vv.length = 2 := (subN_some _ _ _ _ hvs).1
 have lB : B.length = (m + 1) * 2 := by
  have := (subN_some _ _ _ _ hs).1
  simp only [List.length_append] at this
  omega
 have hneB : B ≠ [] := by rintro rfl; simp at lB
 have hneV : vv ≠ [] := by rintro rfl; simp at lv
 have hsB : subN o ((i + 1) * 2) cs = some A ∧ subN (o + (i + 1) * 2) ((m + 1) * 2) cs = some B := subN_app (by rw [← hs]; congr 1; omega) hA
 obtain ⟨X, Y, hXY, hX, hY⟩ : ∃ X Y : List Value, rep [Value.int .i64 0, Value.int .i64 0] (m + 2) = X ++ Y ∧ X.length = 2 ∧ Y.length = (m + 1) * 2 := by
  have hr : (rep [Value.int .i64 0, Value.int .i64 0] (m + 2)).length = (m + 2) * 2 := by rw [rep_length]; rfl
  refine ⟨(rep [Value.int .i64 0, Value.int .i64 0] (m + 2)).take 2, (rep [Value.int .i64 0, Value.int .i64 0] (m + 2)).drop 2, ?_, ?_, ?_⟩
  ·rw [List.take_append_drop]
  ·rw [List.length_take, hr]; omega
  ·rw [List.length_drop, hr]; omega
 have hc0 : subN 0 ((i + 1 + (m + 2)) * 2) (A ++ rep [Value.int .i64 0, Value.int .i64 0] (m + 2)) = some (A ++ X ++ Y) := by
  rw [hXY, List.append_assoc]; exact subN_all _ _ (by simp only [List.length_append]; omega)
 obtain ⟨c1, s1, s2⟩ := setMany_row (o := 0) (k := (i + 1) * 2) (A := A) (B := X) (B' := vv) (D := Y) hc0 hA (by omega) hat'
 obtain ⟨c2, s3, s4⟩ := setMany_row (o := 0) (k := (i + 1 + 1) * 2) (A := A ++ vv) (B := Y) (B' := B) (D := []) (cs := c1) (n := (i + 1 + (m + 2)) * 2) (by rw [s2]; simp) (by rw [List.length_append]; omega) (by omega) hat
 refine Fn.go H ex200 fn200 km200 rfl rfl ?_
 refine Zev ?_
 refine Zgo ?_
 refine Zu (to_sliceLo el37 rfl rfl (k := i + 1) (by omega) (by omega) (by omega) (by omega) (.inl rfl)) ?_
 refine Zgo ?_
 refine Zu (to_capX sl37 rfl) ?_
 refine Zgo ?_
 refine Zu (to_sliceHi el37 rfl rfl (k := i + 1) (by omega) (by omega) (fun a ha => by cases ha; exact .inl rfl)) ?_
 refine Zgo ?_
 refine Zu (to_appMake ro37 it3 rfl rfl (m := m + 2) (by omega) (by omega) (by omega) hb.cel (by omega) hsB.1 Zfr) ?_
 refine Zgo ?_
 refine Zu (to_sliceOwn el37 rfl rfl (k := i + 1) (by omega) (by omega) (by omega)) ?_
 refine Zgo ?_
 refine Zu (to_copy ro37 rfl rfl (j := 0) (by show min _ _ = _; omega) (hv.other (by omega)).cel (by omega) hvs hneV Has.same (by omega) s1) ?_
 refine Zgo ?_
 refine Zq (to_sliceOwn el37 rfl rfl (k := i + 1 + 1) (by omega) (by omega) (by omega)) ?_
 refine Zgo ?_
 refine Zq (to_sliceLo el37 rfl rfl (k := i + 1) (by omega) (by omega) (by omega) (by omega) (.inl rfl)) ?_
 refine Zd (to_copy ro37 rfl rfl (j := m) (by show min _ _ = _; omega) ((hb.other (by omega)).other (by omega)).cel (by omega) hsB.2 hneB Has.same (by omega) s3) ?_
 refine Zgo ?_
 refine ⟨.inr rfl, Wres.one rfl ⟨⟨rfl, rfl, _, Has.same, by rw [s4, List.append_nil]⟩, ?_⟩⟩
 exact Zex
theorem ins_nil (H : sm 200 = none) {h : T AObj} {c : Nat} {rl wl : List Nat} (hf : Fresh h c) {vb vo vc : Nat} {sp : Option Nat} {ws vv : List Value}
  (hv : Has h vb (.cells ws)) (hvs : subN vo 2 ws = some vv) :
  ∃ r s', FnTo (Cs sm) eg 200 [.slice none 0 0, .int .i64 0, .slice (some ⟨vb, vo, sp⟩) 1 vc] ⟨h, c, rl, wl⟩ r s' ∧ (r = .slice (some ⟨c, 0, some 2⟩) 1 1 ∧ s'.h = h.set c (some (.cells vv)) ∧ s'.c = c + 1 ∧ Has s'.h c (.cells vv)) ∧ Ext ⟨h, c, rl, wl⟩ s' (fun x => x = vb) (fun _ => False) := by
 have l2 := hv.lt hf
 have hbg : big = 1048576 := rfl
 refine Fn.go H ex200 fn200 km200 rfl rfl ?_
 refine Zev ?_
 refine Zgo ?_
 refine Zu (to_sliceLoNil el37 rfl rfl rfl) ?_
 refine Zgo ?_
 refine Zu (to_appNil ro37 sl37 rfl rfl (k := 0) hv.cel (by omega) hvs (by omega) Zfr) ?_
 refine Zgo ?_
 refine ⟨.inr rfl, Wres.one rfl ⟨⟨rfl, rfl, rfl, Has.same⟩, ?_⟩⟩
 exact Zex
end Go.Ab.Seat
end
