import Derived.Test.YtofikbfljjjgeaaGreatDoorDW2
import Derived.Test.YtofikbfljjjgeaaGreatDoorDF7
import Derived.Test.YtofikbfljjjgeaaGreatDoorE50
import Derived.Test.YtofikbfljjjgeaaGreatDoorDM1
import Derived.Test.YtofikbfljjjgeaaGreatDoorDF2
set_option linter.unusedVariables false
set_option linter.unusedSimpArgs false
section
/- A graph: its members and links; what its operations make of them (plain lists). -/
namespace Go.Ab.Seat
open Go.Extern Go.Proofs
def posI (v : Int) (l : List Int) : Nat := (l.takeWhile fun y => decide (y < v)).length
def insS (v : Int) (l : List Int) : List Int := if v ∈ l then l else l.take (posI v l) ++ v :: l.drop (posI v l)
def remS (v : Int) (l : List Int) : List Int := l.filter fun y => decide (y ≠ v)
abbrev Up (l : List Int) : Prop := l.Pairwise fun a b => a < b
theorem posI_le (v : Int) (l : List Int) : posI v l ≤ l.length := by unfold posI; exact (List.takeWhile_sublist _).length_le
theorem posI_cons (v y : Int) (l : List Int) : posI v (y :: l) = if y < v then posI v l + 1 else 0 := by
 unfold posI
 rw [List.takeWhile_cons]
 by_cases h : y < v
 ·rw [decide_eq_true h, if_pos h]; rfl
 ·rw [decide_eq_false h, if_neg h]; rfl
theorem posI_lt {v : Int} : ∀ {l : List Int}, Up l → ∀ {i : Nat} {y : Int}, l[i]? = some y → (i < posI v l ↔ y < v)
 | [], _, i, y, h => by cases h
 | x :: l, hu, i, y, h => by
  obtain ⟨h1, h2⟩ := List.pairwise_cons.1 hu
  rw [posI_cons]
  cases i with
  | zero =>
   cases h
   by_cases hv : x < v
   ·rw [if_pos hv]; exact ⟨fun _ => hv, fun _ => Nat.succ_pos _⟩
   ·rw [if_neg hv]; exact ⟨fun q => absurd q (Nat.lt_irrefl 0), fun q => absurd q hv⟩
  | succ i =>
   have h3 : l[i]? = some y := h
   have h4 := posI_lt (v := v) h2 h3
   have h5 := h1 y (List.mem_of_getElem? h3)
   by_cases hv : x < v
   ·rw [if_pos hv]; omega
   ·rw [if_neg hv]; omega
theorem posI_mem {v : Int} {l : List Int} (hu : Up l) : v ∈ l ↔ l[posI v l]? = some v := by
 constructor
 ·intro h
  obtain ⟨i, hi, e⟩ := List.getElem_of_mem h
  have h1 : l[i]? = some v := by rw [List.getElem?_eq_getElem hi, e]
  have h2 := posI_lt (v := v) hu h1
  have h3 : posI v l ≤ i := by omega
  have h4 := posI_le v l
  have h5 : posI v l < l.length := by omega
  rw [List.getElem?_eq_getElem h5]
  have h6 := posI_lt (v := v) hu (List.getElem?_eq_getElem h5)
  rcases Nat.lt_or_ge (posI v l) i with h7 | h7
  ·have := List.pairwise_iff_getElem.1 hu (posI v l) i h5 hi h7
   omega
  ·have : posI v l = i := by omega
   congr 1
   simp only [this]
   exact e
 ·exact fun h => List.mem_of_getElem? h
theorem insS_mem {v x : Int} {l : List Int} : x ∈ insS v l ↔ x = v ∨ x ∈ l := by
 unfold insS
 split
 ·rename_i h
  constructor
  ·exact fun q => .inr q
  ·rintro (rfl | q)
   ·exact h
   ·exact q
 ·rw [List.mem_append, List.mem_cons]
  have : x ∈ l ↔ x ∈ l.take (posI v l) ∨ x ∈ l.drop (posI v l) := by rw [← List.mem_append, List.take_append_drop]
  rw [this]
  constructor
  ·rintro (q | q | q)
   ·exact .inr (.inl q)
   ·exact .inl q
   ·exact .inr (.inr q)
  ·rintro (q | q | q)
   ·exact .inr (.inl q)
   ·exact .inl q
   ·exact .inr (.inr q)
theorem insS_up {v : Int} {l : List Int} (hu : Up l) : Up (insS v l) := by
 unfold insS
 split
 ·exact hu
 ·rename_i hv
  have h1 : ∀ x ∈ l.take (posI v l), x < v := by
   intro x hx
   obtain ⟨i, hi, e⟩ := List.getElem_of_mem hx
   rw [List.length_take] at hi
   rw [List.getElem_take] at e
   exact (posI_lt (v := v) hu (List.getElem?_eq_getElem (show i < l.length by omega))).1 (by omega) |> fun q => by rw [← e]; exact q
  have h2 : ∀ x ∈ l.drop (posI v l), v < x := by
   intro x hx
   obtain ⟨i, hi, e⟩ := List.getElem_of_mem hx
   rw [List.length_drop] at hi
   rw [List.getElem_drop] at e
   have h3 := (posI_lt (v := v) hu (List.getElem?_eq_getElem (show posI v l + i < l.length by omega)))
   have h4 : x ≠ v := fun q => hv (q ▸ List.mem_of_mem_drop hx)
   rw [e] at h3
   omega
  refine List.pairwise_append.2 ⟨hu.sublist (List.take_sublist _ _), List.pairwise_cons.2 ⟨h2, hu.sublist (List.drop_sublist _ _)⟩, fun a ha b hb => ?_⟩
  rcases List.mem_cons.1 hb with rfl | hb
  ·exact h1 a ha
  ·exact Int.lt_trans (h1 a ha) (h2 b hb)
theorem remS_mem {v x : Int} {l : List Int} : x ∈ remS v l ↔ x ∈ l ∧ x ≠ v := by unfold remS; rw [List.mem_filter, decide_eq_true_eq]
theorem remS_up {v : Int} {l : List Int} (hu : Up l) : Up (remS v l) := hu.sublist (List.filter_sublist)
theorem remS_not {v : Int} {l : List Int} (h : v ∉ l) : remS v l = l := by
 unfold remS
 rw [List.filter_eq_self]
 exact fun y hy => decide_eq_true fun e => h (e ▸ hy)
theorem remS_at {v : Int} {l : List Int} (hu : Up l) (h : v ∈ l) : remS v l = l.take (posI v l) ++ l.drop (posI v l + 1) ∧ posI v l < l.length := by
 have h1 := (posI_mem hu).1 h
 obtain ⟨h2, h3⟩ := List.getElem?_eq_some_iff.1 h1
 refine ⟨?_, h2⟩
 refine rises_ext (remS_up hu) ?_ fun x => ?_
 ·refine List.pairwise_append.2 ⟨hu.sublist (List.take_sublist _ _), hu.sublist (List.drop_sublist _ _), fun a ha b hb => ?_⟩
  have h4 : l = l.take (posI v l) ++ l.drop (posI v l) := (List.take_append_drop _ _).symm
  have h5 : Up (l.take (posI v l) ++ l.drop (posI v l)) := by rw [← h4]; exact hu
  refine (List.pairwise_append.1 h5).2.2 a ha b ?_
  rw [← List.drop_drop] at hb
  exact List.mem_of_mem_drop hb
 ·have h6 : l = l.take (posI v l) ++ v :: l.drop (posI v l + 1) := by
   conv => lhs; rw [← List.take_append_drop (posI v l) l, List.drop_eq_getElem_cons h2, h3]
  have h5 : Up (l.take (posI v l) ++ v :: l.drop (posI v l + 1)) := by rw [← h6]; exact hu
  obtain ⟨q1, q2, q3⟩ := List.pairwise_append.1 h5
  rw [remS_mem]
  have h7 : x ∈ l ↔ x ∈ l.take (posI v l) ∨ x = v ∨ x ∈ l.drop (posI v l + 1) := by
   conv => lhs; rw [h6]
   rw [List.mem_append, List.mem_cons]
  rw [h7, List.mem_append]
  constructor
  ·rintro ⟨r | r | r, h8⟩
   ·exact .inl r
   ·exact absurd r h8
   ·exact .inr r
  ·rintro (r | r)
   ·have := q3 x r v (List.mem_cons_self ..)
    exact ⟨.inl r, by omega⟩
   ·have := (List.pairwise_cons.1 q2).1 x r
    exact ⟨.inr (.inr r), by omega⟩
structure Gr where
 M : List Rc
 L : Int → Nat → List Int
abbrev Lk := Int → Nat → List Int
def updL (L : Lk) (u : Int) (l : Nat) (xs : List Int) : Lk := fun x k => if x = u ∧ k = l then xs else L x k
def insL (l : Nat) (L : Lk) (u v : Int) : Lk := updL L u l (insS v (L u l))
def remL (l : Nat) (L : Lk) (u v : Int) : Lk := updL L u l (remS v (L u l))
def linkL (l : Nat) (L : Lk) (a b : Int) : Lk := insL l (insL l L a b) b a
def partL (l : Nat) (L : Lk) (a b : Int) : Lk := remL l (remL l L a b) b a
def mostG (l : Nat) : Nat := if l = 0 then 8 else 4
noncomputable def zsM (M : List Rc) (id : Int) : List Int := match getM id M with | some r => intsV r.xs | none => []
noncomputable def hitG (mt : Int) (M : List Rc) (q : List Int) (id : Int) : Ht := ⟨id, scoreZ mt q (zsM M id)⟩
noncomputable def rankG (mt : Int) (M : List Rc) (id : Int) (l : List Int) : List Int := (bestOf l.length (l.map (hitG mt M (zsM M id)))).map Ht.id
structure LS where
 f : List Ht
 s : List Int
 d : List Int
noncomputable def seeG (mt : Int) (M : List Rc) (q : List Int) (n : Nat) (st : List Ht × List Int) (y : Int) : List Ht × List Int := if y ∈ st.2 then st else (putB n st.1 (hitG mt M q y), y :: st.2)
noncomputable def fromG (mt : Int) (M : List Rc) (q : List Int) (n : Nat) (st : List Ht × List Int) (y : Int) : List Ht × List Int := (putB n st.1 (hitG mt M q y), y :: st.2)
def nextG (st : LS) : Option Ht := st.f.find? fun x => decide (x.id ∉ st.d)
noncomputable def stepG (mt : Int) (G : Gr) (q : List Int) (l n : Nat) (st : LS) (x : Ht) : LS := ⟨((G.L x.id l).foldl (seeG mt G.M q n) (st.f, st.s)).1, ((G.L x.id l).foldl (seeG mt G.M q n) (st.f, st.s)).2, x.id :: st.d⟩
noncomputable def lookN (mt : Int) (G : Gr) (q : List Int) (l n : Nat) : Nat → LS → List Ht
 | 0, st => st.f
 | k + 1, st => match nextG st with | none => st.f | some x => lookN mt G q l n k (stepG mt G q l n st x)
noncomputable def startG (mt : Int) (M : List Rc) (q : List Int) (n : Nat) (from_ : List Int) : LS := ⟨(from_.foldl (fromG mt M q n) ([], [])).1, (from_.foldl (fromG mt M q n) ([], [])).2, []⟩
noncomputable def lookH (mt : Int) (G : Gr) (q : List Int) (l : Nat) (from_ : List Int) (n : Nat) : List Ht := lookN mt G q l n (G.M.length + 1) (startG mt G.M q n from_)
noncomputable def lookG (mt : Int) (G : Gr) (q : List Int) (l : Nat) (from_ : List Int) (n : Nat) : List Int := (lookH mt G q l from_ n).map Ht.id
noncomputable def pruneL (mt : Int) (M : List Rc) (l : Nat) (L : Lk) (id : Int) : Lk := ((rankG mt M id (L id l)).drop (mostG l)).foldl (fun L x => partL l L id x) L
noncomputable def mayG (l : Nat) (L : Lk) (id : Int) : Bool := decide ((L id l).length < mostG l)
noncomputable def othersG (l : Nat) (L : Lk) (xs : List Int) (id : Int) : List Int := xs.filter fun x => !(decide (x = id) || !mayG l L x || decide (x ∈ L id l))
noncomputable def mend1 (mt : Int) (M : List Rc) (l : Nat) (xs : List Int) (L : Lk) (id : Int) : Lk := if mayG l L id = true then (match rankG mt M id (othersG l L xs id) with | [] => L | y :: _ => linkL l L id y) else L
noncomputable def mendL (mt : Int) (M : List Rc) (l : Nat) (L : Lk) (xs : List Int) : Lk := xs.foldl (mend1 mt M l xs) L
noncomputable def entryG (M : List Rc) : Int × Int := M.foldl (fun s r => if s.2 < r.seq then (r.id, r.seq) else s) (0, -1)
noncomputable def cutL (G : Gr) (id : Int) (k : Nat) : Lk := (List.range k).foldl (fun L l => (G.L id l).foldl (fun L y => partL l L id y) L) G.L
noncomputable def mendAll (mt : Int) (M : List Rc) (had : Nat → List Int) (L : Lk) (k : Nat) : Lk := (List.range k).foldl (fun L l => mendL mt M l L (had l)) L
noncomputable def delG (mt : Int) (G : Gr) (id : Int) : Gr := match getM id G.M with | none => G | some _ => ⟨delM id G.M, mendAll mt (delM id G.M) (G.L id) (cutL G id 5) 5⟩
noncomputable def downG (mt : Int) (G : Gr) (q : List Int) (l : Nat) : Nat → List Int → List Int
 | 0, at_ => at_
 | u + 1, at_ => if l < u + 1 then downG mt G q l u (lookG mt G q (u + 1) at_ 1) else at_
noncomputable def joinL (mt : Int) (M : List Rc) (l : Nat) (L : Lk) (id : Int) (near : List Int) : Lk := near.foldl (pruneL mt M l) (near.foldl (fun L y => linkL l L id y) L)
noncomputable def growG (mt : Int) (id : Int) (q : List Int) : Nat → Gr → List Int → Gr
 | 0, G, at_ => ⟨G.M, joinL mt G.M 0 G.L id ((lookG mt G q 0 at_ 8).take 4)⟩
 | l + 1, G, at_ => growG mt id q l ⟨G.M, joinL mt G.M (l + 1) G.L id ((lookG mt G q (l + 1) at_ 8).take 4)⟩ (lookG mt G q (l + 1) at_ 8)
def tz8 (dw : Int) : Nat := ((List.range 8).takeWhile fun i => decide (dw % 2 ^ (i + 1) = 0)).length
def levelG (dw : Int) : Nat := tz8 dw / 2
noncomputable def putG (mt : Int) (G : Gr) (id : Int) (zs : List Int) (dw : Int) : Gr :=
 if (entryG (delG mt G id).M).2 < 0 then ⟨putM ⟨id, zs.map (Value.int .i32), .empty, (levelG dw : Int), false⟩ (delG mt G id).M, (delG mt G id).L⟩
 else growG mt id zs (min (levelG dw) (entryG (delG mt G id).M).2.toNat) ⟨putM ⟨id, zs.map (Value.int .i32), .empty, (levelG dw : Int), false⟩ (delG mt G id).M, (delG mt G id).L⟩
  (downG mt ⟨putM ⟨id, zs.map (Value.int .i32), .empty, (levelG dw : Int), false⟩ (delG mt G id).M, (delG mt G id).L⟩ zs (levelG dw) (entryG (delG mt G id).M).2.toNat [(entryG (delG mt G id).M).1])
noncomputable def searchG (mt : Int) (G : Gr) (q : List Int) (k : Nat) : List Ht :=
 if (entryG G.M).2 < 0 then [] else (lookH mt G q 0 (downG mt G q 0 (entryG G.M).2.toNat [(entryG G.M).1]) (max 8 k)).take k
end Go.Ab.Seat
end
section
/- Frames by what is known of them: the other slots are a function's. -/
namespace Go.Ab.Seat
open Go.Extern Go.Proofs
def upd (g : Nat → Value) : List (Nat × Value) → Nat → Value
 | [], n => g n
 | x :: l, n => if n = x.1 then x.2 else upd g l n
def fr (g : Nat → Value) (l : List (Nat × Value)) : List Nat → L
 | [] => .nil
 | p :: ks => .cons p (upd g l p) (fr g l ks)
theorem fr_look (g : Nat → Value) (l : List (Nat × Value)) (n : Nat) : ∀ ks : List Nat, (fr g l ks).look (fun _ => top) n = if n ∈ ks then upd g l n else top
 | [] => rfl
 | p :: ks => by
  show (L.cons p (upd g l p) (fr g l ks)).look (fun _ => top) n = _
  rw [look_if]
  by_cases h : p = n
  ·subst h; rw [if_pos rfl, if_pos (List.mem_cons_self ..)]
  ·rw [if_neg h, fr_look g l n ks]
   by_cases h2 : n ∈ ks
   ·rw [if_pos h2, if_pos (List.mem_cons_of_mem _ h2)]
   ·rw [if_neg h2, if_neg (fun q => (List.mem_cons.1 q).elim (fun e => h e.symm) h2)]
theorem upd_at (g : Nat → Value) (n : Nat) : ∀ l : List (Nat × Value), (∀ x ∈ l, g x.1 = x.2) → upd g l n = g n
 | [], _ => rfl
 | x :: l, h => by
  show (if n = x.1 then x.2 else upd g l n) = _
  split
  ·rename_i e; rw [e, h x (List.mem_cons_self ..)]
  ·exact upd_at g n l fun y hy => h y (List.mem_cons_of_mem _ hy)
noncomputable def lkk (k : L) (n : Nat) : Value := k.look (fun _ => top) n
theorem fr_eqk {k : L} {ks : List Nat} {l : List (Nat × Value)} (h2 : (k.keys.all fun p => ks.contains p) = true) (h3 : ∀ x ∈ l, k.look (fun _ => top) x.1 = x.2) : EqK (fr (lkk k) l ks) k := fun t => by
 rw [fr_look, upd_at (lkk k) t l h3]
 by_cases h : t ∈ ks
 ·rw [if_pos h]; rfl
 ·rw [if_neg h, look_out k t fun q => h (by
   have := List.all_eq_true.1 h2 t q
   simpa using this)]
section
variable {C : Ctx} {eg : TypeId → Bool} {km : Nat} {Q : Ex → Env → St → Prop} {k : L} {s : St}
theorem RoundE.goF {J : Nat → L → St → Prop} {m : Nat} (m' : Nat) (ks : List Nat) (l : List (Nat × Value)) (h1 : m' < m) (h4 : J m' (fr (lkk k) l ks) s) (h2 : (k.keys.all fun p => ks.contains p) = true := by rfl) (h3 : ∀ x ∈ l, k.look (fun _ => top) x.1 = x.2 := by (repeat (first | (exact all_nil) | (apply all_cons; rfl)))) : RoundE J m Q .normal (.mk .nil k) s :=
 RoundE.go m' _ h1 (fr_eqk h2 h3) h4
theorem CutQ.goF {J : L → St → Prop} (ks : List Nat) (l : List (Nat × Value)) (h4 : J (fr (lkk k) l ks) s) (h2 : (k.keys.all fun p => ks.contains p) = true := by rfl) (h3 : ∀ x ∈ l, k.look (fun _ => top) x.1 = x.2 := by (repeat (first | (exact all_nil) | (apply all_cons; rfl)))) : CutQ J Q .normal (.mk .nil k) s :=
 CutQ.go _ (fr_eqk h2 h3) h4
theorem Wx.loopF {b : Code} (J : Nat → L → St → Prop) (m : Nat) (ks : List Nat) (l : List (Nat × Value)) (h0 : J m (fr (lkk k) l ks) s) (hr : ∀ m k s, J m k s → Wx C eg km b (.mk .nil k) s (RoundE J m Q)) (hQ : Resp Q := by exact Zrs) (h2 : (k.keys.all fun p => ks.contains p) = true := by rfl) (h3 : ∀ x ∈ l, k.look (fun _ => top) x.1 = x.2 := by (repeat (first | (exact all_nil) | (apply all_cons; rfl)))) : Wx C eg km (.loop b) (.mk .nil k) s Q :=
 Wx.loopE J m _ hQ (fr_eqk h2 h3) h0 hr
theorem Wx.sw {c : Code} {k' : L} (h : k = k') (h2 : Wx C eg km c (.mk .nil k') s Q) : Wx C eg km c (.mk .nil k) s Q := h ▸ h2
end
theorem frN (g : Nat → Value) (l : List (Nat × Value)) : fr g l [] = .nil := rfl
theorem frC (g : Nat → Value) (l : List (Nat × Value)) (p : Nat) (ks : List Nat) : fr g l (p :: ks) = .cons p (upd g l p) (fr g l ks) := rfl
theorem updN (g : Nat → Value) (n : Nat) : upd g [] n = g n := rfl
theorem updC (g : Nat → Value) (p : Nat) (v : Value) (l : List (Nat × Value)) (n : Nat) : upd g ((p, v) :: l) n = if n = p then v else upd g l n := rfl
end Go.Ab.Seat
end
section
/- Vectors compared; is a vector among some? (the abstract machine) -/
namespace Go.Ab.Seat
open Go.Extern Go.Proofs
set_option maxRecDepth 4000
end Go.Ab.Seat
end
section
/- The middle of some (the abstract machine). -/
namespace Go.Ab.Seat
open Go.Extern Go.Proofs
set_option maxRecDepth 4000
theorem to_quo {C : Ctx} {eg : TypeId → Bool} {e : Env} {s : St} {d : Option Nat} {ty : TypeId} {ps : String} {af : Array Edge} {g : Option (Nat × Bool)} {t t2 : TypeId} {x y : Operand} {a b : Int} (hx : evalA e x = .int .i64 a) (hy : evalA e y = .int .i64 b) (hb : b ≠ 0) (h0 : -9223372036854775808 ≤ a.tdiv b) (h1 : a.tdiv b ≤ 9223372036854775807) : OpTo C eg e ⟨d, .binOp .quo t x y t2, ty, ps, af, g⟩ s (.int .i64 (a.tdiv b)) s :=
 to_bin hx hy (by rw [opBin_int (by decide) (by decide)]; show (match decide (b = 0) with | true => none | false => some (Value.int .i64 (wrapA .i64 (a.tdiv b)))) = _; rw [decide_eq_false hb, wrapA_i64 h0 h1])
end Go.Ab.Seat
end
section
/- Arrays behind a pointer, arrays by value, shifts, clear, a slice of three bounds (rules over the abstract machine). -/
namespace Go.Ab
section
variable {C : Ctx} {eg : TypeId → Bool} {e : Env} {s : St} {d : Option Nat} {ty : TypeId} {ps : String} {af : Array Edge} {g : Option (Nat × Bool)} {h : T AObj} {c : Nat} {rl wl : List Nat}
noncomputable def arrAt (C : Ctx) (t : TypeId) : Option (Nat × Nat) := match C.und t with | some (.array k e) => (C.size e).map fun n => (k, n) | _ => none
theorem to_indexAddrA {t : TypeId} {x i : Operand} {b o m n k : Nat} {j : IntKind} {z : Int} (ht : arrAt C t = some (m, n)) (hx : evalA e x = .pointer (some ⟨b, o, none⟩)) (hi : evalA e i = .int j z) (hz : z = (k : Int)) (hk : k < m) :
  OpTo C eg e ⟨d, .indexAddr t x i, ty, ps, af, g⟩ s (.pointer (some ⟨b, o + k * n, none⟩)) s := ⟨0, by
 show opIndexAddr C t (evalA e x) (evalA e i) s = _
 subst hz
 rw [hx, hi]
 unfold arrAt at ht
 unfold opIndexAddr
 rw [show natOf (.int j (k : Int)) = some k from rfl]
 cases hu : C.und t with
 | none => rw [hu] at ht; cases ht
 | some u =>
  rw [hu] at ht
  cases u <;> first | (cases ht; done) | skip
  rename_i k' e'
  simp only at ht ⊢
  cases he : C.size e' with
  | none => rw [he] at ht; cases ht
  | some n' =>
   rw [he] at ht
   simp only [Option.map_some, Option.some.injEq, Prod.mk.injEq] at ht
   obtain ⟨rfl, rfl⟩ := ht
   rw [show Nat.blt k k' = true from blt_iff.2 hk]; rfl⟩
noncomputable def arrP (C : Ctx) (t : TypeId) : Option Nat := match C.und t with | some (.array k e) => (match C.size e, plainT C e with | some 1, true => some k | _, _ => none) | _ => none
theorem to_indexA {t : TypeId} {x i : Operand} {m k : Nat} {j : IntKind} {z : Int} {cs : List Value} {v : Value} (ht : arrP C t = some m) (hx : evalA e x = .agg ⟨cs⟩) (hi : evalA e i = .int j z) (hz : z = (k : Int)) (hk : k < m) (hv : nth cs k = some v) :
  OpTo C eg e ⟨d, .index t x i, ty, ps, af, g⟩ s v s := ⟨0, by
 show opIndex C t (evalA e x) (evalA e i) s = _
 subst hz
 rw [hx, hi]
 unfold arrP at ht
 unfold opIndex
 rw [show natOf (.int j (k : Int)) = some k from rfl]
 cases hu : C.und t with
 | none => rw [hu] at ht; cases ht
 | some u =>
  rw [hu] at ht
  cases u <;> first | (cases ht; done) | skip
  rename_i k' e'
  simp only at ht ⊢
  cases he : C.size e' with
  | none => rw [he] at ht; cases ht
  | some n' =>
   rw [he] at ht
   cases hp : plainT C e' with
   | false =>
    rw [hp] at ht
    simp only at ht
    cases ht
   | true =>
    rw [hp] at ht
    by_cases hn : n' = 1
    ·subst hn
     simp only [Option.some.injEq] at ht
     subst ht
     rw [show Nat.blt k k' = true from blt_iff.2 hk]
     simp only [Nat.mul_one]
     refine lift_run ?_
     unfold partA
     unfold plainT at hp
     cases hq : C.und e' with
     | none => rw [hq] at hp; cases hp
     | some w =>
      rw [hq] at hp
      cases w <;> first | (cases hp; done) | exact hv
    ·split at ht
     ·rename_i h2 _; exact absurd (Option.some.inj h2) hn
     ·cases ht⟩
theorem to_shr {t t2 : TypeId} {x y : Operand} {j j2 : IntKind} {a : Int} {k : Nat} (hx : evalA e x = .int j a) (hy : evalA e y = .int j2 (k : Int)) (hk : k ≤ j.bits) : OpTo C eg e ⟨d, .binOp .shr t x y t2, ty, ps, af, g⟩ s (.int j (a.fdiv ((2 ^ k : Nat) : Int))) s :=
 to_bin hx hy (by
  show shiftA .shr j a (k : Int) = _
  unfold shiftA
  show some (Value.int j (a.fdiv ((2 ^ Nat.min k j.bits : Nat) : Int))) = _
  rw [show Nat.min k j.bits = k from Nat.min_eq_left hk])
theorem to_and {t t2 : TypeId} {x y : Operand} {j : IntKind} {a b : Int} (hx : evalA e x = .int j a) (hy : evalA e y = .int j b) : OpTo C eg e ⟨d, .binOp .and t x y t2, ty, ps, af, g⟩ s (.int j (wrapA j (BitVec.ofInt j.bits a &&& BitVec.ofInt j.bits b).toNat)) s :=
 to_bin hx hy (by rw [opBin_int (by decide) (by decide)]; rfl)
theorem to_mulW {t t2 : TypeId} {x y : Operand} {j : IntKind} {a b : Int} (hx : evalA e x = .int j a) (hy : evalA e y = .int j b) : OpTo C eg e ⟨d, .binOp .mul t x y t2, ty, ps, af, g⟩ s (.int j (wrapA j (a * b))) s :=
 to_bin hx hy (by rw [opBin_int (by decide) (by decide)]; rfl)
theorem to_neg {t : TypeId} {x : Operand} {j : IntKind} {a : Int} (hx : evalA e x = .int j a) : OpTo C eg e ⟨d, .unOp .neg t x, ty, ps, af, g⟩ s (.int j (wrapA j (0 - a))) s := to_un hx rfl
theorem to_clear {t et : TypeId} {x : Operand} {n by_ k cap b o : Nat} {sp : Option Nat} {z cs r : List Value} (ht : C.row t = some (et, n, by_, z)) (hx : evalA e x = .slice (some ⟨b, o, sp⟩) (k + 1) cap) (hb : Has h b (.cells cs)) (hc : b < c) (hr : setMany (rep z (k + 1)) cs o = some r) :
  OpTo C eg e ⟨d, .call ⟨.builtin .clear, #[x], #[t]⟩, ty, ps, af, g⟩ ⟨h, c, rl, wl⟩ undefA ⟨h.set b (some (.cells r)), c, b :: rl, b :: wl⟩ := ⟨0, by
 show opClear C #[t] (evalA e x) _ = _
 rw [hx]
 show ((M.lift (C.row t)).bind fun (_, _, _, z) => (writeCells b o (rep z (k + 1))).bind fun _ => M.ret undefA) _ = _
 rw [bind_run (lift_run ht)]
 simp only
 rw [bind_run (writeCells_run hb hc hr)]
 rfl⟩
theorem to_slice3 {t : TypeId} {x lo hi mx : Operand} {b o len cap n k l m : Nat} {j j' j2 : IntKind} {z z' z2 : Int} (ht : elemAt C t = some n) (hx : evalA e x = .slice (some ⟨b, o, some n⟩) len cap) (hl : evalA e lo = .int j z) (hz : z = (k : Int)) (hh : evalA e hi = .int j' z') (hz' : z' = (l : Int)) (hm : evalA e mx = .int j2 z2) (hz2 : z2 = (m : Int)) (h1 : k ≤ l) (h2 : l ≤ m) (h3 : m ≤ cap) (h4 : k < m) :
  OpTo C eg e ⟨d, .slice t x (some lo) (some hi) (some mx), ty, ps, af, g⟩ s (.slice (some ⟨b, o + k * n, none⟩) (l - k) (m - k)) s := ⟨0, by
 show opSlice C t (evalA e x) ((some lo).map (evalA e)) ((some hi).map (evalA e)) ((some mx).map (evalA e)) s = _
 subst hz; subst hz'; subst hz2
 simp only [Option.map_some]
 rw [hx, hl, hh, hm]
 unfold elemAt at ht
 unfold opSlice
 cases hu : C.und t with
 | none => rw [hu] at ht; cases ht
 | some u =>
  rw [hu] at ht
  cases u <;> first | (cases ht; done) | skip
  simp only at ht ⊢
  rw [bind_run (lift_run ht)]
  have hb : boundsA len cap (some (.int j (k : Int))) (some (.int j' (l : Int))) (some (.int j2 (m : Int))) = some (k, l, m) := by
   unfold boundsA
   simp only [boundA]
   rw [show natOf (.int j2 (m : Int)) = some m from rfl, show natOf (.int j' (l : Int)) = some l from rfl, show natOf (.int j (k : Int)) = some k from rfl]
   simp only [ble_iff.2 h3, ble_iff.2 h2, ble_iff.2 h1]
  rw [bind_run (lift_run hb)]
  simp only [show (Nat.beq n n && Nat.ble l m) = true by rw [ble_iff.2 h2, Nat.beq_refl]; rfl]
  rw [show Nat.beq m k = false from beq_false.2 (by omega)]; rfl⟩
theorem to_slice2 {t : TypeId} {x lo hi : Operand} {b o len cap n k l : Nat} {j j' : IntKind} {z z' : Int} (ht : elemAt C t = some n) (hx : evalA e x = .slice (some ⟨b, o, some n⟩) len cap) (hl : evalA e lo = .int j z) (hz : z = (k : Int)) (hh : evalA e hi = .int j' z') (hz' : z' = (l : Int)) (h1 : k ≤ l) (h3 : l ≤ cap) :
  OpTo C eg e ⟨d, .slice t x (some lo) (some hi) none, ty, ps, af, g⟩ s (.slice (some ⟨b, o + k * n, some n⟩) (l - k) (cap - k)) s := ⟨0, by
 show opSlice C t (evalA e x) ((some lo).map (evalA e)) ((some hi).map (evalA e)) ((none : Option Operand).map (evalA e)) s = _
 subst hz; subst hz'
 simp only [Option.map_some, Option.map_none]
 rw [hx, hl, hh]
 unfold elemAt at ht
 unfold opSlice
 cases hu : C.und t with
 | none => rw [hu] at ht; cases ht
 | some u =>
  rw [hu] at ht
  cases u <;> first | (cases ht; done) | skip
  simp only at ht ⊢
  rw [bind_run (lift_run ht)]
  have hb : boundsA len cap (some (.int j (k : Int))) (some (.int j' (l : Int))) none = some (k, l, cap) := by
   unfold boundsA
   simp only
   show (match boundA none cap cap with | none => none | some m => _) = _
   simp only [boundA]
   rw [show natOf (.int j' (l : Int)) = some l from rfl, show natOf (.int j (k : Int)) = some k from rfl]
   simp only [ble_iff.2 h3, ble_iff.2 h1]
  rw [bind_run (lift_run hb)]
  simp only [show (Nat.beq n n && Nat.ble l cap) = true by rw [ble_iff.2 h3, Nat.beq_refl]; rfl]; rfl⟩
noncomputable def buildAT (C : Ctx) (t : TypeId) : Option (Nat × List Value) :=
 match C.und t, C.zero t with
 | some (.array _ e), some z => (match C.size e, cellsA z with | some n, some zs => some (n, zs) | _, _ => none)
 | _, _ => none
theorem to_buildA {t : TypeId} {parts : Array (Nat × Operand)} {n : Nat} {zs cs : List Value} (ht : buildAT C t = some (n, zs)) (hv : fillA (fun i => some (i * n, n)) zs (partsOf e parts) = some cs) :
  OpTo C eg e ⟨d, .build t parts, ty, ps, af, g⟩ s (.agg ⟨cs⟩) s := ⟨0, by
 show opBuild C t (partsOf e parts) s = _
 unfold buildAT at ht
 unfold opBuild
 cases hu : C.und t with
 | none => rw [hu] at ht; cases ht
 | some u =>
  cases hz : C.zero t with
  | none => rw [hu, hz] at ht; cases u <;> cases ht
  | some z =>
   rw [hu, hz] at ht
   cases u <;> first | (cases ht; done) | skip
   rename_i k e'
   simp only at ht ⊢
   cases he : C.size e' with
   | none => rw [he] at ht; cases ht
   | some n' =>
    cases hc : cellsA z with
    | none => rw [he, hc] at ht; cases ht
    | some zs' =>
     rw [he, hc] at ht
     simp only [Option.some.injEq, Prod.mk.injEq] at ht
     obtain ⟨rfl, rfl⟩ := ht
     rw [bind_run (lift_run rfl), bind_run (lift_run rfl), bind_run (lift_run hv)]
     rfl⟩
end
end Go.Ab
end
