/- slices.Sorted of a map's keys or a slice's values as a summary; what its contract owes. -/
import Derived.Test.YtofikbfljjjgeaaGreatDoorE22
set_option linter.unusedVariables false
set_option linter.unusedSimpArgs false
namespace Go.Ab
open Go.RowKit (Below)
noncomputable def wfI (n : Int) : Bool := decide (-9223372036854775808 ≤ n) && decide (n ≤ 9223372036854775807)
noncomputable def intOf1 (v : Value) : Option Int :=
 match v with
 | .int .i64 n => (match wfI n with | true => some n | false => none)
 | _ => none
noncomputable def intsOf (l : List Value) : Option (List Int) :=
 List.rec (motive := fun _ => Option (List Int)) (some []) (fun x _ ih => match intOf1 x, ih with | some n, some r => some (n :: r) | _, _ => none) l
noncomputable def insI (x : Int) (l : List Int) : List Int :=
 List.rec (motive := fun _ => List Int) [x] (fun y ys ih => bif decide (x ≤ y) then x :: y :: ys else y :: ih) l
noncomputable def sortI (l : List Int) : List Int := List.rec (motive := fun _ => List Int) [] (fun x _ ih => insI x ih) l
noncomputable def memI (x : Int) (l : List Int) : Bool := List.rec (motive := fun _ => Bool) false (fun y _ ih => bif decide (x = y) then true else ih) l
noncomputable def apartI (l : List Int) : Bool := List.rec (motive := fun _ => Bool) true (fun x xs ih => bif memI x xs then false else ih) l
noncomputable def apartN (l : List Nat) : Bool := List.rec (motive := fun _ => Bool) true (fun x xs ih => bif mem x xs then false else ih) l
theorem intsOf_cons (x : Value) (xs : List Value) : intsOf (x :: xs) = match intOf1 x, intsOf xs with | some n, some r => some (n :: r) | _, _ => none := rfl
theorem insI_cons (x y : Int) (ys : List Int) : insI x (y :: ys) = bif decide (x ≤ y) then x :: y :: ys else y :: insI x ys := rfl
theorem sortI_cons (x : Int) (xs : List Int) : sortI (x :: xs) = insI x (sortI xs) := rfl
theorem memI_cons (x y : Int) (ys : List Int) : memI x (y :: ys) = bif decide (x = y) then true else memI x ys := rfl
theorem apartI_cons (x : Int) (xs : List Int) : apartI (x :: xs) = bif memI x xs then false else apartI xs := rfl
theorem apartN_cons (x : Nat) (xs : List Nat) : apartN (x :: xs) = bif mem x xs then false else apartN xs := rfl
theorem wfI_wf {n : Int} (h : wfI n = true) : (Lit.int .i64 n).wf = true := by
 unfold wfI at h
 rw [Bool.and_eq_true, decide_eq_true_eq, decide_eq_true_eq] at h
 simp [Lit.wf, IntKind.min, IntKind.max, IntKind.bits, IntKind.signed]
 omega
theorem intOf1_some {v : Value} {n : Int} (h : intOf1 v = some n) : v = .int .i64 n ∧ wfI n = true := by
 unfold intOf1 at h
 split at h
 ·rename_i m
  cases hm : wfI m with
  | true => rw [hm] at h; cases h; exact ⟨rfl, hm⟩
  | false => rw [hm] at h; cases h
 ·cases h
theorem intsOf_some : ∀ (l : List Value) (r : List Int), intsOf l = some r → l = r.map (fun n => Value.int .i64 n) ∧ ∀ n ∈ r, wfI n = true := by
 intro l
 induction l with
 | nil => intro r h; cases h; exact ⟨rfl, by simp⟩
 | cons x xs ih =>
  intro r h
  rw [intsOf_cons] at h
  split at h
  ·rename_i n q h1 h2
   cases h
   obtain ⟨rfl, hw⟩ := intOf1_some h1
   obtain ⟨rfl, hq⟩ := ih q h2
   refine ⟨rfl, fun m hm => ?_⟩
   rcases List.mem_cons.1 hm with rfl | hm
   ·exact hw
   ·exact hq m hm
  ·cases h
theorem insI_perm (x : Int) : ∀ l, (insI x l).Perm (x :: l) := by
 intro l
 induction l with
 | nil => exact .refl _
 | cons y ys ih =>
  rw [insI_cons]
  cases decide (x ≤ y)
  ·exact (ih.cons y).trans (List.Perm.swap x y ys)
  ·exact .refl _
theorem sortI_perm : ∀ l, (sortI l).Perm l := by
 intro l
 induction l with
 | nil => exact .refl _
 | cons x xs ih => rw [sortI_cons]; exact (insI_perm x _).trans (ih.cons x)
theorem insI_sorted (x : Int) : ∀ l : List Int, l.Pairwise (fun a b => a ≤ b) → (insI x l).Pairwise (fun a b => a ≤ b) := by
 intro l
 induction l with
 | nil => intro _; exact List.pairwise_singleton _ _
 | cons y ys ih =>
  intro h
  rw [insI_cons]
  obtain ⟨h1, h2⟩ := List.pairwise_cons.1 h
  by_cases hxy : x ≤ y
  ·rw [decide_eq_true hxy]
   refine List.pairwise_cons.2 ⟨fun z hz => ?_, h⟩
   rcases List.mem_cons.1 hz with rfl | hz
   ·exact hxy
   ·exact Int.le_trans hxy (h1 z hz)
  ·rw [decide_eq_false hxy]
   refine List.pairwise_cons.2 ⟨fun z hz => ?_, ih h2⟩
   rcases List.mem_cons.1 ((insI_perm x ys).mem_iff.1 hz) with rfl | hz
   ·omega
   ·exact h1 z hz
theorem sortI_sorted : ∀ l : List Int, (sortI l).Pairwise (fun a b => a ≤ b) := by
 intro l
 induction l with
 | nil => exact .nil
 | cons x xs ih => rw [sortI_cons]; exact insI_sorted x _ ih
theorem mergeSort_sortI {l l' : List Int} (h : l.Perm l') : l.mergeSort (fun x y => decide (x ≤ y)) = sortI l' := by
 have tr : ∀ a b c : Int, decide (a ≤ b) = true → decide (b ≤ c) = true → decide (a ≤ c) = true := fun a b c h1 h2 => by simp only [decide_eq_true_eq] at *; exact Int.le_trans h1 h2
 have to : ∀ a b : Int, (decide (a ≤ b) || decide (b ≤ a)) = true := fun a b => by simp only [Bool.or_eq_true, decide_eq_true_eq]; exact Int.le_total a b
 refine List.Perm.eq_of_pairwise (le := fun a b => a ≤ b) (fun a b _ _ h1 h2 => Int.le_antisymm h1 h2) ?_ (sortI_sorted l') (((List.mergeSort_perm l _).trans h).trans (sortI_perm l').symm)
 refine (List.pairwise_mergeSort tr to l).imp ?_
 intro a b h
 simpa using h
theorem memI_eq (x : Int) (l : List Int) : memI x l = true ↔ x ∈ l := by
 induction l with
 | nil => simp [memI]
 | cons y ys ih =>
  rw [memI_cons]
  by_cases h : x = y
  ·rw [decide_eq_true h]; simp [h]
  ·rw [decide_eq_false h]; simp [h, ih]
theorem apartI_nodup {l : List Int} (h : apartI l = true) : l.Nodup := by
 induction l with
 | nil => exact .nil
 | cons x xs ih =>
  rw [apartI_cons] at h
  cases hm : memI x xs with
  | true => rw [hm] at h; cases h
  | false =>
   rw [hm] at h
   exact List.nodup_cons.2 ⟨fun hh => (by rw [(memI_eq x xs).2 hh] at hm; cases hm), ih h⟩
theorem apartN_nodup {l : List Nat} (h : apartN l = true) : l.Nodup := by
 induction l with
 | nil => exact .nil
 | cons x xs ih =>
  rw [apartN_cons] at h
  cases hm : mem x xs with
  | true => rw [hm] at h; cases h
  | false =>
   rw [hm] at h
   exact List.nodup_cons.2 ⟨fun hh => (by rw [(mem_eq x xs).2 hh] at hm; cases hm), ih h⟩
noncomputable def keyInts (es : List (Value × Value × Nat)) (k : Nat) : Option (List Int) :=
 match intsOf (mapA (fun e => e.1) es) with
 | some l => (match apartI l && apartN (mapA (fun e => e.2.2) es) && allB (fun e => Nat.blt e.2.2 k) es with | true => some l | false => none)
 | none => none
noncomputable def sliceAt (v : Value) : Option (Option (Nat × Nat × Nat)) :=
 match v with
 | .slice none 0 0 => some none
 | .slice (some ⟨b, o, none⟩) n _ => some (some (b, o, n))
 | .slice (some ⟨b, o, some e⟩) (n + 1) _ => (match Nat.beq e 1 with | true => some (some (b, o, n + 1)) | false => none)
 | _ => none
noncomputable def cellInts (p : Option (Nat × Nat × Nat)) : M (List Int) :=
 match p with
 | none => M.ret []
 | some q => (getCells q.1).bind fun cs => (M.lift (subN q.2.1 q.2.2 cs)).bind fun l => M.lift (intsOf l)
noncomputable def sliceInts (v : Value) : M (List Int) := (M.lift (sliceAt v)).bind cellInts
noncomputable def mapAt (v : Value) : Option (Option Nat) := match v with | .map r => some r | _ => none
noncomputable def mapInts (r : Option Nat) : M (List Int) :=
 match r with
 | none => M.ret []
 | some r => (getMap r).bind fun p => M.lift (keyInts p.1 p.2)
noncomputable def seqInts (keys : Bool) (v : Value) : M (List Int) :=
 match keys with
 | true => (M.lift (mapAt v)).bind mapInts
 | false => sliceInts v
noncomputable def giveInts (l : List Int) : M Value :=
 match l with
 | [] => M.ret (.slice none 0 0)
 | x :: xs =>
  match Nat.ble (len (x :: xs)) 1000000 with
  | true => (newCells (mapA (fun n => Value.int .i64 n) (sortI (x :: xs)))).bind fun b => M.ret (.slice (some ⟨b, 0, some 1⟩) (len (x :: xs)) (len (x :: xs)))
  | false => M.fail
noncomputable def iterOf (kind : Nat → Option Bool) (args : List Value) : Option (Nat × Bool × Nat × Nat) :=
 match args with
 | [.func (.func g) a c] =>
  (match a.toList, c.toList, kind g with
  | [], [.pointer (some ⟨b, o, none⟩)], some k => some (g, k, b, o)
  | _, _, _ => none)
 | _ => none
noncomputable def sumSorted (kind : Nat → Option Bool) (args : List Value) : M Value :=
 (M.lift (iterOf kind args)).bind fun p => (getCells p.2.2.1).bind fun cs => (M.lift (nth cs p.2.2.2)).bind fun v => (seqInts p.2.1 v).bind giveInts
theorem local_sumSorted (kind : Nat → Option Bool) (args : List Value) : Local (sumSorted kind args) := by
 have lsl : ∀ v, Local (sliceInts v) := by
  intro v
  refine Local.bind (Local.lift _) fun p => ?_
  unfold cellInts
  split
  ·exact Local.ret _
  ·exact Local.bind (local_getCells _) fun _ => Local.bind (Local.lift _) fun _ => Local.lift _
 refine Local.bind (Local.lift _) fun p => Local.bind (local_getCells _) fun cs => Local.bind (Local.lift _) fun v => Local.bind ?_ fun l => ?_
 ·unfold seqInts
  split
  ·refine Local.bind (Local.lift _) fun p => ?_
   unfold mapInts
   split
   ·exact Local.ret _
   ·exact Local.bind (local_getMap _) fun _ => Local.lift _
  ·exact lsl v
 ·unfold giveInts
  split
  ·exact Local.ret _
  ·split
   ·exact Local.bind (local_newCells _) fun _ => Local.ret _
   ·exact Local.fail
def SeqHolds (keys : Bool) (w : World) (v : Value) (l : List Int) : Prop :=
 match keys with
 | true => (v = .map none ∧ l = []) ∨ ∃ r es k, v = .map (some r) ∧ w.heap[r]? = some (.map es k) ∧ MapKept.Stamped es k ∧ es.toList.map (·.key) = l.map (fun n => Value.int .i64 n)
 | false => (v = .slice none 0 0 ∧ l = []) ∨ ∃ b o c, v = .slice (some ⟨b, o, none⟩) l.length c ∧ b < w.heap.size ∧ ∀ (j : Nat) (n : Int), l[j]? = some n → w.cell? ⟨b, o + j, none⟩ = some (.int .i64 n)
def SortedOwes (P : Program) (f : Nat) (tInt : TypeId) (kind : Nat → Option Bool) : Prop :=
 ∀ g keys, kind g = some keys → ∀ (w : World) (b o : Nat) (v : Value) (l : List Int), w.cell? ⟨b, o, none⟩ = some v → b < w.heap.size → SeqHolds keys w v l → (∀ n ∈ l, wfI n = true) → l.length ≤ 1000000 →
  Calls P f #[.func (.func g) #[] #[.pointer (some ⟨b, o, none⟩)]] w fun e w' => ∃ v, e = .returned v ∧ w'.ownsRow w.heap.size tInt 1 v l.length ((sortI l).map fun n => Value.int .i64 n) ∧ (v = .slice none 0 0 ↔ l = []) ∧ Below w.heap.size w w'
theorem iterOf_some {kind : Nat → Option Bool} {args : List Value} {p : Nat × Bool × Nat × Nat} (h : iterOf kind args = some p) :
  ∃ a c, args = [.func (.func p.1) a c] ∧ a.toList = [] ∧ c.toList = [.pointer (some ⟨p.2.2.1, p.2.2.2, none⟩)] ∧ kind p.1 = some p.2.1 := by
 unfold iterOf at h
 split at h
 ·rename_i g a c
  split at h
  ·rename_i b o k h1 h2 h3
   cases h
   exact ⟨a, c, rfl, h1, h2, h3⟩
  ·cases h
 ·cases h
theorem sliceInts_some {G : Nat} {ι : Iota} {v v' : Value} {s s' : St} {l : List Int} {w : World} (hr : HR G ι s.h w.heap) (h : sliceInts v s = some (l, s')) (hv : VR ι v v') :
  SeqHolds false w v' l ∧ (∀ n ∈ l, wfI n = true) ∧ s'.h = s.h ∧ s'.c = s.c := by
 have main : ∀ (b o n : Nat) (L : Loc) (s' : St), ι b = some L → ((getCells b).bind fun cs => (M.lift (subN o n cs)).bind fun l => M.lift (intsOf l)) s = some (l, s') →
   L.blk < w.heap.size ∧ l.length = n ∧ (∀ (j : Nat) (m : Int), l[j]? = some m → w.cell? ⟨L.blk, L.off + o + j, none⟩ = some (.int .i64 m)) ∧ (∀ n ∈ l, wfI n = true) ∧ s'.h = s.h ∧ s'.c = s.c := by
  intro b o n L s' hL h
  obtain ⟨cs, s1, h1, h2⟩ := bind_some h
  obtain ⟨g1, _, rfl⟩ := getCells_some h1
  obtain ⟨q, s2, h3, h4⟩ := bind_some h2
  obtain ⟨h5, rfl⟩ := lift_some h3
  obtain ⟨h6, rfl⟩ := lift_some h4
  obtain ⟨rfl, hw⟩ := intsOf_some _ _ h6
  obtain ⟨a1, a2, a3⟩ := subN_some _ _ _ _ h5
  obtain ⟨L', c, t, fr, hL', hH, hc⟩ := hr.cells g1
  rw [hL] at hL'; cases hL'
  refine ⟨hr.lt _ _ hL, by simpa using a1, fun j m hj => ?_, hw, rfl, rfl⟩
  have hjl : j < n := by
   have h9 : j < l.length := by
    rcases Nat.lt_or_ge j l.length with hh | hh
    ·exact hh
    ·rw [List.getElem?_eq_none hh] at hj; cases hj
   simp only [List.length_map] at a1
   omega
  have hm : (l.map fun n => Value.int .i64 n)[j]? = some (.int .i64 m) := by rw [List.getElem?_map, hj]; rfl
  rw [a3 j hjl] at hm
  obtain ⟨y, hy, hyv⟩ := hc.2.2 _ _ hm
  rw [cell_of hH, Nat.add_assoc, hy]
  cases hyv
  rfl
 obtain ⟨p, s1, h1, h2⟩ := bind_some h
 obtain ⟨h3, rfl⟩ := lift_some h1
 unfold sliceAt at h3
 split at h3
 ·cases h3
  obtain ⟨rfl, rfl⟩ := ret_some h2
  cases hv
  exact ⟨.inl ⟨rfl, rfl⟩, by simp, rfl, rfl⟩
 ·rename_i b o n c
  cases h3
  cases hv with
  | sliceX _ _ _ _ L hL =>
   obtain ⟨m1, m2, m3, m4, m5, m6⟩ := main b o n L s' hL h2
   exact ⟨.inr ⟨L.blk, L.off + o, c, by rw [m2], m1, m3⟩, m4, m5, m6⟩
 ·rename_i b o e n c
  split at h3
  ·cases h3
   cases hv with
   | sliceI _ _ _ _ _ c' L hL hc hs =>
    obtain ⟨m1, m2, m3, m4, m5, m6⟩ := main b o (n + 1) L s' hL h2
    exact ⟨.inr ⟨L.blk, L.off + o, c', by rw [m2], m1, m3⟩, m4, m5, m6⟩
  ·cases h3
 ·cases h3
theorem seqInts_some {G : Nat} {ι : Iota} {keys : Bool} {v v' : Value} {s s' : St} {l : List Int} {w : World} (hr : HR G ι s.h w.heap) (h : seqInts keys v s = some (l, s')) (hv : VR ι v v') :
  SeqHolds keys w v' l ∧ (∀ n ∈ l, wfI n = true) ∧ s'.h = s.h ∧ s'.c = s.c := by
 cases keys with
 | false => exact sliceInts_some hr h hv
 | true =>
  obtain ⟨ro, s0, h01, h02⟩ := bind_some (show ((M.lift (mapAt v)).bind mapInts) s = _ from h)
  obtain ⟨h03, rfl⟩ := lift_some h01
  obtain rfl : v = .map ro := by
   unfold mapAt at h03
   split at h03
   ·cases h03; rfl
   ·cases h03
  cases ro with
  | none =>
   obtain ⟨rfl, rfl⟩ := ret_some h02
   cases hv
   exact ⟨.inl ⟨rfl, rfl⟩, by simp, rfl, rfl⟩
  | some r =>
   obtain ⟨p, s1, h1, h2⟩ := bind_some (show ((getMap r).bind fun p => M.lift (keyInts p.1 p.2)) s0 = _ from h02)
   obtain ⟨g1, _, rfl⟩ := getMap_some h1
   obtain ⟨h3, rfl⟩ := lift_some h2
   cases hv with
   | map _ L hL =>
    obtain ⟨L', hL', es', hH, hlen, hes⟩ := hr.obj r _ g1
    rw [hL] at hL'; cases hL'
    unfold keyInts at h3
    split at h3
    ·rename_i q h4
     split at h3
     ·rename_i h5
      cases h3
      rw [Bool.and_eq_true, Bool.and_eq_true] at h5
      obtain ⟨⟨h6, h7⟩, h8⟩ := h5
      rw [mapA_eq] at h4 h7
      rw [allB_eq, List.all_eq_true] at h8
      obtain ⟨e1, e2⟩ := intsOf_some _ _ h4
      have hk : es'.toList.map (·.key) = p.1.map (fun e => e.1) := by
       apply List.ext_getElem?
       intro i
       rw [List.getElem?_map, List.getElem?_map]
       by_cases hi : i < p.1.length
       ·have hi' : i < es'.toList.length := by rw [Array.length_toList, ← hlen]; exact hi
        rw [List.getElem?_eq_getElem hi, List.getElem?_eq_getElem hi']
        have := (hes i _ _ (List.getElem?_eq_getElem hi) (by rw [← Array.getElem?_toList]; exact List.getElem?_eq_getElem hi')).1
        simp only [Option.map_some]
        rw [this]
       ·rw [List.getElem?_eq_none (by rw [Array.length_toList, ← hlen]; omega), List.getElem?_eq_none (by omega)]; rfl
      have hb : es'.toList.map (·.born) = p.1.map (fun e => e.2.2) := by
       apply List.ext_getElem?
       intro i
       rw [List.getElem?_map, List.getElem?_map]
       by_cases hi : i < p.1.length
       ·have hi' : i < es'.toList.length := by rw [Array.length_toList, ← hlen]; exact hi
        rw [List.getElem?_eq_getElem hi, List.getElem?_eq_getElem hi']
        have := (hes i _ _ (List.getElem?_eq_getElem hi) (by rw [← Array.getElem?_toList]; exact List.getElem?_eq_getElem hi')).2.2.2
        simp only [Option.map_some]
        rw [this]
       ·rw [List.getElem?_eq_none (by rw [Array.length_toList, ← hlen]; omega), List.getElem?_eq_none (by omega)]; rfl
      refine ⟨.inr ⟨L.blk, es', p.2, rfl, hH, ⟨?_, ?_, ?_⟩, ?_⟩, e2, rfl, rfl⟩
      ·intro x hx
       have : x.born ∈ p.1.map (fun e => e.2.2) := by rw [← hb]; exact List.mem_map.2 ⟨x, hx, rfl⟩
       obtain ⟨e, he, hee⟩ := List.mem_map.1 this
       have := blt_iff.1 (h8 e he)
       omega
      ·rw [hb]; exact apartN_nodup h7
      ·rw [hk, e1]
       exact List.pairwise_map.2 ((apartI_nodup h6).imp fun {a b} hne he => hne (by simpa using he))
      ·rw [hk, e1]
     ·cases h3
    ·cases h3
theorem Post.grown {G : Nat} {ι : Iota} {s s' : St} {w w' : World} (h : HR G ι s.h w.heap) (hb : Below w.heap.size w w') {o : AObj} {L : Loc} (hc : ι s.c = none)
  (hs : s'.h = s.h.set s.c (some o)) (hcc : s'.c = s.c + 1) (h1 : w.heap.size ≤ L.blk) (hO : OR (ι.upd s.c L) L w'.heap o) : Post G ι (ι.upd s.c L) s s' w w' := by
 have hle := ι.le_upd L hc
 refine ⟨hle, ?_, ⟨?_, ?_, ?_, ?_⟩, hb.os, hb.tape, hb.output, hb.size, ?_, ?_, by omega⟩
 ·intro b hb' hr
  rw [Iota.upd_ne ι _ (by omega)]; exact hb'
 ·intro b o' hb'
  rw [hs, T.get_set] at hb'
  by_cases e : b = s.c
  ·rw [if_pos e] at hb'; cases hb'
   exact ⟨_, by rw [e]; exact Iota.upd_same .., hO⟩
  ·rw [if_neg e] at hb'
   obtain ⟨L', a, d⟩ := h.obj b o' hb'
   exact ⟨L', hle _ _ a, (d.mono hle).of_block (hb.block _ d.lt)⟩
 ·intro b1 b2 o1 o2 L1 L2 h1' h2' e1 e2 e
  rw [hs, T.get_set] at h1' h2'
  by_cases c1 : b1 = s.c <;> by_cases c2 : b2 = s.c
  ·rw [c1, c2]
  ·rw [c1, Iota.upd_same] at e1; rw [Iota.upd_ne ι _ c2] at e2; cases e1
   have := h.lt _ _ e2
   omega
  ·rw [Iota.upd_ne ι _ c1] at e1; rw [c2, Iota.upd_same] at e2; cases e2
   have := h.lt _ _ e1
   omega
  ·rw [Iota.upd_ne ι _ c1] at e1; rw [Iota.upd_ne ι _ c2] at e2; rw [if_neg c1] at h1'; rw [if_neg c2] at h2'
   exact h.inj b1 b2 o1 o2 L1 L2 h1' h2' e1 e2 e
 ·intro b L' hb'
  by_cases c1 : b = s.c
  ·rw [c1, Iota.upd_same] at hb'; cases hb'; exact hO.lt
  ·rw [Iota.upd_ne ι _ c1] at hb'; have := h.lt _ _ hb'; have := hb.size; omega
 ·intro g hg
  obtain ⟨L', a, d⟩ := h.glob g hg
  exact ⟨L', hle _ _ a, d⟩
 ·intro k hk _
  exact hb.block k hk
 ·rintro k hk ⟨b, o', L', hb', hw, hl, rfl⟩
  rw [hs, T.get_set] at hb'
  by_cases c1 : b = s.c
  ·rw [c1, Iota.upd_same] at hl; cases hl; exact absurd hk (by omega)
  ·rw [if_neg c1] at hb'; rw [Iota.upd_ne ι _ c1] at hl
   exact ⟨b, o', L', hb', hw, hl, rfl⟩
theorem Post.grown0 {G : Nat} {ι : Iota} {s s' : St} {w w' : World} (h : HR G ι s.h w.heap) (hb : Below w.heap.size w w') (hs : s'.h = s.h) (hcc : s'.c = s.c) : Post G ι ι s s' w w' := by
 refine ⟨Iota.le_refl _, fun _ q _ => q, ⟨fun b o hb' => ?_, fun b1 b2 o1 o2 L1 L2 q1 q2 => h.inj b1 b2 o1 o2 L1 L2 (by rw [← hs]; exact q1) (by rw [← hs]; exact q2), fun b L hL => Nat.lt_of_lt_of_le (h.lt b L hL) hb.size, h.glob⟩,
  hb.os, hb.tape, hb.output, hb.size, fun k hk _ => hb.block k hk, fun k hk q => by rw [hs] at q; exact q, by omega⟩
 rw [hs] at hb'
 obtain ⟨L, hL, hO⟩ := h.obj b o hb'
 exact ⟨L, hL, hO.of_block (hb.block _ (h.lt b L hL))⟩
theorem sorted_sound {P : Program} {G : Nat} {f : Nat} {tInt : TypeId} {kind : Nat → Option Bool} (hf : Callable P f) (H : SortedOwes P f tInt kind) (args : List Value) (s s' : St) (v : Value) (ι : Iota) (w : World) (args' : List Value) (R : Ending → World → Prop)
  (h : sumSorted kind args s = some (v, s')) (ha : VRl ι args args') (hr : HR G ι s.h w.heap) (fr : ∀ b, s.c ≤ b → b < s'.c → ι b = none)
  (hR : ∀ v' w' ι', VR ι' v v' → Post G ι ι' s s' w w' → R (.returned v') w') : Callable P f ∧ Calls P f args'.toArray w R := by
 refine ⟨hf, ?_⟩
 unfold sumSorted at h
 obtain ⟨p, s1, h1, h2⟩ := bind_some h
 obtain ⟨h3, rfl⟩ := lift_some h1
 obtain ⟨cs, s2, h4, h5⟩ := bind_some h2
 obtain ⟨g1, _, rfl⟩ := getCells_some h4
 obtain ⟨x, s3, h6, h7⟩ := bind_some h5
 obtain ⟨h8, rfl⟩ := lift_some h6
 obtain ⟨l, s4, h9, h10⟩ := bind_some h7
 obtain ⟨g, keys, b, o⟩ := p
 obtain ⟨a, c, rfl, ha0, hc0, hk⟩ := iterOf_some h3
 simp only at g1 h8 h9 hc0 hk
 obtain ⟨y, rest, rfl, hy, hrest⟩ := ha.cons_inv
 obtain rfl := hrest.nil_inv
 cases hy with
 | func _ _ _ a' c' hal hcl ra rc =>
  have ea : a' = #[] := by
   rw [ha0] at hal
   have : a'.toList = [] := List.length_eq_zero_iff.1 hal.symm
   exact Array.toList_inj.1 this
  subst ea
  rw [hc0] at hcl rc
  obtain ⟨z, hz⟩ : ∃ z, c'.toList = [z] := List.length_eq_one_iff.1 hcl.symm
  have hzv := rc 0 _ z rfl (by rw [hz]; rfl)
  have ec : c' = #[z] := Array.toList_inj.1 hz
  subst ec
  cases hzv with
  | ptr _ _ L hL =>
   obtain ⟨L', c2, t, fr', hL', hH, hcr⟩ := hr.cells g1
   rw [hL] at hL'; cases hL'
   rw [nth_eq] at h8
   obtain ⟨v2, hv2, hvv⟩ := hcr.2.2 _ _ h8
   obtain ⟨q1, q2, q3, q4⟩ := seqInts_some (by exact hr) h9 hvv
   simp only at q3 q4
   have hcell : w.cell? ⟨L.blk, L.off + o, none⟩ = some v2 := by rw [cell_of hH]; exact hv2
   unfold giveInts at h10
   split at h10
   ·obtain ⟨rfl, rfl⟩ := ret_some h10
    refine Calls.mono (H g keys hk w L.blk (L.off + o) v2 [] hcell (hr.lt _ _ hL) q1 q2 (by simp)) ?_
    rintro e w' ⟨v', rfl, hrow, hnil, hb⟩
    have := hnil.2 rfl
    subst this
    exact hR _ w' ι (.nilSlice 0 0) (Post.grown0 hr hb (by rw [q3]) (by rw [q4]))
   ·rename_i m ms
    cases hble : Nat.ble (len (m :: ms)) 1000000 with
    | false => rw [hble] at h10; exact (fail_some h10).elim
    | true =>
     rw [hble] at h10
     have hlen := ble_iff.1 hble
     rw [len_eq] at hlen
     obtain ⟨k, s5, h11, h12⟩ := bind_some h10
     obtain ⟨rfl, rfl⟩ := ret_some h12
     unfold newCells at h11
     rw [forceL_eq, mapA_eq] at h11
     obtain ⟨_, rfl, rfl⟩ := newO_some h11
     refine Calls.mono (H g keys hk w L.blk (L.off + o) v2 (m :: ms) hcell (hr.lt _ _ hL) q1 q2 hlen) ?_
     rintro e w' ⟨v', rfl, hrow, hnil, hb⟩
     have hperm := (sortI_perm (m :: ms)).length_eq
     rcases hrow.2 with ⟨_, h0⟩ | ⟨gb, cap, cur, rfl, hbase, hgb, r1, r2, r3, r4⟩
     ·simp at h0
     ·have hfree : ι s4.c = none := by rw [q4]; exact fr _ (Nat.le_refl _) (by show _ < s4.c + 1; omega)
      have hsz : cur.size = cap := by omega
      have hO : OR (ι.upd s4.c ⟨gb, 0, cur.size⟩) ⟨gb, 0, cur.size⟩ w'.heap (.cells ((sortI (m :: ms)).map fun n => Value.int .i64 n)) := by
       refine ⟨cur, _, _, hgb, ⟨rfl, ?_, ?_⟩, rfl⟩
       ·show 0 + _ ≤ cur.size
        rw [List.length_map, hperm]
        omega
       ·intro i x hx
        rw [List.getElem?_map, Option.map_eq_some_iff] at hx
        obtain ⟨n, hn, rfl⟩ := hx
        refine ⟨.int .i64 n, ?_, .int _ _⟩
        show cur[0 + i]? = _
        have hi : i < (m :: ms).length := by
         rcases Nat.lt_or_ge i (sortI (m :: ms)).length with hh | hh
         ·omega
         ·rw [List.getElem?_eq_none hh] at hn; cases hn
        have : (cur.toList.take ((m :: ms).length * 1))[i]? = some (.int .i64 n) := by rw [r4, List.getElem?_map, hn]; rfl
        rw [List.getElem?_take_of_lt (by omega), Array.getElem?_toList] at this
        rw [Nat.zero_add]; exact this
      have hp := Post.grown (s := s4) (s' := ⟨s4.h.set s4.c (some (.cells ((sortI (m :: ms)).map fun n => Value.int .i64 n))), s4.c + 1, s4.rl, s4.wl⟩) (by rw [q3]; exact hr) hb hfree rfl rfl (by exact hbase) hO
      refine hR _ w' _ ?_ (Post.log hp q3.symm q4.symm rfl rfl)
      rw [len_eq]
      refine .sliceI s4.c 0 1 _ _ cap ⟨gb, 0, cur.size⟩ (Iota.upd_same ..) r1 ?_
      show 0 + 0 + cap * 1 ≤ cur.size
      omega
end Go.Ab
