import Derived.Test.YtofikbfljjjgeaaGreatDoorDM1
set_option linter.unusedVariables false
set_option linter.unusedSimpArgs false
section
/- A map's keys, in order (the abstract machine). -/
namespace Go.Ab.Seat
open Go.Extern Go.Proofs
set_option maxRecDepth 4000
variable {sm : Nat → Option (List Value → M Value)}
theorem sorted_none {h : T AObj} {c b m n : Nat} {rl wl : List Nat} {es : List (Value × Value × Nat)} (hf : Fresh h c) (hb : Has h b (.cells [.map (some m)])) (hm : Has h m (.map es n)) (hk : keyInts es n = some []) :
  ∃ v s', FnTo (Cs smQ) eg 84 [.func (.func 206) #[] ⟨[.pointer (some ⟨b, 0, none⟩)]⟩] ⟨h, c, rl, wl⟩ v s' ∧ (v = .slice none 0 0 ∧ s' = ⟨h, c, m :: b :: rl, wl⟩) := by
 refine ⟨_, _, ⟨0, ?_⟩, rfl, rfl⟩
 have hs : (Cs smQ).sm 84 = some (sumSorted kindOf) := rfl
 unfold callF
 rw [hs]
 show sumSorted kindOf _ _ = _
 unfold sumSorted
 have e1 : iterOf kindOf [.func (.func 206) #[] ⟨[.pointer (some ⟨b, 0, none⟩)]⟩] = some (206, true, b, 0) := rfl
 rw [e1, bind_run (lift_run (a := (206, true, b, 0)) rfl)]
 dsimp only
 rw [bind_run (getCells_run hb.cel (hb.lt hf))]
 have e2 : nth [Value.map (some m)] 0 = some (.map (some m)) := rfl
 rw [e2, bind_run (lift_run (a := Value.map (some m)) rfl)]
 unfold seqInts
 dsimp only
 rw [bind_run (show ((M.lift (mapAt (Value.map (some m)))).bind mapInts) _ = some ([], ⟨h, c, m :: b :: rl, wl⟩) from by
  have e3 : mapAt (Value.map (some m)) = some (some m) := rfl
  rw [e3, bind_run (lift_run (a := some m) rfl)]
  unfold mapInts
  dsimp only
  rw [bind_run (getMap_run hm (hm.lt hf))]
  exact lift_run hk)]
 rfl
theorem sorted_some {h : T AObj} {c b m n : Nat} {rl wl : List Nat} {es : List (Value × Value × Nat)} {x : Int} {xs : List Int} (hf : Fresh h c) (hb : Has h b (.cells [.map (some m)])) (hm : Has h m (.map es n)) (hk : keyInts es n = some (x :: xs)) (hl : (x :: xs).length ≤ 1000000) :
  ∃ v s', FnTo (Cs smQ) eg 84 [.func (.func 206) #[] ⟨[.pointer (some ⟨b, 0, none⟩)]⟩] ⟨h, c, rl, wl⟩ v s' ∧ (v = .slice (some ⟨c, 0, some 1⟩) (x :: xs).length (x :: xs).length ∧ s' = ⟨h.set c (some (.cells ((sortI (x :: xs)).map fun n => Value.int .i64 n))), c + 1, m :: b :: rl, wl⟩) := by
 refine ⟨_, _, ⟨0, ?_⟩, rfl, rfl⟩
 have hs : (Cs smQ).sm 84 = some (sumSorted kindOf) := rfl
 unfold callF
 rw [hs]
 show sumSorted kindOf _ _ = _
 unfold sumSorted
 have e1 : iterOf kindOf [.func (.func 206) #[] ⟨[.pointer (some ⟨b, 0, none⟩)]⟩] = some (206, true, b, 0) := rfl
 rw [e1, bind_run (lift_run (a := (206, true, b, 0)) rfl)]
 dsimp only
 rw [bind_run (getCells_run hb.cel (hb.lt hf))]
 have e2 : nth [Value.map (some m)] 0 = some (.map (some m)) := rfl
 rw [e2, bind_run (lift_run (a := Value.map (some m)) rfl)]
 unfold seqInts
 dsimp only
 rw [bind_run (show ((M.lift (mapAt (Value.map (some m)))).bind mapInts) _ = some (x :: xs, ⟨h, c, m :: b :: rl, wl⟩) from by
  have e3 : mapAt (Value.map (some m)) = some (some m) := rfl
  rw [e3, bind_run (lift_run (a := some m) rfl)]
  unfold mapInts
  dsimp only
  rw [bind_run (getMap_run hm (hm.lt hf))]
  exact lift_run hk)]
 unfold giveInts
 dsimp only
 rw [show Nat.ble (len (x :: xs)) 1000000 = true from by rw [len_eq]; rw [Nat.ble_eq]; exact hl]
 dsimp only
 rw [bind_run (newCells_run hf), mapA_eq, len_eq]
 rfl
theorem keys_spec (H : Std sm) {h : T AObj} {c m : Nat} {rl wl : List Nat} (hf : Fresh h c) :
  ∃ v s', FnTo (Cs sm) eg 147 [.map (some m)] ⟨h, c, rl, wl⟩ v s' ∧ (v = .func (.func 206) #[] ⟨[.pointer (some ⟨c, 0, none⟩)]⟩ ∧ s' = ⟨h.set c (some (.cells [.map (some m)])), c + 1, rl, wl⟩) := by
 refine Fn.go (H 147 rfl) ex147 fn147 km147 rfl rfl ?_
 refine Zev ?_
 refine Zgo ?_
 exact ⟨.inr rfl, Wres.one rfl ⟨rfl, rfl⟩⟩
end Go.Ab.Seat
end
section
/- A map's keys, in order (the abstract machine). -/
namespace Go.Ab.Seat
open Go.Extern Go.Proofs
set_option maxRecDepth 4000
variable {sm : Nat → Option (List Value → M Value)}
end Go.Ab.Seat
end
section
/- An index of lists: its members as a rising list (the abstract machine). -/
namespace Go.Ab.Seat
open Go.Extern Go.Proofs
set_option maxRecDepth 4000
abbrev mbI (id : Int) (zs : List Int) (k : Int) : Rc := ⟨id, zs.map (Value.int .i32), .empty, k, false⟩
def listZ (mid : List (List Int)) (zs : List Int) : Int := max (nearZ mid zs) 0
def IRep (h : T AObj) (p m : Nat) (U : Nat → Prop) (r : Rc) (v : Value) : Prop := ∃ w, v = .agg ⟨[w, .int .i64 r.seq]⟩ ∧ Own h 0 w r.xs.length r.xs ∧ ∀ b, blkOf w = some b → U b ∧ b ≠ p ∧ b ≠ m
def IFits (h : T AObj) (p m : Nat) (U : Nat → Prop) (o : Option Rc) (w : Option Value) : Prop := (o = none ∧ w = none) ∨ ∃ r v, o = some r ∧ w = some v ∧ IRep h p m U r v
structure IvfM (h : T AObj) (p m : Nat) (mv : Value) (mt : Int) (dim : Nat) (mid : List (List Int)) (M : List Rc) (U : Nat → Prop) : Prop where
 ptr : Has h p (.cells [.int .i64 mt, mv, .map (some m)])
 mids : MRow h mv dim mid (fun b => U b ∧ b ≠ p ∧ b ≠ m)
 ex : ∃ es n, Has h m (.map es n) ∧ (∃ ids, Keyed es n ids) ∧ ∀ x, IFits h p m U (getM x M) (valI x es)
 pU : U p
 mU : U m
 ne : p ≠ m
 rises : Rises M
 ok : ∀ r ∈ M, ∃ zs : List Int, r = mbI r.id zs (listZ mid zs) ∧ zs.length = dim ∧ Bnd zs
theorem IRep.keep {h h' : T AObj} {p m c : Nat} {U U' : Nat → Prop} {r : Rc} {v : Value} (x : IRep h p m U r v) (hf : Fresh h c) (hU : ∀ b, U b → U' b) (k : ∀ b, U b → b < c → b ≠ p → b ≠ m → h'.get b = h.get b) : IRep h' p m U' r v := by
 obtain ⟨w, e, x1, x2⟩ := x
 exact ⟨w, e, x1.keep fun b hb => k b (x2 b hb).1 ((x1.blk hb).2.lt hf) (x2 b hb).2.1 (x2 b hb).2.2, fun b hb => ⟨hU b (x2 b hb).1, (x2 b hb).2⟩⟩
theorem IFits.keep {h h' : T AObj} {p m c : Nat} {U U' : Nat → Prop} {o : Option Rc} {w : Option Value} (x : IFits h p m U o w) (hf : Fresh h c) (hU : ∀ b, U b → U' b) (k : ∀ b, U b → b < c → b ≠ p → b ≠ m → h'.get b = h.get b) : IFits h' p m U' o w := by
 rcases x with x | ⟨r, v, h1, h2, h3⟩
 ·exact .inl x
 ·exact .inr ⟨r, v, h1, h2, h3.keep hf hU k⟩
theorem IvfM.keep {h h' : T AObj} {c p m dim : Nat} {mv : Value} {mt : Int} {mid : List (List Int)} {M : List Rc} {U : Nat → Prop} (q : IvfM h p m mv mt dim mid M U) (hf : Fresh h c) (k : ∀ b, U b → b < c → h'.get b = h.get b) : IvfM h' p m mv mt dim mid M U := by
 obtain ⟨es, n, h1, h2, h3⟩ := q.ex
 exact ⟨(k p q.pU (q.ptr.lt hf)).trans q.ptr, q.mids.keep hf (fun _ q => q) (fun b hb hc _ => k b hb.1 hc), ⟨es, n, (k m q.mU (h1.lt hf)).trans h1, h2, fun x => (h3 x).keep hf (fun _ q => q) fun b hb hc _ _ => k b hb hc⟩, q.pU, q.mU, q.ne, q.rises, q.ok⟩
theorem IvfM.lt {h : T AObj} {c p m dim : Nat} {mv : Value} {mt : Int} {mid : List (List Int)} {M : List Rc} {U : Nat → Prop} (q : IvfM h p m mv mt dim mid M U) (hf : Fresh h c) : p < c ∧ m < c := by
 obtain ⟨es, n, h1, h2, h3⟩ := q.ex
 exact ⟨q.ptr.lt hf, h1.lt hf⟩
theorem IvfM.hm {h : T AObj} {p m dim : Nat} {mv : Value} {mt : Int} {mid : List (List Int)} {M : List Rc} {U : Nat → Prop} (q : IvfM h p m mv mt dim mid M U) : ∃ es n, Has h m (.map es n) := by
 obtain ⟨es, n, h1, _⟩ := q.ex
 exact ⟨es, n, h1⟩
theorem IvfM.ids {h : T AObj} {p m : Nat} {U : Nat → Prop} {M : List Rc} {n : Nat} {es : List (Value × Value × Nat)} {ids : List Int} (hk : Keyed es n ids) (hr : Rises M) (hv : ∀ x, IFits h p m U (getM x M) (valI x es)) : sortI ids = M.map Rc.id := by
 refine rises_ext (sortI_rises hk.nodup) hr.ids fun x => ?_
 rw [(sortI_perm ids).mem_iff]
 constructor
 ·intro hx
  rcases hv x with ⟨_, h4⟩ | ⟨r, v, h4, _, _⟩
  ·exact absurd hx ((findI_none_iff hk.keys).1 (valI_none.1 h4))
  ·obtain ⟨h5, h6⟩ := getM_mem h4
   exact List.mem_map.2 ⟨r, h5, h6⟩
 ·intro hx
  obtain ⟨r, h5, rfl⟩ := List.mem_map.1 hx
  refine Classical.byContradiction fun hn => ?_
  rcases hv r.id with ⟨h4, _⟩ | ⟨r', v, _, h4, _⟩
  ·exact absurd rfl (getM_none.1 h4 r h5)
  ·rw [valI_none.2 ((findI_none_iff hk.keys).2 hn)] at h4
   cases h4
end Go.Ab.Seat
end
section
/- An index of lists: one is put, let go; the ids (the abstract machine). -/
namespace Go.Ab.Seat
open Go.Extern Go.Proofs
set_option maxRecDepth 4000
end Go.Ab.Seat
end
section
/- An index of lists: its lists (the abstract machine). -/
namespace Go.Ab.Seat
open Go.Extern Go.Proofs
set_option maxRecDepth 4000
theorem HI.keep {h h' : T AObj} {c0 : Nat} {w : Value} {l : List Int} (x : HI h c0 w l) (k : ∀ b, blkOf w = some b → h'.get b = h.get b) : HI h' c0 w l := by
 rcases x with x | ⟨b, h1, h2, h3, h4⟩
 ·exact .inl x
 ·exact .inr ⟨b, h1, h2, h3, (k b (by rw [h1]; rfl)).trans h4⟩
theorem HI.lt {h : T AObj} {c c0 : Nat} {w : Value} {l : List Int} (x : HI h c0 w l) (hf : Fresh h c) {b : Nat} (hb : blkOf w = some b) : c0 ≤ b ∧ b < c := by
 rcases x with ⟨rfl, _⟩ | ⟨b', rfl, _, h3, h4⟩
 ·cases hb
 ·cases hb; exact ⟨h3, h4.lt hf⟩
structure IntG (h : T AObj) (c0 : Nat) (ws : List Value) (ls : List (List Int)) : Prop where
 len : ws.length = ls.length
 row : ∀ (i : Nat) (l : List Int), ls[i]? = some l → ∃ w, ws[i]? = some w ∧ HI h c0 w l
 inj : ∀ (i j : Nat) (w w' : Value) (b : Nat), ws[i]? = some w → ws[j]? = some w' → blkOf w = some b → blkOf w' = some b → i = j
theorem IntG.keep {h h' : T AObj} {c c0 : Nat} {ws : List Value} {ls : List (List Int)} (x : IntG h c0 ws ls) (hf : Fresh h c) (k : ∀ b, b < c → c0 ≤ b → h'.get b = h.get b) : IntG h' c0 ws ls :=
 ⟨x.len, fun i l hi => by
  obtain ⟨w, h1, h2⟩ := x.row i l hi
  exact ⟨w, h1, h2.keep fun b hb => k b (h2.lt hf hb).2 (h2.lt hf hb).1⟩, x.inj⟩
theorem IntG.step {h h' : T AObj} {c c0 : Nat} {ws : List Value} {ls : List (List Int)} (x : IntG h c0 ws ls) (hf : Fresh h c) {i : Nat} {w0 w : Value} {l : List Int} (h0 : ws[i]? = some w0) (hw : HI h' c0 w l) (hb : ∀ b, blkOf w = some b → c ≤ b)
  (k : ∀ b, b < c → blkOf w0 ≠ some b → c0 ≤ b → h'.get b = h.get b) : IntG h' c0 (ws.set i w) (ls.set i l) := by
 have hil : i < ws.length := (List.getElem?_eq_some_iff.1 h0).1
 have hold : ∀ j w1, ws[j]? = some w1 → ∀ b, blkOf w1 = some b → b < c := fun j w1 hj b hb1 => by
  have h2 := (List.getElem?_eq_some_iff.1 hj).1
  rw [x.len] at h2
  obtain ⟨w2, h3, h4⟩ := x.row j ls[j] (List.getElem?_eq_getElem h2)
  rw [hj] at h3; cases h3
  exact (h4.lt hf hb1).2
 refine ⟨by rw [List.length_set, List.length_set]; exact x.len, fun j l1 hj => ?_, fun j j' w1 w1' b e1 e2 b1 b2 => ?_⟩
 ·rw [List.getElem?_set] at hj ⊢
  by_cases hij : i = j
  ·subst hij
   rw [if_pos rfl] at hj ⊢
   rw [if_pos (by rw [← x.len]; exact hil)] at hj
   cases hj
   rw [if_pos hil]
   exact ⟨w, rfl, hw⟩
  ·rw [if_neg hij] at hj ⊢
   obtain ⟨w1, h1, h2⟩ := x.row j l1 hj
   refine ⟨w1, h1, h2.keep fun b hb => k b (h2.lt hf hb).2 (fun q => ?_) (h2.lt hf hb).1⟩
   exact hij (x.inj i j w0 w1 b h0 h1 q hb)
 ·rw [List.getElem?_set] at e1 e2
  by_cases hij : i = j
  ·by_cases hij' : i = j'
   ·omega
   ·rw [if_neg hij'] at e2
    rw [if_pos hij, if_pos hil] at e1
    cases e1
    have h1 := hb b b1
    have h2 := hold j' w1' e2 b b2
    omega
  ·rw [if_neg hij] at e1
   by_cases hij' : i = j'
   ·rw [if_pos hij', if_pos hil] at e2
    cases e2
    have h1 := hb b b2
    have h2 := hold j w1 e1 b b1
    omega
   ·rw [if_neg hij'] at e2
    exact x.inj j j' w1 w1' b e1 e2 b1 b2
end Go.Ab.Seat
end
section
/- The best ones of some, whichever order they come in; the nearest middle (plain). -/
namespace Go.Ab.Seat
open Go.Extern Go.Proofs
theorem iH_take (x : Ht) : ∀ (p : List Ht) (k : Nat), iH x (p.take k) = min (iH x p) k
 | [], k => by simp [iH]
 | y :: p, 0 => by simp [iH]
 | y :: p, k + 1 => by
  have h := iH_take x p k
  unfold iH at h ⊢
  rw [List.take_succ_cons, List.takeWhile_cons, List.takeWhile_cons]
  cases lessH y x
  ·simp
  ·simp only [if_true, List.length_cons]; omega
theorem take_ins {α : Type} (p : List α) (x : α) {i k : Nat} (hi : i ≤ p.length) (hk : i < k) : ((p.take k).take i ++ x :: (p.take k).drop i).take k = (p.take i ++ x :: p.drop i).take k := by
 have e1 : (p.take k).take i = p.take i := by rw [List.take_take, Nat.min_eq_left (by omega)]
 rw [e1, List.drop_take]
 obtain ⟨j, rfl⟩ : ∃ j, k = i + j + 1 := ⟨k - i - 1, by omega⟩
 have hl : (p.take i).length = i := by rw [List.length_take]; omega
 have e2 : ((p.drop i).take (j + 1)).take j = (p.drop i).take j := by rw [List.take_take, Nat.min_eq_left (by omega)]
 rw [List.take_append, List.take_append, hl, show i + j + 1 - i = j + 1 by omega, List.take_succ_cons, List.take_succ_cons, e2]
theorem putB_cut {k : Nat} {p : List Ht} {x : Ht} (hx : ∀ y ∈ p, y.id ≠ x.id) : putB k (p.take k) x = (insB x p).take k := by
 have h1 : (p.take k).any (fun y => decide (y.id = x.id)) = false := by
  rw [List.any_eq_false]
  intro y hy
  simpa using hx y (List.mem_of_mem_take hy)
 have h2 := iH_le x p
 unfold putB
 rw [h1, if_neg (by decide), iH_take]
 by_cases hk : k ≤ iH x p
 ·rw [if_pos (by omega)]
  unfold insB
  rw [List.take_append_of_le_length (by rw [List.length_take]; omega), List.take_take, Nat.min_eq_left hk]
 ·rw [if_neg (by omega), Nat.min_eq_left (by omega)]
  exact take_ins p x h2 (by omega)
theorem bestOf_cut {k : Nat} {l : List Ht} (hd : (l.map Ht.id).Nodup) : ∀ m, m ≤ l.length → bestOf k (l.take m) = (bestOf l.length (l.take m)).take k
 | 0, _ => by simp [bestOf]
 | m + 1, hm => by
  obtain ⟨h1, _⟩ := bestOf_ord (k := l.length) hd m (by omega) (by omega)
  have h3 : ∀ y ∈ bestOf l.length (l.take m), y.id ≠ (l[m]'(by omega)).id := fun y hy => ids_ne hd (by omega) y (h1.mem_iff.1 hy)
  have h4 : (bestOf l.length (l.take m)).length = m := by rw [h1.length_eq, List.length_take]; omega
  rw [bestOf_take (by omega), bestOf_take (by omega), putB_ins h3 (by omega), bestOf_cut hd m (by omega), putB_cut h3]
theorem ord_unique : ∀ {a b : List Ht}, Ord a → Ord b → a.Perm b → a = b
 | [], b, _, _, h => by rw [List.nil_perm.1 h]
 | x :: a, [], _, _, h => by have := h.length_eq; simp at this
 | x :: a, y :: b, h1, h2, h => by
  obtain ⟨p1, p2⟩ := List.pairwise_cons.1 h1
  obtain ⟨q1, q2⟩ := List.pairwise_cons.1 h2
  have hxy : x = y := by
   rcases List.mem_cons.1 (h.mem_iff.1 (List.mem_cons_self ..)) with e | hx
   ·exact e
   ·rcases List.mem_cons.1 (h.mem_iff.2 (List.mem_cons_self ..)) with e | hy
    ·exact e.symm
    ·have h5 := lessH_asymm (q1 x hx)
     rw [p1 y hy] at h5
     cases h5
  subst hxy
  rw [ord_unique p2 q2 ((List.perm_cons x).1 h)]
def hitJ (mid : List (List Int)) (qs : List Int) (i : Nat) : Ht := ⟨(i : Int), scoreZ 1 (mid.getD i []) qs⟩
theorem hitJ_mem {mid : List (List Int)} {qs : List Int} {i : Nat} (hi : i < mid.length) : hitJ mid qs i ∈ hitO qs mid := List.mem_map.2 ⟨i, List.mem_range.2 hi, rfl⟩
theorem hitJ_of {mid : List (List Int)} {qs : List Int} {x : Ht} (h : x ∈ hitO qs mid) : ∃ i, i < mid.length ∧ x = hitJ mid qs i := by
 obtain ⟨i, h1, rfl⟩ := List.mem_map.1 h
 exact ⟨i, List.mem_range.1 h1, rfl⟩
theorem near_char {mid : List (List Int)} {qs : List Int} {j : Nat} (hj : j < mid.length) (h : ∀ i, i < mid.length → lessH (hitJ mid qs i) (hitJ mid qs j) = false) : nearZ mid qs = (j : Int) := by
 have h0 := hitO_len qs mid
 have hd := hitO_nodup qs mid
 obtain ⟨p1, p2⟩ := bestOf_ord (k := mid.length) hd (hitO qs mid).length (Nat.le_refl _) (by omega)
 rw [List.take_length] at p1 p2
 unfold nearZ ordZ
 rw [if_neg (by omega)]
 have hl : (bestOf mid.length (hitO qs mid)).length = mid.length := by rw [p1.length_eq, h0]
 cases hb : bestOf mid.length (hitO qs mid) with
 | nil => rw [hb] at hl; simp at hl; omega
 | cons x l =>
  rw [hb] at p1 p2
  obtain ⟨i, hi, rfl⟩ := hitJ_of (p1.mem_iff.1 (List.mem_cons_self ..))
  show (i : Int) = j
  rcases List.mem_cons.1 (p1.mem_iff.2 (hitJ_mem (qs := qs) hj)) with e | hm
  ·have := congrArg Ht.id e
   exact this.symm
  ·have h1 := (List.pairwise_cons.1 p2).1 _ hm
   rw [h i hi] at h1
   cases h1
def NearUp (mid : List (List Int)) (qs : List Int) (i : Nat) (z : Int) : Prop := (i = 0 ∧ z = -1) ∨ ∃ j : Nat, z = (j : Int) ∧ j < i ∧ ∀ i', i' < i → lessH (hitJ mid qs i') (hitJ mid qs j) = false
theorem NearUp.end {mid : List (List Int)} {qs : List Int} {z : Int} (h : NearUp mid qs mid.length z) : nearZ mid qs = z := by
 rcases h with ⟨h1, rfl⟩ | ⟨j, rfl, h2, h3⟩
 ·unfold nearZ; rw [if_pos h1]
 ·exact near_char h2 h3
theorem NearUp.take {mid : List (List Int)} {qs : List Int} {i : Nat} : NearUp mid qs (i + 1) (i : Int) ↔ ∀ i', i' < i → lessH (hitJ mid qs i') (hitJ mid qs i) = false := by
 constructor
 ·rintro (⟨h1, _⟩ | ⟨j, h1, h2, h3⟩) i' hi
  ·cases h1
  ·obtain rfl : j = i := by omega
   exact h3 i' (by omega)
 ·intro h
  refine .inr ⟨i, rfl, by omega, fun i' hi => ?_⟩
  rcases Nat.lt_or_ge i' i with q | q
  ·exact h i' q
  ·obtain rfl : i' = i := by omega
   rw [lessH_not]; omega
theorem NearUp.up {mid : List (List Int)} {qs : List Int} {i : Nat} {j : Nat} (h : NearUp mid qs i (j : Int)) : NearUp mid qs (i + 1) (if scoreZ 1 (mid.getD i []) qs < scoreZ 1 (mid.getD j []) qs then (i : Int) else (j : Int)) := by
 rcases h with ⟨_, h⟩ | ⟨j', h1, h2, h3⟩
 ·omega
 obtain rfl : j' = j := by omega
 split
 ·rename_i q
  rw [NearUp.take]
  intro i' hi
  have h4 := h3 i' hi
  rw [lessH_not] at h4 ⊢
  unfold hitJ at h4 ⊢
  dsimp only at h4 ⊢
  omega
 ·rename_i q
  refine .inr ⟨j', rfl, by omega, fun i' hi => ?_⟩
  rcases Nat.lt_or_ge i' i with q2 | q2
  ·exact h3 i' q2
  ·obtain rfl : i' = i := by omega
   rw [lessH_not]
   unfold hitJ
   dsimp only
   omega
end Go.Ab.Seat
end
