import Derived.Test.YtcnfbfiakkjabaaGreatDoorDF1
import Derived.Test.YtcnfbfiakkjabaaGreatDoorDF6
import Derived.Test.YtcnfbfiakkjabaaGreatDoorE46
set_option linter.unusedVariables false
set_option linter.unusedSimpArgs false
section
/- Vectors: alike, cut to size; stores: the next one (the abstract machine). -/
namespace Go.Ab.Seat
open Go.Extern Go.Proofs
set_option linter.unusedSimpArgs false
set_option linter.unusedVariables false
set_option maxRecDepth 4000
set_option pp.deepTerms false
set_option pp.deepTerms.threshold 6
variable {sm : Nat → Option (List Value → M Value)}

def EQ (a : Option Addr) (n k : Nat) (b : Option Addr) (k' : Nat) (z : Int) (j5 j14 j24 : Value) : L :=
  .cons 0 (.slice a n k) (.cons 1 (.slice b n k') (.cons 4 (.bool false) (.cons 5 j5 (.cons 10 (.bool false) (.cons 12 (.int .i64 (n : Int)) (.cons 13 (.int .i64 z) (.cons 14 j14 (.cons 24 j24 .nil))))))))

theorem eq135_spec (H : Std sm) {h : T AObj} {c : Nat} {rl wl : List Nat} (hf : Fresh h c) {a b : Option Addr} {n k k' : Nat} {zs : List Int} (hn : zs.length = n) (hx : Row h (.slice a n k) n 1 (zs.map (Value.int .i32))) (hy : Row h (.slice b n k') n 1 (zs.map (Value.int .i32))) (hb : n ≤ big) (R : Nat → Prop) (hR : ∀ x, blkOf (.slice a n k) = some x ∨ blkOf (.slice b n k') = some x → R x) :
    ∃ r s', FnTo (Cs sm) eg 54 [.slice a n k, .slice b n k'] ⟨h, c, rl, wl⟩ r s' ∧ r = .bool true ∧ Ext ⟨h, c, rl, wl⟩ s' R (fun _ => False) := by
  have hbig : big ≤ 1000000000000 := by unfold big; omega
  refine Fn.go (H 54 rfl) ex54 fn54 km54 rfl rfl ?_
  refine Zev ?_
  refine Zgo ?_
  refine Wx.loopE (fun k1 e s => ∃ (i : Nat) (z : Int) (rl' : List Nat) (j5 j14 j24 : Value), e = EQ a n k b k' z j5 j14 j24 ∧ z = i ∧ s = ⟨h, c, rl', []⟩ ∧ Lg c R rl' ∧ i ≤ n ∧ k1 = n - i) n (EQ a n k b k' 0 top top top) Zrs ?_ ?_ ?_
  · unfold EQ
    exact Zek
  · exact ⟨0, 0, _, _, _, _, rfl, rfl, rfl, Zlg, by omega, rfl⟩
  · rintro k1 e s ⟨i, z, rl', j5, j14, j24, rfl, hz, rfl, hlr, hin, rfl⟩
    unfold EQ
    by_cases hi : i < n
    · have hzs : (zs.map (Value.int .i32))[i]? = some (.int .i32 zs[i]) := by simp
      obtain ⟨b1, o1, sp1, cs1, rfl, hc1, hn1⟩ := rowCell hx (j := i * 1) (by omega) (by rw [Nat.mul_one]; exact hzs)
      obtain ⟨b2, o2, sp2, cs2, rfl, hc2, hn2⟩ := rowCell hy (j := i * 1) (by omega) (by rw [Nat.mul_one]; exact hzs)
      have hR1 := hR b1 (.inl rfl)
      have hR2 := hR b2 (.inr rfl)
      have l1 := hc1.lt hf
      have l2 := hc2.lt hf
      refine Zgo ?_
      ((with_reducible apply Wtr.stq); rfl; exact to_indexAddr (k := i) el24 rfl rfl hz (by omega))
      ((with_reducible apply Wtr.stx); rfl; exact to_load (pl_ rfl) rfl hc1 (by omega) hn1; exact Zap)
      refine Zgo ?_
      ((with_reducible apply Wtr.stq); rfl; exact to_indexAddr (k := i) el24 rfl rfl hz (by omega))
      ((with_reducible apply Wtr.stx); rfl; exact to_load (pl_ rfl) rfl hc2 (by omega) hn2; exact Zap)
      ((with_reducible apply Wtr.stq); rfl; exact to_neIF rfl rfl rfl)
      refine Zgo ?_
      refine RoundE.go (n - (i + 1)) (EQ _ n k _ k' (z + 1) _ _ _) (by omega) Zek ⟨i + 1, z + 1, _, _, _, _, rfl, by omega, rfl, Zlg, by omega, rfl⟩
    · refine Zgo ?_
      refine ⟨.inr rfl, Wres.one rfl ⟨rfl, ?_⟩⟩
      exact Zex

theorem eq_spec (H : Std sm) {h : T AObj} {c : Nat} {rl wl : List Nat} (hf : Fresh h c) {a b : Option Addr} {n k k' : Nat} {zs : List Int} (hn : zs.length = n) (hx : Row h (.slice a n k) n 1 (zs.map (Value.int .i32))) (hy : Row h (.slice b n k') n 1 (zs.map (Value.int .i32))) (hb : n ≤ big) (R : Nat → Prop) (hR : ∀ x, blkOf (.slice a n k) = some x ∨ blkOf (.slice b n k') = some x → R x) :
    ∃ r s', FnTo (Cs sm) eg 21 [.slice a n k, .slice b n k'] ⟨h, c, rl, wl⟩ r s' ∧ r = .bool true ∧ Ext ⟨h, c, rl, wl⟩ s' R (fun _ => False) := by
  refine Fn.go (H 21 rfl) ex21 fn21 km21 rfl rfl ?_
  refine Zev ?_
  refine Zgo ?_
  refine Wseq.call rfl rfl (eq135_spec H Zfr hn hx hy hb R hR) ?_
  rintro v h1 c1 r1 w1 ⟨rfl, hext⟩
  have q1 := hext.c
  dsimp only at q1
  have hf1 : Fresh h1 c1 := hext.fresh
  have kp := Kp.ext (W := fun _ => False) (h := h) (c := c) Zkp hext (by omega) (fun _ _ q => q)
  have lr := Lg.extR (R := R) (c := c) Zlg hext (fun _ _ q => q)
  have lw := Lg.extW (W := fun _ => False) (c := c) Zlg hext (fun _ _ q => q)
  refine Zgo ?_
  refine ⟨.inr rfl, Wres.one rfl ⟨rfl, ?_⟩⟩
  exact Zex

/-- A coordinate cut to size. -/
def clampZ (z : Int) : Int := max (-1048576) (min z 1048576)
def vecC (zs : List Int) (dim i : Nat) : List Value := (List.range dim).map fun j => if j < i then .int .i32 (clampZ (zs.getD j 0)) else .int .i32 0
def vecZ (zs : List Int) (dim : Nat) : List Int := (List.range dim).map fun j => clampZ (zs.getD j 0)
theorem vecZ_len (zs : List Int) (dim : Nat) : (vecZ zs dim).length = dim := by simp [vecZ]
theorem vecC_len (zs : List Int) (dim i : Nat) : (vecC zs dim i).length = dim := by simp [vecC]

theorem vecC_zero (zs : List Int) (dim : Nat) : rep [Value.int .i32 0] dim = vecC zs dim 0 := by
  refine List.ext_getElem? fun i => ?_
  rw [rep_get]
  simp only [vecC, List.length_singleton, Nat.mul_one, Nat.mod_one, List.getElem?_map, List.getElem?_range', Nat.not_lt_zero, if_false]
  by_cases h : i < dim
  · rw [if_pos h, List.getElem?_range h]; rfl
  · rw [if_neg h, List.getElem?_eq_none (by simp; omega)]; rfl

theorem vecC_step (zs : List Int) (dim i : Nat) (hi : i < dim) : setMany [.int .i32 (clampZ (zs.getD i 0))] (vecC zs dim i) (0 + i * 1) = some (vecC zs dim (i + 1)) := by
  have h := setMany_eq (vecC zs dim i) (0 + i * 1) [.int .i32 (clampZ (zs.getD i 0))] (by rw [vecC_len]; simp; omega) (all_cons rfl all_nil)
  rw [h]
  congr 1
  refine List.ext_getElem? fun j => ?_
  rw [show 0 + i * 1 = i by omega]
  have e : ∀ m j, (vecC zs dim m)[j]? = if j < dim then some (if j < m then .int .i32 (clampZ (zs.getD j 0)) else .int .i32 0) else none := by
    intro m j
    unfold vecC
    rw [List.getElem?_map]
    by_cases h : j < dim
    · rw [List.getElem?_range h, if_pos h]; rfl
    · rw [List.getElem?_eq_none (by simp; omega), if_neg h]; rfl
  rw [e (i + 1) j]
  rcases Nat.lt_trichotomy j i with hj | hj | hj
  · rw [List.append_assoc, List.getElem?_append_left (by rw [List.length_take, vecC_len]; omega), List.getElem?_take_of_lt hj, e i j, if_pos hj, if_pos (by omega : j < i + 1)]
  · subst hj
    rw [List.append_assoc, List.getElem?_append_right (by rw [List.length_take, vecC_len]; omega), List.length_take, vecC_len, show j - min j dim = 0 by omega, if_pos hi, if_pos (by omega)]
    rfl
  · rw [List.getElem?_append_right (by rw [List.length_append, List.length_take, vecC_len]; simp; omega), List.length_append, List.length_take, vecC_len, List.getElem?_drop, show i + [Value.int .i32 (clampZ (zs.getD i 0))].length + (j - (min i dim + [Value.int .i32 (clampZ (zs.getD i 0))].length)) = j by simp; omega, e i j, if_neg (by omega : ¬j < i), if_neg (by omega : ¬j < i + 1)]

theorem vecC_end (zs : List Int) (dim i : Nat) (hi : dim ≤ i ∨ zs.length ≤ i) : vecC zs dim i = (vecZ zs dim).map (Value.int .i32) := by
  unfold vecC vecZ
  rw [List.map_map]
  refine List.map_congr_left fun j hj => ?_
  have hj := List.mem_range.1 hj
  by_cases h : j < i
  · rw [if_pos h]; rfl
  · rw [if_neg h]
    have : zs.getD j 0 = 0 := by rw [List.getD_eq_getElem?_getD, List.getElem?_eq_none (by omega)]; rfl
    show Value.int .i32 0 = Value.int .i32 (clampZ (zs.getD j 0))
    rw [this]; rfl

def EV (a : Option Addr) (n k dim c : Nat) (z : Int) (j17 : Value) : L :=
  .cons 0 (.slice a n k) (.cons 1 (.int .i64 (dim : Int)) (.cons 4 (.slice none 0 0) (.cons 5 (.slice (some ⟨c, 0, none⟩) dim dim) (.cons 6 (.int .i64 z) (.cons 17 j17 .nil)))))

theorem vec_spec (H : Std sm) {h : T AObj} {c : Nat} {rl wl : List Nat} (hf : Fresh h c) {a : Option Addr} {n k : Nat} {zs : List Int} (hn : zs.length = n) (hx : Row h (.slice a n k) n 1 (zs.map (Value.int .i32))) (dim : Nat) (hd : dim ≤ 1000) (R : Nat → Prop) (hR : ∀ x, blkOf (.slice a n k) = some x → R x) :
    ∃ r s', FnTo (Cs sm) eg 13 [.slice a n k, .int .i64 (dim : Int)] ⟨h, c, rl, wl⟩ r s' ∧ (r = .slice (some ⟨c, 0, none⟩) dim dim ∧ Has s'.h c (.cells ((vecZ zs dim).map (Value.int .i32)))) ∧ Ext ⟨h, c, rl, wl⟩ s' R (fun _ => False) := by
  refine Fn.go (H 13 rfl) ex13 fn13 km13 rfl rfl ?_
  refine Zev ?_
  refine Zgo ?_
  ((with_reducible apply Wseq.stg); rfl; exact to_makeSlice (a := dim) (b := dim) ro24 rfl rfl rfl rfl (by omega) (by unfold big; omega) Zfr)
  refine Zgo ?_
  refine Wx.loopE (fun k1 e s => ∃ (i : Nat) (z : Int) (h' : T AObj) (rl' wl' : List Nat) (j17 : Value), e = EV a n k dim c z j17 ∧ z = i ∧ s = ⟨h', c + 1, rl', wl'⟩ ∧ Fresh h' (c + 1) ∧ Kp h h' c (fun _ => False) ∧ Has h' c (.cells (vecC zs dim i)) ∧ Lg c R rl' ∧ Lg c (fun _ => False) wl' ∧ i ≤ dim ∧ k1 = dim - i) dim (EV a n k dim c 0 top) Zrs ?_ ?_ ?_
  · unfold EV
    exact Zek
  · exact ⟨0, 0, _, _, _, _, rfl, rfl, rfl, Zfr, Zkp, (by rw [← vecC_zero]; exact Has.same), Zlg, Zlg, by omega, rfl⟩
  · rintro k1 e s ⟨i, z, h', rl', wl', j17, rfl, hz, rfl, hf', hkp, hB, hlr, hlw, hid, rfl⟩
    unfold EV
    by_cases hi : i < dim
    · by_cases hi2 : i < n
      · have hzs : (zs.map (Value.int .i32))[i]? = some (.int .i32 (zs.getD i 0)) := by
          rw [List.getElem?_map, List.getD_eq_getElem?_getD, List.getElem?_eq_getElem (by omega : i < zs.length)]; rfl
        obtain ⟨b1, o1, sp1, cs1, rfl, hc1, hn1⟩ := rowCell hx (j := i * 1) (by omega) (by rw [Nat.mul_one]; exact hzs)
        have hR1 := hR b1 rfl
        have l1 := hc1.lt hf
        have hc1' : Cel h' b1 cs1 := by unfold Cel Has at hc1 ⊢; rw [hkp b1 l1 (fun q => q)]; exact hc1
        refine Zgo ?_
        ((with_reducible apply Wseq.stg); rfl; exact to_indexAddr (k := i) el24 rfl rfl hz (by omega))
        ((with_reducible apply Wseq.stg); rfl; exact to_load (pl_ rfl) rfl hc1' (by omega) hn1)
        refine Zgo ?_
        ((with_reducible apply Wseq.stg); rfl; exact to_indexAddr (k := i) el24 rfl rfl hz (by omega))
        ((with_reducible apply Wseq.so); rfl; exact (sz_ rfl); rfl; exact hB; omega; refine Znv ?_; refine ⟨_, _, (by (first | exact cellsA_agg _ | rfl)), rfl, vecC_step zs dim i hi, ?_⟩)
        refine Zgo ?_
        refine RoundE.go (dim - (i + 1)) (EV _ n k dim c (z + 1) _) (by omega) Zek ⟨i + 1, z + 1, _, _, _, _, rfl, by omega, rfl, Zfr, Zkp, Has.same, Zlg, Zlg, by omega, rfl⟩
      · refine Zgo ?_
        refine ⟨.inr rfl, Wres.one rfl ⟨⟨rfl, ?_⟩, ?_⟩⟩
        · rw [← vecC_end zs dim i (.inr (by omega))]; exact hB
        · exact Zex
    · refine Zgo ?_
      refine ⟨.inr rfl, Wres.one rfl ⟨⟨rfl, ?_⟩, ?_⟩⟩
      · rw [← vecC_end zs dim i (.inl (by omega))]; exact hB
      · exact Zex
end Go.Ab.Seat
end
section
/- Members let go, a block that is no map, a vector cut to size, a hit ahead of another one (plain). -/
namespace Go.Ab.Seat
open Go.Extern Go.Proofs
set_option linter.unusedVariables false

def delM (id : Int) (M : List Rc) : List Rc := M.filter fun r => !decide (r.id = id)
theorem getM_del (id x : Int) : ∀ M : List Rc, getM x (delM id M) = if x = id then none else getM x M
  | [] => by unfold delM getM; simp
  | y :: M => by
    have ih := getM_del id x M
    unfold delM at ih ⊢
    by_cases h : y.id = id
    · rw [List.filter_cons, decide_eq_true h]
      simp only [Bool.not_true, Bool.false_eq_true, if_false]
      rw [ih]
      by_cases hx : x = id
      · rw [if_pos hx, if_pos hx]
      · rw [if_neg hx, if_neg hx, getM, if_neg (by omega)]
    · rw [List.filter_cons, decide_eq_false h]
      simp only [Bool.not_false, if_true]
      rw [getM, ih, getM]
      by_cases hy : y.id = x
      · rw [if_pos hy, if_pos hy, if_neg (by omega)]
      · rw [if_neg hy, if_neg hy]

theorem notMap {h : T AObj} {b : Nat} {cs : List Value} {m n : Nat} {es : List (Value × Value × Nat)} (h1 : Has h b (.cells cs)) (h2 : Has h m (.map es n)) : b ≠ m := by
  rintro rfl
  unfold Has at h1 h2
  rw [h1] at h2
  cases h2

theorem Bnd_vecZ (zs : List Int) (dim : Nat) : Bnd (vecZ zs dim) := by
  intro i
  unfold vecZ
  rw [List.getD_eq_getElem?_getD, List.getElem?_map]
  cases h : (List.range dim)[i]? with
  | none => simp
  | some j =>
    show -1048576 ≤ clampZ _ ∧ clampZ _ ≤ 1048576
    unfold clampZ
    omega

theorem lessH_iff {a b : Ht} : lessH a b = true ↔ a.sc < b.sc ∨ a.sc = b.sc ∧ a.id < b.id := by
  unfold lessH
  split
  · rw [decide_eq_true_eq]; omega
  · rw [decide_eq_true_eq]; omega
theorem lessH_not {a b : Ht} : lessH a b = false ↔ b.sc < a.sc ∨ a.sc = b.sc ∧ b.id ≤ a.id := by
  rw [← Bool.not_eq_true, lessH_iff]; omega

end Go.Ab.Seat
end
section
/- Hits in a row, the best ones of some (plain). -/
namespace Go.Ab.Seat
open Go.Extern Go.Proofs
set_option linter.unusedVariables false

def flatH (l : List Ht) : List Value := l.flatMap Ht.cells
theorem flatH_len (l : List Ht) : (flatH l).length = l.length * 2 := by
  induction l with
  | nil => rfl
  | cons x l ih => unfold flatH at ih ⊢; rw [List.flatMap_cons, List.length_append, ih]; simp [Ht.cells]; omega
theorem flatH_app (a b : List Ht) : flatH (a ++ b) = flatH a ++ flatH b := by unfold flatH; rw [List.flatMap_append]
theorem flatH_take (l : List Ht) (i : Nat) : (flatH l).take (i * 2) = flatH (l.take i) := by
  induction l generalizing i with
  | nil => cases i <;> rfl
  | cons x l ih =>
    cases i with
    | zero => rfl
    | succ i =>
      show ([Value.int .i64 x.id, .int .i64 x.sc] ++ flatH l).take ((i + 1) * 2) = [Value.int .i64 x.id, .int .i64 x.sc] ++ flatH (l.take i)
      rw [show (i + 1) * 2 = i * 2 + 1 + 1 by omega, ← ih]
      rfl
theorem flatH_drop (l : List Ht) (i : Nat) : (flatH l).drop (i * 2) = flatH (l.drop i) := by
  induction l generalizing i with
  | nil => cases i <;> simp [flatH]
  | cons x l ih =>
    cases i with
    | zero => rfl
    | succ i =>
      show ([Value.int .i64 x.id, .int .i64 x.sc] ++ flatH l).drop ((i + 1) * 2) = flatH (l.drop i)
      rw [show (i + 1) * 2 = i * 2 + 1 + 1 by omega, ← ih]
      rfl
theorem flatH_atom (l : List Ht) : ∀ v ∈ flatH l, atom v = true := by
  intro v hv
  unfold flatH at hv
  obtain ⟨x, _, hx⟩ := List.mem_flatMap.1 hv
  unfold Ht.cells at hx
  simp only [List.mem_cons, List.not_mem_nil, or_false] at hx
  rcases hx with rfl | rfl <;> rfl
theorem sub_hit {l : List Ht} {i o : Nat} {cs : List Value} {x : Ht} (h : subN o (l.length * 2) cs = some (flatH l)) (hx : l[i]? = some x) : subN (o + i * 2) 2 cs = some [.int .i64 x.id, .int .i64 x.sc] := by
  obtain ⟨hi, rfl⟩ := List.getElem?_eq_some_iff.1 hx
  have h1 : flatH l = flatH (l.take i) ++ (([.int .i64 l[i].id, .int .i64 l[i].sc] : List Value) ++ flatH (l.drop (i + 1))) := by
    conv => lhs; rw [show l = l.take i ++ (l[i] :: l.drop (i + 1)) by simp]
    rw [flatH_app]; rfl
  rw [h1] at h
  have h2 : subN o (i * 2 + (2 + (l.length - (i + 1)) * 2)) cs = some (flatH (l.take i) ++ (([.int .i64 l[i].id, .int .i64 l[i].sc] : List Value) ++ flatH (l.drop (i + 1)))) := by rw [← h]; congr 1; omega
  exact (subN_app (subN_app h2 (by rw [flatH_len, List.length_take]; omega)).2 rfl).1

/-- How many are better. -/
def iH (x : Ht) (l : List Ht) : Nat := (l.takeWhile fun y => lessH y x).length
/-- The best ones, when one more is put among them. -/
def putB (k : Nat) (l : List Ht) (x : Ht) : List Ht :=
  if l.any (fun y => decide (y.id = x.id)) then l else if k ≤ iH x l then l else (l.take (iH x l) ++ x :: l.drop (iH x l)).take k

theorem iH_le (x : Ht) (l : List Ht) : iH x l ≤ l.length := by unfold iH; exact (List.takeWhile_sublist _).length_le
theorem iH_at {x : Ht} : ∀ {l : List Ht} {i : Nat}, (∀ y ∈ l.take i, lessH y x = true) → (∀ y, l[i]? = some y → lessH y x = false) → i ≤ l.length → iH x l = i
  | [], 0, _, _, _ => rfl
  | [], i + 1, _, _, h => by cases h
  | y :: l, 0, _, h2, _ => by
    unfold iH
    rw [List.takeWhile_cons, h2 y rfl]
    rfl
  | y :: l, i + 1, h1, h2, h3 => by
    have := iH_at (x := x) (l := l) (i := i) (fun z hz => h1 z (List.mem_cons_of_mem _ hz)) (fun z hz => h2 z (by simpa using hz)) (by simpa using h3)
    unfold iH at this ⊢
    rw [List.takeWhile_cons, h1 y (List.mem_cons_self ..)]
    simp only [if_true, List.length_cons]
    omega

def bestOf (k : Nat) (l : List Ht) : List Ht := l.foldl (putB k) []
theorem putB_len (k : Nat) (l : List Ht) (x : Ht) : (putB k l x).length ≤ l.length + 1 := by
  unfold putB
  split
  · omega
  · split
    · omega
    · rw [List.length_take, List.length_append, List.length_take, List.length_cons, List.length_drop]; omega
theorem foldB_len (k : Nat) : ∀ (l a : List Ht), (l.foldl (putB k) a).length ≤ a.length + l.length
  | [], a => Nat.le_refl _
  | x :: l, a => by
    have h1 := foldB_len k l (putB k a x)
    have h2 := putB_len k a x
    rw [List.foldl_cons, List.length_cons]
    omega
theorem bestOf_len (k : Nat) (l : List Ht) : (bestOf k l).length ≤ l.length := by
  have := foldB_len k l []
  simp only [List.length_nil] at this
  unfold bestOf; omega
theorem bestOf_take {k : Nat} {l : List Ht} {i : Nat} (hi : i < l.length) : bestOf k (l.take (i + 1)) = putB k (bestOf k (l.take i)) l[i] := by
  unfold bestOf
  rw [List.take_succ_eq_append_getElem hi, List.foldl_append]; rfl

end Go.Ab.Seat
end
section
/- Is a hit's id among some? (the abstract machine) -/
namespace Go.Ab.Seat
open Go.Extern Go.Proofs
set_option linter.unusedSimpArgs false
set_option linter.unusedVariables false
set_option maxRecDepth 4000
set_option pp.deepTerms false
set_option pp.deepTerms.threshold 6
variable {sm : Nat → Option (List Value → M Value)}

theorem rowB {h : T AObj} {oa : Option Addr} {n cap k : Nat} {xs : List Value} (hr : Row h (.slice oa n cap) n k xs) (hn : 0 < n) : ∃ b o sp cs, oa = some ⟨b, o, sp⟩ ∧ Cel h b cs ∧ subN o (n * k) cs = some xs := by
  rcases hr with ⟨rfl, _⟩ | ⟨b, o, sp, cap', cs, e, hc, hs⟩
  · omega
  · cases e
    exact ⟨b, o, sp, cs, rfl, hc, hs⟩

abbrev cloV (bx : Nat) : Value := .func (.func 154) ⟨[]⟩ ⟨[.pointer (some ⟨bx, 0, none⟩)]⟩
def EIx (oa : Option Addr) (n cap bx : Nat) (z : Int) (j5 j9 j16 : Value) : L :=
  .cons 0 (.slice oa n cap) (.cons 1 (cloV bx) (.cons 4 (.int .i64 0) (.cons 7 (.int .i64 (n : Int)) (.cons 8 (.int .i64 z) (.cons 5 j5 (.cons 9 j9 (.cons 16 j16 .nil)))))))

set_option maxHeartbeats 4000000 in
theorem idxf_spec (H : Std sm) {h : T AObj} {c : Nat} {rl wl : List Nat} (hf : Fresh h c) {oa : Option Addr} {cap bx : Nat} {l : List Ht} {y : Ht} (hx : Row h (.slice oa l.length cap) l.length 2 (flatH l)) (hy : Has h bx (.cells [.int .i64 y.id, .int .i64 y.sc])) (hb : l.length ≤ 100000) (R : Nat → Prop) (hR : ∀ x, blkOf (.slice oa l.length cap) = some x → R x) (hRy : R bx) :
    ∃ r s', FnTo (Cs sm) eg 195 [.slice oa l.length cap, cloV bx] ⟨h, c, rl, wl⟩ r s' ∧ (∃ z, r = .int .i64 z ∧ decide (0 ≤ z) = l.any (fun x => decide (x.id = y.id))) ∧ Ext ⟨h, c, rl, wl⟩ s' R (fun _ => False) := by
  refine Fn.go (H 195 rfl) ex195 fn195 km195 rfl rfl ?_
  refine Zev ?_
  have ly := hy.lt hf
  refine Zgo ?_
  refine Wx.cutO (fun e s => ∃ (j5 j9 j16 : Value) (h' : T AObj) (c' : Nat) (rl' wl' : List Nat), e = EIx oa l.length cap bx l.length j5 j9 j16 ∧ s = ⟨h', c', rl', wl'⟩ ∧ c ≤ c' ∧ Fresh h' c' ∧ Kp h h' c (fun _ => False) ∧ Lg c R rl' ∧ Lg c (fun _ => False) wl' ∧ l.any (fun x => decide (x.id = y.id)) = false) Zrs ?_ ?_
  · refine Wx.loopE (fun k1 e s => ∃ (i : Nat) (z : Int) (j5 j9 j16 : Value) (h' : T AObj) (c' : Nat) (rl' wl' : List Nat), e = EIx oa l.length cap bx z j5 j9 j16 ∧ z = i ∧ s = ⟨h', c', rl', wl'⟩ ∧ c ≤ c' ∧ Fresh h' c' ∧ Kp h h' c (fun _ => False) ∧ Lg c R rl' ∧ Lg c (fun _ => False) wl' ∧ (∀ x ∈ l.take i, x.id ≠ y.id) ∧ i ≤ l.length ∧ k1 = l.length - i) l.length (EIx oa l.length cap bx 0 top top top) Zrs ?_ ?_ ?_
    · unfold EIx
      exact Zek
    · exact ⟨0, 0, _, _, _, _, _, _, _, rfl, rfl, rfl, Nat.le_refl _, Zfr, Zkp, Zlg, Zlg, (fun x hx => by simp at hx), by omega, rfl⟩
    · rintro k1 e s ⟨i, z, j5, j9, j16, h', c', rl', wl', rfl, hz, rfl, hcc, hf', hkp, hlr, hlw, hno, hid, rfl⟩
      unfold EIx
      by_cases hi : i < l.length
      · have hx' := Row.keepF hx hf (fun b hb => hkp b hb (fun q => q))
        have hy' : Has h' bx (.cells [.int .i64 y.id, .int .i64 y.sc]) := (hkp bx ly (fun q => q)).trans hy
        obtain ⟨b1, o1, sp1, cs1, rfl, hc1, hs1⟩ := rowB hx' (by omega)
        have hR1 := hR b1 rfl
        have l1 := hc1.lt hf'
        have hg := sub_hit hs1 (List.getElem?_eq_getElem hi)
        refine Zgo ?_
        ((with_reducible apply Wseq.stg); rfl; exact to_indexAddr (k := i) el32 rfl rfl hz (by omega))
        ((with_reducible apply Wseq.stg); rfl; exact to_loadS ag41 rfl hc1 (by omega) hg)
        refine Wseq.callV rfl rfl rfl (clo_spec H Zfr l[i] y hy') ?_
        rintro v h1 c1 r1 w1 ⟨rfl, hext⟩
        have kp := Kp.ext (W := fun _ => False) (h := h) (c := c) hkp hext (by omega) (fun _ _ q => q)
        have lr := Lg.extR (R := R) (c := c) Zlg hext (fun q _ hq => by rw [hq]; exact hRy)
        have lw := Lg.extW (W := fun _ => False) (c := c) Zlg hext (fun _ _ q => q)
        have fr1 := hext.fresh
        have le1 := hext.c
        simp only at le1 fr1
        by_cases hid2 : l[i].id = y.id
        · rw [decide_eq_true hid2]
          refine Zgo ?_
          refine ⟨.inr rfl, Wres.one rfl ⟨⟨_, rfl, ?_⟩, ?_⟩⟩
          · rw [decide_eq_true (show (0 : Int) ≤ z by omega)]
            exact (List.any_eq_true.2 ⟨l[i], List.getElem_mem hi, decide_eq_true hid2⟩).symm
          · exact Zex
        · rw [decide_eq_false hid2]
          refine Zgo ?_
          refine RoundE.go (l.length - (i + 1)) (EIx _ l.length cap bx (z + 1) _ _ _) (by omega) Zek ⟨i + 1, z + 1, _, _, _, _, _, _, _, rfl, by omega, rfl, by omega, fr1, kp, lr, lw, ?_, by omega, rfl⟩
          intro x hx
          rw [List.take_succ_eq_append_getElem hi] at hx
          rcases List.mem_append.1 hx with hx | hx
          · exact hno x hx
          · rw [List.mem_singleton.1 hx]; exact hid2
      · refine Zgo ?_
        obtain rfl : i = l.length := by omega
        subst hz
        refine CutQ.go (EIx _ l.length cap bx l.length _ _ _) Zek ⟨_, _, _, _, _, _, _, rfl, rfl, hcc, hf', hkp, Zlg, Zlg, ?_⟩
        rw [List.take_length] at hno
        exact List.any_eq_false.2 fun x hx => by simpa using hno x hx
  · rintro e s ⟨j5, j9, j16, h', c', rl', wl', rfl, rfl, hcc, hf', hkp, hlr, hlw, hno⟩
    unfold EIx
    refine Zgo ?_
    refine ⟨.inr rfl, Wres.one rfl ⟨⟨_, rfl, by rw [hno]; rfl⟩, ?_⟩⟩
    exact Zex

theorem contains_spec (H : Std sm) {h : T AObj} {c : Nat} {rl wl : List Nat} (hf : Fresh h c) {oa : Option Addr} {cap bx : Nat} {l : List Ht} {y : Ht} (hx : Row h (.slice oa l.length cap) l.length 2 (flatH l)) (hy : Has h bx (.cells [.int .i64 y.id, .int .i64 y.sc])) (hb : l.length ≤ 100000) (R : Nat → Prop) (hR : ∀ x, blkOf (.slice oa l.length cap) = some x → R x) (hRy : R bx) :
    ∃ r s', FnTo (Cs sm) eg 153 [.slice oa l.length cap, cloV bx] ⟨h, c, rl, wl⟩ r s' ∧ (r = .bool (l.any (fun x => decide (x.id = y.id)))) ∧ Ext ⟨h, c, rl, wl⟩ s' R (fun _ => False) := by
  refine Fn.go (H 153 rfl) ex153 fn153 km153 rfl rfl ?_
  refine Zev ?_
  refine Zgo ?_
  refine Wseq.call rfl rfl (idxf_spec H Zfr hx hy hb R hR hRy) ?_
  rintro v h1 c1 r1 w1 ⟨⟨z, rfl, hz⟩, hext⟩
  have kp := Kp.ext (W := fun _ => False) (h := h) (c := c) Zkp hext (by omega) (fun _ _ q => q)
  have lr := Lg.extR (R := R) (c := c) Zlg hext (fun _ _ hq => hq)
  have lw := Lg.extW (W := fun _ => False) (c := c) Zlg hext (fun _ _ q => q)
  have fr1 := hext.fresh
  have le1 := hext.c
  simp only at le1 fr1
  ((with_reducible apply Wseq.stg); rfl; exact to_geq rfl rfl)
  refine Zgo ?_
  refine ⟨.inr rfl, Wres.one rfl ⟨?_, ?_⟩⟩
  · rw [← hz]; rfl
  · exact Zex
end Go.Ab.Seat
end
