/- What comes in, as the abstract machine is shown it: every block of the world, read only. -/
import Derived.Test.YtofikbfljjjgeaaGreatDoorE48
import Derived.Test.YtofikbfljjjgeaaGreatDoorE31
set_option linter.unusedVariables false
set_option linter.unusedSimpArgs false
namespace Go.Ab
def absV (n : Nat) : Value → Value
 | .bool b => .bool b
 | .int k x => .int k x
 | .string s => .string s
 | .slice none l c => .slice none l c
 | .slice (some a) l c => if a.spot = none ∧ a.block < n then .slice (some a) l c else if l = 0 ∧ c = 0 then .slice (some ⟨0, 0, some 1⟩) 0 0 else .chan none
 | _ => .chan none
def plainV : Value → Bool
 | .bool _ | .int _ _ | .string _ | .slice _ _ _ => true
 | _ => false
def ιW (H : Array Obj) : Iota := fun b => if b < H.size then some ⟨b, 0, match H[b]? with | some (.cells c _ _) => c.size | _ => 0⟩ else none
theorem absV_VR (H : Array Obj) (v : Value) : VR (ιW H) (absV H.size v) v := by
 unfold absV
 split
 ·exact .bool _
 ·exact .int _ _
 ·exact .string _
 ·exact .nilSlice _ _
 ·rename_i a l c
  split
  ·rename_i h
   obtain ⟨b, o, sp⟩ := a
   obtain ⟨h1, h2⟩ := h
   simp only at h1 h2
   subst h1
   have := VR.sliceX (ι := ιW H) b o l c _ (if_pos h2)
   simp only [Nat.zero_add] at this
   exact this
  ·split
   ·rename_i h
    obtain ⟨rfl, rfl⟩ := h
    exact .sliceZ _ _ _ _
   ·exact .top _
 ·exact .top _
noncomputable def fillT (g : Nat → Option AObj) : Nat → T AObj
 | 0 => .leaf
 | n + 1 => (fillT g n).set n (g n)
theorem fillT_get (g : Nat → Option AObj) (b : Nat) : ∀ n, (fillT g n).get b = if b < n then g b else none
 | 0 => by rw [if_neg (by omega)]; exact T.get_leaf b
 | n + 1 => by
  unfold fillT
  rw [T.get_set, fillT_get g b n]
  by_cases h : b = n
  ·subst h; rw [if_pos rfl, if_pos (by omega)]
  ·rw [if_neg h]
   by_cases h2 : b < n
   ·rw [if_pos h2, if_pos (by omega)]
   ·rw [if_neg h2, if_neg (by omega)]
noncomputable def objW (H : Array Obj) (low : T AObj) (b : Nat) : Option AObj :=
 match low.get b with
 | some o => some o
 | none => match H[b]? with
  | some (.cells c _ _) => some (.ro (c.toList.map (absV H.size)))
  | _ => none
noncomputable def hW (H : Array Obj) (low : T AObj) : T AObj := fillT (objW H low) H.size
theorem hW_get (H : Array Obj) (low : T AObj) (b : Nat) : (hW H low).get b = if b < H.size then objW H low b else none := fillT_get _ _ _
theorem hW_fresh (H : Array Obj) (low : T AObj) : Fresh (hW H low) H.size := fun b hb => by rw [hW_get, if_neg (by omega)]
structure LowOk (low : T AObj) (H : Array Obj) : Prop where
 wr : ∀ b o, low.get b = some o → o.wr = false
 rel : ∀ b o, low.get b = some o → ∃ L, ιW H b = some L ∧ OR (ιW H) L H o
 cell : ∀ b o, low.get b = some o → ∀ c t fr, H[b]? = some (.cells c t fr) → ∀ (i : Nat) v, c[i]? = some v → plainV v = true → ∃ l, o = .ro l ∧ l[i]? = some (absV H.size v)
theorem LowOk.has {low : T AObj} {H : Array Obj} (h : LowOk low H) {b : Nat} {o : AObj} (hb : low.get b = some o) : Has (hW H low) b o := by
 obtain ⟨L, hL, _⟩ := h.rel b o hb
 have hlt : b < H.size := by
  unfold ιW at hL
  split at hL
  ·assumption
  ·cases hL
 unfold Has
 rw [hW_get, if_pos hlt]
 unfold objW
 rw [hb]
theorem LowOk.hr {low : T AObj} {H : Array Obj} (h : LowOk low H) {G : Nat} (hG : G ≤ H.size) : HR G (ιW H) (hW H low) H := by
 have lt : ∀ {b L}, ιW H b = some L → b < H.size ∧ L.blk = b := by
  intro b L hL
  unfold ιW at hL
  split at hL
  ·cases hL; exact ⟨by assumption, rfl⟩
  ·cases hL
 refine ⟨?_, ?_, ?_, fun g hg => ⟨_, if_pos (by omega), rfl, rfl⟩⟩
 ·intro b o hb
  rw [hW_get] at hb
  split at hb
  ·rename_i hlt
   unfold objW at hb
   split at hb
   ·rename_i o' ho
    cases hb
    exact h.rel b _ ho
   ·split at hb
    ·rename_i c t fr hH
     cases hb
     refine ⟨_, if_pos hlt, c, t, fr, hH, ?_, ?_, ?_⟩
     ·simp only [hH]
     ·simp
     ·intro i x hx
      rw [List.getElem?_map, Option.map_eq_some_iff] at hx
      obtain ⟨y, hy, rfl⟩ := hx
      refine ⟨y, ?_, absV_VR H y⟩
      rw [Array.getElem?_toList] at hy
      simpa using hy
    ·cases hb
  ·cases hb
 ·intro b1 b2 o1 o2 L1 L2 _ _ i1 i2 he
  rw [← (lt i1).2, ← (lt i2).2, he]
 ·intro b L hL
  rw [(lt hL).2]; exact (lt hL).1
theorem LowOk.owned {low : T AObj} {H : Array Obj} (h : LowOk low H) {ι : Iota} {k : Nat} : ¬Owned ι (hW H low) k := by
 rintro ⟨b, o, L, h1, h2, _⟩
 rw [hW_get] at h1
 split at h1
 ·unfold objW at h1
  split at h1
  ·rename_i o' ho
   cases h1
   rw [h.wr b _ ho] at h2; cases h2
  ·split at h1
   ·cases h1; cases h2
   ·cases h1
 ·cases h1
theorem cellW {low : T AObj} {w : World} (h : LowOk low w.heap) {b o : Nat} {v : Value} (hc : w.cell? ⟨b, o, none⟩ = some v) (hv : plainV v = true) :
  ∃ l, Has (hW w.heap low) b (.ro l) ∧ l[o]? = some (absV w.heap.size v) := by
 have hlt := (cell_plain hc).2
 simp only at hlt
 unfold World.cell? at hc
 split at hc
 ·rename_i c t fr hH
  have hc' : c[o]? = some v := by simpa using hc
  cases hl : low.get b with
  | some ob =>
   obtain ⟨l, rfl, h2⟩ := h.cell b ob hl c t fr hH o v hc' hv
   exact ⟨l, h.has hl, h2⟩
  | none =>
   refine ⟨c.toList.map (absV w.heap.size), ?_, ?_⟩
   ·unfold Has
    rw [hW_get, if_pos hlt]
    unfold objW
    rw [hl]
    simp only at hH
    rw [hH]
   ·rw [List.getElem?_map, Array.getElem?_toList, hc']; rfl
 ·cases hc
def cat (g : Nat → List Value) (n : Nat) : List Value := (List.range n).flatMap g
theorem cat_succ (g : Nat → List Value) (n : Nat) : cat g (n + 1) = cat g n ++ g n := by unfold cat; rw [List.range_succ, List.flatMap_append]; simp
theorem cat_len {g : Nat → List Value} {k : Nat} : ∀ {n : Nat}, (∀ i, i < n → (g i).length = k) → (cat g n).length = n * k
 | 0, _ => by simp [cat]
 | n + 1, h => by rw [cat_succ, List.length_append, cat_len fun i hi => h i (by omega), h n (by omega), Nat.succ_mul]
theorem cat_get {g : Nat → List Value} {k i r : Nat} (hr : r < k) : ∀ {n : Nat}, (∀ i, i < n → (g i).length = k) → i < n → (cat g n)[i * k + r]? = (g i)[r]?
 | 0, _, h => by omega
 | n + 1, h, hi => by
  have hl := cat_len (n := n) fun i hi => h i (by omega)
  rw [cat_succ]
  by_cases he : i = n
  ·subst he
   rw [List.getElem?_append_right (by omega), hl, Nat.add_sub_cancel_left]
  ·have : (i + 1) * k ≤ n * k := Nat.mul_le_mul_right k (by omega)
   rw [Nat.succ_mul] at this
   rw [List.getElem?_append_left (by omega)]
   exact cat_get hr (fun i hi => h i (by omega)) (by omega)
theorem subN_ext {o m : Nat} {l xs : List Value} (hx : xs.length = m) (hm : 0 < m) (h : ∀ j, j < m → l[o + j]? = xs[j]?) : subN o m l = some xs := by
 have hl : o + m ≤ l.length := by
  have := h (m - 1) (by omega)
  rw [List.getElem?_eq_getElem (by omega : m - 1 < xs.length)] at this
  have := (List.getElem?_eq_some_iff.1 this).1
  omega
 rw [subN_eq o m l hl]
 congr 1
 refine List.ext_getElem? fun j => ?_
 by_cases hj : j < m
 ·rw [List.getElem?_take_of_lt hj, List.getElem?_drop, h j hj]
 ·rw [List.getElem?_take_eq_none (by omega), List.getElem?_eq_none (by omega)]
section
variable {H : Type} {enc : TypeId × Value → H} {P : Program} {w : World} {base : Nat} {held : Bool} {fuel : Nat} {low : T AObj}
set_option linter.unusedVariables false in
theorem slice_row (hlow : LowOk low w.heap) {t e k : Nat} (ht : P.underlying t = some (.slice e)) (hk : P.cellsOf e = k) (hk0 : 0 < k)
  (hpl : ∀ m cs y, DataW.trod enc P w base (fun _ => true) held m e cs = some y → ∀ x ∈ cs, plainV x = true)
  {v : Value} {x : DataW H × List MemPlace} (h : DataW.trod enc P w base (fun _ => true) held fuel t [v] = some x) :
  ∃ (oa oa' : Option Addr) (n cap : Nat) (f : Nat → List Value), v = .slice oa n cap ∧ absV w.heap.size v = .slice oa' n cap ∧ n ≤ cap ∧ cap ≤ maxLen ∧ (∀ i, i < n → (f i).length = k ∧ ∃ m y, DataW.trod enc P w base (fun _ => true) held m e (f i) = some y) ∧
   Row (hW w.heap low) (absV w.heap.size v) n k (cat (fun i => (f i).map (absV w.heap.size)) n) := by
 rcases DataW.trod_slice ht h with ⟨h1, _⟩ | ⟨a, len, cap, elems, rest, m, _, hcs, _, _, hl, hm, hlen, hel, hrest, _⟩
 ·have : v = .slice none 0 0 := by simpa using h1
  subst this
  exact ⟨none, none, 0, 0, fun _ => [], rfl, rfl, Nat.le_refl _, Nat.zero_le _, fun i hi => absurd hi (Nat.not_lt_zero _), .inl ⟨rfl, rfl, none, 0, rfl⟩⟩
 ·have hv : v = .slice (some a) len cap := by simpa using hcs
  subst hv
  rw [hk] at hel hrest
  -- the cells
  have each : ∀ i, i < cap → ∃ cs, w.cells? base (a.add (i * k)) k = some cs ∧ ∃ y, DataW.trod enc P w base (fun _ => true) held m e cs = some y := by
   intro i hi
   have hE : ∃ y, (w.cells? base (a.add (i * k)) k).bind (DataW.trod enc P w base (fun _ => true) held m e) = some y := by
    rcases Nat.lt_or_ge i len with h1 | h1
    ·exact ⟨_, (hel i h1).trans (List.getElem?_eq_getElem (by omega))⟩
    ·obtain ⟨q1, q2⟩ := hrest rfl
     have := q2 (i - len) (by omega)
     rw [show len + (i - len) = i by omega] at this
     exact ⟨_, this.trans (List.getElem?_eq_getElem (by omega))⟩
   obtain ⟨y, hy⟩ := hE
   rw [Option.bind_eq_some_iff] at hy
   obtain ⟨cs, h1, h2⟩ := hy
   exact ⟨cs, h1, y, h2⟩
  have good : 0 < cap → a.spot = none ∧ a.block < w.heap.size := by
   intro hc
   obtain ⟨cs, h1, _⟩ := each 0 hc
   obtain ⟨_, h2⟩ := cells_get h1
   obtain ⟨y, _, h3⟩ := h2 0 hk0
   have e0 : (a.add (0 * k)).add 0 = a := by simp [Addr.add]
   rw [e0] at h3
   exact cell_plain h3
  have hf : ∀ i, i < len → ((w.cells? base (a.add (i * k)) k).getD []).length = k ∧ ∃ m y, DataW.trod enc P w base (fun _ => true) held m e ((w.cells? base (a.add (i * k)) k).getD []) = some y := by
   intro i hi
   obtain ⟨cs, h1, y, h2⟩ := each i (by omega)
   rw [h1]
   exact ⟨(cells_get h1).1, m, y, h2⟩
  by_cases hc : a.spot = none ∧ a.block < w.heap.size
  ·obtain ⟨b, o, sp⟩ := a
   obtain ⟨h1, h2⟩ := hc
   simp only at h1 h2
   subst h1
   have ha : absV w.heap.size (.slice (some ⟨b, o, none⟩) len cap) = .slice (some ⟨b, o, none⟩) len cap := by unfold absV; exact if_pos ⟨rfl, h2⟩
   refine ⟨_, _, len, cap, fun i => (w.cells? base (Addr.add ⟨b, o, none⟩ (i * k)) k).getD [], rfl, ha, hl, hm, hf, ?_⟩
   rw [ha]
   cases len with
   | zero => exact .inl ⟨rfl, rfl, _, _, rfl⟩
   | succ len =>
    have cell : ∀ i r, i < len + 1 → r < k → ∃ l v, Has (hW w.heap low) b (.ro l) ∧ l[o + (i * k + r)]? = some (absV w.heap.size v) ∧ ((w.cells? base (Addr.add ⟨b, o, none⟩ (i * k)) k).getD [])[r]? = some v := by
     intro i r hi hr
     obtain ⟨cs, h3, y, h4⟩ := each i (by omega)
     obtain ⟨q1, q2⟩ := cells_get h3
     obtain ⟨v, hv, hw⟩ := q2 r hr
     have e1 : (Addr.add ⟨b, o, none⟩ (i * k)).add r = ⟨b, o + (i * k + r), none⟩ := by
      unfold Addr.add
      by_cases hz : i * k = 0
      ·rw [if_pos hz]
       by_cases hr0 : r = 0
       ·rw [if_pos hr0, hz, hr0]; rfl
       ·rw [if_neg hr0, hz, Nat.zero_add]
      ·rw [if_neg hz]
       by_cases hr0 : r = 0
       ·rw [if_pos hr0, hr0]; rfl
       ·rw [if_neg hr0]; simp [Nat.add_assoc]
     rw [e1] at hw
     obtain ⟨l, g1, g2⟩ := cellW hlow hw (hpl _ _ _ h4 v (List.mem_of_getElem? hv))
     rw [h3]
     exact ⟨l, v, g1, g2, hv⟩
    obtain ⟨l, _, hb, _, _⟩ := cell 0 0 (by omega) hk0
    refine .inr ⟨b, o, none, cap, l, rfl, hb.celR, ?_⟩
    have hlen : ∀ i, i < len + 1 → (((w.cells? base (Addr.add ⟨b, o, none⟩ (i * k)) k).getD []).map (absV w.heap.size)).length = k := fun i hi => by rw [List.length_map]; exact (hf i hi).1
    have hpos : 0 < (len + 1) * k := Nat.mul_pos (by omega) hk0
    refine subN_ext (cat_len hlen) hpos fun j hj => ?_
    have hd : j / k < len + 1 := (Nat.div_lt_iff_lt_mul hk0).2 hj
    have hr : j % k < k := Nat.mod_lt _ hk0
    have he : j / k * k + j % k = j := by rw [Nat.mul_comm]; exact Nat.div_add_mod j k
    obtain ⟨l', v, g1, g2, g3⟩ := cell (j / k) (j % k) hd hr
    have hll : l' = l := by
     unfold Has at hb g1
     rw [hb] at g1
     cases g1; rfl
    subst hll
    have := cat_get (g := fun i => (((w.cells? base (Addr.add ⟨b, o, none⟩ (i * k)) k).getD []).map (absV w.heap.size))) hr hlen hd
    rw [he] at this g2
    rw [this, g2, List.getElem?_map, g3]
    rfl
  ·have h0 : cap = 0 := by
    rcases Nat.eq_zero_or_pos cap with h | h
    ·exact h
    ·exact absurd (good h) hc
   subst h0
   have h0 : len = 0 := by omega
   subst h0
   have ha : absV w.heap.size (.slice (some a) 0 0) = .slice (some ⟨0, 0, some 1⟩) 0 0 := by unfold absV; exact (if_neg hc).trans (if_pos ⟨rfl, rfl⟩)
   exact ⟨_, _, 0, 0, fun _ => [], rfl, ha, Nat.le_refl _, Nat.zero_le _, fun i hi => absurd hi (Nat.not_lt_zero _), .inl ⟨rfl, rfl, _, _, ha⟩⟩
end
end Go.Ab
