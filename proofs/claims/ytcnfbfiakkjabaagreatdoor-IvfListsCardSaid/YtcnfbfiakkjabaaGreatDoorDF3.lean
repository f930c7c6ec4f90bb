import Derived.Test.YtcnfbfiakkjabaaGreatDoorE23
import Derived.Test.YtcnfbfiakkjabaaGreatDoorDST5v
import Derived.Test.YtcnfbfiakkjabaaGreatDoorDF2
set_option linter.unusedVariables false
set_option linter.unusedSimpArgs false
section
/- A store as a list of records that rises by ids (plain lists). -/
namespace Go.Ab
set_option linter.unusedVariables false

/-- What a store has of an id. -/
structure Rc where
  id : Int
  xs : List Value
  pay : ByteArray
  seq : Int
  gone : Bool

def Rises (l : List Rc) : Prop := l.Pairwise fun a b => a.id < b.id

noncomputable def getM (x : Int) : List Rc → Option Rc
  | [] => none
  | r :: l => if r.id = x then some r else getM x l

noncomputable def putM (r : Rc) : List Rc → List Rc
  | [] => [r]
  | y :: l => if r.id < y.id then r :: y :: l else if r.id = y.id then r :: l else y :: putM r l

noncomputable def seqM (x : Int) (l : List Rc) : Int := match getM x l with | some r => r.seq | none => 0
def liveM (l : List Rc) : List Rc := l.filter fun r => !r.gone
def nextM (after : Int) (l : List Rc) : Option Rc := l.find? fun r => decide (after < r.id) && !r.gone
def sweptR (upto : Int) (r : Rc) : Bool := r.gone && decide (r.seq ≤ upto)
def sweepM (upto : Int) (l : List Rc) : List Rc := l.filter fun r => !sweptR upto r

theorem Rises.nil : Rises [] := List.Pairwise.nil
theorem Rises.filter {l : List Rc} (h : Rises l) (p : Rc → Bool) : Rises (l.filter p) := List.Pairwise.filter p h

theorem getM_mem {x : Int} : ∀ {l : List Rc} {r : Rc}, getM x l = some r → r ∈ l ∧ r.id = x
  | [], _, h => by cases h
  | y :: l, r, h => by
    unfold getM at h
    split at h
    · cases h
      exact ⟨List.mem_cons_self .., by assumption⟩
    · exact ⟨List.mem_cons_of_mem _ (getM_mem h).1, (getM_mem h).2⟩

theorem getM_none {x : Int} : ∀ {l : List Rc}, getM x l = none ↔ ∀ r ∈ l, r.id ≠ x
  | [] => ⟨(fun _ r h => by cases h), (fun _ => rfl)⟩
  | y :: l => by
    unfold getM
    by_cases hy : y.id = x
    · rw [if_pos hy]
      exact ⟨(fun h => by cases h), (fun h => absurd hy (h y (List.mem_cons_self ..)))⟩
    · rw [if_neg hy, getM_none]
      constructor
      · intro h r hr
        rcases List.mem_cons.1 hr with rfl | hr
        · exact hy
        · exact h r hr
      · exact fun h r hr => h r (List.mem_cons_of_mem _ hr)

theorem getM_some {x : Int} {l : List Rc} (h : Rises l) {r : Rc} (hr : r ∈ l) (hx : r.id = x) : getM x l = some r := by
  induction l with
  | nil => cases hr
  | cons y l ih =>
    obtain ⟨h1, h2⟩ := List.pairwise_cons.1 h
    unfold getM
    rcases List.mem_cons.1 hr with rfl | hr
    · rw [if_pos hx]
    · have := h1 r hr
      rw [if_neg (by omega)]
      exact ih h2 hr

theorem mem_putM {r x : Rc} : ∀ {l : List Rc}, x ∈ putM r l → x = r ∨ x ∈ l
  | [], h => .inl (List.mem_singleton.1 h)
  | y :: l, h => by
    unfold putM at h
    split at h
    · rcases List.mem_cons.1 h with h | h
      · exact .inl h
      · exact .inr h
    · split at h
      · rcases List.mem_cons.1 h with h | h
        · exact .inl h
        · exact .inr (List.mem_cons_of_mem _ h)
      · rcases List.mem_cons.1 h with h | h
        · exact .inr (h ▸ List.mem_cons_self ..)
        · rcases mem_putM h with h | h
          · exact .inl h
          · exact .inr (List.mem_cons_of_mem _ h)

theorem Rises.put {l : List Rc} (h : Rises l) (r : Rc) : Rises (putM r l) := by
  induction l with
  | nil => exact List.pairwise_singleton ..
  | cons y l ih =>
    obtain ⟨h1, h2⟩ := List.pairwise_cons.1 h
    unfold putM
    split
    · refine List.pairwise_cons.2 ⟨fun z hz => ?_, h⟩
      rcases List.mem_cons.1 hz with rfl | hz
      · assumption
      · have := h1 z hz
        omega
    · split
      · refine List.pairwise_cons.2 ⟨fun z hz => ?_, h2⟩
        have := h1 z hz
        omega
      · refine List.pairwise_cons.2 ⟨fun z hz => ?_, ih h2⟩
        rcases mem_putM hz with rfl | hz
        · omega
        · exact h1 z hz

theorem getM_put {l : List Rc} (r : Rc) (x : Int) : getM x (putM r l) = if r.id = x then some r else getM x l := by
  induction l with
  | nil => unfold putM getM; rfl
  | cons y l ih =>
    unfold putM
    split
    · rw [getM]
    · split
      · rw [getM, getM]
        split
        · rfl
        · rw [if_neg (by omega)]
      · rw [getM, ih, getM]
        by_cases hr : r.id = x
        · rw [if_pos hr, if_neg (by omega), if_pos hr]
        · rw [if_neg hr, if_neg hr]

theorem getM_filter {l : List Rc} (h : Rises l) (p : Rc → Bool) (x : Int) : getM x (l.filter p) = match getM x l with | some r => if p r then some r else none | none => none := by
  cases hg : getM x l with
  | none =>
    exact getM_none.2 fun r hr => getM_none.1 hg r (List.mem_filter.1 hr).1
  | some r =>
    obtain ⟨h1, h2⟩ := getM_mem hg
    simp only
    split
    · exact getM_some (h.filter p) (List.mem_filter.2 ⟨h1, by assumption⟩) h2
    · refine getM_none.2 fun y hy he => ?_
      obtain ⟨h3, h4⟩ := List.mem_filter.1 hy
      have := getM_some h h3 he
      rw [hg] at this
      cases this
      contradiction

/-- Two lists that rise and have the same are the same. -/
theorem rises_ext : ∀ {a b : List Int}, a.Pairwise (fun x y => x < y) → b.Pairwise (fun x y => x < y) → (∀ x, x ∈ a ↔ x ∈ b) → a = b
  | [], [], _, _, _ => rfl
  | [], y :: b, _, _, h => by cases (h y).2 (List.mem_cons_self ..)
  | x :: a, [], _, _, h => by cases (h x).1 (List.mem_cons_self ..)
  | x :: a, y :: b, ha, hb, h => by
    obtain ⟨a1, a2⟩ := List.pairwise_cons.1 ha
    obtain ⟨b1, b2⟩ := List.pairwise_cons.1 hb
    have hxy : x = y := by
      have h1 := (h x).1 (List.mem_cons_self ..)
      have h2 := (h y).2 (List.mem_cons_self ..)
      rcases List.mem_cons.1 h1 with h1 | h1
      · exact h1
      · rcases List.mem_cons.1 h2 with h2 | h2
        · exact h2.symm
        · have := a1 y h2
          have := b1 x h1
          omega
    subst hxy
    rw [rises_ext a2 b2 fun z => ?_]
    constructor
    · intro hz
      rcases List.mem_cons.1 ((h z).1 (List.mem_cons_of_mem _ hz)) with rfl | h1
      · have := a1 z hz
        omega
      · exact h1
    · intro hz
      rcases List.mem_cons.1 ((h z).2 (List.mem_cons_of_mem _ hz)) with rfl | h1
      · have := b1 z hz
        omega
      · exact h1

theorem sortI_rises {l : List Int} (h : l.Nodup) : (sortI l).Pairwise fun x y => x < y := by
  have h1 := sortI_sorted l
  have h2 : (sortI l).Nodup := (sortI_perm l).nodup_iff.2 h
  have := List.pairwise_and_iff.2 ⟨h1, h2⟩
  exact this.imp fun {a b} h => by have := h.1; have := h.2; omega

theorem Rises.ids {l : List Rc} (h : Rises l) : (l.map Rc.id).Pairwise fun x y => x < y := List.pairwise_map.2 h

/-- Ids of a small range are few. -/
theorem rises_len {n : Int} : ∀ {l : List Int} {lo : Int}, l.Pairwise (fun x y => x < y) → (∀ x ∈ l, lo ≤ x ∧ x ≤ n) → 0 ≤ n + 1 - lo → (l.length : Int) ≤ n + 1 - lo
  | [], _, _, _, h => by simpa using h
  | x :: l, lo, h, hl, h0 => by
    obtain ⟨h1, h2⟩ := List.pairwise_cons.1 h
    have hx := hl x (List.mem_cons_self ..)
    have := rises_len (n := n) (lo := x + 1) h2 (fun y hy => ⟨by have := h1 y hy; omega, (hl y (List.mem_cons_of_mem _ hy)).2⟩) (by omega)
    rw [List.length_cons]
    omega

theorem sweepM_len (upto : Int) (l : List Rc) : (sweepM upto l).length + (l.filter (sweptR upto)).length = l.length := by
  unfold sweepM
  induction l with
  | nil => rfl
  | cons y l ih =>
    rw [List.filter_cons, List.filter_cons, List.length_cons]
    cases sweptR upto y <;> simp <;> omega
end Go.Ab
end
section
/- Members let go, a block that is no map, a vector cut to size, a hit ahead of another one (plain). -/
namespace Go.Ab.Seat
open Go.Extern Go.Proofs
set_option linter.unusedVariables false

def delM (id : Int) (M : List Rc) : List Rc := M.filter fun r => !decide (r.id = id)
theorem getM_del (id x : Int) : ∀ M : List Rc, getM x (delM id M) = if x = id then none else getM x M
  | [] => by unfold delM getM; simp
  | y :: M => by
    have ih := getM_del id x M
    unfold delM at ih ⊢
    by_cases h : y.id = id
    · rw [List.filter_cons, decide_eq_true h]
      simp only [Bool.not_true, Bool.false_eq_true, if_false]
      rw [ih]
      by_cases hx : x = id
      · rw [if_pos hx, if_pos hx]
      · rw [if_neg hx, if_neg hx, getM, if_neg (by omega)]
    · rw [List.filter_cons, decide_eq_false h]
      simp only [Bool.not_false, if_true]
      rw [getM, ih, getM]
      by_cases hy : y.id = x
      · rw [if_pos hy, if_pos hy, if_neg (by omega)]
      · rw [if_neg hy, if_neg hy]

theorem notMap {h : T AObj} {b : Nat} {cs : List Value} {m n : Nat} {es : List (Value × Value × Nat)} (h1 : Has h b (.cells cs)) (h2 : Has h m (.map es n)) : b ≠ m := by
  rintro rfl
  unfold Has at h1 h2
  rw [h1] at h2
  cases h2

theorem Bnd_vecZ (zs : List Int) (dim : Nat) : Bnd (vecZ zs dim) := by
  intro i
  unfold vecZ
  rw [List.getD_eq_getElem?_getD, List.getElem?_map]
  cases h : (List.range dim)[i]? with
  | none => simp
  | some j =>
    show -1048576 ≤ clampZ _ ∧ clampZ _ ≤ 1048576
    unfold clampZ
    omega

theorem lessH_iff {a b : Ht} : lessH a b = true ↔ a.sc < b.sc ∨ a.sc = b.sc ∧ a.id < b.id := by
  unfold lessH
  split
  · rw [decide_eq_true_eq]; omega
  · rw [decide_eq_true_eq]; omega
theorem lessH_not {a b : Ht} : lessH a b = false ↔ b.sc < a.sc ∨ a.sc = b.sc ∧ b.id ≤ a.id := by
  rw [← Bool.not_eq_true, lessH_iff]; omega

end Go.Ab.Seat
end
section
/- Is a hit's id among some? (the abstract machine) -/
namespace Go.Ab.Seat
open Go.Extern Go.Proofs
set_option linter.unusedSimpArgs false
set_option linter.unusedVariables false
set_option maxRecDepth 4000
set_option pp.deepTerms false
set_option pp.deepTerms.threshold 6
variable {sm : Nat → Option (List Value → M Value)}

def flatH (l : List Ht) : List Value := l.flatMap Ht.cells
theorem flatH_len (l : List Ht) : (flatH l).length = l.length * 2 := by
  induction l with
  | nil => rfl
  | cons x l ih => unfold flatH at ih ⊢; rw [List.flatMap_cons, List.length_append, ih]; simp [Ht.cells]; omega
theorem flatH_app (a b : List Ht) : flatH (a ++ b) = flatH a ++ flatH b := by unfold flatH; rw [List.flatMap_append]
theorem flatH_take (l : List Ht) (i : Nat) : (flatH l).take (i * 2) = flatH (l.take i) := by
  induction l generalizing i with
  | nil => cases i <;> rfl
  | cons x l ih =>
    cases i with
    | zero => rfl
    | succ i =>
      show ([Value.int .i64 x.id, .int .i64 x.sc] ++ flatH l).take ((i + 1) * 2) = [Value.int .i64 x.id, .int .i64 x.sc] ++ flatH (l.take i)
      rw [show (i + 1) * 2 = i * 2 + 1 + 1 by omega, ← ih]
      rfl
theorem flatH_drop (l : List Ht) (i : Nat) : (flatH l).drop (i * 2) = flatH (l.drop i) := by
  induction l generalizing i with
  | nil => cases i <;> simp [flatH]
  | cons x l ih =>
    cases i with
    | zero => rfl
    | succ i =>
      show ([Value.int .i64 x.id, .int .i64 x.sc] ++ flatH l).drop ((i + 1) * 2) = flatH (l.drop i)
      rw [show (i + 1) * 2 = i * 2 + 1 + 1 by omega, ← ih]
      rfl
theorem flatH_atom (l : List Ht) : ∀ v ∈ flatH l, atom v = true := by
  intro v hv
  unfold flatH at hv
  obtain ⟨x, _, hx⟩ := List.mem_flatMap.1 hv
  unfold Ht.cells at hx
  simp only [List.mem_cons, List.not_mem_nil, or_false] at hx
  rcases hx with rfl | rfl <;> rfl
theorem sub_hit {l : List Ht} {i o : Nat} {cs : List Value} {x : Ht} (h : subN o (l.length * 2) cs = some (flatH l)) (hx : l[i]? = some x) : subN (o + i * 2) 2 cs = some [.int .i64 x.id, .int .i64 x.sc] := by
  obtain ⟨hi, rfl⟩ := List.getElem?_eq_some_iff.1 hx
  have h1 : flatH l = flatH (l.take i) ++ (([.int .i64 l[i].id, .int .i64 l[i].sc] : List Value) ++ flatH (l.drop (i + 1))) := by
    conv => lhs; rw [show l = l.take i ++ (l[i] :: l.drop (i + 1)) by simp]
    rw [flatH_app]; rfl
  rw [h1] at h
  have h2 : subN o (i * 2 + (2 + (l.length - (i + 1)) * 2)) cs = some (flatH (l.take i) ++ (([.int .i64 l[i].id, .int .i64 l[i].sc] : List Value) ++ flatH (l.drop (i + 1)))) := by rw [← h]; congr 1; omega
  exact (subN_app (subN_app h2 (by rw [flatH_len, List.length_take]; omega)).2 rfl).1

theorem rowB {h : T AObj} {oa : Option Addr} {n cap k : Nat} {xs : List Value} (hr : Row h (.slice oa n cap) n k xs) (hn : 0 < n) : ∃ b o sp cs, oa = some ⟨b, o, sp⟩ ∧ Cel h b cs ∧ subN o (n * k) cs = some xs := by
  rcases hr with ⟨rfl, _⟩ | ⟨b, o, sp, cap', cs, e, hc, hs⟩
  · omega
  · cases e
    exact ⟨b, o, sp, cs, rfl, hc, hs⟩

abbrev cloV (bx : Nat) : Value := .func (.func 154) ⟨[]⟩ ⟨[.pointer (some ⟨bx, 0, none⟩)]⟩
def EIx (oa : Option Addr) (n cap bx : Nat) (z : Int) (j5 j9 j16 : Value) : L :=
  .cons 0 (.slice oa n cap) (.cons 1 (cloV bx) (.cons 4 (.int .i64 0) (.cons 7 (.int .i64 (n : Int)) (.cons 8 (.int .i64 z) (.cons 5 j5 (.cons 9 j9 (.cons 16 j16 .nil)))))))

set_option maxHeartbeats 4000000 in
theorem idxf_spec (H : Std sm) {h : T AObj} {c : Nat} {rl wl : List Nat} (hf : Fresh h c) {oa : Option Addr} {cap bx : Nat} {l : List Ht} {y : Ht} (hx : Row h (.slice oa l.length cap) l.length 2 (flatH l)) (hy : Has h bx (.cells [.int .i64 y.id, .int .i64 y.sc])) (hb : l.length ≤ 100000) (R : Nat → Prop) (hR : ∀ x, blkOf (.slice oa l.length cap) = some x → R x) (hRy : R bx) :
    ∃ r s', FnTo (Cs sm) eg 195 [.slice oa l.length cap, cloV bx] ⟨h, c, rl, wl⟩ r s' ∧ (∃ z, r = .int .i64 z ∧ decide (0 ≤ z) = l.any (fun x => decide (x.id = y.id))) ∧ Ext ⟨h, c, rl, wl⟩ s' R (fun _ => False) := by
  refine Fn.go (H 195 rfl) ex195 fn195 km195 rfl rfl ?_
  intro e he
  (simp (decide := true) only [kz] at he; subst he)
  have ly := hy.lt hf
  (repeat (first | (with_reducible refine Then.go ?_) | (with_reducible refine Wx.seq ?_) | (with_reducible refine Wx.block ?_) | (with_reducible refine Wx.reg ?_) | ((with_reducible refine Wseq.nil ?_); intro e he; (simp (decide := true) only [kz] at he; subst he)) | ((with_reducible apply Wseq.mv); rfl; (intro v hv; (simp (decide := true) only [kw] at hv); subst hv)) | ((with_reducible apply Wseq.as); rfl; (intro v hv; (simp (decide := true) only [kw] at hv); subst hv)) | ((with_reducible apply Wseq.stg (op := Op.call ⟨Callee.builtin Builtin.len, _, _⟩)); rfl; exact to_lenS (sl_ rfl) rfl)))
  refine Wx.cutO (fun e s => ∃ (j5 j9 j16 : Value) (h' : T AObj) (c' : Nat) (rl' wl' : List Nat), e = EIx oa l.length cap bx l.length j5 j9 j16 ∧ s = ⟨h', c', rl', wl'⟩ ∧ c ≤ c' ∧ Fresh h' c' ∧ Kp h h' c (fun _ => False) ∧ Lg c R rl' ∧ Lg c (fun _ => False) wl' ∧ l.any (fun x => decide (x.id = y.id)) = false) (by (repeat ((exact Resp.fn)))) ?_ ?_
  · refine Wx.loopE (fun k1 e s => ∃ (i : Nat) (z : Int) (j5 j9 j16 : Value) (h' : T AObj) (c' : Nat) (rl' wl' : List Nat), e = EIx oa l.length cap bx z j5 j9 j16 ∧ z = i ∧ s = ⟨h', c', rl', wl'⟩ ∧ c ≤ c' ∧ Fresh h' c' ∧ Kp h h' c (fun _ => False) ∧ Lg c R rl' ∧ Lg c (fun _ => False) wl' ∧ (∀ x ∈ l.take i, x.id ≠ y.id) ∧ i ≤ l.length ∧ k1 = l.length - i) l.length (EIx oa l.length cap bx 0 top top top) (by (repeat (first | (exact Resp.fn) | (apply Resp.out) | (apply Resp.cut)))) ?_ ?_ ?_
    · unfold EIx
      (refine EqK.of ?_ ?_ <;> (repeat (first | (exact all_nil) | (apply all_cons; rfl))))
    · exact ⟨0, 0, _, _, _, _, _, _, _, rfl, rfl, rfl, Nat.le_refl _, (by ((repeat (apply Fresh.put; omega)); ((assumption)))), (by (repeat ((exact Kp.refl)))), (by (repeat ((exact Lg.nil)))), (by (repeat ((exact Lg.nil)))), (fun x hx => by simp at hx), by omega, rfl⟩
    · rintro k1 e s ⟨i, z, j5, j9, j16, h', c', rl', wl', rfl, hz, rfl, hcc, hf', hkp, hlr, hlw, hno, hid, rfl⟩
      unfold EIx
      by_cases hi : i < l.length
      · have hx' := Row.keepF hx hf (fun b hb => hkp b hb (fun q => q))
        have hy' : Has h' bx (.cells [.int .i64 y.id, .int .i64 y.sc]) := (hkp bx ly (fun q => q)).trans hy
        obtain ⟨b1, o1, sp1, cs1, rfl, hc1, hs1⟩ := rowB hx' (by omega)
        have hR1 := hR b1 rfl
        have l1 := hc1.lt hf'
        have hg := sub_hit hs1 (List.getElem?_eq_getElem hi)
        (repeat (first | (with_reducible refine Then.go ?_) | (with_reducible refine Wx.seq ?_) | (with_reducible refine Wx.skip ?_) | (with_reducible refine Wx.block ?_) | (with_reducible refine Wx.reg ?_) | (refine Wx.condT rfl (by rfl) ?_) | ((with_reducible refine Wseq.nil ?_); intro e he; (simp (decide := true) only [kz] at he; subst he)) | ((with_reducible apply Wseq.mv); rfl; (intro v hv; (simp (decide := true) only [kw] at hv); subst hv)) | ((with_reducible apply Wseq.as); rfl; (intro v hv; (simp (decide := true) only [kw] at hv); subst hv)) | ((with_reducible apply Wseq.stg (op := Op.binOp BinOp.lss _ _ _ _)); rfl; exact to_lssT rfl rfl (by omega))))
        ((with_reducible apply Wseq.stg); (focus rfl); (focus (exact to_indexAddr (k := i) el32 rfl rfl hz (by omega))))
        ((with_reducible apply Wseq.stg); (focus rfl); (focus (exact to_loadS ag41 rfl hc1 (by omega) hg)))
        refine Wseq.callV rfl rfl rfl (clo_spec H (by ((repeat (apply Fresh.put; omega)); ((assumption)))) l[i] y hy') ?_
        rintro v h1 c1 r1 w1 ⟨rfl, hext⟩
        have kp := Kp.ext (W := fun _ => False) (h := h) (c := c) hkp hext (by omega) (fun _ _ q => q)
        have lr := Lg.extR (R := R) (c := c) (by (repeat (first | (assumption) | (apply Lg.cons; (focus ((right; (assumption)))))))) hext (fun q _ hq => by rw [hq]; exact hRy)
        have lw := Lg.extW (W := fun _ => False) (c := c) (by (repeat ((assumption)))) hext (fun _ _ q => q)
        have fr1 := hext.fresh
        have le1 := hext.c
        simp only at le1 fr1
        by_cases hid2 : l[i].id = y.id
        · rw [decide_eq_true hid2]
          (repeat (first | (with_reducible refine Then.go ?_) | (with_reducible refine Then.rt ?_) | (with_reducible refine Out.rt ?_) | (with_reducible refine Wx.seq ?_) | (with_reducible refine Wx.ret ?_) | (with_reducible refine Wx.reg ?_) | (with_reducible refine RoundE.rt ?_) | (with_reducible refine CutQ.rt ?_) | (refine Wx.condT rfl (by rfl) ?_) | ((with_reducible refine Wseq.nil ?_); intro e he; (simp (decide := true) only [kz] at he; subst he)) | ((with_reducible apply Wseq.mv); rfl; (intro v hv; (simp (decide := true) only [kw] at hv); subst hv)) | ((with_reducible apply Wseq.as); rfl; (intro v hv; (simp (decide := true) only [kw] at hv); subst hv))))
          refine ⟨.inr rfl, Wres.one rfl ⟨⟨_, rfl, ?_⟩, ?_⟩⟩
          · rw [decide_eq_true (show (0 : Int) ≤ z by omega)]
            exact (List.any_eq_true.2 ⟨l[i], List.getElem_mem hi, decide_eq_true hid2⟩).symm
          · (dsimp only; exact Ext.of (by omega) (by ((repeat (apply Fresh.put; omega)); ((assumption)))) (by (repeat ((assumption)))) (by (repeat ((assumption)))) (by (repeat ((assumption)))))
        · rw [decide_eq_false hid2]
          (repeat (first | (with_reducible refine Then.go ?_) | (with_reducible refine Out.go ?_) | (with_reducible refine Wx.skip ?_) | (with_reducible refine Wx.reg ?_) | (refine Wx.condF rfl (by rfl) ?_) | ((with_reducible refine Wseq.nil ?_); intro e he; (simp (decide := true) only [kz] at he; subst he)) | ((with_reducible apply Wseq.mv); rfl; (intro v hv; (simp (decide := true) only [kw] at hv); subst hv)) | ((with_reducible apply Wseq.stg (op := Op.binOp BinOp.add _ _ _ _)); rfl; exact to_add rfl rfl (by omega) (by omega))))
          refine RoundE.go (l.length - (i + 1)) (EIx _ l.length cap bx (z + 1) _ _ _) (by omega) (by (refine EqK.of ?_ ?_ <;> (repeat (first | (exact all_nil) | (apply all_cons; rfl))))) ⟨i + 1, z + 1, _, _, _, _, _, _, _, rfl, by omega, rfl, by omega, fr1, kp, lr, lw, ?_, by omega, rfl⟩
          intro x hx
          rw [List.take_succ_eq_append_getElem hi] at hx
          rcases List.mem_append.1 hx with hx | hx
          · exact hno x hx
          · rw [List.mem_singleton.1 hx]; exact hid2
      · (repeat (first | (with_reducible refine Then.go ?_) | (with_reducible refine Then.ex ?_) | (with_reducible refine Out.hit ?_) | (with_reducible refine Wx.seq ?_) | (with_reducible refine Wx.exit ?_) | (with_reducible refine Wx.reg ?_) | (with_reducible refine RoundE.ex ?_) | (refine Wx.condF rfl (by rfl) ?_) | ((with_reducible refine Wseq.nil ?_); intro e he; (simp (decide := true) only [kz] at he; subst he)) | ((with_reducible apply Wseq.stg (op := Op.binOp BinOp.lss _ _ _ _)); rfl; exact to_lssF rfl rfl (by omega))))
        obtain rfl : i = l.length := by omega
        subst hz
        refine CutQ.go (EIx _ l.length cap bx l.length _ _ _) (by (refine EqK.of ?_ ?_ <;> (repeat (first | (exact all_nil) | (apply all_cons; rfl))))) ⟨_, _, _, _, _, _, _, rfl, rfl, hcc, hf', hkp, (by (repeat ((assumption)))), (by (repeat ((assumption)))), ?_⟩
        rw [List.take_length] at hno
        exact List.any_eq_false.2 fun x hx => by simpa using hno x hx
  · rintro e s ⟨j5, j9, j16, h', c', rl', wl', rfl, rfl, hcc, hf', hkp, hlr, hlw, hno⟩
    unfold EIx
    (repeat (first | (with_reducible refine Then.go ?_) | (with_reducible refine Wx.seq ?_) | (with_reducible refine Wx.ret ?_) | (with_reducible refine Wx.reg ?_) | ((with_reducible refine Wseq.nil ?_); intro e he; (simp (decide := true) only [kz] at he; subst he)) | ((with_reducible apply Wseq.as); rfl; (intro v hv; (simp (decide := true) only [kw] at hv); subst hv))))
    refine ⟨.inr rfl, Wres.one rfl ⟨⟨_, rfl, by rw [hno]; rfl⟩, ?_⟩⟩
    (dsimp only; exact Ext.of (by omega) (by ((repeat (apply Fresh.put; omega)); ((assumption)))) (by (repeat ((assumption)))) (by (repeat ((assumption)))) (by (repeat ((assumption)))))

theorem contains_spec (H : Std sm) {h : T AObj} {c : Nat} {rl wl : List Nat} (hf : Fresh h c) {oa : Option Addr} {cap bx : Nat} {l : List Ht} {y : Ht} (hx : Row h (.slice oa l.length cap) l.length 2 (flatH l)) (hy : Has h bx (.cells [.int .i64 y.id, .int .i64 y.sc])) (hb : l.length ≤ 100000) (R : Nat → Prop) (hR : ∀ x, blkOf (.slice oa l.length cap) = some x → R x) (hRy : R bx) :
    ∃ r s', FnTo (Cs sm) eg 153 [.slice oa l.length cap, cloV bx] ⟨h, c, rl, wl⟩ r s' ∧ (r = .bool (l.any (fun x => decide (x.id = y.id)))) ∧ Ext ⟨h, c, rl, wl⟩ s' R (fun _ => False) := by
  refine Fn.go (H 153 rfl) ex153 fn153 km153 rfl rfl ?_
  intro e he
  (simp (decide := true) only [kz] at he; subst he)
  (repeat (first | (with_reducible refine Then.go ?_) | (with_reducible refine Wx.seq ?_) | (with_reducible refine Wx.reg ?_) | ((with_reducible refine Wseq.nil ?_); intro e he; (simp (decide := true) only [kz] at he; subst he)) | ((with_reducible apply Wseq.mv); rfl; (intro v hv; (simp (decide := true) only [kw] at hv); subst hv)) | ((with_reducible apply Wseq.as); rfl; (intro v hv; (simp (decide := true) only [kw] at hv); subst hv))))
  refine Wseq.call rfl rfl (idxf_spec H (by ((repeat (apply Fresh.put; omega)); ((assumption)))) hx hy hb R hR hRy) ?_
  rintro v h1 c1 r1 w1 ⟨⟨z, rfl, hz⟩, hext⟩
  have kp := Kp.ext (W := fun _ => False) (h := h) (c := c) (by (repeat ((exact Kp.refl)))) hext (by omega) (fun _ _ q => q)
  have lr := Lg.extR (R := R) (c := c) (by (repeat ((exact Lg.nil)))) hext (fun _ _ hq => hq)
  have lw := Lg.extW (W := fun _ => False) (c := c) (by (repeat ((exact Lg.nil)))) hext (fun _ _ q => q)
  have fr1 := hext.fresh
  have le1 := hext.c
  simp only at le1 fr1
  ((with_reducible apply Wseq.stg); (focus rfl); (focus (exact to_geq rfl rfl)))
  (repeat (first | (with_reducible refine Then.go ?_) | (with_reducible refine Wx.ret ?_) | ((with_reducible refine Wseq.nil ?_); intro e he; (simp (decide := true) only [kz] at he; subst he)) | ((with_reducible apply Wseq.as); rfl; (intro v hv; (simp (decide := true) only [kw] at hv); subst hv))))
  refine ⟨.inr rfl, Wres.one rfl ⟨?_, ?_⟩⟩
  · rw [← hz]; rfl
  · (dsimp only; exact Ext.of (by omega) (by ((repeat (apply Fresh.put; omega)); ((assumption)))) (by (repeat ((assumption)))) (by (repeat ((assumption)))) (by (repeat ((assumption)))))
end Go.Ab.Seat
end
