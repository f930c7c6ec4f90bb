/- Vectors: alike, cut to size; stores: the next one (the abstract machine). -/
import Derived.Test.YtcnfbfiakkjabaaGreatDoorDST5
set_option linter.unusedVariables false
set_option linter.unusedSimpArgs false
namespace Go.Ab.Seat
open Go.Extern Go.Proofs
set_option linter.unusedSimpArgs false
set_option linter.unusedVariables false
set_option maxRecDepth 4000
set_option pp.deepTerms false
set_option pp.deepTerms.threshold 6
variable {sm : Nat → Option (List Value → M Value)}

def EQ (a : Option Addr) (n k : Nat) (b : Option Addr) (k' : Nat) (z : Int) (j5 j14 j24 : Value) : L :=
  .cons 0 (.slice a n k) (.cons 1 (.slice b n k') (.cons 4 (.bool false) (.cons 5 j5 (.cons 10 (.bool false) (.cons 12 (.int .i64 (n : Int)) (.cons 13 (.int .i64 z) (.cons 14 j14 (.cons 24 j24 .nil))))))))

theorem eq135_spec (H : Std sm) {h : T AObj} {c : Nat} {rl wl : List Nat} (hf : Fresh h c) {a b : Option Addr} {n k k' : Nat} {zs : List Int} (hn : zs.length = n) (hx : Row h (.slice a n k) n 1 (zs.map (Value.int .i32))) (hy : Row h (.slice b n k') n 1 (zs.map (Value.int .i32))) (hb : n ≤ big) (R : Nat → Prop) (hR : ∀ x, blkOf (.slice a n k) = some x ∨ blkOf (.slice b n k') = some x → R x) :
    ∃ r s', FnTo (Cs sm) eg 54 [.slice a n k, .slice b n k'] ⟨h, c, rl, wl⟩ r s' ∧ r = .bool true ∧ Ext ⟨h, c, rl, wl⟩ s' R (fun _ => False) := by
  have hbig : big ≤ 1000000000000 := by unfold big; omega
  refine Fn.go (H 54 rfl) ex54 fn54 km54 rfl rfl ?_
  intro e he
  (simp (decide := true) only [kz] at he; subst he)
  (repeat (first | (with_reducible refine Then.go ?_) | (with_reducible refine Wx.seq ?_) | (with_reducible refine Wx.skip ?_) | (with_reducible refine Wx.block ?_) | (with_reducible refine Wx.reg ?_) | (refine Wx.condF rfl (by rfl) ?_) | ((with_reducible refine Wseq.nil ?_); intro e he; (simp (decide := true) only [kz] at he; subst he)) | ((with_reducible apply Wseq.mv); rfl; (intro v hv; (simp (decide := true) only [kw] at hv); subst hv)) | ((with_reducible apply Wseq.as); rfl; (intro v hv; (simp (decide := true) only [kw] at hv); subst hv)) | ((with_reducible apply Wseq.stg (op := Op.call ⟨Callee.builtin Builtin.len, _, _⟩)); rfl; exact to_lenS (sl_ rfl) rfl) | ((with_reducible apply Wseq.stg (op := Op.binOp BinOp.neq _ _ _ _)); rfl; exact to_neIF rfl rfl (by omega))))
  refine Wx.loopE (fun k1 e s => ∃ (i : Nat) (z : Int) (rl' : List Nat) (j5 j14 j24 : Value), e = EQ a n k b k' z j5 j14 j24 ∧ z = i ∧ s = ⟨h, c, rl', []⟩ ∧ Lg c R rl' ∧ i ≤ n ∧ k1 = n - i) n (EQ a n k b k' 0 top top top) (by (repeat (first | (exact Resp.fn) | (apply Resp.then) | (apply Resp.out)))) ?_ ?_ ?_
  · unfold EQ
    (refine EqK.of ?_ ?_ <;> (repeat (first | (exact all_nil) | (apply all_cons; rfl))))
  · exact ⟨0, 0, _, _, _, _, rfl, rfl, rfl, (by (repeat ((exact Lg.nil)))), by omega, rfl⟩
  · rintro k1 e s ⟨i, z, rl', j5, j14, j24, rfl, hz, rfl, hlr, hin, rfl⟩
    unfold EQ
    by_cases hi : i < n
    · have hzs : (zs.map (Value.int .i32))[i]? = some (.int .i32 zs[i]) := by simp
      obtain ⟨b1, o1, sp1, cs1, rfl, hc1, hn1⟩ := rowCell hx (j := i * 1) (by omega) (by rw [Nat.mul_one]; exact hzs)
      obtain ⟨b2, o2, sp2, cs2, rfl, hc2, hn2⟩ := rowCell hy (j := i * 1) (by omega) (by rw [Nat.mul_one]; exact hzs)
      have hR1 := hR b1 (.inl rfl)
      have hR2 := hR b2 (.inr rfl)
      have l1 := hc1.lt hf
      have l2 := hc2.lt hf
      (repeat (first | (with_reducible refine Then.go ?_) | (with_reducible refine Wx.seq ?_) | (with_reducible refine Wx.skip ?_) | (with_reducible refine Wx.block ?_) | (with_reducible refine Wx.reg ?_) | (refine Wx.dreg rfl ?_) | (refine Wx.condT rfl (by rfl) ?_) | ((with_reducible refine Wseq.nil ?_); intro e he; (simp (decide := true) only [kz] at he; subst he)) | ((with_reducible apply Wseq.mv); rfl; (intro v hv; (simp (decide := true) only [kw] at hv); subst hv)) | ((with_reducible apply Wseq.as); rfl; (intro v hv; (simp (decide := true) only [kw] at hv); subst hv)) | ((with_reducible apply Wseq.stg (op := Op.binOp BinOp.lss _ _ _ _)); rfl; exact to_lssT rfl rfl (by omega)) | ((with_reducible apply Wtr.mv); rfl; (intro v hv; (simp (decide := true) only [kw] at hv); subst hv))))
      ((with_reducible apply Wtr.stq); (focus rfl); (focus (exact to_indexAddr (k := i) el24 rfl rfl hz (by omega))))
      ((with_reducible apply Wtr.stx); (focus rfl); (focus (exact to_load (pl_ rfl) rfl hc1 (by omega) hn1)); repeat ((exact all_nil)))
      (repeat (((with_reducible apply Wtr.mv); rfl; (intro v hv; (simp (decide := true) only [kw] at hv); subst hv))))
      ((with_reducible apply Wtr.stq); (focus rfl); (focus (exact to_indexAddr (k := i) el24 rfl rfl hz (by omega))))
      ((with_reducible apply Wtr.stx); (focus rfl); (focus (exact to_load (pl_ rfl) rfl hc2 (by omega) hn2)); (focus (repeat (first | (exact all_nil) | (apply all_cons; (focus ((right; exact ApartP.rr))))))))
      ((with_reducible apply Wtr.stq); (focus rfl); (focus (exact to_neIF rfl rfl rfl)))
      (repeat (first | (with_reducible refine Then.go ?_) | (with_reducible refine Out.go ?_) | (with_reducible refine Wx.skip ?_) | (with_reducible refine Wx.reg ?_) | (refine Wx.condF rfl (by rfl) ?_) | ((with_reducible refine Wseq.nil ?_); intro e he; (simp (decide := true) only [kz] at he; subst he)) | ((with_reducible apply Wseq.mv); rfl; (intro v hv; (simp (decide := true) only [kw] at hv); subst hv)) | ((with_reducible apply Wseq.stg (op := Op.binOp BinOp.add _ _ _ _)); rfl; exact to_add rfl rfl (by omega) (by omega)) | ((with_reducible refine Wtr.nil ?_); intro e he; (simp (decide := true) only [kz] at he; subst he))))
      refine RoundE.go (n - (i + 1)) (EQ _ n k _ k' (z + 1) _ _ _) (by omega) (by (refine EqK.of ?_ ?_ <;> (repeat (first | (exact all_nil) | (apply all_cons; rfl))))) ⟨i + 1, z + 1, _, _, _, _, rfl, by omega, rfl, (by (repeat (first | (exact Lg.nil) | (assumption) | (apply Lg.cons; (focus ((right; (assumption))))) | (apply Lg.app)))), by omega, rfl⟩
    · (repeat (first | (with_reducible refine Then.go ?_) | (with_reducible refine Then.ex ?_) | (with_reducible refine Out.hit ?_) | (with_reducible refine Wx.seq ?_) | (with_reducible refine Wx.exit ?_) | (with_reducible refine Wx.ret ?_) | (with_reducible refine Wx.reg ?_) | (with_reducible refine RoundE.ex ?_) | (refine Wx.condF rfl (by rfl) ?_) | ((with_reducible refine Wseq.nil ?_); intro e he; (simp (decide := true) only [kz] at he; subst he)) | ((with_reducible apply Wseq.as); rfl; (intro v hv; (simp (decide := true) only [kw] at hv); subst hv)) | ((with_reducible apply Wseq.stg (op := Op.binOp BinOp.lss _ _ _ _)); rfl; exact to_lssF rfl rfl (by omega))))
      refine ⟨.inr rfl, Wres.one rfl ⟨rfl, ?_⟩⟩
      (dsimp only; exact Ext.of (by omega) (by ((repeat (apply Fresh.put; omega)); ((assumption)))) (by (repeat ((exact Kp.refl)))) (by (repeat ((assumption)))) (by (repeat ((exact Lg.nil)))))

theorem eq_spec (H : Std sm) {h : T AObj} {c : Nat} {rl wl : List Nat} (hf : Fresh h c) {a b : Option Addr} {n k k' : Nat} {zs : List Int} (hn : zs.length = n) (hx : Row h (.slice a n k) n 1 (zs.map (Value.int .i32))) (hy : Row h (.slice b n k') n 1 (zs.map (Value.int .i32))) (hb : n ≤ big) (R : Nat → Prop) (hR : ∀ x, blkOf (.slice a n k) = some x ∨ blkOf (.slice b n k') = some x → R x) :
    ∃ r s', FnTo (Cs sm) eg 21 [.slice a n k, .slice b n k'] ⟨h, c, rl, wl⟩ r s' ∧ r = .bool true ∧ Ext ⟨h, c, rl, wl⟩ s' R (fun _ => False) := by
  refine Fn.go (H 21 rfl) ex21 fn21 km21 rfl rfl ?_
  intro e he
  (simp (decide := true) only [kz] at he; subst he)
  (repeat (first | (with_reducible refine Then.go ?_) | (with_reducible refine Wx.seq ?_) | (with_reducible refine Wx.reg ?_) | ((with_reducible refine Wseq.nil ?_); intro e he; (simp (decide := true) only [kz] at he; subst he)) | ((with_reducible apply Wseq.mv); rfl; (intro v hv; (simp (decide := true) only [kw] at hv); subst hv)) | ((with_reducible apply Wseq.as); rfl; (intro v hv; (simp (decide := true) only [kw] at hv); subst hv))))
  refine Wseq.call rfl rfl (eq135_spec H (by ((repeat (apply Fresh.put; omega)); ((assumption)))) hn hx hy hb R hR) ?_
  rintro v h1 c1 r1 w1 ⟨rfl, hext⟩
  have q1 := hext.c
  dsimp only at q1
  have hf1 : Fresh h1 c1 := hext.fresh
  have kp := Kp.ext (W := fun _ => False) (h := h) (c := c) (by (repeat ((exact Kp.refl)))) hext (by omega) (fun _ _ q => q)
  have lr := Lg.extR (R := R) (c := c) (by (repeat ((exact Lg.nil)))) hext (fun _ _ q => q)
  have lw := Lg.extW (W := fun _ => False) (c := c) (by (repeat ((exact Lg.nil)))) hext (fun _ _ q => q)
  (repeat (first | (with_reducible refine Then.go ?_) | (with_reducible refine Wx.ret ?_) | ((with_reducible refine Wseq.nil ?_); intro e he; (simp (decide := true) only [kz] at he; subst he)) | ((with_reducible apply Wseq.as); rfl; (intro v hv; (simp (decide := true) only [kw] at hv); subst hv))))
  refine ⟨.inr rfl, Wres.one rfl ⟨rfl, ?_⟩⟩
  (dsimp only; exact Ext.of (by omega) (by ((repeat (apply Fresh.put; omega)); ((assumption)))) (by (repeat ((assumption)))) (by (repeat ((assumption)))) (by (repeat ((assumption)))))

/-- A coordinate cut to size. -/
def clampZ (z : Int) : Int := max (-1048576) (min z 1048576)
def vecC (zs : List Int) (dim i : Nat) : List Value := (List.range dim).map fun j => if j < i then .int .i32 (clampZ (zs.getD j 0)) else .int .i32 0
def vecZ (zs : List Int) (dim : Nat) : List Int := (List.range dim).map fun j => clampZ (zs.getD j 0)
theorem vecZ_len (zs : List Int) (dim : Nat) : (vecZ zs dim).length = dim := by simp [vecZ]
theorem vecC_len (zs : List Int) (dim i : Nat) : (vecC zs dim i).length = dim := by simp [vecC]

theorem vecC_zero (zs : List Int) (dim : Nat) : rep [Value.int .i32 0] dim = vecC zs dim 0 := by
  refine List.ext_getElem? fun i => ?_
  rw [rep_get]
  simp only [vecC, List.length_singleton, Nat.mul_one, Nat.mod_one, List.getElem?_map, List.getElem?_range', Nat.not_lt_zero, if_false]
  by_cases h : i < dim
  · rw [if_pos h, List.getElem?_range h]; rfl
  · rw [if_neg h, List.getElem?_eq_none (by simp; omega)]; rfl

theorem vecC_step (zs : List Int) (dim i : Nat) (hi : i < dim) : setMany [.int .i32 (clampZ (zs.getD i 0))] (vecC zs dim i) (0 + i * 1) = some (vecC zs dim (i + 1)) := by
  have h := setMany_eq (vecC zs dim i) (0 + i * 1) [.int .i32 (clampZ (zs.getD i 0))] (by rw [vecC_len]; simp; omega) (all_cons rfl all_nil)
  rw [h]
  congr 1
  refine List.ext_getElem? fun j => ?_
  rw [show 0 + i * 1 = i by omega]
  have e : ∀ m j, (vecC zs dim m)[j]? = if j < dim then some (if j < m then .int .i32 (clampZ (zs.getD j 0)) else .int .i32 0) else none := by
    intro m j
    unfold vecC
    rw [List.getElem?_map]
    by_cases h : j < dim
    · rw [List.getElem?_range h, if_pos h]; rfl
    · rw [List.getElem?_eq_none (by simp; omega), if_neg h]; rfl
  rw [e (i + 1) j]
  rcases Nat.lt_trichotomy j i with hj | hj | hj
  · rw [List.append_assoc, List.getElem?_append_left (by rw [List.length_take, vecC_len]; omega), List.getElem?_take_of_lt hj, e i j, if_pos hj, if_pos (by omega : j < i + 1)]
  · subst hj
    rw [List.append_assoc, List.getElem?_append_right (by rw [List.length_take, vecC_len]; omega), List.length_take, vecC_len, show j - min j dim = 0 by omega, if_pos hi, if_pos (by omega)]
    rfl
  · rw [List.getElem?_append_right (by rw [List.length_append, List.length_take, vecC_len]; simp; omega), List.length_append, List.length_take, vecC_len, List.getElem?_drop, show i + [Value.int .i32 (clampZ (zs.getD i 0))].length + (j - (min i dim + [Value.int .i32 (clampZ (zs.getD i 0))].length)) = j by simp; omega, e i j, if_neg (by omega : ¬j < i), if_neg (by omega : ¬j < i + 1)]

theorem vecC_end (zs : List Int) (dim i : Nat) (hi : dim ≤ i ∨ zs.length ≤ i) : vecC zs dim i = (vecZ zs dim).map (Value.int .i32) := by
  unfold vecC vecZ
  rw [List.map_map]
  refine List.map_congr_left fun j hj => ?_
  have hj := List.mem_range.1 hj
  by_cases h : j < i
  · rw [if_pos h]; rfl
  · rw [if_neg h]
    have : zs.getD j 0 = 0 := by rw [List.getD_eq_getElem?_getD, List.getElem?_eq_none (by omega)]; rfl
    show Value.int .i32 0 = Value.int .i32 (clampZ (zs.getD j 0))
    rw [this]; rfl

def EV (a : Option Addr) (n k dim c : Nat) (z : Int) (j17 : Value) : L :=
  .cons 0 (.slice a n k) (.cons 1 (.int .i64 (dim : Int)) (.cons 4 (.slice none 0 0) (.cons 5 (.slice (some ⟨c, 0, none⟩) dim dim) (.cons 6 (.int .i64 z) (.cons 17 j17 .nil)))))

theorem vec_spec (H : Std sm) {h : T AObj} {c : Nat} {rl wl : List Nat} (hf : Fresh h c) {a : Option Addr} {n k : Nat} {zs : List Int} (hn : zs.length = n) (hx : Row h (.slice a n k) n 1 (zs.map (Value.int .i32))) (dim : Nat) (hd : dim ≤ 1000) (R : Nat → Prop) (hR : ∀ x, blkOf (.slice a n k) = some x → R x) :
    ∃ r s', FnTo (Cs sm) eg 13 [.slice a n k, .int .i64 (dim : Int)] ⟨h, c, rl, wl⟩ r s' ∧ (r = .slice (some ⟨c, 0, none⟩) dim dim ∧ Has s'.h c (.cells ((vecZ zs dim).map (Value.int .i32)))) ∧ Ext ⟨h, c, rl, wl⟩ s' R (fun _ => False) := by
  refine Fn.go (H 13 rfl) ex13 fn13 km13 rfl rfl ?_
  intro e he
  (simp (decide := true) only [kz] at he; subst he)
  (repeat (first | (with_reducible refine Then.go ?_) | (with_reducible refine Wx.seq ?_) | (with_reducible refine Wx.reg ?_) | ((with_reducible refine Wseq.nil ?_); intro e he; (simp (decide := true) only [kz] at he; subst he)) | ((with_reducible apply Wseq.mv); rfl; (intro v hv; (simp (decide := true) only [kw] at hv); subst hv)) | ((with_reducible apply Wseq.as); rfl; (intro v hv; (simp (decide := true) only [kw] at hv); subst hv))))
  ((with_reducible apply Wseq.stg); (focus rfl); (focus (exact to_makeSlice (a := dim) (b := dim) ro24 rfl rfl rfl rfl (by omega) (by unfold big; omega) (by ((repeat (apply Fresh.put; omega)); ((assumption)))))))
  (repeat (first | (with_reducible refine Then.go ?_) | (with_reducible refine Wx.seq ?_) | (with_reducible refine Wx.block ?_) | (with_reducible refine Wx.reg ?_) | ((with_reducible refine Wseq.nil ?_); intro e he; (simp (decide := true) only [kz] at he; subst he)) | ((with_reducible apply Wseq.as); rfl; (intro v hv; (simp (decide := true) only [kw] at hv); subst hv))))
  refine Wx.loopE (fun k1 e s => ∃ (i : Nat) (z : Int) (h' : T AObj) (rl' wl' : List Nat) (j17 : Value), e = EV a n k dim c z j17 ∧ z = i ∧ s = ⟨h', c + 1, rl', wl'⟩ ∧ Fresh h' (c + 1) ∧ Kp h h' c (fun _ => False) ∧ Has h' c (.cells (vecC zs dim i)) ∧ Lg c R rl' ∧ Lg c (fun _ => False) wl' ∧ i ≤ dim ∧ k1 = dim - i) dim (EV a n k dim c 0 top) (by (repeat (first | (exact Resp.fn) | (apply Resp.then) | (apply Resp.out)))) ?_ ?_ ?_
  · unfold EV
    (refine EqK.of ?_ ?_ <;> (repeat (first | (exact all_nil) | (apply all_cons; rfl))))
  · exact ⟨0, 0, _, _, _, _, rfl, rfl, rfl, (by ((repeat (apply Fresh.put; omega)); ((exact Fresh.up (by assumption) (by omega))))), (by (repeat (first | (exact Kp.refl) | (apply Kp.set; (focus (left; omega)))))), (by rw [← vecC_zero]; exact Has.same), (by (repeat ((exact Lg.nil)))), (by (repeat ((exact Lg.nil)))), by omega, rfl⟩
  · rintro k1 e s ⟨i, z, h', rl', wl', j17, rfl, hz, rfl, hf', hkp, hB, hlr, hlw, hid, rfl⟩
    unfold EV
    by_cases hi : i < dim
    · by_cases hi2 : i < n
      · have hzs : (zs.map (Value.int .i32))[i]? = some (.int .i32 (zs.getD i 0)) := by
          rw [List.getElem?_map, List.getD_eq_getElem?_getD, List.getElem?_eq_getElem (by omega : i < zs.length)]; rfl
        obtain ⟨b1, o1, sp1, cs1, rfl, hc1, hn1⟩ := rowCell hx (j := i * 1) (by omega) (by rw [Nat.mul_one]; exact hzs)
        have hR1 := hR b1 rfl
        have l1 := hc1.lt hf
        have hc1' : Cel h' b1 cs1 := by unfold Cel Has at hc1 ⊢; rw [hkp b1 l1 (fun q => q)]; exact hc1
        (repeat (first | (with_reducible refine Then.go ?_) | (with_reducible refine Wx.seq ?_) | (with_reducible refine Wx.skip ?_) | (with_reducible refine Wx.block ?_) | (with_reducible refine Wx.reg ?_) | (refine Wx.condT rfl (by rfl) ?_) | ((with_reducible refine Wseq.nil ?_); intro e he; (simp (decide := true) only [kz] at he; subst he)) | ((with_reducible apply Wseq.mv); rfl; (intro v hv; (simp (decide := true) only [kw] at hv); subst hv)) | ((with_reducible apply Wseq.pkT); rfl; rfl; (intro v hv; (simp (decide := true) only [kw] at hv); subst hv)) | ((with_reducible apply Wseq.stg (op := Op.call ⟨Callee.builtin Builtin.len, _, _⟩)); rfl; exact to_lenS (sl_ rfl) rfl) | ((with_reducible apply Wseq.stg (op := Op.binOp BinOp.lss _ _ _ _)); rfl; exact to_lssT rfl rfl (by omega))))
        ((with_reducible apply Wseq.stg); (focus rfl); (focus (exact to_indexAddr (k := i) el24 rfl rfl hz (by omega))))
        ((with_reducible apply Wseq.stg); (focus rfl); (focus (exact to_load (pl_ rfl) rfl hc1' (by omega) hn1)))
        (repeat (first | ((with_reducible apply Wseq.stg (op := Op.call ⟨Callee.builtin Builtin.min, _, _⟩)); rfl; exact to_min rfl rfl) | ((with_reducible apply Wseq.stg (op := Op.call ⟨Callee.builtin Builtin.max, _, _⟩)); rfl; exact to_max rfl rfl)))
        ((with_reducible apply Wseq.stg); (focus rfl); (focus (exact to_indexAddr (k := i) el24 rfl rfl hz (by omega))))
        ((with_reducible apply Wseq.so); rfl; exact (sz_ rfl); rfl; exact hB; omega; (intro v hv; (simp (decide := true) only [kw] at hv); subst hv); refine ⟨_, _, (by ((exact cellsA_agg _))), rfl, vecC_step zs dim i hi, ?_⟩)
        (repeat (first | (with_reducible refine Then.go ?_) | (with_reducible refine Out.go ?_) | (with_reducible refine Wx.reg ?_) | ((with_reducible refine Wseq.nil ?_); intro e he; (simp (decide := true) only [kz] at he; subst he)) | ((with_reducible apply Wseq.mv); rfl; (intro v hv; (simp (decide := true) only [kw] at hv); subst hv)) | ((with_reducible apply Wseq.as); rfl; (intro v hv; (simp (decide := true) only [kw] at hv); subst hv)) | ((with_reducible apply Wseq.stg (op := Op.binOp BinOp.add _ _ _ _)); rfl; exact to_add rfl rfl (by omega) (by omega))))
        refine RoundE.go (dim - (i + 1)) (EV _ n k dim c (z + 1) _) (by omega) (by (refine EqK.of ?_ ?_ <;> (repeat (first | (exact all_nil) | (apply all_cons; rfl))))) ⟨i + 1, z + 1, _, _, _, _, rfl, by omega, rfl, (by ((repeat (apply Fresh.put; omega)); ((assumption)))), (by (repeat (first | (assumption) | (apply Kp.set; (focus (left; omega)))))), Has.same, (by (repeat (first | (assumption) | (apply Lg.cons; (focus (first | (left; omega) | (right; (assumption)))))))), (by (repeat (first | (assumption) | (apply Lg.cons; (focus (left; omega)))))), by omega, rfl⟩
      · (repeat (first | (with_reducible refine Then.go ?_) | (with_reducible refine Then.ex ?_) | (with_reducible refine Out.hit ?_) | (with_reducible refine Wx.seq ?_) | (with_reducible refine Wx.exit ?_) | (with_reducible refine Wx.ret ?_) | (with_reducible refine Wx.reg ?_) | (with_reducible refine RoundE.ex ?_) | (refine Wx.condF rfl (by rfl) ?_) | ((with_reducible refine Wseq.nil ?_); intro e he; (simp (decide := true) only [kz] at he; subst he)) | ((with_reducible apply Wseq.mv); rfl; (intro v hv; (simp (decide := true) only [kw] at hv); subst hv)) | ((with_reducible apply Wseq.as); rfl; (intro v hv; (simp (decide := true) only [kw] at hv); subst hv)) | ((with_reducible apply Wseq.pkT); rfl; rfl; (intro v hv; (simp (decide := true) only [kw] at hv); subst hv)) | ((with_reducible apply Wseq.stg (op := Op.call ⟨Callee.builtin Builtin.len, _, _⟩)); rfl; exact to_lenS (sl_ rfl) rfl) | ((with_reducible apply Wseq.stg (op := Op.binOp BinOp.lss _ _ _ _)); rfl; exact to_lssT rfl rfl (by omega)) | ((with_reducible apply Wseq.stg (op := Op.binOp BinOp.lss _ _ _ _)); rfl; exact to_lssF rfl rfl (by omega))))
        refine ⟨.inr rfl, Wres.one rfl ⟨⟨rfl, ?_⟩, ?_⟩⟩
        · rw [← vecC_end zs dim i (.inr (by omega))]; exact hB
        · (dsimp only; exact Ext.of (by omega) (by ((repeat (apply Fresh.put; omega)); ((assumption)))) (by (repeat ((assumption)))) (by (repeat ((assumption)))) (by (repeat ((assumption)))))
    · (repeat (first | (with_reducible refine Then.go ?_) | (with_reducible refine Then.ex ?_) | (with_reducible refine Out.hit ?_) | (with_reducible refine Wx.seq ?_) | (with_reducible refine Wx.exit ?_) | (with_reducible refine Wx.ret ?_) | (with_reducible refine Wx.reg ?_) | (with_reducible refine RoundE.ex ?_) | (refine Wx.condF rfl (by rfl) ?_) | ((with_reducible refine Wseq.nil ?_); intro e he; (simp (decide := true) only [kz] at he; subst he)) | ((with_reducible apply Wseq.mv); rfl; (intro v hv; (simp (decide := true) only [kw] at hv); subst hv)) | ((with_reducible apply Wseq.as); rfl; (intro v hv; (simp (decide := true) only [kw] at hv); subst hv)) | ((with_reducible apply Wseq.pkF); rfl; rfl; (intro v hv; (simp (decide := true) only [kw] at hv); subst hv)) | ((with_reducible apply Wseq.stg (op := Op.binOp BinOp.lss _ _ _ _)); rfl; exact to_lssF rfl rfl (by omega)) | (refine Wseq.no rfl ?_)))
      refine ⟨.inr rfl, Wres.one rfl ⟨⟨rfl, ?_⟩, ?_⟩⟩
      · rw [← vecC_end zs dim i (.inl (by omega))]; exact hB
      · (dsimp only; exact Ext.of (by omega) (by ((repeat (apply Fresh.put; omega)); ((assumption)))) (by (repeat ((assumption)))) (by (repeat ((assumption)))) (by (repeat ((assumption)))))
end Go.Ab.Seat
