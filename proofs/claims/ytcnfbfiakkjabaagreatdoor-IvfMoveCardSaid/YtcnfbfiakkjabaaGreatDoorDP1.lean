import Derived.Test.YtcnfbfiakkjabaaGreatDoorDN0
import Derived.Test.YtcnfbfiakkjabaaGreatDoorDST5v
set_option linter.unusedVariables false
set_option linter.unusedSimpArgs false
section
/- Middles, plainly: the whole part of a mean, towards below; the first ones that are unlike; rounds. -/
namespace Go.Ab.Seat
open Go.Extern Go.Proofs
set_option linter.unusedVariables false

/-- The whole part, towards below. -/
def flZ (a b : Int) : Int := if a.tmod b < 0 then a.tdiv b - 1 else a.tdiv b
theorem flZ_bnd {a b B : Int} (hb : 0 < b) (h1 : -(B * b) ≤ a) (h2 : a ≤ B * b) : -B ≤ flZ a b ∧ flZ a b ≤ B := by
  have e := Int.mul_tdiv_add_tmod a b
  have t1 := Int.tmod_lt_of_pos a hb
  have t2 : -b < a.tmod b := by
    have := Int.neg_tmod a b
    have h3 := Int.tmod_lt_of_pos (-a) hb
    omega
  have key : b * flZ a b ≤ a ∧ a < b * flZ a b + b := by
    unfold flZ
    split
    · rw [Int.mul_sub, Int.mul_one]; omega
    · omega
  constructor
  · refine Classical.byContradiction fun q => ?_
    have h3 : flZ a b ≤ -B - 1 := by omega
    have h4 := Int.mul_le_mul_of_nonneg_left h3 (show (0 : Int) ≤ b by omega)
    rw [Int.mul_sub, Int.mul_one, Int.mul_neg, Int.mul_comm b B] at h4
    omega
  · refine Classical.byContradiction fun q => ?_
    have h3 : B + 1 ≤ flZ a b := by omega
    have h4 := Int.mul_le_mul_of_nonneg_left h3 (show (0 : Int) ≤ b by omega)
    rw [Int.mul_add, Int.mul_one, Int.mul_comm b B] at h4
    omega

/-- A sum of coordinates. -/
def sumZ (i : Nat) (vs : List (List Int)) : Int := vs.foldl (fun s v => s + v.getD i 0) 0
theorem sumZ_take {i k : Nat} {vs : List (List Int)} (hk : k < vs.length) : sumZ i (vs.take (k + 1)) = sumZ i (vs.take k) + vs[k].getD i 0 := by
  unfold sumZ
  rw [List.take_succ_eq_append_getElem hk, List.foldl_append]; rfl
/-- Vectors of so many numbers, cut to size. -/
def Vok (dim : Nat) (vs : List (List Int)) : Prop := ∀ v ∈ vs, v.length = dim ∧ Bnd v
theorem sumZ_bnd {i dim : Nat} {vs : List (List Int)} (h : Vok dim vs) : ∀ k, k ≤ vs.length → -(1048576 * (k : Int)) ≤ sumZ i (vs.take k) ∧ sumZ i (vs.take k) ≤ 1048576 * (k : Int)
  | 0, _ => by simp [sumZ]
  | k + 1, hk => by
    have h1 := sumZ_bnd (i := i) h k (by omega)
    have h2 := (h _ (List.getElem_mem (show k < vs.length by omega))).2 i
    rw [sumZ_take (by omega)]
    omega
/-- The middle of some; it stays, if there are none. -/
def midZ (m : List Int) (vs : List (List Int)) : List Int := if vs.length = 0 then m else (List.range m.length).map fun i => flZ (sumZ i vs) vs.length
theorem midZ_len (m : List Int) (vs : List (List Int)) : (midZ m vs).length = m.length := by
  unfold midZ; split <;> simp
theorem flZ_sum {dim i : Nat} {vs : List (List Int)} (hv : Vok dim vs) (h0 : vs.length ≠ 0) : -1048576 ≤ flZ (sumZ i vs) vs.length ∧ flZ (sumZ i vs) vs.length ≤ 1048576 := by
  have h1 := sumZ_bnd (i := i) hv vs.length (Nat.le_refl _)
  rw [List.take_length] at h1
  exact flZ_bnd (by omega) (by omega) (by omega)
theorem midZ_ok {dim : Nat} {m : List Int} {vs : List (List Int)} (hm : m.length = dim ∧ Bnd m) (hv : Vok dim vs) : (midZ m vs).length = dim ∧ Bnd (midZ m vs) := by
  refine ⟨by rw [midZ_len]; exact hm.1, fun i => ?_⟩
  unfold midZ
  split
  · exact hm.2 i
  · rename_i h0
    rw [List.getD_eq_getElem?_getD, List.getElem?_map]
    cases h : (List.range m.length)[i]? with
    | none => simp
    | some j => exact flZ_sum hv h0

/-- One more, if it is unlike those that there are. -/
def addM (n : Nat) (ms : List (List Int)) (v : List Int) : List (List Int) := if ms.length < n ∧ v ∉ ms then ms ++ [v] else ms
def fstM (n : Nat) (vs : List (List Int)) : List (List Int) := vs.foldl (addM n) []
theorem fstM_take {n k : Nat} {vs : List (List Int)} (hk : k < vs.length) : fstM n (vs.take (k + 1)) = addM n (fstM n (vs.take k)) vs[k] := by
  unfold fstM
  rw [List.take_succ_eq_append_getElem hk, List.foldl_append]; rfl
theorem addM_len {n : Nat} {ms : List (List Int)} {v : List Int} (h : ms.length ≤ n) : (addM n ms v).length ≤ n := by
  unfold addM
  split
  · rename_i q; rw [List.length_append]; show _ + 1 ≤ n; omega
  · exact h
theorem addM_ok {n dim : Nat} {ms : List (List Int)} {v : List Int} (h : Vok dim ms) (hv : v.length = dim ∧ Bnd v) : Vok dim (addM n ms v) := by
  unfold addM
  split
  · intro x hx
    rcases List.mem_append.1 hx with hx | hx
    · exact h x hx
    · rw [List.mem_singleton.1 hx]; exact hv
  · exact h
theorem fstM_ok {n dim : Nat} {vs : List (List Int)} (hv : Vok dim vs) : ∀ k, k ≤ vs.length → (fstM n (vs.take k)).length ≤ n ∧ Vok dim (fstM n (vs.take k))
  | 0, _ => ⟨Nat.zero_le _, fun v hv => by cases hv⟩
  | k + 1, hk => by
    obtain ⟨h1, h2⟩ := fstM_ok (n := n) hv k (by omega)
    rw [fstM_take (by omega)]
    exact ⟨addM_len h1, addM_ok h2 (hv _ (List.getElem_mem _))⟩

/-- Those that a middle is the nearest one to. -/
def ofM (vs ms : List (List Int)) (i : Nat) : List (List Int) := vs.filter fun v => decide (nearZ ms v = (i : Int))
/-- A round: as many of the middles as k are moved. -/
def rndK (vs ms : List (List Int)) (k : Nat) : List (List Int) := (List.range ms.length).map fun i => if i < k then midZ (ms.getD i []) (ofM vs ms i) else ms.getD i []
def rndM (vs ms : List (List Int)) : List (List Int) := rndK vs ms ms.length
def midsZ (n : Nat) (vs : List (List Int)) : Nat → List (List Int)
  | 0 => fstM n vs
  | t + 1 => rndM vs (midsZ n vs t)
theorem rndK_len (vs ms : List (List Int)) (k : Nat) : (rndK vs ms k).length = ms.length := by unfold rndK; simp
theorem rndK_at {vs ms : List (List Int)} {k i : Nat} (hi : i < ms.length) : (rndK vs ms k)[i]? = some (if i < k then midZ ms[i] (ofM vs ms i) else ms[i]) := by
  unfold rndK
  rw [List.getElem?_map, List.getElem?_eq_getElem (by simpa using hi), List.getElem_range]
  show some (if i < k then midZ (ms.getD i []) (ofM vs ms i) else ms.getD i []) = _
  rw [List.getD_eq_getElem?_getD, List.getElem?_eq_getElem hi]; rfl
theorem rndK_zero (vs ms : List (List Int)) : rndK vs ms 0 = ms := by
  refine List.ext_getElem? fun i => ?_
  rcases Nat.lt_or_ge i ms.length with h | h
  · rw [rndK_at h, if_neg (by omega), List.getElem?_eq_getElem h]
  · rw [List.getElem?_eq_none (by rw [rndK_len]; exact h), List.getElem?_eq_none h]
theorem rndK_succ {vs ms : List (List Int)} {k : Nat} (hk : k < ms.length) : rndK vs ms (k + 1) = (rndK vs ms k).set k (midZ ms[k] (ofM vs ms k)) := by
  refine List.ext_getElem? fun i => ?_
  rw [List.getElem?_set, rndK_len]
  by_cases hik : k = i
  · subst hik
    rw [if_pos rfl, if_pos hk, rndK_at hk, if_pos (by omega)]
  · rw [if_neg hik]
    rcases Nat.lt_or_ge i ms.length with h | h
    · rw [rndK_at h, rndK_at h]
      by_cases hi : i < k
      · rw [if_pos hi, if_pos (by omega)]
      · rw [if_neg hi, if_neg (by omega)]
    · rw [List.getElem?_eq_none (by rw [rndK_len]; exact h), List.getElem?_eq_none (by rw [rndK_len]; exact h)]
theorem ofM_ok {dim : Nat} {vs ms : List (List Int)} {i : Nat} (h : Vok dim vs) : Vok dim (ofM vs ms i) := fun v hv => h v (List.mem_filter.1 hv).1
theorem rndK_ok {dim : Nat} {vs ms : List (List Int)} {k : Nat} (h : Vok dim vs) (hm : Vok dim ms) : Vok dim (rndK vs ms k) := by
  intro v hv
  obtain ⟨i, hi⟩ := List.mem_iff_getElem?.1 hv
  have h1 := (List.getElem?_eq_some_iff.1 hi).1
  rw [rndK_len] at h1
  rw [rndK_at h1] at hi
  cases hi
  have h2 := hm _ (List.getElem_mem h1)
  split
  · exact midZ_ok h2 (ofM_ok h)
  · exact h2
theorem midsZ_ok {dim n : Nat} {vs : List (List Int)} (h : Vok dim vs) : ∀ t, (midsZ n vs t).length ≤ n ∧ Vok dim (midsZ n vs t)
  | 0 => by
    have := fstM_ok (n := n) h vs.length (Nat.le_refl _)
    rw [List.take_length] at this
    exact this
  | t + 1 => by
    obtain ⟨h1, h2⟩ := midsZ_ok (n := n) h t
    refine ⟨?_, rndK_ok h h2⟩
    show (rndM vs (midsZ n vs t)).length ≤ n
    unfold rndM
    rw [rndK_len]; exact h1
end Go.Ab.Seat
end
section
/- Vectors compared; is a vector among some? (the abstract machine) -/
namespace Go.Ab.Seat
open Go.Extern Go.Proofs
set_option linter.unusedSimpArgs false
set_option linter.unusedVariables false
set_option maxRecDepth 4000
set_option pp.deepTerms false
set_option pp.deepTerms.threshold 6

theorem eqG54_spec {h : T AObj} {c : Nat} {rl wl : List Nat} (hf : Fresh h c) {a b : Option Addr} {n k k' : Nat} {zs ys : List Int} (hn : zs.length = n) (hn' : ys.length = n) (hx : Row h (.slice a n k) n 1 (zs.map (Value.int .i32))) (hy : Row h (.slice b n k') n 1 (ys.map (Value.int .i32))) (hb : n ≤ 1000) (R : Nat → Prop) (hR : ∀ x, blkOf (.slice a n k) = some x ∨ blkOf (.slice b n k') = some x → R x) :
    ∃ r s', FnTo (Cs smQ) eg 54 [.slice a n k, .slice b n k'] ⟨h, c, rl, wl⟩ r s' ∧ (r = .bool (decide (zs = ys)) ∧ s'.h = h ∧ s'.c = c) ∧ Ext ⟨h, c, rl, wl⟩ s' R (fun _ => False) := by
  refine Fn.go (stdQ 54 rfl) ex54 fn54 km54 rfl rfl ?_
  intro e he
  (simp (decide := true) only [kz] at he; subst he)
  (repeat (first | (with_reducible refine Then.go ?_) | (with_reducible refine Wx.seq ?_) | (with_reducible refine Wx.skip ?_) | (with_reducible refine Wx.block ?_) | (with_reducible refine Wx.reg ?_) | (refine Wx.condF rfl (by rfl) ?_) | ((with_reducible refine Wseq.nil ?_); intro e he; (simp (decide := true) only [kz] at he; subst he)) | ((with_reducible apply Wseq.mv); rfl; (intro v hv; (simp (decide := true) only [kw] at hv); subst hv)) | ((with_reducible apply Wseq.as); rfl; (intro v hv; (simp (decide := true) only [kw] at hv); subst hv)) | ((with_reducible apply Wseq.stg (op := Op.call ⟨Callee.builtin Builtin.len, _, _⟩)); rfl; exact to_lenS (sl_ rfl) rfl) | ((with_reducible apply Wseq.stg (op := Op.binOp BinOp.neq _ _ _ _)); rfl; exact to_neIF rfl rfl (by omega))))
  refine Wx.loopE (fun k1 e s => ∃ (i : Nat) (z : Int) (rl' : List Nat) (j5 j14 j24 : Value), e = EQ a n k b k' z j5 j14 j24 ∧ z = i ∧ s = ⟨h, c, rl', []⟩ ∧ Lg c R rl' ∧ (∀ j, j < i → zs[j]? = ys[j]?) ∧ i ≤ n ∧ k1 = n - i) n (EQ a n k b k' 0 top top top) (by (repeat (first | (exact Resp.fn) | (apply Resp.then) | (apply Resp.out)))) ?_ ?_ ?_
  · unfold EQ
    (refine EqK.of ?_ ?_ <;> (repeat (first | (exact all_nil) | (apply all_cons; rfl))))
  · exact ⟨0, 0, _, _, _, _, rfl, rfl, rfl, (by (repeat ((exact Lg.nil)))), fun j hj => by omega, by omega, rfl⟩
  · rintro k1 e s ⟨i, z, rl', j5, j14, j24, rfl, hz, rfl, hlr, heq, hin, rfl⟩
    unfold EQ
    by_cases hi : i < n
    · have hi1 : i < zs.length := by omega
      have hi2 : i < ys.length := by omega
      have hzs : (zs.map (Value.int .i32))[i]? = some (.int .i32 zs[i]) := by simp
      have hys : (ys.map (Value.int .i32))[i]? = some (.int .i32 ys[i]) := by simp
      obtain ⟨b1, o1, sp1, cs1, rfl, hc1, hn1⟩ := rowCell hx (j := i * 1) (by omega) (by rw [Nat.mul_one]; exact hzs)
      obtain ⟨b2, o2, sp2, cs2, rfl, hc2, hn2⟩ := rowCell hy (j := i * 1) (by omega) (by rw [Nat.mul_one]; exact hys)
      have hR1 := hR b1 (.inl rfl)
      have hR2 := hR b2 (.inr rfl)
      have l1 := hc1.lt hf
      have l2 := hc2.lt hf
      (repeat (first | (with_reducible refine Then.go ?_) | (with_reducible refine Wx.seq ?_) | (with_reducible refine Wx.skip ?_) | (with_reducible refine Wx.block ?_) | (with_reducible refine Wx.reg ?_) | (refine Wx.dreg rfl ?_) | (refine Wx.condT rfl (by rfl) ?_) | ((with_reducible refine Wseq.nil ?_); intro e he; (simp (decide := true) only [kz] at he; subst he)) | ((with_reducible apply Wseq.mv); rfl; (intro v hv; (simp (decide := true) only [kw] at hv); subst hv)) | ((with_reducible apply Wseq.as); rfl; (intro v hv; (simp (decide := true) only [kw] at hv); subst hv)) | ((with_reducible apply Wseq.stg (op := Op.binOp BinOp.lss _ _ _ _)); rfl; exact to_lssT rfl rfl (by omega)) | ((with_reducible apply Wtr.mv); rfl; (intro v hv; (simp (decide := true) only [kw] at hv); subst hv))))
      ((with_reducible apply Wtr.stq); (focus rfl); (focus (exact to_indexAddr (k := i) el24 rfl rfl hz (by omega))))
      ((with_reducible apply Wtr.stx); (focus rfl); (focus (exact to_load (pl_ rfl) rfl hc1 (by omega) hn1)); repeat ((exact all_nil)))
      (repeat (((with_reducible apply Wtr.mv); rfl; (intro v hv; (simp (decide := true) only [kw] at hv); subst hv))))
      ((with_reducible apply Wtr.stq); (focus rfl); (focus (exact to_indexAddr (k := i) el24 rfl rfl hz (by omega))))
      ((with_reducible apply Wtr.stx); (focus rfl); (focus (exact to_load (pl_ rfl) rfl hc2 (by omega) hn2)); (focus (repeat (first | (exact all_nil) | (apply all_cons; (focus ((right; exact ApartP.rr))))))))
      by_cases hq : zs[i] = ys[i]
      · ((with_reducible apply Wtr.stq); (focus rfl); (focus (exact to_neIF rfl rfl hq)))
        (repeat (first | (with_reducible refine Then.go ?_) | (with_reducible refine Out.go ?_) | (with_reducible refine Wx.skip ?_) | (with_reducible refine Wx.reg ?_) | (refine Wx.condF rfl (by rfl) ?_) | ((with_reducible refine Wseq.nil ?_); intro e he; (simp (decide := true) only [kz] at he; subst he)) | ((with_reducible apply Wseq.mv); rfl; (intro v hv; (simp (decide := true) only [kw] at hv); subst hv)) | ((with_reducible apply Wseq.stg (op := Op.binOp BinOp.add _ _ _ _)); rfl; exact to_add rfl rfl (by omega) (by omega)) | ((with_reducible refine Wtr.nil ?_); intro e he; (simp (decide := true) only [kz] at he; subst he))))
        refine RoundE.go (n - (i + 1)) (EQ _ n k _ k' (z + 1) _ _ _) (by omega) (by (refine EqK.of ?_ ?_ <;> (repeat (first | (exact all_nil) | (apply all_cons; rfl))))) ⟨i + 1, z + 1, _, _, _, _, rfl, by omega, rfl, (by (repeat (first | (exact Lg.nil) | (assumption) | (apply Lg.cons; (focus ((right; (assumption))))) | (apply Lg.app)))), fun j hj => ?_, by omega, rfl⟩
        rcases Nat.lt_or_ge j i with q | q
        · exact heq j q
        · obtain rfl : j = i := by omega
          rw [List.getElem?_eq_getElem hi1, List.getElem?_eq_getElem hi2, hq]
      · ((with_reducible apply Wtr.stq); (focus rfl); (focus (exact to_neIT rfl rfl hq)))
        (repeat (first | (with_reducible refine Then.go ?_) | (with_reducible refine Then.rt ?_) | (with_reducible refine Out.rt ?_) | (with_reducible refine Wx.seq ?_) | (with_reducible refine Wx.ret ?_) | (with_reducible refine Wx.reg ?_) | (with_reducible refine RoundE.rt ?_) | (refine Wx.condT rfl (by rfl) ?_) | ((with_reducible refine Wseq.nil ?_); intro e he; (simp (decide := true) only [kz] at he; subst he)) | ((with_reducible apply Wseq.as); rfl; (intro v hv; (simp (decide := true) only [kw] at hv); subst hv)) | ((with_reducible refine Wtr.nil ?_); intro e he; (simp (decide := true) only [kz] at he; subst he))))
        refine ⟨.inr rfl, Wres.one rfl ⟨⟨?_, rfl, rfl⟩, ?_⟩⟩
        · rw [decide_eq_false (fun e => hq (by subst e; rfl))]; rfl
        · (dsimp only; exact Ext.of (by omega) (by ((repeat (apply Fresh.put; omega)); ((assumption)))) (by (repeat ((exact Kp.refl)))) (by (repeat (first | (exact Lg.nil) | (assumption) | (apply Lg.cons; (focus ((right; (assumption))))) | (apply Lg.app)))) (by (repeat (first | (exact Lg.nil) | (apply Lg.app)))))
    · (repeat (first | (with_reducible refine Then.go ?_) | (with_reducible refine Then.ex ?_) | (with_reducible refine Out.hit ?_) | (with_reducible refine Wx.seq ?_) | (with_reducible refine Wx.exit ?_) | (with_reducible refine Wx.ret ?_) | (with_reducible refine Wx.reg ?_) | (with_reducible refine RoundE.ex ?_) | (refine Wx.condF rfl (by rfl) ?_) | ((with_reducible refine Wseq.nil ?_); intro e he; (simp (decide := true) only [kz] at he; subst he)) | ((with_reducible apply Wseq.as); rfl; (intro v hv; (simp (decide := true) only [kw] at hv); subst hv)) | ((with_reducible apply Wseq.stg (op := Op.binOp BinOp.lss _ _ _ _)); rfl; exact to_lssF rfl rfl (by omega))))
      refine ⟨.inr rfl, Wres.one rfl ⟨⟨?_, rfl, rfl⟩, ?_⟩⟩
      · have e : zs = ys := by
          refine List.ext_getElem? fun j => ?_
          rcases Nat.lt_or_ge j n with q | q
          · exact heq j (by omega)
          · rw [List.getElem?_eq_none (by omega), List.getElem?_eq_none (by omega)]
        rw [decide_eq_true e]; rfl
      · (dsimp only; exact Ext.of (by omega) (by ((repeat (apply Fresh.put; omega)); ((assumption)))) (by (repeat ((exact Kp.refl)))) (by (repeat ((assumption)))) (by (repeat ((exact Lg.nil)))))

theorem eqG_spec {h : T AObj} {c : Nat} {rl wl : List Nat} (hf : Fresh h c) {a b : Option Addr} {n k k' : Nat} {zs ys : List Int} (hn : zs.length = n) (hn' : ys.length = n) (hx : Row h (.slice a n k) n 1 (zs.map (Value.int .i32))) (hy : Row h (.slice b n k') n 1 (ys.map (Value.int .i32))) (hb : n ≤ 1000) (R : Nat → Prop) (hR : ∀ x, blkOf (.slice a n k) = some x ∨ blkOf (.slice b n k') = some x → R x) :
    ∃ r s', FnTo (Cs smQ) eg 21 [.slice a n k, .slice b n k'] ⟨h, c, rl, wl⟩ r s' ∧ (r = .bool (decide (zs = ys)) ∧ s'.h = h ∧ s'.c = c) ∧ Ext ⟨h, c, rl, wl⟩ s' R (fun _ => False) := by
  refine Fn.go (stdQ 21 rfl) ex21 fn21 km21 rfl rfl ?_
  intro e he
  (simp (decide := true) only [kz] at he; subst he)
  (repeat (first | (with_reducible refine Then.go ?_) | (with_reducible refine Wx.seq ?_) | (with_reducible refine Wx.reg ?_) | ((with_reducible refine Wseq.nil ?_); intro e he; (simp (decide := true) only [kz] at he; subst he)) | ((with_reducible apply Wseq.mv); rfl; (intro v hv; (simp (decide := true) only [kw] at hv); subst hv)) | ((with_reducible apply Wseq.as); rfl; (intro v hv; (simp (decide := true) only [kw] at hv); subst hv))))
  refine Wseq.call rfl rfl (eqG54_spec (by ((repeat (apply Fresh.put; omega)); ((assumption)))) hn hn' hx hy hb R hR) ?_
  rintro v h1 c1 r1 w1 ⟨⟨rfl, e1, e2⟩, hext⟩
  simp only at e1 e2
  subst e1 e2
  have lr := Lg.extR (R := R) (c := c1) (by (repeat ((exact Lg.nil)))) hext (fun _ _ q => q)
  have lw := Lg.extW (W := fun _ => False) (c := c1) (by (repeat ((exact Lg.nil)))) hext (fun _ _ q => q)
  (repeat (first | (with_reducible refine Then.go ?_) | (with_reducible refine Wx.ret ?_) | ((with_reducible refine Wseq.nil ?_); intro e he; (simp (decide := true) only [kz] at he; subst he)) | ((with_reducible apply Wseq.as); rfl; (intro v hv; (simp (decide := true) only [kw] at hv); subst hv))))
  refine ⟨.inr rfl, Wres.one rfl ⟨⟨rfl, rfl, rfl⟩, ?_⟩⟩
  (dsimp only; exact Ext.of (by omega) (by ((repeat (apply Fresh.put; omega)); ((assumption)))) (by (repeat ((exact Kp.refl)))) (by (repeat ((assumption)))) (by (repeat ((assumption)))))

/-- The closure that means.Middles hands over: is a middle a vector? -/
theorem clo96_spec {h : T AObj} {c bb : Nat} {rl wl : List Nat} (hf : Fresh h c) {a b : Option Addr} {n k k' : Nat} {zs ys : List Int} (hn : zs.length = n) (hn' : ys.length = n) (hx : Row h (.slice a n k) n 1 (zs.map (Value.int .i32))) (hbb : Has h bb (.cells [.slice b n k'])) (hy : Row h (.slice b n k') n 1 (ys.map (Value.int .i32))) (hb : n ≤ 1000) (R : Nat → Prop) (hR : ∀ x, blkOf (.slice a n k) = some x ∨ blkOf (.slice b n k') = some x → R x) (hRb : R bb) :
    ∃ r s', FnTo (Cs smQ) eg 96 [.slice a n k, .pointer (some ⟨bb, 0, none⟩)] ⟨h, c, rl, wl⟩ r s' ∧ (r = .bool (decide (zs = ys)) ∧ s'.h = h ∧ s'.c = c) ∧ Ext ⟨h, c, rl, wl⟩ s' R (fun _ => False) := by
  have l1 := hbb.lt hf
  refine Fn.go (stdQ 96 rfl) ex96 fn96 km96 rfl rfl ?_
  intro e he
  (simp (decide := true) only [kz] at he; subst he)
  (repeat (first | (with_reducible refine Then.go ?_) | (with_reducible refine Wx.seq ?_) | (with_reducible refine Wx.reg ?_) | ((with_reducible refine Wseq.nil ?_); intro e he; (simp (decide := true) only [kz] at he; subst he)) | ((with_reducible apply Wseq.mv); rfl; (intro v hv; (simp (decide := true) only [kw] at hv); subst hv)) | ((with_reducible apply Wseq.as); rfl; (intro v hv; (simp (decide := true) only [kw] at hv); subst hv)) | ((with_reducible apply Wseq.stg (op := Op.load _ _)); rfl; exact to_load (pl_ rfl) rfl (by (repeat ((apply Has.cel; assumption)))) (by omega) (by rfl))))
  refine Wseq.call rfl rfl (eqG_spec (by ((repeat (apply Fresh.put; omega)); ((assumption)))) hn hn' hx hy hb R hR) ?_
  rintro v h1 c1 r1 w1 ⟨⟨rfl, e1, e2⟩, hext⟩
  simp only at e1 e2
  subst e1 e2
  have lr := Lg.extR (R := R) (c := c1) (by (repeat (first | (exact Lg.nil) | (apply Lg.cons; (focus ((right; (assumption)))))))) hext (fun _ _ q => q)
  have lw := Lg.extW (W := fun _ => False) (c := c1) (by (repeat ((exact Lg.nil)))) hext (fun _ _ q => q)
  (repeat (first | (with_reducible refine Then.go ?_) | (with_reducible refine Wx.ret ?_) | ((with_reducible refine Wseq.nil ?_); intro e he; (simp (decide := true) only [kz] at he; subst he)) | ((with_reducible apply Wseq.as); rfl; (intro v hv; (simp (decide := true) only [kw] at hv); subst hv))))
  refine ⟨.inr rfl, Wres.one rfl ⟨⟨rfl, rfl, rfl⟩, ?_⟩⟩
  (dsimp only; exact Ext.of (by omega) (by ((repeat (apply Fresh.put; omega)); ((assumption)))) (by (repeat ((exact Kp.refl)))) (by (repeat ((assumption)))) (by (repeat ((assumption)))))

def EX1 (v : Value) (n bb : Nat) (z : Int) (j5 j9 j16 : Value) : L :=
  .cons 1 (.func (.func 96) #[] ⟨[.pointer (some ⟨bb, 0, none⟩)]⟩) (.cons 0 v (.cons 4 (.int .i64 0) (.cons 7 (.int .i64 (n : Int)) (.cons 8 (.int .i64 z) (.cons 5 j5 (.cons 9 j9 (.cons 16 j16 .nil)))))))

theorem index161_spec {h : T AObj} {c bb : Nat} {rl wl : List Nat} (hf : Fresh h c) {v : Value} {dim : Nat} {mid : List (List Int)} {U : Nat → Prop} (hm : MRow h v dim mid U) (hn : mid.length ≤ 1000) (hd : dim ≤ 1000) {b : Option Addr} {k' : Nat} {ys : List Int} (hbb : Has h bb (.cells [.slice b dim k'])) (hy : Row h (.slice b dim k') dim 1 (ys.map (Value.int .i32))) (hn' : ys.length = dim) (R : Nat → Prop) (hUR : ∀ b, U b → R b) (hR : ∀ x, blkOf (.slice b dim k') = some x → R x) (hRb : R bb) :
    ∃ r s', FnTo (Cs smQ) eg 161 [v, .func (.func 96) #[] ⟨[.pointer (some ⟨bb, 0, none⟩)]⟩] ⟨h, c, rl, wl⟩ r s' ∧ ((∃ z : Int, r = .int .i64 z ∧ (0 ≤ z ↔ ys ∈ mid)) ∧ s'.h = h ∧ s'.c = c) ∧ Ext ⟨h, c, rl, wl⟩ s' R (fun _ => False) := by
  obtain ⟨oa, cap, rfl⟩ := hm.val
  refine Fn.go (stdQ 161 rfl) ex161 fn161 km161 rfl rfl ?_
  intro e he
  (simp (decide := true) only [kz] at he; subst he)
  (repeat (first | (with_reducible refine Then.go ?_) | (with_reducible refine Wx.seq ?_) | (with_reducible refine Wx.block ?_) | (with_reducible refine Wx.reg ?_) | ((with_reducible refine Wseq.nil ?_); intro e he; (simp (decide := true) only [kz] at he; subst he)) | ((with_reducible apply Wseq.mv); rfl; (intro v hv; (simp (decide := true) only [kw] at hv); subst hv)) | ((with_reducible apply Wseq.as); rfl; (intro v hv; (simp (decide := true) only [kw] at hv); subst hv)) | ((with_reducible apply Wseq.stg (op := Op.call ⟨Callee.builtin Builtin.len, _, _⟩)); rfl; exact to_lenS (sl_ rfl) rfl)))
  refine Wx.loopE (fun k1 e s => ∃ (i : Nat) (z : Int) (j5 j9 j16 : Value) (rl' wl' : List Nat), e = EX1 (.slice oa mid.length cap) mid.length bb z j5 j9 j16 ∧ z = i ∧ s = ⟨h, c, rl', wl'⟩ ∧ ys ∉ mid.take i ∧ Lg c R rl' ∧ Lg c (fun _ => False) wl' ∧ i ≤ mid.length ∧ k1 = mid.length - i) mid.length (EX1 (.slice oa mid.length cap) mid.length bb 0 top top top) (by (repeat (first | (exact Resp.fn) | (apply Resp.then) | (apply Resp.out)))) ?_ ?_ ?_
  · unfold EX1
    (refine EqK.of ?_ ?_ <;> (repeat (first | (exact all_nil) | (apply all_cons; rfl))))
  · exact ⟨0, 0, _, _, _, _, _, rfl, rfl, rfl, List.not_mem_nil, (by (repeat ((exact Lg.nil)))), (by (repeat ((exact Lg.nil)))), by omega, rfl⟩
  · rintro k1 e s ⟨i, z, j5, j9, j16, rl', wl', rfl, hz, rfl, hnm, hlr, hlw, hid, rfl⟩
    unfold EX1
    by_cases hi : i < mid.length
    · obtain ⟨g1, g2, b1, sp, vals, a, k, rfl, g4, g5, g6, g7, g8⟩ := hm.at (List.getElem?_eq_getElem hi)
      have lb := g5.lt hf
      have rb := hUR b1 g4
      (repeat (first | (with_reducible refine Then.go ?_) | (with_reducible refine Wx.seq ?_) | (with_reducible refine Wx.skip ?_) | (with_reducible refine Wx.block ?_) | (with_reducible refine Wx.reg ?_) | (refine Wx.condT rfl (by rfl) ?_) | ((with_reducible refine Wseq.nil ?_); intro e he; (simp (decide := true) only [kz] at he; subst he)) | ((with_reducible apply Wseq.mv); rfl; (intro v hv; (simp (decide := true) only [kw] at hv); subst hv)) | ((with_reducible apply Wseq.as); rfl; (intro v hv; (simp (decide := true) only [kw] at hv); subst hv)) | ((with_reducible apply Wseq.stg (op := Op.binOp BinOp.lss _ _ _ _)); rfl; exact to_lssT rfl rfl (by omega))))
      ((with_reducible apply Wseq.stg); (focus rfl); (focus (exact to_indexAddr (k := i) el22 rfl rfl hz hi)))
      ((with_reducible apply Wseq.stg); (focus rfl); (focus (exact to_load (pl_ rfl) rfl g5.cel (by omega) g6)))
      refine Wseq.callV rfl rfl rfl (clo96_spec (by ((repeat (apply Fresh.put; omega)); ((assumption)))) g1 hn' g7 hbb hy hd R (fun x hx => hx.elim (fun u => hUR x (g8 x u)) (hR x)) hRb) ?_
      rintro v2 h1 c1 r1 w1 ⟨⟨rfl, e1, e2⟩, hext⟩
      simp only at e1 e2
      subst e1 e2
      have lr := Lg.extR (R := R) (c := c1) (by (repeat (first | (assumption) | (apply Lg.cons; (focus ((right; (assumption)))))))) hext (fun _ _ q => q)
      have lw := Lg.extW (W := fun _ => False) (c := c1) (by (repeat ((assumption)))) hext (fun _ _ q => q)
      by_cases hx : mid[i] = ys
      · rw [decide_eq_true hx]
        (repeat (first | (with_reducible refine Then.go ?_) | (with_reducible refine Then.rt ?_) | (with_reducible refine Out.rt ?_) | (with_reducible refine Wx.seq ?_) | (with_reducible refine Wx.ret ?_) | (with_reducible refine Wx.reg ?_) | (with_reducible refine RoundE.rt ?_) | (refine Wx.condT rfl (by rfl) ?_) | ((with_reducible refine Wseq.nil ?_); intro e he; (simp (decide := true) only [kz] at he; subst he)) | ((with_reducible apply Wseq.mv); rfl; (intro v hv; (simp (decide := true) only [kw] at hv); subst hv)) | ((with_reducible apply Wseq.as); rfl; (intro v hv; (simp (decide := true) only [kw] at hv); subst hv))))
        refine ⟨.inr rfl, Wres.one rfl ⟨⟨⟨z, rfl, ?_⟩, rfl, rfl⟩, ?_⟩⟩
        · exact ⟨fun _ => hx ▸ List.getElem_mem hi, fun _ => by omega⟩
        · (dsimp only; exact Ext.of (by omega) (by ((repeat (apply Fresh.put; omega)); ((assumption)))) (by (repeat ((exact Kp.refl)))) (by (repeat ((assumption)))) (by (repeat ((assumption)))))
      · rw [decide_eq_false hx]
        (repeat (first | (with_reducible refine Then.go ?_) | (with_reducible refine Out.go ?_) | (with_reducible refine Wx.skip ?_) | (with_reducible refine Wx.reg ?_) | (refine Wx.condF rfl (by rfl) ?_) | ((with_reducible refine Wseq.nil ?_); intro e he; (simp (decide := true) only [kz] at he; subst he)) | ((with_reducible apply Wseq.mv); rfl; (intro v hv; (simp (decide := true) only [kw] at hv); subst hv)) | ((with_reducible apply Wseq.stg (op := Op.binOp BinOp.add _ _ _ _)); rfl; exact to_add rfl rfl (by omega) (by omega))))
        refine RoundE.go (mid.length - (i + 1)) (EX1 _ mid.length bb (z + 1) _ _ _) (by omega) (by (refine EqK.of ?_ ?_ <;> (repeat (first | (exact all_nil) | (apply all_cons; rfl))))) ⟨i + 1, z + 1, _, _, _, _, _, rfl, by omega, rfl, ?_, (by (repeat ((assumption)))), (by (repeat ((assumption)))), by omega, rfl⟩
        rw [List.take_succ_eq_append_getElem hi]
        intro hm
        rcases List.mem_append.1 hm with hm | hm
        · exact hnm hm
        · exact hx (List.mem_singleton.1 hm).symm
    · (repeat (first | (with_reducible refine Then.go ?_) | (with_reducible refine Then.ex ?_) | (with_reducible refine Out.hit ?_) | (with_reducible refine Wx.seq ?_) | (with_reducible refine Wx.exit ?_) | (with_reducible refine Wx.ret ?_) | (with_reducible refine Wx.reg ?_) | (with_reducible refine RoundE.ex ?_) | (refine Wx.condF rfl (by rfl) ?_) | ((with_reducible refine Wseq.nil ?_); intro e he; (simp (decide := true) only [kz] at he; subst he)) | ((with_reducible apply Wseq.as); rfl; (intro v hv; (simp (decide := true) only [kw] at hv); subst hv)) | ((with_reducible apply Wseq.stg (op := Op.binOp BinOp.lss _ _ _ _)); rfl; exact to_lssF rfl rfl (by omega))))
      refine ⟨.inr rfl, Wres.one rfl ⟨⟨⟨-1, rfl, ?_⟩, rfl, rfl⟩, ?_⟩⟩
      · rw [List.take_of_length_le (by omega)] at hnm
        exact ⟨fun h => by omega, fun h => absurd h hnm⟩
      · (dsimp only; exact Ext.of (by omega) (by ((repeat (apply Fresh.put; omega)); ((assumption)))) (by (repeat ((exact Kp.refl)))) (by (repeat ((assumption)))) (by (repeat ((assumption)))))

theorem contains95_spec {h : T AObj} {c bb : Nat} {rl wl : List Nat} (hf : Fresh h c) {v : Value} {dim : Nat} {mid : List (List Int)} {U : Nat → Prop} (hm : MRow h v dim mid U) (hn : mid.length ≤ 1000) (hd : dim ≤ 1000) {b : Option Addr} {k' : Nat} {ys : List Int} (hbb : Has h bb (.cells [.slice b dim k'])) (hy : Row h (.slice b dim k') dim 1 (ys.map (Value.int .i32))) (hn' : ys.length = dim) (R : Nat → Prop) (hUR : ∀ b, U b → R b) (hR : ∀ x, blkOf (.slice b dim k') = some x → R x) (hRb : R bb) :
    ∃ r s', FnTo (Cs smQ) eg 95 [v, .func (.func 96) #[] ⟨[.pointer (some ⟨bb, 0, none⟩)]⟩] ⟨h, c, rl, wl⟩ r s' ∧ (r = .bool (decide (ys ∈ mid)) ∧ s'.h = h ∧ s'.c = c) ∧ Ext ⟨h, c, rl, wl⟩ s' R (fun _ => False) := by
  obtain ⟨oa, cap, rfl⟩ := hm.val
  refine Fn.go (stdQ 95 rfl) ex95 fn95 km95 rfl rfl ?_
  intro e he
  (simp (decide := true) only [kz] at he; subst he)
  (repeat (first | (with_reducible refine Then.go ?_) | (with_reducible refine Wx.seq ?_) | (with_reducible refine Wx.reg ?_) | ((with_reducible refine Wseq.nil ?_); intro e he; (simp (decide := true) only [kz] at he; subst he)) | ((with_reducible apply Wseq.mv); rfl; (intro v hv; (simp (decide := true) only [kw] at hv); subst hv)) | ((with_reducible apply Wseq.as); rfl; (intro v hv; (simp (decide := true) only [kw] at hv); subst hv))))
  refine Wseq.call rfl rfl (index161_spec (by ((repeat (apply Fresh.put; omega)); ((assumption)))) hm hn hd hbb hy hn' R hUR hR hRb) ?_
  rintro v1 h1 c1 r1 w1 ⟨⟨⟨z, rfl, hz⟩, e1, e2⟩, hext⟩
  simp only at e1 e2
  subst e1 e2
  have lr := Lg.extR (R := R) (c := c1) (by (repeat ((exact Lg.nil)))) hext (fun _ _ q => q)
  have lw := Lg.extW (W := fun _ => False) (c := c1) (by (repeat ((exact Lg.nil)))) hext (fun _ _ q => q)
  by_cases h0 : 0 ≤ z
  · (repeat (first | (with_reducible refine Then.go ?_) | (with_reducible refine Wx.ret ?_) | ((with_reducible refine Wseq.nil ?_); intro e he; (simp (decide := true) only [kz] at he; subst he)) | ((with_reducible apply Wseq.as); rfl; (intro v hv; (simp (decide := true) only [kw] at hv); subst hv)) | ((with_reducible apply Wseq.stg (op := Op.binOp BinOp.geq _ _ _ _)); rfl; exact to_geqT rfl rfl (by omega))))
    refine ⟨.inr rfl, Wres.one rfl ⟨⟨?_, rfl, rfl⟩, ?_⟩⟩
    · rw [decide_eq_true (hz.1 h0)]; rfl
    · (dsimp only; exact Ext.of (by omega) (by ((repeat (apply Fresh.put; omega)); ((assumption)))) (by (repeat ((exact Kp.refl)))) (by (repeat ((assumption)))) (by (repeat ((assumption)))))
  · (repeat (first | (with_reducible refine Then.go ?_) | (with_reducible refine Wx.ret ?_) | ((with_reducible refine Wseq.nil ?_); intro e he; (simp (decide := true) only [kz] at he; subst he)) | ((with_reducible apply Wseq.as); rfl; (intro v hv; (simp (decide := true) only [kw] at hv); subst hv)) | ((with_reducible apply Wseq.stg (op := Op.binOp BinOp.geq _ _ _ _)); rfl; exact to_geqF rfl rfl (by omega))))
    refine ⟨.inr rfl, Wres.one rfl ⟨⟨?_, rfl, rfl⟩, ?_⟩⟩
    · rw [decide_eq_false (fun q => h0 (hz.2 q))]; rfl
    · (dsimp only; exact Ext.of (by omega) (by ((repeat (apply Fresh.put; omega)); ((assumption)))) (by (repeat ((exact Kp.refl)))) (by (repeat ((assumption)))) (by (repeat ((assumption)))))
end Go.Ab.Seat
end
