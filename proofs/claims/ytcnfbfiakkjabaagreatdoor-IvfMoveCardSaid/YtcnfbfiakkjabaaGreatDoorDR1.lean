/- An index of lists: its lists (the abstract machine). -/
import Derived.Test.YtcnfbfiakkjabaaGreatDoorDN0
set_option linter.unusedVariables false
set_option linter.unusedSimpArgs false
namespace Go.Ab.Seat
open Go.Extern Go.Proofs
set_option linter.unusedSimpArgs false
set_option linter.unusedVariables false
set_option maxRecDepth 4000
set_option pp.deepTerms false
set_option pp.deepTerms.threshold 6

theorem Row.keepBI {h h' : T AObj} {v : Value} {n k : Nat} {xs : List Value} (hr : Row h v n k xs) (hk : ∀ b, blkOf v = some b → h'.get b = h.get b) : Row h' v n k xs := by
  rcases hr with g | ⟨b, o, sp, cap, cs, e, g6, g7⟩
  · exact .inl g
  · refine .inr ⟨b, o, sp, cap, cs, e, ?_, g7⟩
    have q := hk b (by rw [e]; rfl)
    unfold Cel Has at g6 ⊢
    rw [q]; exact g6
theorem HI.keep {h h' : T AObj} {c0 : Nat} {w : Value} {l : List Int} (x : HI h c0 w l) (k : ∀ b, blkOf w = some b → h'.get b = h.get b) : HI h' c0 w l := by
  rcases x with x | ⟨b, h1, h2, h3, h4⟩
  · exact .inl x
  · exact .inr ⟨b, h1, h2, h3, (k b (by rw [h1]; rfl)).trans h4⟩
theorem HI.lt {h : T AObj} {c c0 : Nat} {w : Value} {l : List Int} (x : HI h c0 w l) (hf : Fresh h c) {b : Nat} (hb : blkOf w = some b) : c0 ≤ b ∧ b < c := by
  rcases x with ⟨rfl, _⟩ | ⟨b', rfl, _, h3, h4⟩
  · cases hb
  · cases hb; exact ⟨h3, h4.lt hf⟩
/-- So many grown rows of numbers, one in each cell; no two share a block. -/
structure IntG (h : T AObj) (c0 : Nat) (ws : List Value) (ls : List (List Int)) : Prop where
  len : ws.length = ls.length
  row : ∀ (i : Nat) (l : List Int), ls[i]? = some l → ∃ w, ws[i]? = some w ∧ HI h c0 w l
  inj : ∀ (i j : Nat) (w w' : Value) (b : Nat), ws[i]? = some w → ws[j]? = some w' → blkOf w = some b → blkOf w' = some b → i = j
theorem IntG.keep {h h' : T AObj} {c c0 : Nat} {ws : List Value} {ls : List (List Int)} (x : IntG h c0 ws ls) (hf : Fresh h c) (k : ∀ b, b < c → c0 ≤ b → h'.get b = h.get b) : IntG h' c0 ws ls :=
  ⟨x.len, fun i l hi => by
    obtain ⟨w, h1, h2⟩ := x.row i l hi
    exact ⟨w, h1, h2.keep fun b hb => k b (h2.lt hf hb).2 (h2.lt hf hb).1⟩, x.inj⟩
theorem IntG.step {h h' : T AObj} {c c0 : Nat} {ws : List Value} {ls : List (List Int)} (x : IntG h c0 ws ls) (hf : Fresh h c) {i : Nat} {w0 w : Value} {l : List Int} (h0 : ws[i]? = some w0) (hw : HI h' c0 w l) (hb : ∀ b, blkOf w = some b → c ≤ b)
    (k : ∀ b, b < c → blkOf w0 ≠ some b → c0 ≤ b → h'.get b = h.get b) : IntG h' c0 (ws.set i w) (ls.set i l) := by
  have hil : i < ws.length := (List.getElem?_eq_some_iff.1 h0).1
  have hold : ∀ j w1, ws[j]? = some w1 → ∀ b, blkOf w1 = some b → b < c := fun j w1 hj b hb1 => by
    have h2 := (List.getElem?_eq_some_iff.1 hj).1
    rw [x.len] at h2
    obtain ⟨w2, h3, h4⟩ := x.row j ls[j] (List.getElem?_eq_getElem h2)
    rw [hj] at h3; cases h3
    exact (h4.lt hf hb1).2
  refine ⟨by rw [List.length_set, List.length_set]; exact x.len, fun j l1 hj => ?_, fun j j' w1 w1' b e1 e2 b1 b2 => ?_⟩
  · rw [List.getElem?_set] at hj ⊢
    by_cases hij : i = j
    · subst hij
      rw [if_pos rfl] at hj ⊢
      rw [if_pos (by rw [← x.len]; exact hil)] at hj
      cases hj
      rw [if_pos hil]
      exact ⟨w, rfl, hw⟩
    · rw [if_neg hij] at hj ⊢
      obtain ⟨w1, h1, h2⟩ := x.row j l1 hj
      refine ⟨w1, h1, h2.keep fun b hb => k b (h2.lt hf hb).2 (fun q => ?_) (h2.lt hf hb).1⟩
      exact hij (x.inj i j w0 w1 b h0 h1 q hb)
  · rw [List.getElem?_set] at e1 e2
    by_cases hij : i = j
    · by_cases hij' : i = j'
      · omega
      · rw [if_neg hij'] at e2
        rw [if_pos hij, if_pos hil] at e1
        cases e1
        have h1 := hb b b1
        have h2 := hold j' w1' e2 b b2
        omega
    · rw [if_neg hij] at e1
      by_cases hij' : i = j'
      · rw [if_pos hij', if_pos hil] at e2
        cases e2
        have h1 := hb b b2
        have h2 := hold j w1 e1 b b1
        omega
      · rw [if_neg hij'] at e2
        exact x.inj j j' w1 w1' b e1 e2 b1 b2

/-- Who is in a list. -/
def inL (M : List Rc) (i : Nat) : List Int := (M.filter fun r => decide (r.seq = (i : Int))).map Rc.id
def listsM (n : Nat) (M : List Rc) : List (List Int) := (List.range n).map fun i => inL M i
theorem listsM_len (n : Nat) (M : List Rc) : (listsM n M).length = n := by unfold listsM; simp
theorem listsM_at {n i : Nat} {M : List Rc} (hi : i < n) : (listsM n M)[i]? = some (inL M i) := by
  unfold listsM
  rw [List.getElem?_map, List.getElem?_eq_getElem (by simpa using hi), List.getElem_range]; rfl
theorem inL_succ {M : List Rc} {j i : Nat} (hj : j < M.length) : inL (M.take (j + 1)) i = if M[j].seq = (i : Int) then inL (M.take j) i ++ [M[j].id] else inL (M.take j) i := by
  unfold inL
  rw [List.take_succ_eq_append_getElem hj, List.filter_append, List.map_append]
  by_cases h : M[j].seq = (i : Int)
  · rw [if_pos h, List.filter_cons_of_pos (by simpa using h)]; rfl
  · rw [if_neg h, List.filter_cons_of_neg (by simpa using h)]; simp
theorem listsM_succ {n j i : Nat} {M : List Rc} (hj : j < M.length) (hi : M[j].seq = (i : Int)) (hin : i < n) : listsM n (M.take (j + 1)) = (listsM n (M.take j)).set i (inL (M.take j) i ++ [M[j].id]) := by
  refine List.ext_getElem? fun k => ?_
  rw [List.getElem?_set, listsM_len]
  by_cases hik : i = k
  · subst hik
    rw [if_pos rfl, if_pos hin, listsM_at hin, inL_succ hj, if_pos hi]
  · rw [if_neg hik]
    rcases Nat.lt_or_ge k n with h | h
    · rw [listsM_at h, listsM_at h, inL_succ hj, if_neg (by rw [hi]; omega)]
    · rw [List.getElem?_eq_none (by rw [listsM_len]; exact h), List.getElem?_eq_none (by rw [listsM_len]; exact h)]
theorem IntG.init {h : T AObj} {c0 n : Nat} : IntG h c0 (rep [.slice none 0 0] n) (listsM n []) := by
  have e : rep [Value.slice none 0 0] n = List.replicate n (.slice none 0 0) := by
    induction n with
    | zero => rfl
    | succ n ih => rw [List.replicate_succ, ← ih]; rfl
  rw [e]
  refine ⟨by rw [List.length_replicate, listsM_len], fun i l hi => ?_, fun i j w w' b e1 _ b1 _ => ?_⟩
  · have h1 := (List.getElem?_eq_some_iff.1 hi).1
    rw [listsM_len] at h1
    rw [listsM_at h1] at hi
    cases hi
    exact ⟨_, by rw [List.getElem?_replicate, if_pos h1], .inl ⟨rfl, rfl⟩⟩
  · have := List.eq_of_mem_replicate (List.mem_of_getElem? e1)
    subst this; cases b1
theorem setOneI {ws : List Value} {i : Nat} {w : Value} (hi : i < ws.length) (ha : atom w = true) : setMany [w] ws (0 + i * 1) = some (ws.set i w) := by
  rw [setMany_eq _ _ _ (by show _ + 1 ≤ _; omega) (all_cons ha all_nil), List.set_eq_take_append_cons_drop, if_pos hi, Nat.zero_add, Nat.mul_one, List.append_assoc]
  rfl
theorem listZ_rng (mid : List (List Int)) (zs : List Int) : 0 ≤ listZ mid zs ∧ listZ mid zs < (max mid.length 1 : Nat) := by
  unfold listZ
  by_cases h : mid.length = 0
  · unfold nearZ; rw [if_pos h]; omega
  · have := nearZ_rng (zs := zs) h; omega

def ELi (p n : Nat) (c : Nat) (oi : Option Addr) (mn ic : Nat) (z : Int) (j5 j19 : Value) : L :=
  .cons 0 (.pointer (some ⟨p, 0, none⟩)) (.cons 2 (.slice none 0 0) (.cons 7 (.bool false) (.cons 3 (.slice (some ⟨c, 0, none⟩) n n) (.cons 16 (.slice oi mn ic) (.cons 17 (.int .i64 (mn : Int)) (.cons 18 (.int .i64 z) (.cons 5 j5 (.cons 19 j19 .nil))))))))

set_option maxHeartbeats 8000000 in
theorem ilists_spec {h : T AObj} {c : Nat} {rl wl : List Nat} (hf : Fresh h c) {p m dim : Nat} {mv : Value} {mt : Int} {mid : List (List Int)} {M : List Rc} {U : Nat → Prop} (q : IvfM h p m mv mt dim mid M U) (hmn : mid.length ≤ 12) (hn : M.length ≤ 800) :
    ∃ r s', FnTo (Cs smQ) eg 25 [.pointer (some ⟨p, 0, none⟩)] ⟨h, c, rl, wl⟩ r s' ∧ (r = .slice (some ⟨c, 0, none⟩) (max mid.length 1) (max mid.length 1) ∧ ∃ ws, Has s'.h c (.cells ws) ∧ IntG s'.h (c + 1) ws (listsM (max mid.length 1) M)) ∧ Ext ⟨h, c, rl, wl⟩ s' U (fun _ => False) := by
  have hp := q.ptr
  obtain ⟨lp, lm⟩ := q.lt hf
  have hpU := q.pU
  have hmU := q.mU
  obtain ⟨oa1, cap1, rfl⟩ := q.mids.val
  have hmx : max (mid.length : Int) 1 = ((max mid.length 1 : Nat) : Int) := by omega
  have hL : max mid.length 1 ≤ 12 := by omega
  refine Fn.go (stdQ 25 rfl) ex25 fn25 km25 rfl rfl ?_
  intro e he
  (simp (decide := true) only [kz] at he; subst he)
  (repeat (first | (with_reducible refine Then.go ?_) | (with_reducible refine Wx.seq ?_) | (with_reducible refine Wx.skip ?_) | (with_reducible refine Wx.reg ?_) | (refine Wx.condF rfl (by rfl) ?_) | ((with_reducible refine Wseq.nil ?_); intro e he; (simp (decide := true) only [kz] at he; subst he)) | ((with_reducible apply Wseq.mv); rfl; (intro v hv; (simp (decide := true) only [kw] at hv); subst hv)) | ((with_reducible apply Wseq.as); rfl; (intro v hv; (simp (decide := true) only [kw] at hv); subst hv)) | ((with_reducible apply Wseq.stg (op := Op.fieldAddr _ _ _)); rfl; exact to_fieldAddr (fa_ rfl) rfl) | ((with_reducible apply Wseq.stg (op := Op.load _ _)); rfl; exact to_load (pl_ rfl) rfl (by (repeat ((apply Has.cel; assumption)))) (by omega) (by rfl)) | ((with_reducible apply Wseq.stg (op := Op.nilCheck _)); rfl; exact to_nilCheck rfl) | ((with_reducible apply Wseq.stg (op := Op.call ⟨Callee.builtin Builtin.len, _, _⟩)); rfl; exact to_lenS (sl_ rfl) rfl) | ((with_reducible apply Wseq.stg (op := Op.call ⟨Callee.builtin Builtin.max, _, _⟩)); rfl; exact to_max rfl rfl) | ((with_reducible apply Wseq.stg (op := Op.binOp BinOp.eql _ _ _ _)); rfl; exact to_eqP (un_ rfl) rfl rfl)))
  rw [hmx]
  generalize hLL : max mid.length 1 = n at hL
  ((with_reducible apply Wseq.stg); (focus rfl); (focus (exact to_makeSlice (a := n) (b := n) ro47 rfl rfl rfl rfl (by omega) (by unfold big; omega) (by ((repeat (apply Fresh.put; omega)); ((assumption)))))))
  (repeat (first | (with_reducible refine Then.go ?_) | (with_reducible refine Wx.seq ?_) | (with_reducible refine Wx.reg ?_) | ((with_reducible refine Wseq.nil ?_); intro e he; (simp (decide := true) only [kz] at he; subst he)) | ((with_reducible apply Wseq.mv); rfl; (intro v hv; (simp (decide := true) only [kw] at hv); subst hv)) | ((with_reducible apply Wseq.as); rfl; (intro v hv; (simp (decide := true) only [kw] at hv); subst hv))))
  have hS0 : IntG (h.set c (some (.cells (rep [.slice none 0 0] n)))) (c + 1) (rep [.slice none 0 0] n) (listsM n []) := IntG.init
  have fS : Fresh (h.set c (some (.cells (rep [.slice none 0 0] n)))) (c + 1) := (by ((repeat (apply Fresh.put; omega)); ((exact Fresh.up (by assumption) (by omega)))))
  have kS : ∀ b, b < c → (h.set c (some (.cells (rep [.slice none 0 0] n)))).get b = h.get b := fun b hb => get_other (by omega)
  have gS : Has (h.set c (some (.cells (rep [.slice none 0 0] n)))) c (.cells (rep [.slice none 0 0] n)) := Has.same
  generalize (h.set c (some (.cells (rep [.slice none 0 0] n)))) = hS at hS0 fS kS gS
  generalize rep [Value.slice none 0 0] n = ws0 at hS0 gS
  refine Wseq.call rfl rfl (iids_spec (by ((repeat (apply Fresh.put; omega)); ((assumption)))) (q.keep hf (fun b _ hb => kS b hb)) (by omega)) ?_
  rintro v1 h1 c1 r1 w1 ⟨hids, hext⟩
  have fr1 := hext.fresh
  have le1 := hext.c
  simp only at le1 fr1
  have kp := Kp.ext (W := fun _ => False) (h := h) (c := c) (fun b hb _ => kS b hb) hext (by omega) (fun _ _ q => q)
  have lr := Lg.extR (R := U) (c := c) (by (repeat (first | (exact Lg.nil) | (apply Lg.cons; (focus ((right; (assumption)))))))) hext (fun b hb u => u)
  have lw := Lg.extW (W := fun _ => False) (c := c) (by (repeat ((exact Lg.nil)))) hext (fun _ _ q => q)
  obtain ⟨oi, ic, rfl⟩ := hids.val
  have hrow1 := hids.row (by rw [List.length_map, List.length_map])
  have hS1 := hS0.keep fS (fun b hb _ => hext.get hb (fun q => q))
  have gS1 := hext.hs gS (by omega) (fun q => q)
  have hbg : big = 1048576 := rfl
  (repeat (first | (with_reducible refine Then.go ?_) | (with_reducible refine Wx.block ?_) | ((with_reducible refine Wseq.nil ?_); intro e he; (simp (decide := true) only [kz] at he; subst he)) | ((with_reducible apply Wseq.mv); rfl; (intro v hv; (simp (decide := true) only [kw] at hv); subst hv)) | ((with_reducible apply Wseq.stg (op := Op.call ⟨Callee.builtin Builtin.len, _, _⟩)); rfl; exact to_lenS (sl_ rfl) rfl)))
  refine Wx.loopE (fun k1 e s => ∃ (i : Nat) (z : Int) (j5 j19 : Value) (h' : T AObj) (c' : Nat) (rl' wl' : List Nat) (ws : List Value), e = ELi p n c oi M.length ic z j5 j19 ∧ z = i ∧ s = ⟨h', c', rl', wl'⟩ ∧ c1 ≤ c' ∧ Fresh h' c' ∧ Kp h h' c (fun _ => False) ∧ Row h' (.slice oi M.length ic) M.length 1 ((M.map Rc.id).map (Value.int .i64)) ∧ Has h' c (.cells ws) ∧ IntG h' (c + 1) ws (listsM n (M.take i)) ∧ (∀ w b, w ∈ ws → blkOf w = some b → blkOf (.slice oi M.length ic) ≠ some b) ∧ Lg c U rl' ∧ Lg c (fun _ => False) wl' ∧ i ≤ M.length ∧ k1 = M.length - i) M.length (ELi p n c oi M.length ic 0 top top) (by (repeat (first | (exact Resp.fn) | (apply Resp.then) | (apply Resp.out)))) ?_ ?_ ?_
  · unfold ELi
    (refine EqK.of ?_ ?_ <;> (repeat (first | (exact all_nil) | (apply all_cons; rfl))))
  · refine ⟨0, 0, _, _, _, _, _, _, ws0, rfl, rfl, rfl, Nat.le_refl _, fr1, kp, hrow1, gS1, hS1, ?_, (by (repeat ((assumption)))), (by (repeat ((assumption)))), by omega, rfl⟩
    intro w b hw hb q0
    obtain ⟨i, hi⟩ := List.mem_iff_getElem?.1 hw
    have h2 := (List.getElem?_eq_some_iff.1 hi).1
    rw [hS0.len] at h2
    obtain ⟨w2, h3, h4⟩ := hS0.row i _ (List.getElem?_eq_getElem h2)
    rw [hi] at h3; cases h3
    have h5 := (h4.lt fS hb).2
    have h6 := (hids.blk q0).1
    omega
  · rintro k1 e s ⟨i, z, j5, j19, h', c', rl', wl', ws, rfl, hz, rfl, hcc, hf', hkp, hrow', hB, hG, hdis, hlr, hlw, hid, rfl⟩
    unfold ELi
    by_cases hi : i < M.length
    · have hgid : ((M.map Rc.id).map (Value.int .i64))[i]? = some (.int .i64 M[i].id) := by
        rw [List.getElem?_map, List.getElem?_map, List.getElem?_eq_getElem hi]; rfl
      obtain ⟨b1, o1, sp1, cs1, rfl, hc1, hn1⟩ := rowCell hrow' (j := i * 1) (by omega) (by rw [Nat.mul_one]; exact hgid)
      have hb1 : c + 1 ≤ b1 := (hids.blk (b := b1) rfl).1
      have l1 := hc1.lt hf'
      have q' := q.keep hf (fun b _ hb => hkp b hb (fun q => q))
      have hp' := q'.ptr
      obtain ⟨es, en, hm', ⟨ids, h2k⟩, h3k⟩ := q'.ex
      obtain ⟨lp', lm'⟩ := q'.lt hf'
      obtain ⟨zs, hzs, hzl, hzb⟩ := q.ok M[i] (List.getElem_mem hi)
      obtain ⟨va, vn, vk, hv1⟩ : ∃ a n k, valI M[i].id es = some (.agg ⟨[.slice a n k, .int .i64 M[i].seq]⟩) := by
        rcases h3k M[i].id with ⟨e1, _⟩ | ⟨r, v, e1, e2, w, rfl, e3, e4⟩
        · exact absurd rfl (getM_none.1 e1 M[i] (List.getElem_mem hi))
        · rw [getM_some q.rises (List.getElem_mem hi) rfl] at e1
          cases e1
          obtain ⟨a, k, rfl⟩ := e3.val
          exact ⟨_, _, _, e2⟩
      obtain ⟨vi, hv4⟩ := valI_some hv1
      have hseq : M[i].seq = listZ mid zs := by rw [hzs]
      have hlz := listZ_rng mid zs
      obtain ⟨k, hk⟩ : ∃ k : Nat, M[i].seq = (k : Int) := ⟨M[i].seq.toNat, by omega⟩
      have hkn : k < n := by omega
      have hls := listsM_succ (n := n) hi hk hkn
      obtain ⟨w, hw1, hw2⟩ := hG.row k _ (listsM_at hkn)
      have hwn : nth ws (0 + k * 1) = some w := by rw [nth_eq, Nat.zero_add, Nat.mul_one]; exact hw1
      have hwl : k < ws.length := (List.getElem?_eq_some_iff.1 hw1).1
      have hbnd : (inL (M.take i) k).length ≤ 800 := by
        unfold inL
        rw [List.length_map]
        have := List.length_filter_le (fun r : Rc => decide (r.seq = (k : Int))) (M.take i)
        rw [List.length_take] at this
        omega
      have hdw := hdis w
      have lB := hB.lt hf'
      have hll : ∀ l : List Int, (l ++ [M[i].id]).length = l.length + 1 := fun l => by rw [List.length_append]; rfl
      generalize inL (M.take i) k = l0 at hls hw2 hbnd
      rcases hw2 with ⟨rfl, rfl⟩ | ⟨bl, rfl, hne, hbl, hbc⟩
      · (repeat (first | (with_reducible refine Then.go ?_) | (with_reducible refine Wx.seq ?_) | (with_reducible refine Wx.skip ?_) | (with_reducible refine Wx.block ?_) | (with_reducible refine Wx.reg ?_) | (refine Wx.condT rfl (by rfl) ?_) | ((with_reducible refine Wseq.nil ?_); intro e he; (simp (decide := true) only [kz] at he; subst he)) | ((with_reducible apply Wseq.stg (op := Op.binOp BinOp.lss _ _ _ _)); rfl; exact to_lssT rfl rfl (by omega))))
        ((with_reducible apply Wseq.stg); (focus rfl); (focus (exact to_indexAddr (k := i) el35 rfl rfl hz (by omega))))
        ((with_reducible apply Wseq.stg); (focus rfl); (focus (exact to_load (pl_ rfl) rfl hc1 (by omega) hn1)))
        (repeat (first | (with_reducible refine Then.go ?_) | (refine Wx.dreg rfl ?_) | ((with_reducible refine Wseq.nil ?_); intro e he; (simp (decide := true) only [kz] at he; subst he)) | ((with_reducible apply Wseq.as); rfl; (intro v hv; (simp (decide := true) only [kw] at hv); subst hv)) | ((with_reducible apply Wtr.mv); rfl; (intro v hv; (simp (decide := true) only [kw] at hv); subst hv)) | ((with_reducible apply Wtr.stq (op := Op.fieldAddr _ _ _)); rfl; exact to_fieldAddr (fa_ rfl) rfl) | ((with_reducible apply Wtr.stx (op := Op.load _ _)); rfl; exact to_load (pl_ rfl) rfl (by (repeat ((apply Has.cel; assumption)))) (by omega) (by rfl); repeat ((exact all_nil))) | ((with_reducible apply Wtr.stq (op := Op.nilCheck _)); rfl; exact to_nilCheck rfl)))
        ((with_reducible apply Wtr.stx); (focus rfl); (focus (exact to_lookup (mi_ rfl) (ze_ rfl) rfl rfl hm' lm' h2k.ks (by rw [hv4]))); (focus (repeat (first | (exact all_nil) | (apply all_cons; (focus ((right; exact ApartP.rr))))))))
        (repeat (first | ((with_reducible apply Wtr.mv); rfl; (intro v hv; (simp (decide := true) only [kw] at hv); subst hv)) | ((with_reducible apply Wtr.stq (op := Op.fieldAddr _ _ _)); rfl; exact to_fieldAddr (fa_ rfl) rfl) | ((with_reducible apply Wtr.stx (op := Op.load _ _)); rfl; exact to_load (pl_ rfl) rfl (by (repeat ((apply Has.cel; assumption)))) (by omega) (by rfl); (focus (repeat (first | (exact all_nil) | (apply all_cons; (focus ((right; exact ApartP.rr)))))))) | ((with_reducible apply Wtr.stq (op := Op.nilCheck _)); rfl; exact to_nilCheck rfl) | ((with_reducible apply Wtr.stq (op := Op.field _ _ _)); rfl; exact to_field (fa_ rfl) (pl_ rfl) rfl rfl)))
        ((with_reducible apply Wtr.stx); (focus rfl); (focus (exact to_lookup (mi_ rfl) (ze_ rfl) rfl rfl hm' lm' h2k.ks (by rw [hv4]))); (focus (repeat (first | (exact all_nil) | (apply all_cons; (focus ((right; exact ApartP.rr))))))))
        (repeat (((with_reducible apply Wtr.stq (op := Op.field _ _ _)); rfl; exact to_field (fa_ rfl) (pl_ rfl) rfl rfl)))
        ((with_reducible apply Wtr.stq); (focus rfl); (focus (exact to_indexAddr (k := k) el47 rfl rfl hk hkn)))
        ((with_reducible apply Wtr.stx); (focus rfl); (focus (exact to_load (pl_ rfl) rfl hB.cel (by omega) hwn)); (focus (repeat (first | (exact all_nil) | (apply all_cons; (focus ((right; exact ApartP.rr))))))))
        (repeat (first | ((with_reducible apply Wtr.mv); rfl; (intro v hv; (simp (decide := true) only [kw] at hv); subst hv)) | ((with_reducible apply Wtr.bs); rfl; exact (ro_ rfl); rfl; exact (by ((repeat (apply Fresh.put; omega)); ((assumption)))); (focus (repeat (first | (exact all_nil) | (apply all_cons; (focus ((right; exact ApartP.rr))))))); (intro v hv; (simp (decide := true) only [kw] at hv); subst hv); refine ⟨_, rfl, ?_⟩)))
        ((with_reducible apply Wtr.stx); (focus rfl); (focus (exact to_appNil ro35 sl35 rfl rfl (k := 0) Has.same.cel (by omega) (subN_all _ _ rfl) (by omega) (by ((repeat (apply Fresh.put; omega)); ((exact Fresh.up (by assumption) (by omega))))))); (focus (repeat (first | (exact all_nil) | (apply all_cons; (focus (first | (right; exact ApartP.rr) | (left; dsimp only; decide +kernel))))))))
        ((with_reducible apply Wtr.stq); (focus rfl); (focus (exact to_indexAddr (k := k) el47 rfl rfl hk hkn)))
        rw [hk]
        ((with_reducible apply Wtr.so); rfl; exact (sz_ rfl); rfl; exact (by (repeat (first | (assumption) | (apply Has.other; omega)))); omega; (focus (repeat (first | (exact all_nil) | (apply all_cons; (focus ((left; dsimp only; decide +kernel))))))); (intro v hv; (simp (decide := true) only [kw] at hv); subst hv); refine ⟨_, _, (by ((exact cellsA_agg _))), rfl, setOneI hwl rfl, ?_⟩)
        (repeat (first | (with_reducible refine Then.go ?_) | (with_reducible refine Out.go ?_) | (with_reducible refine Wx.reg ?_) | ((with_reducible refine Wseq.nil ?_); intro e he; (simp (decide := true) only [kz] at he; subst he)) | ((with_reducible apply Wseq.mv); rfl; (intro v hv; (simp (decide := true) only [kw] at hv); subst hv)) | ((with_reducible apply Wseq.stg (op := Op.binOp BinOp.add _ _ _ _)); rfl; exact to_add rfl rfl (by omega) (by omega)) | ((with_reducible refine Wtr.nil ?_); intro e he; (simp (decide := true) only [kz] at he; subst he))))
        refine RoundE.go (M.length - (i + 1)) (ELi p n c _ M.length ic (z + 1) _ _) (by omega) (by (refine EqK.of ?_ ?_ <;> (repeat (first | (exact all_nil) | (apply all_cons; rfl))))) ⟨i + 1, z + 1, _, _, _, _, _, _, _, rfl, by omega, rfl, by omega, (by ((repeat (apply Fresh.put; omega)); ((exact Fresh.up (by assumption) (by omega))))), (by (repeat (first | (assumption) | (apply Kp.set; (focus (left; omega)))))), Row.keepBI hrow' (fun b q => ?_), Has.same, ?_, ?_, (by (repeat (first | (exact Lg.nil) | (assumption) | (apply Lg.cons; (focus (first | (left; omega) | (right; (assumption))))) | (apply Lg.app)))), (by (repeat (first | (exact Lg.nil) | (assumption) | (apply Lg.cons; (focus (left; omega))) | (apply Lg.app)))), by omega, rfl⟩
        · have q' : b1 = b := by simpa [blkOf] using q
          rw [get_other (by omega), get_other (by omega), get_other (by omega)]
        · rw [hls]
          refine hG.step hf' hw1 (.inr ⟨c' + 1, rfl, (fun e => by cases e), by omega, Has.other (by omega) Has.same⟩) (fun b q => by cases q; dsimp only; omega) (fun b q1 _ q2 => ?_)
          rw [get_other (by omega), get_other (by omega), get_other (by omega)]
        · intro w b hw hb
          rcases List.mem_or_eq_of_mem_set hw with hw | rfl
          · exact hdis w b hw hb
          · intro q
            have q' : b1 = b := by simpa [blkOf] using q
            cases hb
            dsimp only at q'
            omega
      · have l3 := hbc.lt hf'
        have hnb : bl ≠ b1 := fun e => hdw bl (List.mem_of_getElem? hw1) rfl (by rw [e]; rfl)
        (repeat (first | (with_reducible refine Then.go ?_) | (with_reducible refine Wx.seq ?_) | (with_reducible refine Wx.skip ?_) | (with_reducible refine Wx.block ?_) | (with_reducible refine Wx.reg ?_) | (refine Wx.condT rfl (by rfl) ?_) | ((with_reducible refine Wseq.nil ?_); intro e he; (simp (decide := true) only [kz] at he; subst he)) | ((with_reducible apply Wseq.stg (op := Op.binOp BinOp.lss _ _ _ _)); rfl; exact to_lssT rfl rfl (by omega))))
        ((with_reducible apply Wseq.stg); (focus rfl); (focus (exact to_indexAddr (k := i) el35 rfl rfl hz (by omega))))
        ((with_reducible apply Wseq.stg); (focus rfl); (focus (exact to_load (pl_ rfl) rfl hc1 (by omega) hn1)))
        (repeat (first | (with_reducible refine Then.go ?_) | (refine Wx.dreg rfl ?_) | ((with_reducible refine Wseq.nil ?_); intro e he; (simp (decide := true) only [kz] at he; subst he)) | ((with_reducible apply Wseq.as); rfl; (intro v hv; (simp (decide := true) only [kw] at hv); subst hv)) | ((with_reducible apply Wtr.mv); rfl; (intro v hv; (simp (decide := true) only [kw] at hv); subst hv)) | ((with_reducible apply Wtr.stq (op := Op.fieldAddr _ _ _)); rfl; exact to_fieldAddr (fa_ rfl) rfl) | ((with_reducible apply Wtr.stx (op := Op.load _ _)); rfl; exact to_load (pl_ rfl) rfl (by (repeat ((apply Has.cel; assumption)))) (by omega) (by rfl); repeat ((exact all_nil))) | ((with_reducible apply Wtr.stq (op := Op.nilCheck _)); rfl; exact to_nilCheck rfl)))
        ((with_reducible apply Wtr.stx); (focus rfl); (focus (exact to_lookup (mi_ rfl) (ze_ rfl) rfl rfl hm' lm' h2k.ks (by rw [hv4]))); (focus (repeat (first | (exact all_nil) | (apply all_cons; (focus ((right; exact ApartP.rr))))))))
        (repeat (first | ((with_reducible apply Wtr.mv); rfl; (intro v hv; (simp (decide := true) only [kw] at hv); subst hv)) | ((with_reducible apply Wtr.stq (op := Op.fieldAddr _ _ _)); rfl; exact to_fieldAddr (fa_ rfl) rfl) | ((with_reducible apply Wtr.stx (op := Op.load _ _)); rfl; exact to_load (pl_ rfl) rfl (by (repeat ((apply Has.cel; assumption)))) (by omega) (by rfl); (focus (repeat (first | (exact all_nil) | (apply all_cons; (focus ((right; exact ApartP.rr)))))))) | ((with_reducible apply Wtr.stq (op := Op.nilCheck _)); rfl; exact to_nilCheck rfl) | ((with_reducible apply Wtr.stq (op := Op.field _ _ _)); rfl; exact to_field (fa_ rfl) (pl_ rfl) rfl rfl)))
        ((with_reducible apply Wtr.stx); (focus rfl); (focus (exact to_lookup (mi_ rfl) (ze_ rfl) rfl rfl hm' lm' h2k.ks (by rw [hv4]))); (focus (repeat (first | (exact all_nil) | (apply all_cons; (focus ((right; exact ApartP.rr))))))))
        (repeat (((with_reducible apply Wtr.stq (op := Op.field _ _ _)); rfl; exact to_field (fa_ rfl) (pl_ rfl) rfl rfl)))
        ((with_reducible apply Wtr.stq); (focus rfl); (focus (exact to_indexAddr (k := k) el47 rfl rfl hk hkn)))
        ((with_reducible apply Wtr.stx); (focus rfl); (focus (exact to_load (pl_ rfl) rfl hB.cel (by omega) hwn)); (focus (repeat (first | (exact all_nil) | (apply all_cons; (focus ((right; exact ApartP.rr))))))))
        (repeat (first | ((with_reducible apply Wtr.mv); rfl; (intro v hv; (simp (decide := true) only [kw] at hv); subst hv)) | ((with_reducible apply Wtr.bs); rfl; exact (ro_ rfl); rfl; exact (by ((repeat (apply Fresh.put; omega)); ((assumption)))); (focus (repeat (first | (exact all_nil) | (apply all_cons; (focus ((right; exact ApartP.rr))))))); (intro v hv; (simp (decide := true) only [kw] at hv); subst hv); refine ⟨_, rfl, ?_⟩)))
        ((with_reducible apply Wtr.stx); (focus rfl); (focus (exact to_appOwn ro35 sl35 rfl rfl (k := 0) Has.same.cel (by omega) (subN_all _ _ rfl) (by omega) (by omega) (by (repeat (first | (assumption) | (apply Has.other; omega)))) (by omega) (subN_all _ _ (by simp)) (all_cons rfl all_nil) (by ((repeat (apply Fresh.put; omega)); ((exact Fresh.up (by assumption) (by omega))))))); (focus (repeat (first | (exact all_nil) | (apply all_cons; (focus (first | (left; dsimp only; decide +kernel) | (right; refine ⟨?_, ?_, ?_, ?_, ?_⟩ <;> (first | (exact all_nil) | (intro b hb; (try simp only [List.mem_cons, List.not_mem_nil, or_false] at hb ⊢); omega))))))))))
        ((with_reducible apply Wtr.stq); (focus rfl); (focus (exact to_indexAddr (k := k) el47 rfl rfl hk hkn)))
        rw [hk]
        ((with_reducible apply Wtr.so); rfl; exact (sz_ rfl); rfl; exact (by (repeat (first | (assumption) | (apply Has.other; omega)))); omega; (focus (repeat (first | (exact all_nil) | (apply all_cons; (focus ((left; dsimp only; decide +kernel))))))); (intro v hv; (simp (decide := true) only [kw] at hv); subst hv); refine ⟨_, _, (by ((exact cellsA_agg _))), rfl, setOneI hwl rfl, ?_⟩)
        (repeat (first | (with_reducible refine Then.go ?_) | (with_reducible refine Out.go ?_) | (with_reducible refine Wx.reg ?_) | ((with_reducible refine Wseq.nil ?_); intro e he; (simp (decide := true) only [kz] at he; subst he)) | ((with_reducible apply Wseq.mv); rfl; (intro v hv; (simp (decide := true) only [kw] at hv); subst hv)) | ((with_reducible apply Wseq.stg (op := Op.binOp BinOp.add _ _ _ _)); rfl; exact to_add rfl rfl (by omega) (by omega)) | ((with_reducible refine Wtr.nil ?_); intro e he; (simp (decide := true) only [kz] at he; subst he))))
        refine RoundE.go (M.length - (i + 1)) (ELi p n c _ M.length ic (z + 1) _ _) (by omega) (by (refine EqK.of ?_ ?_ <;> (repeat (first | (exact all_nil) | (apply all_cons; rfl))))) ⟨i + 1, z + 1, _, _, _, _, _, _, _, rfl, by omega, rfl, by omega, (by ((repeat (apply Fresh.put; omega)); ((exact Fresh.up (by assumption) (by omega))))), (by (repeat (first | (assumption) | (apply Kp.set; (focus (left; omega)))))), Row.keepBI hrow' (fun b q => ?_), Has.same, ?_, ?_, (by (repeat (first | (exact Lg.nil) | (assumption) | (apply Lg.cons; (focus (first | (left; omega) | (right; (assumption))))) | (apply Lg.app)))), (by (repeat (first | (exact Lg.nil) | (assumption) | (apply Lg.cons; (focus (left; omega))) | (apply Lg.app)))), by omega, rfl⟩
        · have q' : b1 = b := by simpa [blkOf] using q
          rw [get_other (by omega), get_other (by omega), get_other (by omega), get_other (by omega)]
        · rw [hls]
          refine hG.step hf' hw1 (.inr ⟨c' + 1, by rw [hll], (fun e => by have := congrArg List.length e; rw [hll] at this; cases this), by omega, by rw [List.map_append]; exact Has.other (by omega) Has.same⟩) (fun b q => by cases q; dsimp only; omega) (fun b q1 q4 q2 => ?_)
          have q5 : b ≠ bl := fun e => q4 (by rw [e]; rfl)
          rw [get_other (by omega), get_other (by omega), get_other q5, get_other (by omega)]
        · intro w b hw hb
          rcases List.mem_or_eq_of_mem_set hw with hw | rfl
          · exact hdis w b hw hb
          · intro q
            have q' : b1 = b := by simpa [blkOf] using q
            cases hb
            dsimp only at q'
            omega
    · (repeat (first | (with_reducible refine Then.go ?_) | (with_reducible refine Then.ex ?_) | (with_reducible refine Out.hit ?_) | (with_reducible refine Wx.seq ?_) | (with_reducible refine Wx.exit ?_) | (with_reducible refine Wx.ret ?_) | (with_reducible refine Wx.reg ?_) | (with_reducible refine RoundE.ex ?_) | (refine Wx.condF rfl (by rfl) ?_) | ((with_reducible refine Wseq.nil ?_); intro e he; (simp (decide := true) only [kz] at he; subst he)) | ((with_reducible apply Wseq.mv); rfl; (intro v hv; (simp (decide := true) only [kw] at hv); subst hv)) | ((with_reducible apply Wseq.as); rfl; (intro v hv; (simp (decide := true) only [kw] at hv); subst hv)) | ((with_reducible apply Wseq.stg (op := Op.binOp BinOp.lss _ _ _ _)); rfl; exact to_lssF rfl rfl (by omega))))
      obtain rfl : i = M.length := by omega
      rw [List.take_length] at hG
      refine ⟨.inr rfl, Wres.one rfl ⟨⟨rfl, ws, hB, hG⟩, ?_⟩⟩
      (dsimp only; exact Ext.of (by omega) (by ((repeat (apply Fresh.put; omega)); ((assumption)))) (by (repeat ((assumption)))) (by (repeat ((assumption)))) (by (repeat ((assumption)))))
end Go.Ab.Seat
