import Derived.Test.YtofikbfljjjgeaaGreatDoorDN0
import Derived.Test.YtofikbfljjjgeaaGreatDoorDF2
set_option linter.unusedVariables false
set_option linter.unusedSimpArgs false
section
/- An index of lists: its lists (the abstract machine). -/
namespace Go.Ab.Seat
open Go.Extern Go.Proofs
set_option maxRecDepth 4000
theorem Row.keepBI {h h' : T AObj} {v : Value} {n k : Nat} {xs : List Value} (hr : Row h v n k xs) (hk : ∀ b, blkOf v = some b → h'.get b = h.get b) : Row h' v n k xs := by
 rcases hr with g | ⟨b, o, sp, cap, cs, e, g6, g7⟩
 ·exact .inl g
 ·refine .inr ⟨b, o, sp, cap, cs, e, ?_, g7⟩
  have q := hk b (by rw [e]; rfl)
  unfold Cel Has at g6 ⊢
  rw [q]; exact g6
theorem HI.keep {h h' : T AObj} {c0 : Nat} {w : Value} {l : List Int} (x : HI h c0 w l) (k : ∀ b, blkOf w = some b → h'.get b = h.get b) : HI h' c0 w l := by
 rcases x with x | ⟨b, h1, h2, h3, h4⟩
 ·exact .inl x
 ·exact .inr ⟨b, h1, h2, h3, (k b (by rw [h1]; rfl)).trans h4⟩
theorem HI.lt {h : T AObj} {c c0 : Nat} {w : Value} {l : List Int} (x : HI h c0 w l) (hf : Fresh h c) {b : Nat} (hb : blkOf w = some b) : c0 ≤ b ∧ b < c := by
 rcases x with ⟨rfl, _⟩ | ⟨b', rfl, _, h3, h4⟩
 ·cases hb
 ·cases hb; exact ⟨h3, h4.lt hf⟩
structure IntG (h : T AObj) (c0 : Nat) (ws : List Value) (ls : List (List Int)) : Prop where
 len : ws.length = ls.length
 row : ∀ (i : Nat) (l : List Int), ls[i]? = some l → ∃ w, ws[i]? = some w ∧ HI h c0 w l
 inj : ∀ (i j : Nat) (w w' : Value) (b : Nat), ws[i]? = some w → ws[j]? = some w' → blkOf w = some b → blkOf w' = some b → i = j
theorem IntG.keep {h h' : T AObj} {c c0 : Nat} {ws : List Value} {ls : List (List Int)} (x : IntG h c0 ws ls) (hf : Fresh h c) (k : ∀ b, b < c → c0 ≤ b → h'.get b = h.get b) : IntG h' c0 ws ls :=
 ⟨x.len, fun i l hi => by
  obtain ⟨w, h1, h2⟩ := x.row i l hi
  exact ⟨w, h1, h2.keep fun b hb => k b (h2.lt hf hb).2 (h2.lt hf hb).1⟩, x.inj⟩
theorem IntG.step {h h' : T AObj} {c c0 : Nat} {ws : List Value} {ls : List (List Int)} (x : IntG h c0 ws ls) (hf : Fresh h c) {i : Nat} {w0 w : Value} {l : List Int} (h0 : ws[i]? = some w0) (hw : HI h' c0 w l) (hb : ∀ b, blkOf w = some b → c ≤ b)
  (k : ∀ b, b < c → blkOf w0 ≠ some b → c0 ≤ b → h'.get b = h.get b) : IntG h' c0 (ws.set i w) (ls.set i l) := by
 have hil : i < ws.length := (List.getElem?_eq_some_iff.1 h0).1
 have hold : ∀ j w1, ws[j]? = some w1 → ∀ b, blkOf w1 = some b → b < c := fun j w1 hj b hb1 => by
  have h2 := (List.getElem?_eq_some_iff.1 hj).1
  rw [x.len] at h2
  obtain ⟨w2, h3, h4⟩ := x.row j ls[j] (List.getElem?_eq_getElem h2)
  rw [hj] at h3; cases h3
  exact (h4.lt hf hb1).2
 refine ⟨by rw [List.length_set, List.length_set]; exact x.len, fun j l1 hj => ?_, fun j j' w1 w1' b e1 e2 b1 b2 => ?_⟩
 ·rw [List.getElem?_set] at hj ⊢
  by_cases hij : i = j
  ·subst hij
   rw [if_pos rfl] at hj ⊢
   rw [if_pos (by rw [← x.len]; exact hil)] at hj
   cases hj
   rw [if_pos hil]
   exact ⟨w, rfl, hw⟩
  ·rw [if_neg hij] at hj ⊢
   obtain ⟨w1, h1, h2⟩ := x.row j l1 hj
   refine ⟨w1, h1, h2.keep fun b hb => k b (h2.lt hf hb).2 (fun q => ?_) (h2.lt hf hb).1⟩
   exact hij (x.inj i j w0 w1 b h0 h1 q hb)
 ·rw [List.getElem?_set] at e1 e2
  by_cases hij : i = j
  ·by_cases hij' : i = j'
   ·omega
   ·rw [if_neg hij'] at e2
    rw [if_pos hij, if_pos hil] at e1
    cases e1
    have h1 := hb b b1
    have h2 := hold j' w1' e2 b b2
    omega
  ·rw [if_neg hij] at e1
   by_cases hij' : i = j'
   ·rw [if_pos hij', if_pos hil] at e2
    cases e2
    have h1 := hb b b2
    have h2 := hold j w1 e1 b b1
    omega
   ·rw [if_neg hij'] at e2
    exact x.inj j j' w1 w1' b e1 e2 b1 b2
def inL (M : List Rc) (i : Nat) : List Int := (M.filter fun r => decide (r.seq = (i : Int))).map Rc.id
def listsM (n : Nat) (M : List Rc) : List (List Int) := (List.range n).map fun i => inL M i
theorem listsM_len (n : Nat) (M : List Rc) : (listsM n M).length = n := by unfold listsM; simp
theorem listsM_at {n i : Nat} {M : List Rc} (hi : i < n) : (listsM n M)[i]? = some (inL M i) := by
 unfold listsM
 rw [List.getElem?_map, List.getElem?_eq_getElem (by simpa using hi), List.getElem_range]; rfl
theorem inL_succ {M : List Rc} {j i : Nat} (hj : j < M.length) : inL (M.take (j + 1)) i = if M[j].seq = (i : Int) then inL (M.take j) i ++ [M[j].id] else inL (M.take j) i := by
 unfold inL
 rw [List.take_succ_eq_append_getElem hj, List.filter_append, List.map_append]
 by_cases h : M[j].seq = (i : Int)
 ·rw [if_pos h, List.filter_cons_of_pos (by simpa using h)]; rfl
 ·rw [if_neg h, List.filter_cons_of_neg (by simpa using h)]; simp
theorem listsM_succ {n j i : Nat} {M : List Rc} (hj : j < M.length) (hi : M[j].seq = (i : Int)) (hin : i < n) : listsM n (M.take (j + 1)) = (listsM n (M.take j)).set i (inL (M.take j) i ++ [M[j].id]) := by
 refine List.ext_getElem? fun k => ?_
 rw [List.getElem?_set, listsM_len]
 by_cases hik : i = k
 ·subst hik
  rw [if_pos rfl, if_pos hin, listsM_at hin, inL_succ hj, if_pos hi]
 ·rw [if_neg hik]
  rcases Nat.lt_or_ge k n with h | h
  ·rw [listsM_at h, listsM_at h, inL_succ hj, if_neg (by rw [hi]; omega)]
  ·rw [List.getElem?_eq_none (by rw [listsM_len]; exact h), List.getElem?_eq_none (by rw [listsM_len]; exact h)]
theorem IntG.init {h : T AObj} {c0 n : Nat} : IntG h c0 (rep [.slice none 0 0] n) (listsM n []) := by
 have e : rep [Value.slice none 0 0] n = List.replicate n (.slice none 0 0) := by
  induction n with
  | zero => rfl
  | succ n ih => rw [List.replicate_succ, ← ih]; rfl
 rw [e]
 refine ⟨by rw [List.length_replicate, listsM_len], fun i l hi => ?_, fun i j w w' b e1 _ b1 _ => ?_⟩
 ·have h1 := (List.getElem?_eq_some_iff.1 hi).1
  rw [listsM_len] at h1
  rw [listsM_at h1] at hi
  cases hi
  exact ⟨_, by rw [List.getElem?_replicate, if_pos h1], .inl ⟨rfl, rfl⟩⟩
 ·have := List.eq_of_mem_replicate (List.mem_of_getElem? e1)
  subst this; cases b1
theorem setOneI {ws : List Value} {i : Nat} {w : Value} (hi : i < ws.length) (ha : atom w = true) : setMany [w] ws (0 + i * 1) = some (ws.set i w) := by
 rw [setMany_eq _ _ _ (by show _ + 1 ≤ _; omega) (all_cons ha all_nil), List.set_eq_take_append_cons_drop, if_pos hi, Nat.zero_add, Nat.mul_one, List.append_assoc]
 rfl
theorem listZ_rng (mid : List (List Int)) (zs : List Int) : 0 ≤ listZ mid zs ∧ listZ mid zs < (max mid.length 1 : Nat) := by
 unfold listZ
 by_cases h : mid.length = 0
 ·unfold nearZ; rw [if_pos h]; omega
 ·have := nearZ_rng (zs := zs) h; omega
def ELi (p n : Nat) (c : Nat) (oi : Option Addr) (mn ic : Nat) (z : Int) (j5 j19 : Value) : L :=
 .cons 0 (.pointer (some ⟨p, 0, none⟩)) (.cons 2 (.slice none 0 0) (.cons 7 (.bool false) (.cons 3 (.slice (some ⟨c, 0, none⟩) n n) (.cons 16 (.slice oi mn ic) (.cons 17 (.int .i64 (mn : Int)) (.cons 18 (.int .i64 z) (.cons 5 j5 (.cons 19 j19 .nil))))))))
set_option maxHeartbeats 8000000 in
theorem ilists_spec {h : T AObj} {c : Nat} {rl wl : List Nat} (hf : Fresh h c) {p m dim : Nat} {mv : Value} {mt : Int} {mid : List (List Int)} {M : List Rc} {U : Nat → Prop} (q : IvfM h p m mv mt dim mid M U) (hmn : mid.length ≤ 12) (hn : M.length ≤ 800) :
  ∃ r s', FnTo (Cs smQ) eg 63 [.pointer (some ⟨p, 0, none⟩)] ⟨h, c, rl, wl⟩ r s' ∧ (r = .slice (some ⟨c, 0, none⟩) (max mid.length 1) (max mid.length 1) ∧ ∃ ws, Has s'.h c (.cells ws) ∧ IntG s'.h (c + 1) ws (listsM (max mid.length 1) M)) ∧ Ext ⟨h, c, rl, wl⟩ s' U (fun _ => False) := by
 have hp := q.ptr
 obtain ⟨lp, lm⟩ := q.lt hf
 have hpU := q.pU
 have hmU := q.mU
 obtain ⟨oa1, cap1, rfl⟩ := q.mids.val
 have hmx : max (mid.length : Int) 1 = ((max mid.length 1 : Nat) : Int) := by omega
 have hL : max mid.length 1 ≤ 12 := by omega
 refine Fn.go (stdQ 63 rfl) ex63 fn63 km63 rfl rfl ?_
 refine Zev ?_
 refine Zgo ?_
 rw [hmx]
 generalize hLL : max mid.length 1 = n at hL
 refine Zu (to_makeSlice (a := n) (b := n) ro102 rfl rfl rfl rfl (by omega) (by unfold big; omega) Zfr) ?_
 refine Zgo ?_
 have hS0 : IntG (h.set c (some (.cells (rep [.slice none 0 0] n)))) (c + 1) (rep [.slice none 0 0] n) (listsM n []) := IntG.init
 have fS : Fresh (h.set c (some (.cells (rep [.slice none 0 0] n)))) (c + 1) := Zfr
 have kS : ∀ b, b < c → (h.set c (some (.cells (rep [.slice none 0 0] n)))).get b = h.get b := fun b hb => get_other (by omega)
 have gS : Has (h.set c (some (.cells (rep [.slice none 0 0] n)))) c (.cells (rep [.slice none 0 0] n)) := Has.same
 generalize (h.set c (some (.cells (rep [.slice none 0 0] n)))) = hS at hS0 fS kS gS
 generalize rep [Value.slice none 0 0] n = ws0 at hS0 gS
 refine Wseq.call rfl rfl (iids_spec Zfr (q.keep hf (fun b _ hb => kS b hb)) (by omega)) ?_
 rintro v1 h1 c1 r1 w1 ⟨hids, hext⟩
 have fr1 := hext.fresh
 have le1 := hext.c
 simp only at le1 fr1
 have kp := Kp.ext (W := fun _ => False) (h := h) (c := c) (fun b hb _ => kS b hb) hext (by omega) (fun _ _ q => q)
 have lr := Lg.extR (R := U) (c := c) Zlg hext (fun b hb u => u)
 have lw := Lg.extW (W := fun _ => False) (c := c) Zlg hext (fun _ _ q => q)
 obtain ⟨oi, ic, rfl⟩ := hids.val
 have hrow1 := hids.row (by rw [List.length_map, List.length_map])
 have hS1 := hS0.keep fS (fun b hb _ => hext.get hb (fun q => q))
 have gS1 := hext.hs gS (by omega) (fun q => q)
 have hbg : big = 1048576 := rfl
 refine Zgo ?_
 refine Wx.loopE (fun k1 e s => ∃ (i : Nat) (z : Int) (j5 j19 : Value) (h' : T AObj) (c' : Nat) (rl' wl' : List Nat) (ws : List Value), e = ELi p n c oi M.length ic z j5 j19 ∧ z = i ∧ s = ⟨h', c', rl', wl'⟩ ∧ c1 ≤ c' ∧ Fresh h' c' ∧ Kp h h' c (fun _ => False) ∧ Row h' (.slice oi M.length ic) M.length 1 ((M.map Rc.id).map (Value.int .i64)) ∧ Has h' c (.cells ws) ∧ IntG h' (c + 1) ws (listsM n (M.take i)) ∧ (∀ w b, w ∈ ws → blkOf w = some b → blkOf (.slice oi M.length ic) ≠ some b) ∧ Lg c U rl' ∧ Lg c (fun _ => False) wl' ∧ i ≤ M.length ∧ k1 = M.length - i) M.length (ELi p n c oi M.length ic 0 top top) Zrs ?_ ?_ ?_
 ·unfold ELi
  exact Zek
 ·refine ⟨0, 0, _, _, _, _, _, _, ws0, rfl, rfl, rfl, Nat.le_refl _, fr1, kp, hrow1, gS1, hS1, ?_, Zlg, Zlg, by omega, rfl⟩
  intro w b hw hb q0
  obtain ⟨i, hi⟩ := List.mem_iff_getElem?.1 hw
  have h2 := (List.getElem?_eq_some_iff.1 hi).1
  rw [hS0.len] at h2
  obtain ⟨w2, h3, h4⟩ := hS0.row i _ (List.getElem?_eq_getElem h2)
  rw [hi] at h3; cases h3
  have h5 := (h4.lt fS hb).2
  have h6 := (hids.blk q0).1
  omega
 ·rintro k1 e s ⟨i, z, j5, j19, h', c', rl', wl', ws, rfl, hz, rfl, hcc, hf', hkp, hrow', hB, hG, hdis, hlr, hlw, hid, rfl⟩
  unfold ELi
  by_cases hi : i < M.length
  ·have hgid : ((M.map Rc.id).map (Value.int .i64))[i]? = some (.int .i64 M[i].id) := by
    rw [List.getElem?_map, List.getElem?_map, List.getElem?_eq_getElem hi]; rfl
   obtain ⟨b1, o1, sp1, cs1, rfl, hc1, hn1⟩ := rowCell hrow' (j := i * 1) (by omega) (by rw [Nat.mul_one]; exact hgid)
   have hb1 : c + 1 ≤ b1 := (hids.blk (b := b1) rfl).1
   have l1 := hc1.lt hf'
   have q' := q.keep hf (fun b _ hb => hkp b hb (fun q => q))
   have hp' := q'.ptr
   obtain ⟨es, en, hm', ⟨ids, h2k⟩, h3k⟩ := q'.ex
   obtain ⟨lp', lm'⟩ := q'.lt hf'
   obtain ⟨zs, hzs, hzl, hzb⟩ := q.ok M[i] (List.getElem_mem hi)
   obtain ⟨va, vn, vk, hv1⟩ : ∃ a n k, valI M[i].id es = some (.agg ⟨[.slice a n k, .int .i64 M[i].seq]⟩) := by
    rcases h3k M[i].id with ⟨e1, _⟩ | ⟨r, v, e1, e2, w, rfl, e3, e4⟩
    ·exact absurd rfl (getM_none.1 e1 M[i] (List.getElem_mem hi))
    ·rw [getM_some q.rises (List.getElem_mem hi) rfl] at e1
     cases e1
     obtain ⟨a, k, rfl⟩ := e3.val
     exact ⟨_, _, _, e2⟩
   obtain ⟨vi, hv4⟩ := valI_some hv1
   have hseq : M[i].seq = listZ mid zs := by rw [hzs]
   have hlz := listZ_rng mid zs
   obtain ⟨k, hk⟩ : ∃ k : Nat, M[i].seq = (k : Int) := ⟨M[i].seq.toNat, by omega⟩
   have hkn : k < n := by omega
   have hls := listsM_succ (n := n) hi hk hkn
   obtain ⟨w, hw1, hw2⟩ := hG.row k _ (listsM_at hkn)
   have hwn : nth ws (0 + k * 1) = some w := by rw [nth_eq, Nat.zero_add, Nat.mul_one]; exact hw1
   have hwl : k < ws.length := (List.getElem?_eq_some_iff.1 hw1).1
   have hbnd : (inL (M.take i) k).length ≤ 800 := by
    unfold inL
    rw [List.length_map]
    have := List.length_filter_le (fun r : Rc => decide (r.seq = (k : Int))) (M.take i)
    rw [List.length_take] at this
    omega
   have hdw := hdis w
   have lB := hB.lt hf'
   have hll : ∀ l : List Int, (l ++ [M[i].id]).length = l.length + 1 := fun l => by rw [List.length_append]; rfl
   generalize inL (M.take i) k = l0 at hls hw2 hbnd
   rcases hw2 with ⟨rfl, rfl⟩ | ⟨bl, rfl, hne, hbl, hbc⟩
   ·refine Zgo ?_
    refine Zu (to_indexAddr (k := i) el45 rfl rfl hz (by omega)) ?_
    refine Zu (to_load (pl_ rfl) rfl hc1 (by omega) hn1) ?_
    refine Zgo ?_
    refine Zd (to_lookup (mi_ rfl) (ze_ rfl) rfl rfl hm' lm' h2k.ks (by rw [hv4])) ?_
    refine Zgo ?_
    refine Zd (to_lookup (mi_ rfl) (ze_ rfl) rfl rfl hm' lm' h2k.ks (by rw [hv4])) ?_
    refine Zgo ?_
    refine Zq (to_indexAddr (k := k) el102 rfl rfl hk hkn) ?_
    refine Zd (to_load (pl_ rfl) rfl hB.cel (by omega) hwn) ?_
    refine Zgo ?_
    refine Zd (to_appNil ro45 sl45 rfl rfl (k := 0) Has.same.cel (by omega) (subN_all _ _ rfl) (by omega) Zfr) ?_
    refine Zq (to_indexAddr (k := k) el102 rfl rfl hk hkn) ?_
    rw [hk]
    ((with_reducible apply Wtr.so); rfl; exact (sz_ rfl); rfl; exact Zhs; omega; exact Zap; refine Znv ?_; refine ⟨_, _, (by (first | exact cellsA_agg _ | rfl)), rfl, setOneI hwl rfl, ?_⟩)
    refine Zgo ?_
    refine RoundE.go (M.length - (i + 1)) (ELi p n c _ M.length ic (z + 1) _ _) (by omega) Zek ⟨i + 1, z + 1, _, _, _, _, _, _, _, rfl, by omega, rfl, by omega, Zfr, Zkp, Row.keepBI hrow' (fun b q => ?_), Has.same, ?_, ?_, Zlg, Zlg, by omega, rfl⟩
    ·have q' : b1 = b := by simpa [blkOf] using q
     rw [get_other (by omega), get_other (by omega), get_other (by omega)]
    ·rw [hls]
     refine hG.step hf' hw1 (.inr ⟨c' + 1, rfl, (fun e => by cases e), by omega, Has.other (by omega) Has.same⟩) (fun b q => by cases q; dsimp only; omega) (fun b q1 _ q2 => ?_)
     rw [get_other (by omega), get_other (by omega), get_other (by omega)]
    ·intro w b hw hb
     rcases List.mem_or_eq_of_mem_set hw with hw | rfl
     ·exact hdis w b hw hb
     ·intro q
      have q' : b1 = b := by simpa [blkOf] using q
      cases hb
      dsimp only at q'
      omega
   ·have l3 := hbc.lt hf'
    have hnb : bl ≠ b1 := fun e => hdw bl (List.mem_of_getElem? hw1) rfl (by rw [e]; rfl)
    refine Zgo ?_
    refine Zu (to_indexAddr (k := i) el45 rfl rfl hz (by omega)) ?_
    refine Zu (to_load (pl_ rfl) rfl hc1 (by omega) hn1) ?_
    refine Zgo ?_
    refine Zd (to_lookup (mi_ rfl) (ze_ rfl) rfl rfl hm' lm' h2k.ks (by rw [hv4])) ?_
    refine Zgo ?_
    refine Zd (to_lookup (mi_ rfl) (ze_ rfl) rfl rfl hm' lm' h2k.ks (by rw [hv4])) ?_
    refine Zgo ?_
    refine Zq (to_indexAddr (k := k) el102 rfl rfl hk hkn) ?_
    refine Zd (to_load (pl_ rfl) rfl hB.cel (by omega) hwn) ?_
    refine Zgo ?_
    refine Zd (to_appOwn ro45 sl45 rfl rfl (k := 0) Has.same.cel (by omega) (subN_all _ _ rfl) (by omega) (by omega) Zhs (by omega) (subN_all _ _ (by simp)) (all_cons rfl all_nil) Zfr) ?_
    refine Zq (to_indexAddr (k := k) el102 rfl rfl hk hkn) ?_
    rw [hk]
    ((with_reducible apply Wtr.so); rfl; exact (sz_ rfl); rfl; exact Zhs; omega; exact Zap; refine Znv ?_; refine ⟨_, _, (by (first | exact cellsA_agg _ | rfl)), rfl, setOneI hwl rfl, ?_⟩)
    refine Zgo ?_
    refine RoundE.go (M.length - (i + 1)) (ELi p n c _ M.length ic (z + 1) _ _) (by omega) Zek ⟨i + 1, z + 1, _, _, _, _, _, _, _, rfl, by omega, rfl, by omega, Zfr, Zkp, Row.keepBI hrow' (fun b q => ?_), Has.same, ?_, ?_, Zlg, Zlg, by omega, rfl⟩
    ·have q' : b1 = b := by simpa [blkOf] using q
     rw [get_other (by omega), get_other (by omega), get_other (by omega), get_other (by omega)]
    ·rw [hls]
     refine hG.step hf' hw1 (.inr ⟨c' + 1, by rw [hll], (fun e => by have := congrArg List.length e; rw [hll] at this; cases this), by omega, by rw [List.map_append]; exact Has.other (by omega) Has.same⟩) (fun b q => by cases q; dsimp only; omega) (fun b q1 q4 q2 => ?_)
     have q5 : b ≠ bl := fun e => q4 (by rw [e]; rfl)
     rw [get_other (by omega), get_other (by omega), get_other q5, get_other (by omega)]
    ·intro w b hw hb
     rcases List.mem_or_eq_of_mem_set hw with hw | rfl
     ·exact hdis w b hw hb
     ·intro q
      have q' : b1 = b := by simpa [blkOf] using q
      cases hb
      dsimp only at q'
      omega
  ·refine Zgo ?_
   obtain rfl : i = M.length := by omega
   rw [List.take_length] at hG
   refine ⟨.inr rfl, Wres.one rfl ⟨⟨rfl, ws, hB, hG⟩, ?_⟩⟩
   exact Zex
end Go.Ab.Seat
end
section
/- Middles, plainly: the whole part of a mean, towards below; the first ones that are unlike; rounds. -/
namespace Go.Ab.Seat
open Go.Extern Go.Proofs
def flZ (a b : Int) : Int := if a.tmod b < 0 then a.tdiv b - 1 else a.tdiv b
theorem flZ_bnd {a b B : Int} (hb : 0 < b) (h1 : -(B * b) ≤ a) (h2 : a ≤ B * b) : -B ≤ flZ a b ∧ flZ a b ≤ B := by
 have e := Int.mul_tdiv_add_tmod a b
 have t1 := Int.tmod_lt_of_pos a hb
 have t2 : -b < a.tmod b := by
  have := Int.neg_tmod a b
  have h3 := Int.tmod_lt_of_pos (-a) hb
  omega
 have key : b * flZ a b ≤ a ∧ a < b * flZ a b + b := by
  unfold flZ
  split
  ·rw [Int.mul_sub, Int.mul_one]; omega
  ·omega
 constructor
 ·refine Classical.byContradiction fun q => ?_
  have h3 : flZ a b ≤ -B - 1 := by omega
  have h4 := Int.mul_le_mul_of_nonneg_left h3 (show (0 : Int) ≤ b by omega)
  rw [Int.mul_sub, Int.mul_one, Int.mul_neg, Int.mul_comm b B] at h4
  omega
 ·refine Classical.byContradiction fun q => ?_
  have h3 : B + 1 ≤ flZ a b := by omega
  have h4 := Int.mul_le_mul_of_nonneg_left h3 (show (0 : Int) ≤ b by omega)
  rw [Int.mul_add, Int.mul_one, Int.mul_comm b B] at h4
  omega
def sumZ (i : Nat) (vs : List (List Int)) : Int := vs.foldl (fun s v => s + v.getD i 0) 0
theorem sumZ_take {i k : Nat} {vs : List (List Int)} (hk : k < vs.length) : sumZ i (vs.take (k + 1)) = sumZ i (vs.take k) + vs[k].getD i 0 := by
 unfold sumZ
 rw [List.take_succ_eq_append_getElem hk, List.foldl_append]; rfl
def Vok (dim : Nat) (vs : List (List Int)) : Prop := ∀ v ∈ vs, v.length = dim ∧ Bnd v
theorem sumZ_bnd {i dim : Nat} {vs : List (List Int)} (h : Vok dim vs) : ∀ k, k ≤ vs.length → -(1048576 * (k : Int)) ≤ sumZ i (vs.take k) ∧ sumZ i (vs.take k) ≤ 1048576 * (k : Int)
 | 0, _ => by simp [sumZ]
 | k + 1, hk => by
  have h1 := sumZ_bnd (i := i) h k (by omega)
  have h2 := (h _ (List.getElem_mem (show k < vs.length by omega))).2 i
  rw [sumZ_take (by omega)]
  omega
def midZ (m : List Int) (vs : List (List Int)) : List Int := if vs.length = 0 then m else (List.range m.length).map fun i => flZ (sumZ i vs) vs.length
theorem midZ_len (m : List Int) (vs : List (List Int)) : (midZ m vs).length = m.length := by
 unfold midZ; split <;> simp
theorem flZ_sum {dim i : Nat} {vs : List (List Int)} (hv : Vok dim vs) (h0 : vs.length ≠ 0) : -1048576 ≤ flZ (sumZ i vs) vs.length ∧ flZ (sumZ i vs) vs.length ≤ 1048576 := by
 have h1 := sumZ_bnd (i := i) hv vs.length (Nat.le_refl _)
 rw [List.take_length] at h1
 exact flZ_bnd (by omega) (by omega) (by omega)
theorem midZ_ok {dim : Nat} {m : List Int} {vs : List (List Int)} (hm : m.length = dim ∧ Bnd m) (hv : Vok dim vs) : (midZ m vs).length = dim ∧ Bnd (midZ m vs) := by
 refine ⟨by rw [midZ_len]; exact hm.1, fun i => ?_⟩
 unfold midZ
 split
 ·exact hm.2 i
 ·rename_i h0
  rw [List.getD_eq_getElem?_getD, List.getElem?_map]
  cases h : (List.range m.length)[i]? with
  | none => simp
  | some j => exact flZ_sum hv h0
def addM (n : Nat) (ms : List (List Int)) (v : List Int) : List (List Int) := if ms.length < n ∧ v ∉ ms then ms ++ [v] else ms
def fstM (n : Nat) (vs : List (List Int)) : List (List Int) := vs.foldl (addM n) []
theorem fstM_take {n k : Nat} {vs : List (List Int)} (hk : k < vs.length) : fstM n (vs.take (k + 1)) = addM n (fstM n (vs.take k)) vs[k] := by
 unfold fstM
 rw [List.take_succ_eq_append_getElem hk, List.foldl_append]; rfl
theorem addM_len {n : Nat} {ms : List (List Int)} {v : List Int} (h : ms.length ≤ n) : (addM n ms v).length ≤ n := by
 unfold addM
 split
 ·rename_i q; rw [List.length_append]; show _ + 1 ≤ n; omega
 ·exact h
theorem addM_ok {n dim : Nat} {ms : List (List Int)} {v : List Int} (h : Vok dim ms) (hv : v.length = dim ∧ Bnd v) : Vok dim (addM n ms v) := by
 unfold addM
 split
 ·intro x hx
  rcases List.mem_append.1 hx with hx | hx
  ·exact h x hx
  ·rw [List.mem_singleton.1 hx]; exact hv
 ·exact h
theorem fstM_ok {n dim : Nat} {vs : List (List Int)} (hv : Vok dim vs) : ∀ k, k ≤ vs.length → (fstM n (vs.take k)).length ≤ n ∧ Vok dim (fstM n (vs.take k))
 | 0, _ => ⟨Nat.zero_le _, fun v hv => by cases hv⟩
 | k + 1, hk => by
  obtain ⟨h1, h2⟩ := fstM_ok (n := n) hv k (by omega)
  rw [fstM_take (by omega)]
  exact ⟨addM_len h1, addM_ok h2 (hv _ (List.getElem_mem _))⟩
def ofM (vs ms : List (List Int)) (i : Nat) : List (List Int) := vs.filter fun v => decide (nearZ ms v = (i : Int))
def rndK (vs ms : List (List Int)) (k : Nat) : List (List Int) := (List.range ms.length).map fun i => if i < k then midZ (ms.getD i []) (ofM vs ms i) else ms.getD i []
def rndM (vs ms : List (List Int)) : List (List Int) := rndK vs ms ms.length
def midsZ (n : Nat) (vs : List (List Int)) : Nat → List (List Int)
 | 0 => fstM n vs
 | t + 1 => rndM vs (midsZ n vs t)
theorem rndK_len (vs ms : List (List Int)) (k : Nat) : (rndK vs ms k).length = ms.length := by unfold rndK; simp
theorem rndK_at {vs ms : List (List Int)} {k i : Nat} (hi : i < ms.length) : (rndK vs ms k)[i]? = some (if i < k then midZ ms[i] (ofM vs ms i) else ms[i]) := by
 unfold rndK
 rw [List.getElem?_map, List.getElem?_eq_getElem (by simpa using hi), List.getElem_range]
 show some (if i < k then midZ (ms.getD i []) (ofM vs ms i) else ms.getD i []) = _
 rw [List.getD_eq_getElem?_getD, List.getElem?_eq_getElem hi]; rfl
theorem rndK_zero (vs ms : List (List Int)) : rndK vs ms 0 = ms := by
 refine List.ext_getElem? fun i => ?_
 rcases Nat.lt_or_ge i ms.length with h | h
 ·rw [rndK_at h, if_neg (by omega), List.getElem?_eq_getElem h]
 ·rw [List.getElem?_eq_none (by rw [rndK_len]; exact h), List.getElem?_eq_none h]
theorem rndK_succ {vs ms : List (List Int)} {k : Nat} (hk : k < ms.length) : rndK vs ms (k + 1) = (rndK vs ms k).set k (midZ ms[k] (ofM vs ms k)) := by
 refine List.ext_getElem? fun i => ?_
 rw [List.getElem?_set, rndK_len]
 by_cases hik : k = i
 ·subst hik
  rw [if_pos rfl, if_pos hk, rndK_at hk, if_pos (by omega)]
 ·rw [if_neg hik]
  rcases Nat.lt_or_ge i ms.length with h | h
  ·rw [rndK_at h, rndK_at h]
   by_cases hi : i < k
   ·rw [if_pos hi, if_pos (by omega)]
   ·rw [if_neg hi, if_neg (by omega)]
  ·rw [List.getElem?_eq_none (by rw [rndK_len]; exact h), List.getElem?_eq_none (by rw [rndK_len]; exact h)]
theorem ofM_ok {dim : Nat} {vs ms : List (List Int)} {i : Nat} (h : Vok dim vs) : Vok dim (ofM vs ms i) := fun v hv => h v (List.mem_filter.1 hv).1
theorem rndK_ok {dim : Nat} {vs ms : List (List Int)} {k : Nat} (h : Vok dim vs) (hm : Vok dim ms) : Vok dim (rndK vs ms k) := by
 intro v hv
 obtain ⟨i, hi⟩ := List.mem_iff_getElem?.1 hv
 have h1 := (List.getElem?_eq_some_iff.1 hi).1
 rw [rndK_len] at h1
 rw [rndK_at h1] at hi
 cases hi
 have h2 := hm _ (List.getElem_mem h1)
 split
 ·exact midZ_ok h2 (ofM_ok h)
 ·exact h2
theorem midsZ_ok {dim n : Nat} {vs : List (List Int)} (h : Vok dim vs) : ∀ t, (midsZ n vs t).length ≤ n ∧ Vok dim (midsZ n vs t)
 | 0 => by
  have := fstM_ok (n := n) h vs.length (Nat.le_refl _)
  rw [List.take_length] at this
  exact this
 | t + 1 => by
  obtain ⟨h1, h2⟩ := midsZ_ok (n := n) h t
  refine ⟨?_, rndK_ok h h2⟩
  show (rndM vs (midsZ n vs t)).length ≤ n
  unfold rndM
  rw [rndK_len]; exact h1
end Go.Ab.Seat
end
section
/- Vectors compared; is a vector among some? (the abstract machine) -/
namespace Go.Ab.Seat
open Go.Extern Go.Proofs
set_option maxRecDepth 4000
theorem eqG54_spec {h : T AObj} {c : Nat} {rl wl : List Nat} (hf : Fresh h c) {a b : Option Addr} {n k k' : Nat} {zs ys : List Int} (hn : zs.length = n) (hn' : ys.length = n) (hx : Row h (.slice a n k) n 1 (zs.map (Value.int .i32))) (hy : Row h (.slice b n k') n 1 (ys.map (Value.int .i32))) (hb : n ≤ 1000) (R : Nat → Prop) (hR : ∀ x, blkOf (.slice a n k) = some x ∨ blkOf (.slice b n k') = some x → R x) :
  ∃ r s', FnTo (Cs smQ) eg 93 [.slice a n k, .slice b n k'] ⟨h, c, rl, wl⟩ r s' ∧ (r = .bool (decide (zs = ys)) ∧ s'.h = h ∧ s'.c = c) ∧ Ext ⟨h, c, rl, wl⟩ s' R (fun _ => False) := by
 refine Fn.go (stdQ 93 rfl) ex93 fn93 km93 rfl rfl ?_
 refine Zev ?_
 refine Zgo ?_
 refine Wx.loopE (fun k1 e s => ∃ (i : Nat) (z : Int) (rl' : List Nat) (j5 j14 j24 : Value), e = EQ a n k b k' z j5 j14 j24 ∧ z = i ∧ s = ⟨h, c, rl', []⟩ ∧ Lg c R rl' ∧ (∀ j, j < i → zs[j]? = ys[j]?) ∧ i ≤ n ∧ k1 = n - i) n (EQ a n k b k' 0 top top top) Zrs ?_ ?_ ?_
 ·unfold EQ
  exact Zek
 ·exact ⟨0, 0, _, _, _, _, rfl, rfl, rfl, Zlg, fun j hj => by omega, by omega, rfl⟩
 ·rintro k1 e s ⟨i, z, rl', j5, j14, j24, rfl, hz, rfl, hlr, heq, hin, rfl⟩
  unfold EQ
  by_cases hi : i < n
  ·have hi1 : i < zs.length := by omega
   have hi2 : i < ys.length := by omega
   have hzs : (zs.map (Value.int .i32))[i]? = some (.int .i32 zs[i]) := by simp
   have hys : (ys.map (Value.int .i32))[i]? = some (.int .i32 ys[i]) := by simp
   obtain ⟨b1, o1, sp1, cs1, rfl, hc1, hn1⟩ := rowCell hx (j := i * 1) (by omega) (by rw [Nat.mul_one]; exact hzs)
   obtain ⟨b2, o2, sp2, cs2, rfl, hc2, hn2⟩ := rowCell hy (j := i * 1) (by omega) (by rw [Nat.mul_one]; exact hys)
   have hR1 := hR b1 (.inl rfl)
   have hR2 := hR b2 (.inr rfl)
   have l1 := hc1.lt hf
   have l2 := hc2.lt hf
   refine Zgo ?_
   refine Zq (to_indexAddr (k := i) el25 rfl rfl hz (by omega)) ?_
   refine Zd (to_load (pl_ rfl) rfl hc1 (by omega) hn1) ?_
   refine Zgo ?_
   refine Zq (to_indexAddr (k := i) el25 rfl rfl hz (by omega)) ?_
   refine Zd (to_load (pl_ rfl) rfl hc2 (by omega) hn2) ?_
   by_cases hq : zs[i] = ys[i]
   ·refine Zq (to_neIF rfl rfl hq) ?_
    refine Zgo ?_
    refine RoundE.go (n - (i + 1)) (EQ _ n k _ k' (z + 1) _ _ _) (by omega) Zek ⟨i + 1, z + 1, _, _, _, _, rfl, by omega, rfl, Zlg, fun j hj => ?_, by omega, rfl⟩
    rcases Nat.lt_or_ge j i with q | q
    ·exact heq j q
    ·obtain rfl : j = i := by omega
     rw [List.getElem?_eq_getElem hi1, List.getElem?_eq_getElem hi2, hq]
   ·refine Zq (to_neIT rfl rfl hq) ?_
    refine Zgo ?_
    refine ⟨.inr rfl, Wres.one rfl ⟨⟨?_, rfl, rfl⟩, ?_⟩⟩
    ·rw [decide_eq_false (fun e => hq (by subst e; rfl))]; rfl
    ·exact Zex
  ·refine Zgo ?_
   refine ⟨.inr rfl, Wres.one rfl ⟨⟨?_, rfl, rfl⟩, ?_⟩⟩
   ·have e : zs = ys := by
     refine List.ext_getElem? fun j => ?_
     rcases Nat.lt_or_ge j n with q | q
     ·exact heq j (by omega)
     ·rw [List.getElem?_eq_none (by omega), List.getElem?_eq_none (by omega)]
    rw [decide_eq_true e]; rfl
   ·exact Zex
theorem eqG_spec {h : T AObj} {c : Nat} {rl wl : List Nat} (hf : Fresh h c) {a b : Option Addr} {n k k' : Nat} {zs ys : List Int} (hn : zs.length = n) (hn' : ys.length = n) (hx : Row h (.slice a n k) n 1 (zs.map (Value.int .i32))) (hy : Row h (.slice b n k') n 1 (ys.map (Value.int .i32))) (hb : n ≤ 1000) (R : Nat → Prop) (hR : ∀ x, blkOf (.slice a n k) = some x ∨ blkOf (.slice b n k') = some x → R x) :
  ∃ r s', FnTo (Cs smQ) eg 40 [.slice a n k, .slice b n k'] ⟨h, c, rl, wl⟩ r s' ∧ (r = .bool (decide (zs = ys)) ∧ s'.h = h ∧ s'.c = c) ∧ Ext ⟨h, c, rl, wl⟩ s' R (fun _ => False) := by
 refine Fn.go (stdQ 40 rfl) ex40 fn40 km40 rfl rfl ?_
 refine Zev ?_
 refine Zgo ?_
 refine Wseq.call rfl rfl (eqG54_spec Zfr hn hn' hx hy hb R hR) ?_
 rintro v h1 c1 r1 w1 ⟨⟨rfl, e1, e2⟩, hext⟩
 simp only at e1 e2
 subst e1 e2
 have lr := Lg.extR (R := R) (c := c1) Zlg hext (fun _ _ q => q)
 have lw := Lg.extW (W := fun _ => False) (c := c1) Zlg hext (fun _ _ q => q)
 refine Zgo ?_
 refine ⟨.inr rfl, Wres.one rfl ⟨⟨rfl, rfl, rfl⟩, ?_⟩⟩
 exact Zex
theorem clo96_spec {h : T AObj} {c bb : Nat} {rl wl : List Nat} (hf : Fresh h c) {a b : Option Addr} {n k k' : Nat} {zs ys : List Int} (hn : zs.length = n) (hn' : ys.length = n) (hx : Row h (.slice a n k) n 1 (zs.map (Value.int .i32))) (hbb : Has h bb (.cells [.slice b n k'])) (hy : Row h (.slice b n k') n 1 (ys.map (Value.int .i32))) (hb : n ≤ 1000) (R : Nat → Prop) (hR : ∀ x, blkOf (.slice a n k) = some x ∨ blkOf (.slice b n k') = some x → R x) (hRb : R bb) :
  ∃ r s', FnTo (Cs smQ) eg 183 [.slice a n k, .pointer (some ⟨bb, 0, none⟩)] ⟨h, c, rl, wl⟩ r s' ∧ (r = .bool (decide (zs = ys)) ∧ s'.h = h ∧ s'.c = c) ∧ Ext ⟨h, c, rl, wl⟩ s' R (fun _ => False) := by
 have l1 := hbb.lt hf
 refine Fn.go (stdQ 183 rfl) ex183 fn183 km183 rfl rfl ?_
 refine Zev ?_
 refine Zgo ?_
 refine Wseq.call rfl rfl (eqG_spec Zfr hn hn' hx hy hb R hR) ?_
 rintro v h1 c1 r1 w1 ⟨⟨rfl, e1, e2⟩, hext⟩
 simp only at e1 e2
 subst e1 e2
 have lr := Lg.extR (R := R) (c := c1) Zlg hext (fun _ _ q => q)
 have lw := Lg.extW (W := fun _ => False) (c := c1) Zlg hext (fun _ _ q => q)
 refine Zgo ?_
 refine ⟨.inr rfl, Wres.one rfl ⟨⟨rfl, rfl, rfl⟩, ?_⟩⟩
 exact Zex
def EX1 (v : Value) (n bb : Nat) (z : Int) (j5 j9 j16 : Value) : L :=
 .cons 1 (.func (.func 183) #[] ⟨[.pointer (some ⟨bb, 0, none⟩)]⟩) (.cons 0 v (.cons 4 (.int .i64 0) (.cons 7 (.int .i64 (n : Int)) (.cons 8 (.int .i64 z) (.cons 5 j5 (.cons 9 j9 (.cons 16 j16 .nil)))))))
theorem index161_spec {h : T AObj} {c bb : Nat} {rl wl : List Nat} (hf : Fresh h c) {v : Value} {dim : Nat} {mid : List (List Int)} {U : Nat → Prop} (hm : MRow h v dim mid U) (hn : mid.length ≤ 1000) (hd : dim ≤ 1000) {b : Option Addr} {k' : Nat} {ys : List Int} (hbb : Has h bb (.cells [.slice b dim k'])) (hy : Row h (.slice b dim k') dim 1 (ys.map (Value.int .i32))) (hn' : ys.length = dim) (R : Nat → Prop) (hUR : ∀ b, U b → R b) (hR : ∀ x, blkOf (.slice b dim k') = some x → R x) (hRb : R bb) :
  ∃ r s', FnTo (Cs smQ) eg 210 [v, .func (.func 183) #[] ⟨[.pointer (some ⟨bb, 0, none⟩)]⟩] ⟨h, c, rl, wl⟩ r s' ∧ ((∃ z : Int, r = .int .i64 z ∧ (0 ≤ z ↔ ys ∈ mid)) ∧ s'.h = h ∧ s'.c = c) ∧ Ext ⟨h, c, rl, wl⟩ s' R (fun _ => False) := by
 obtain ⟨oa, cap, rfl⟩ := hm.val
 refine Fn.go (stdQ 210 rfl) ex210 fn210 km210 rfl rfl ?_
 refine Zev ?_
 refine Zgo ?_
 refine Wx.loopE (fun k1 e s => ∃ (i : Nat) (z : Int) (j5 j9 j16 : Value) (rl' wl' : List Nat), e = EX1 (.slice oa mid.length cap) mid.length bb z j5 j9 j16 ∧ z = i ∧ s = ⟨h, c, rl', wl'⟩ ∧ ys ∉ mid.take i ∧ Lg c R rl' ∧ Lg c (fun _ => False) wl' ∧ i ≤ mid.length ∧ k1 = mid.length - i) mid.length (EX1 (.slice oa mid.length cap) mid.length bb 0 top top top) Zrs ?_ ?_ ?_
 ·unfold EX1
  exact Zek
 ·exact ⟨0, 0, _, _, _, _, _, rfl, rfl, rfl, List.not_mem_nil, Zlg, Zlg, by omega, rfl⟩
 ·rintro k1 e s ⟨i, z, j5, j9, j16, rl', wl', rfl, hz, rfl, hnm, hlr, hlw, hid, rfl⟩
  unfold EX1
  by_cases hi : i < mid.length
  ·obtain ⟨g1, g2, b1, sp, vals, a, k, rfl, g4, g5, g6, g7, g8⟩ := hm.at (List.getElem?_eq_getElem hi)
   have lb := g5.lt hf
   have rb := hUR b1 g4
   refine Zgo ?_
   refine Zu (to_indexAddr (k := i) el22 rfl rfl hz hi) ?_
   refine Zu (to_load (pl_ rfl) rfl g5.cel (by omega) g6) ?_
   refine Wseq.callV rfl rfl rfl (clo96_spec Zfr g1 hn' g7 hbb hy hd R (fun x hx => hx.elim (fun u => hUR x (g8 x u)) (hR x)) hRb) ?_
   rintro v2 h1 c1 r1 w1 ⟨⟨rfl, e1, e2⟩, hext⟩
   simp only at e1 e2
   subst e1 e2
   have lr := Lg.extR (R := R) (c := c1) Zlg hext (fun _ _ q => q)
   have lw := Lg.extW (W := fun _ => False) (c := c1) Zlg hext (fun _ _ q => q)
   by_cases hx : mid[i] = ys
   ·rw [decide_eq_true hx]
    refine Zgo ?_
    refine ⟨.inr rfl, Wres.one rfl ⟨⟨⟨z, rfl, ?_⟩, rfl, rfl⟩, ?_⟩⟩
    ·exact ⟨fun _ => hx ▸ List.getElem_mem hi, fun _ => by omega⟩
    ·exact Zex
   ·rw [decide_eq_false hx]
    refine Zgo ?_
    refine RoundE.go (mid.length - (i + 1)) (EX1 _ mid.length bb (z + 1) _ _ _) (by omega) Zek ⟨i + 1, z + 1, _, _, _, _, _, rfl, by omega, rfl, ?_, Zlg, Zlg, by omega, rfl⟩
    rw [List.take_succ_eq_append_getElem hi]
    intro hm
    rcases List.mem_append.1 hm with hm | hm
    ·exact hnm hm
    ·exact hx (List.mem_singleton.1 hm).symm
  ·refine Zgo ?_
   refine ⟨.inr rfl, Wres.one rfl ⟨⟨⟨-1, rfl, ?_⟩, rfl, rfl⟩, ?_⟩⟩
   ·rw [List.take_of_length_le (by omega)] at hnm
    exact ⟨fun h => by omega, fun h => absurd h hnm⟩
   ·exact Zex
theorem contains95_spec {h : T AObj} {c bb : Nat} {rl wl : List Nat} (hf : Fresh h c) {v : Value} {dim : Nat} {mid : List (List Int)} {U : Nat → Prop} (hm : MRow h v dim mid U) (hn : mid.length ≤ 1000) (hd : dim ≤ 1000) {b : Option Addr} {k' : Nat} {ys : List Int} (hbb : Has h bb (.cells [.slice b dim k'])) (hy : Row h (.slice b dim k') dim 1 (ys.map (Value.int .i32))) (hn' : ys.length = dim) (R : Nat → Prop) (hUR : ∀ b, U b → R b) (hR : ∀ x, blkOf (.slice b dim k') = some x → R x) (hRb : R bb) :
  ∃ r s', FnTo (Cs smQ) eg 182 [v, .func (.func 183) #[] ⟨[.pointer (some ⟨bb, 0, none⟩)]⟩] ⟨h, c, rl, wl⟩ r s' ∧ (r = .bool (decide (ys ∈ mid)) ∧ s'.h = h ∧ s'.c = c) ∧ Ext ⟨h, c, rl, wl⟩ s' R (fun _ => False) := by
 obtain ⟨oa, cap, rfl⟩ := hm.val
 refine Fn.go (stdQ 182 rfl) ex182 fn182 km182 rfl rfl ?_
 refine Zev ?_
 refine Zgo ?_
 refine Wseq.call rfl rfl (index161_spec Zfr hm hn hd hbb hy hn' R hUR hR hRb) ?_
 rintro v1 h1 c1 r1 w1 ⟨⟨⟨z, rfl, hz⟩, e1, e2⟩, hext⟩
 simp only at e1 e2
 subst e1 e2
 have lr := Lg.extR (R := R) (c := c1) Zlg hext (fun _ _ q => q)
 have lw := Lg.extW (W := fun _ => False) (c := c1) Zlg hext (fun _ _ q => q)
 by_cases h0 : 0 ≤ z
 ·refine Zgo ?_
  refine ⟨.inr rfl, Wres.one rfl ⟨⟨?_, rfl, rfl⟩, ?_⟩⟩
  ·rw [decide_eq_true (hz.1 h0)]; rfl
  ·exact Zex
 ·refine Zgo ?_
  refine ⟨.inr rfl, Wres.one rfl ⟨⟨?_, rfl, rfl⟩, ?_⟩⟩
  ·rw [decide_eq_false (fun q => h0 (hz.2 q))]; rfl
  ·exact Zex
end Go.Ab.Seat
end
