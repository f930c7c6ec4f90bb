import Derived.Test.YtofikbfljjjgeaaGreatDoorDL1
import Derived.Test.YtofikbfljjjgeaaGreatDoorDT8
set_option linter.unusedVariables false
set_option linter.unusedSimpArgs false
section
/- The reference's index is written: one is taken out, let go, put (the abstract machine). -/
namespace Go.Ab.Seat
open Go.Extern Go.Proofs
set_option maxRecDepth 4000
theorem delM_at {id : Int} : ∀ {M : List Rc} {k : Nat} {x : Rc}, Rises M → M[k]? = some x → x.id = id → delM id M = M.take k ++ M.drop (k + 1)
 | [], _, _, _, h, _ => by cases h
 | y :: M, 0, x, h, hk, hi => by
  cases hk
  obtain ⟨h1, h2⟩ := List.pairwise_cons.1 h
  unfold delM
  rw [List.filter_cons_of_neg (by simp [hi])]
  show _ = M
  refine List.filter_eq_self.2 fun z hz => ?_
  have := h1 z hz
  have h3 : z.id ≠ id := by omega
  simpa using h3
 | y :: M, k + 1, x, h, hk, hi => by
  obtain ⟨h1, h2⟩ := List.pairwise_cons.1 h
  have hk' : M[k]? = some x := by simpa using hk
  have := h1 x (List.mem_of_getElem? hk')
  have h3 : y.id ≠ id := by omega
  have ih := delM_at h2 hk' hi
  unfold delM at ih ⊢
  rw [List.filter_cons_of_pos (by simpa using h3), ih]
  rfl
theorem putM_del {r : Rc} {M : List Rc} (h : Rises M) : putM r (delM r.id M) = putM r M := by
 refine rises_getM ((h.filter _).put _) (h.put _) fun x => ?_
 rw [getM_put, getM_put, getM_del]
 by_cases hx : r.id = x
 ·rw [if_pos hx, if_pos hx]
 ·rw [if_neg hx, if_neg hx, if_neg (fun e => hx e.symm)]
theorem copyVec_spec {h : T AObj} {c : Nat} {rl wl : List Nat} (hf : Fresh h c) {a : Option Addr} {n k : Nat} {xs : List Value} (hv : Row h (.slice a n k) n 1 xs) (h1 : 1 ≤ n) (hn : n ≤ big) (R : Nat → Prop) (hR : ∀ b, blkOf (.slice a n k) = some b → R b) :
  ∃ r s', FnTo (Cs smQ) eg 101 [.slice a n k] ⟨h, c, rl, wl⟩ r s' ∧ (r = .slice (some ⟨c, 0, some 1⟩) n n ∧ s'.c = c + 1 ∧ Has s'.h c (.cells xs)) ∧ Ext ⟨h, c, rl, wl⟩ s' R (fun _ => False) := by
 refine Fn.go (stdQ 101 rfl) ex101 fn101 km101 rfl rfl ?_
 refine Zev ?_
 obtain ⟨n, rfl⟩ : ∃ m, n = m + 1 := ⟨n - 1, by omega⟩
 rcases hv with ⟨h0, _⟩ | ⟨b, o, sp, cap, cs, e, hc, hs⟩
 ·cases h0
 simp only [Value.slice.injEq, true_and] at e
 obtain ⟨rfl, rfl⟩ := e
 have lb := hc.lt hf
 have rb := hR b rfl
 refine Zgo ?_
 refine Zu (to_appNil ro25 sl25 rfl rfl hc lb hs hn Zfr) ?_
 refine Zgo ?_
 refine ⟨.inr rfl, Wres.one rfl ⟨⟨rfl, rfl, Has.same⟩, ?_⟩⟩
 exact Zex
set_option maxHeartbeats 8000000 in
theorem rremove_spec {h : T AObj} {c : Nat} {rl wl : List Nat} (hf : Fresh h c) {p dim : Nat} {K : RK} {mt dm : Int} {M : List Rc} {U0 : Nat → Prop} (q : RefX h p K mt dm dim M U0) (hml : M.length ≤ 900) {id : Int} (hid : getM id M ≠ none) :
  ∃ r s', FnTo (Cs smQ) eg 109 [.pointer (some ⟨p, 0, none⟩), .int .i64 id] ⟨h, c, rl, wl⟩ r s' ∧ RefX s'.h p K mt dm dim (delM id M) (fun b => U0 b ∨ c ≤ b ∧ b < s'.c) ∧ Ext ⟨h, c, rl, wl⟩ s' U0 (fun b => b = p) := by
 obtain ⟨⟨lv, l, h1, h2, h3, h4, h5⟩, h6, h7, h8⟩ := _root_.id q
 have hpc := h1.lt hf
 have hll : l.length = M.length := by rw [← h5, List.length_map]
 have hvs : ∀ x ∈ l, ∃ a n k, x.vec = .slice a n k := fun x hx => by obtain ⟨a, k, e⟩ := (h4 x hx).1.val; exact ⟨_, _, _, e⟩
 rcases h2 with ⟨rfl, rfl⟩ | ⟨bl, rfl, hlne, hbl⟩
 ·exfalso
  apply hid
  rw [← h5]; rfl
 have lbl := hbl.lt hf
 have rb := (h3 bl rfl).1
 have hbp := (h3 bl rfl).2
 refine Fn.go (stdQ 109 rfl) ex109 fn109 km109 rfl rfl ?_
 refine Zev ?_
 refine Zgo ?_
 refine Wseq.call rfl rfl (place_spec Zfr h1 (.inr ⟨bl, rfl, hlne, hbl⟩) (by omega) id U0 h6 (fun b q => (h3 b q).1)) ?_
 rintro v1 hA c1 r1 w1 ⟨⟨hr, e1, e2⟩, hext⟩
 simp only at e1 e2
 subst e1 e2
 have lr := Lg.extR (R := U0) (c := c1) Zlg hext (fun _ _ q => q)
 have lw := Lg.extW (W := fun b => b = p) (c := c1) Zlg hext (fun _ _ q => q.elim)
 rcases hr with ⟨hg, _⟩ | ⟨k, x, rfl, hk, hxi, hg⟩
 ·rw [h5] at hg; exact absurd hg hid
 have hkl := (List.getElem?_eq_some_iff.1 hk).1
 have hdel : delM id M = (l.take k ++ l.drop (k + 1)).map On.rc := by
  rw [delM_at h7 (k := k) (x := x.rc) (by rw [← h5, List.getElem?_map, hk]; rfl) hxi, List.map_append, List.map_take, List.map_drop, h5]
 have hp1 := h1
 unfold refC at hp1
 have hbg : big = 1048576 := rfl
 have done_ : ∀ (h9 : T AObj) (c9 : Nat) (lv9 : Value), Kp hA h9 c1 (fun b => b = p) → LRow8 h9 lv9 (l.take k ++ l.drop (k + 1)) → (∀ b, blkOf lv9 = some b → c1 ≤ b ∧ b < c9) → Has h9 p (.cells (refC K mt dm lv9)) → RefX h9 p K mt dm dim (delM id M) (fun b => U0 b ∨ c1 ≤ b ∧ b < c9) := by
  intro h9 c9 lv9 K hL hb9 hP
  refine ⟨⟨lv9, _, hP, hL, fun b hb => ⟨.inr (hb9 b hb), by have := hb9 b hb; omega⟩, fun x' hx => ?_, hdel.symm⟩, .inl h6, h7.filter _, fun r hr => h8 r (List.mem_filter.1 hr).1⟩
  have hx' : x' ∈ l := by
   rcases List.mem_append.1 hx with hx | hx
   ·exact List.mem_of_mem_take hx
   ·exact List.mem_of_mem_drop hx
  obtain ⟨o1, o2⟩ := h4 x' hx'
  refine ⟨o1.keep fun b hb => ?_, fun b hb => ?_⟩
  ·have hbc := (o1.blk hb).2.lt hf
   exact K b hbc (o2 b hb).2.1
  ·have hbc := (o1.blk hb).2.lt hf
   exact ⟨.inl (o2 b hb).1, (o2 b hb).2.1, fun e => by have := (hb9 b e).1; omega⟩
 obtain ⟨hsub0, _⟩ := flatO_sub (l := l) (k := k) (by omega)
 obtain ⟨_, hsub1⟩ := flatO_sub (l := l) (k := k + 1) (by omega)
 have hat1 : ∀ v ∈ flatO (l.drop (k + 1)), atom v = true := flatO_atom fun x hx => hvs x (List.mem_of_mem_drop hx)
 have hl0 : (flatO (l.take k)).length = k * 8 := by rw [flatO_len, List.length_take]; omega
 have hlen : (l.take k ++ l.drop (k + 1)).length = l.length - 1 := by rw [List.length_append, List.length_take, List.length_drop]; omega
 obtain ⟨m, hm⟩ : ∃ m, l.length = k + 1 + m := ⟨l.length - (k + 1), by omega⟩
 rw [show l.length - (k + 1) = m by omega] at hsub1
 rcases k with _ | k
 ·rcases m with _ | m
  ·refine Zgo ?_
   refine Zq (to_sliceHi (k := 0) el105 rfl rfl rfl (by omega) (fun a ha => by cases ha; exact .inr rfl)) ?_
   refine Zq (to_appZero ro105 sl105 rfl rfl (by omega)) ?_
   refine Zgo ?_
   refine Zq (to_sliceOwn (k := 1) el105 rfl rfl rfl (by omega) (by omega)) ?_
   rw [show l.length - 1 = 0 by omega]
   refine Zq (to_appZero ro105 sl105 rfl rfl (by omega)) ?_
   refine Zgo ?_
   refine ⟨.inl rfl, Wres.nil ⟨done_ _ _ _ (by dsimp only; exact Zkp) (.inl ⟨rfl, List.length_eq_zero_iff.1 (by rw [hlen]; omega)⟩) (fun b q => by cases q) Has.same, ?_⟩⟩
   exact Zex
  ·refine Zgo ?_
   refine Zq (to_sliceHi (k := 0) el105 rfl rfl rfl (by omega) (fun a ha => by cases ha; exact .inr rfl)) ?_
   refine Zq (to_appZero ro105 sl105 rfl rfl (by omega)) ?_
   refine Zgo ?_
   refine Zq (to_sliceOwn (k := 1) el105 rfl rfl rfl (by omega) (by omega)) ?_
   rw [show l.length - 1 = m + 1 by omega]
   refine Zd (to_appNil ro105 sl105 rfl rfl hbl.cel (by omega) hsub1 (by unfold big; omega) Zfr) ?_
   refine Zgo ?_
   refine ⟨.inl rfl, Wres.nil ⟨done_ _ _ _ (by dsimp only; exact Zkp) (.inr ⟨c1, by rw [hlen, show l.length - 1 = m + 1 by omega], (fun e => by have h9 := congrArg List.length e; rw [hlen, List.length_nil] at h9; omega), Has.other (by omega) Has.same⟩) (fun b q => by cases q; dsimp only; omega) Has.same, ?_⟩⟩
   exact Zex
 ·rcases m with _ | m
  ·refine Zgo ?_
   refine Zq (to_sliceHi (k := k + 1) el105 rfl rfl rfl (by omega) (fun a ha => by cases ha; exact .inr rfl)) ?_
   refine Zd (to_appNil ro105 sl105 rfl rfl hbl.cel (by omega) hsub0 (by unfold big; omega) Zfr) ?_
   refine Zgo ?_
   refine Zq (to_sliceOwn (k := k + 1 + 1) el105 rfl rfl rfl (by omega) (by omega)) ?_
   rw [show l.length - (k + 1 + 1) = 0 by omega]
   refine Zq (to_appZero ro105 sl105 rfl rfl (by omega)) ?_
   refine Zgo ?_
   refine ⟨.inl rfl, Wres.nil ⟨done_ _ _ _ (by dsimp only; exact Zkp) (.inr ⟨c1, by rw [hlen, show l.length - 1 = k + 1 by omega], (fun e => by have h9 := congrArg List.length e; rw [hlen, List.length_nil] at h9; omega), Has.other (by omega) (by rw [List.drop_of_length_le (by omega), List.append_nil]; exact Has.same)⟩) (fun b q => by cases q; dsimp only; omega) Has.same, ?_⟩⟩
   exact Zex
  ·refine Zgo ?_
   refine Zq (to_sliceHi (k := k + 1) el105 rfl rfl rfl (by omega) (fun a ha => by cases ha; exact .inr rfl)) ?_
   refine Zd (to_appNil ro105 sl105 rfl rfl hbl.cel (by omega) hsub0 (by unfold big; omega) Zfr) ?_
   refine Zgo ?_
   refine Zq (to_sliceOwn (k := k + 1 + 1) el105 rfl rfl rfl (by omega) (by omega)) ?_
   rw [show l.length - (k + 1 + 1) = m + 1 by omega]
   refine Zd (to_appG ro105 sl105 rfl rfl (Cel.other (by omega) hbl.cel) (by omega) hsub1 (by omega) (by unfold big; omega) Zhs (by omega) (subN_all _ _ hl0.symm) hat1 Zfr) ?_
   refine Zgo ?_
   refine ⟨.inl rfl, Wres.nil ⟨done_ _ _ _ (by dsimp only; exact Zkp) (.inr ⟨c1 + 1, by rw [hlen, show l.length - 1 = k + 1 + (m + 1) by omega], (fun e => by have h9 := congrArg List.length e; rw [hlen, List.length_nil] at h9; omega), Has.other (by omega) (by rw [flatO_app]; exact Has.same)⟩) (fun b q => by cases q; dsimp only; omega) Has.same, ?_⟩⟩
   exact Zex
set_option maxHeartbeats 4000000 in
theorem rdel_spec {h : T AObj} {c : Nat} {rl wl : List Nat} (hf : Fresh h c) {p dim : Nat} {K : RK} {mt dm : Int} {M : List Rc} {U0 : Nat → Prop} (q : RefX h p K mt dm dim M U0) (hk3 : K.kd ≠ 3) (hml : M.length ≤ 900) (id : Int) :
  ∃ r s', FnTo (Cs smQ) eg 52 [.pointer (some ⟨p, 0, none⟩), .int .i64 id] ⟨h, c, rl, wl⟩ r s' ∧ (r = .bool (getM id M).isSome ∧ RefX s'.h p K mt dm dim (delM id M) (fun b => U0 b ∨ c ≤ b ∧ b < s'.c)) ∧ Ext ⟨h, c, rl, wl⟩ s' U0 (fun b => b = p) := by
 obtain ⟨⟨lv, l, h1, h2, h3, h4, h5⟩, h6, h7, h8⟩ := _root_.id q
 have hpc := h1.lt hf
 have hll : l.length = M.length := by rw [← h5, List.length_map]
 refine Fn.go (stdQ 52 rfl) ex52 fn52 km52 rfl rfl ?_
 refine Zev ?_
 refine Zgo ?_
 refine Wseq.call rfl rfl (place_spec Zfr h1 h2 (by omega) id U0 h6 (fun b q => (h3 b q).1)) ?_
 rintro v1 hA c1 r1 w1 ⟨⟨hr, e1, e2⟩, hext⟩
 simp only at e1 e2
 subst e1 e2
 have lr := Lg.extR (R := U0) (c := c1) Zlg hext (fun _ _ q => q)
 have lw := Lg.extW (W := fun b => b = p) (c := c1) Zlg hext (fun _ _ q => q.elim)
 have hp1 := h1
 unfold refC at hp1
 rcases hr with ⟨hg, rfl⟩ | ⟨k, x, rfl, hk, hxi, hg⟩
 ·rw [h5] at hg
  have hdel : delM id M = M := by
   unfold delM
   refine List.filter_eq_self.2 fun r hr => ?_
   have := getM_none.1 hg r hr
   simpa using this
  refine Zgo ?_
  refine ⟨.inr rfl, Wres.one rfl ⟨⟨by rw [hg]; rfl, ?_⟩, ?_⟩⟩
  ·rw [hdel]; exact q.wide fun b hb => .inl hb
  ·exact Zex
 ·rw [h5] at hg
  refine Zgo ?_
  refine Wseq.call rfl rfl (rremove_spec Zfr q hml (id := id) (by rw [hg]; simp)) ?_
  rintro v2 hB c2 r2 w2 ⟨q2, hext2⟩
  have fr2 := hext2.fresh
  have le2 := hext2.c
  simp only at fr2 le2 q2
  have kp2 := Kp.ext (W := fun b => b = p) (h := hA) (c := c1) Zkp hext2 (by omega) (fun _ _ q => q)
  have lr2 := Lg.extR (R := U0) (c := c1) Zlg hext2 (fun _ _ q => q)
  have lw2 := Lg.extW (W := fun b => b = p) (c := c1) Zlg hext2 (fun _ _ q => q)
  refine Zgo ?_
  refine ⟨.inr rfl, Wres.one rfl ⟨⟨by rw [hg]; rfl, q2⟩, ?_⟩⟩
  exact Zex
theorem Row.keepBT {h h' : T AObj} {v : Value} {n k : Nat} {xs : List Value} (hr : Row h v n k xs) (hk : ∀ b, blkOf v = some b → h'.get b = h.get b) : Row h' v n k xs := by
 rcases hr with g | ⟨b, o, sp, cap, cs, e, g6, g7⟩
 ·exact .inl g
 ·refine .inr ⟨b, o, sp, cap, cs, e, ?_, g7⟩
  have q := hk b (by rw [e]; rfl)
  unfold Cel Has at g6 ⊢
  rw [q]; exact g6
set_option maxHeartbeats 4000000 in
theorem rput_spec {h : T AObj} {c : Nat} {rl wl : List Nat} (hf : Fresh h c) {p dim : Nat} {K : RK} {mt dm : Int} {M : List Rc} {U0 : Nat → Prop} (q : RefX h p K mt dm dim M U0) (hk3 : K.kd ≠ 3) (hUc : ∀ b, U0 b → b < c) (hml : M.length ≤ 900) (id : Int) {a : Option Addr} {kw : Nat} {zs : List Int} (hz : zs.length = dim) (hd1 : 1 ≤ dim) (hd : dim ≤ 1000) (hbz : Bnd zs) (hv : Row h (.slice a dim kw) dim 1 (zs.map (Value.int .i32))) (bs : Nat → Prop) (hbs : ∀ b, blkOf (.slice a dim kw) = some b → bs b) (hbp : ¬bs p) (draw : Int) :
  ∃ r s', FnTo (Cs smQ) eg 50 [.pointer (some ⟨p, 0, none⟩), .int .i64 id, .slice a dim kw, .int .u32 draw] ⟨h, c, rl, wl⟩ r s' ∧ RefX s'.h p K mt dm dim (putM ⟨id, zs.map (Value.int .i32), .empty, 0, false⟩ M) (fun b => U0 b ∨ c ≤ b ∧ b < s'.c) ∧ Ext ⟨h, c, rl, wl⟩ s' (fun b => U0 b ∨ bs b) (fun b => b = p) := by
 refine Fn.go (stdQ 50 rfl) ex50 fn50 km50 rfl rfl ?_
 refine Zev ?_
 have hpU := q.pU
 refine Zgo ?_
 refine Wseq.call rfl rfl (rdel_spec Zfr q hk3 hml id) ?_
 rintro v1 hA c1 r1 w1 ⟨⟨rfl, q1⟩, hext⟩
 have fr1 := hext.fresh
 have le1 := hext.c
 simp only at fr1 le1 q1
 have hvb : ∀ b, blkOf (.slice a dim kw) = some b → b < c := fun b q => by
  rcases hv with ⟨q2, _⟩ | ⟨b', o, sp, cap, cs, e, hc, _⟩
  ·omega
  ·rw [e] at q
   have : b' = b := by simpa [blkOf] using q
   exact this ▸ hc.lt hf
 have hv1 := Row.keepBT hv (h' := hA) fun b q => hext.get (hvb b q) (fun e => hbp (e ▸ hbs b q))
 have kp1 := Kp.ext (W := fun b => b = p) (h := h) (c := c) Zkp hext (by omega) (fun _ _ q => q)
 have lr1 := Lg.extR (R := fun b => U0 b ∨ bs b) (c := c) Zlg hext (fun _ _ q => .inl q)
 have lw1 := Lg.extW (W := fun b => b = p) (c := c) Zlg hext (fun _ _ q => q)
 have hml1 : (delM id M).length ≤ 900 := by
  unfold delM
  have := List.length_filter_le (fun r : Rc => !decide (r.id = id)) M
  omega
 refine Zgo ?_
 refine Wseq.call rfl rfl (copyVec_spec Zfr hv1 hd1 (by unfold big; omega) bs hbs) ?_
 rintro v2 hB c2 r2 w2 ⟨⟨rfl, e2, hcv⟩, hext2⟩
 simp only at e2 hcv
 subst e2
 have fr2 := hext2.fresh
 simp only at fr2
 have kp2 := Kp.ext (W := fun b => b = p) (h := h) (c := c) kp1 hext2 (by omega) (fun _ _ q => q.elim)
 have lr2 := Lg.extR (R := fun b => U0 b ∨ bs b) (c := c) lr1 hext2 (fun _ _ q => .inr q)
 have lw2 := Lg.extW (W := fun b => b = p) (c := c) lw1 hext2 (fun _ _ q => q.elim)
 have q2 := q1.keep fr1 (fun b _ hb => hext2.get hb (fun q => q))
 obtain ⟨⟨lv, l, h1, _⟩, _⟩ := _root_.id q2
 have hpc := h1.lt fr2
 unfold refC at h1
 have hsp : ∀ b, blkOf (.slice (some ⟨c1, 0, some 1⟩) dim dim) = some b → ((U0 b ∨ c ≤ b ∧ b < c1) ∨ b = c1) ∧ ¬(U0 b ∨ c ≤ b ∧ b < c1) := fun b q => by
  have q' : c1 = b := by simpa [blkOf] using q
  subst q'
  refine ⟨.inr rfl, fun q => ?_⟩
  rcases q with q | q
  ·have := hUc _ q; omega
  ·omega
 refine Zgo ?_
 refine Wseq.call rfl rfl (rinsert_spec Zfr q2 (U := fun b => (U0 b ∨ c ≤ b ∧ b < c1) ∨ b = c1) (fun b q => .inl q) hml1 (id := id) hz hbz (.inr ⟨c1, some 1, dim, rfl, Nat.le_refl _, Nat.zero_le _, hcv⟩) hsp (fun r hr => by have := (List.mem_filter.1 hr).2; simpa using this)) ?_
 rintro v3 hC c3 r3 w3 ⟨q3, hext3⟩
 have fr3 := hext3.fresh
 have le3 := hext3.c
 simp only at fr3 le3 q3
 rw [putM_del q.rises] at q3
 have kp3 := Kp.ext (W := fun b => b = p) (h := h) (c := c) kp2 hext3 (by omega) (fun _ _ q => q)
 have lr3 := Lg.extR (R := fun b => U0 b ∨ bs b) (c := c) Zlg hext3 (fun b hb q => q.elim .inl (fun q => by omega))
 have lw3 := Lg.extW (W := fun b => b = p) (c := c) Zlg hext3 (fun _ _ q => q)
 refine Zgo ?_
 refine ⟨.inl rfl, Wres.nil ⟨q3.wide fun b hb => ?_, ?_⟩⟩
 ·dsimp only
  rcases hb with ((hb | hb) | hb) | hb
  ·exact .inl hb
  ·exact .inr ⟨by omega, by omega⟩
  ·exact .inr ⟨by omega, by omega⟩
  ·exact .inr ⟨by omega, by omega⟩
 ·exact Zex
end Go.Ab.Seat
end
section
/- Face's put; the law's Dim; the reference's New, made (the abstract machine). -/
namespace Go.Ab.Seat
open Go.Extern Go.Proofs
set_option maxRecDepth 4000
def opF (kd id k : Int) (oa : Option Addr) (on oc : Nat) (dw : Int) : Value := .agg ⟨[.int .i64 kd, .int .i64 id, .int .i64 k, .slice oa on oc, .int .u32 dw]⟩
def dimZ (z : Int) : Nat := (1 + (z.tmod 8 + 8).tmod 8).toNat
theorem dim_rng (z : Int) : 1 ≤ dimZ z ∧ dimZ z ≤ 8 ∧ (dimZ z : Int) = 1 + (z.tmod 8 + 8).tmod 8 := by
 have h1 := tmod_lt z 8 (by omega)
 have h2 := Int.tmod_lt_of_pos (z.tmod 8 + 8) (show (0 : Int) < 8 by omega)
 have h3 := Int.tmod_nonneg (a := z.tmod 8 + 8) 8 (by omega)
 unfold dimZ
 omega
theorem dim_spec {h : T AObj} {c : Nat} {rl wl : List Nat} (hf : Fresh h c) (z : Int) :
  ∃ r s', FnTo (Cs smQ) eg 58 [.int .i64 z] ⟨h, c, rl, wl⟩ r s' ∧ (r = .int .i64 (dimZ z : Int) ∧ s'.h = h ∧ s'.c = c) ∧ Ext ⟨h, c, rl, wl⟩ s' (fun _ => False) (fun _ => False) := by
 have h1 := tmod_lt z 8 (by omega)
 have h2 := dim_rng z
 refine Fn.go (stdQ 58 rfl) ex58 fn58 km58 rfl rfl ?_
 refine Zev ?_
 refine Zgo ?_
 refine ⟨.inr rfl, Wres.one (v := .int .i64 (1 + (z.tmod 8 + 8).tmod 8)) (by rfl) ⟨⟨?_, rfl, rfl⟩, ?_⟩⟩
 ·rw [h2.2.2]
 ·exact Zex
end Go.Ab.Seat
end
section
/- Duet indexes side by side, whatever kind they are of; operations that come in (the abstract machine). -/
namespace Go.Ab.Seat
open Go.Extern Go.Proofs
def OpsD (h : T AObj) (c0 : Nat) (oa : Option Addr) (n : Nat) : Prop := ∀ i, i < n → ∃ b o sp cs kd id k va nv kv, ∃ zs : List Int, ∃ dw, oa = some ⟨b, o, sp⟩ ∧ b < c0 ∧ Cel h b cs ∧ subN (o + i * 5) 5 cs = some [.int .i64 kd, .int .i64 id, .int .i64 k, .slice va nv kv, .int .u32 dw] ∧
 Row h (.slice va nv kv) nv 1 (zs.map (Value.int .i32)) ∧ zs.length = nv ∧ ∀ b, blkOf (.slice va nv kv) = some b → b < c0
theorem OpsD.keep {h h' : T AObj} {c0 n : Nat} {oa : Option Addr} (x : OpsD h c0 oa n) (k : ∀ b, b < c0 → h'.get b = h.get b) : OpsD h' c0 oa n := fun i hi => by
 obtain ⟨b, o, sp, cs, kd, id, k1, va, nv, kv, zs, dw, h1, h2, h3, h4, h5, h6, h7⟩ := x i hi
 exact ⟨b, o, sp, cs, kd, id, k1, va, nv, kv, zs, dw, h1, h2, by unfold Cel Has at h3 ⊢; rw [k b h2]; exact h3, h4, Row.keepBT h5 (fun b hb => k b (h7 b hb)), h6, h7⟩
def Tells (h : T AObj) (v : Value) (dim : Nat) (o : Option Rc) : Prop := (o = none ∧ ∃ a k, v = .slice a 0 k ∧ Row h (.slice a 0 k) 0 1 []) ∨ ∃ (r0 : Rc) (zs : List Int) (a : Option Addr) (k : Nat), o = some r0 ∧ r0.xs = zs.map (Value.int .i32) ∧ zs.length = dim ∧ v = .slice a dim k ∧ Row h (.slice a dim k) dim 1 r0.xs
theorem Tells.keep {h h' : T AObj} {c : Nat} {v : Value} {dim : Nat} {o : Option Rc} (x : Tells h v dim o) (hf : Fresh h c) (k : ∀ b, b < c → h'.get b = h.get b) : Tells h' v dim o := by
 rcases x with ⟨h1, a, k1, h2, h3⟩ | ⟨r0, zs, a, k1, h1, h2, h3, h4, h5⟩
 ·exact .inl ⟨h1, a, k1, h2, Row.keepF h3 hf (fun b hb => k b hb)⟩
 ·exact .inr ⟨r0, zs, a, k1, h1, h2, h3, h4, Row.keepF h5 hf (fun b hb => k b hb)⟩
theorem mem_delM {id : Int} {x : Rc} {M : List Rc} (h : x ∈ delM id M) : x ∈ M := by
 unfold delM at h
 exact (List.mem_filter.1 h).1
theorem ids_len {M : List Rc} (hr : Rises M) (h : ∀ x ∈ M, 0 ≤ x.id ∧ x.id ≤ 39) : M.length ≤ 40 := by
 have := rises_len (n := 39) (lo := 0) hr.ids (fun x hx => by
  obtain ⟨y, hy, rfl⟩ := List.mem_map.1 hx
  exact h y hy) (by omega)
 rw [List.length_map] at this
 omega
structure Duet {σ : Type} (fv : List Value) (r c0 dim : Nat) (mem : σ → List Rc) (put : σ → Int → List Int → Int → σ) (del : σ → Int → σ) (look : σ → List Int → Nat → List Ht) (J : T AObj → Nat → (Nat → Prop) → σ → σ → Prop) : Prop where
 f : ∀ {h c U A B}, J h c U A B → Fresh h c
 bd : ∀ {h c U A B}, J h c U A B → ∀ b, U b → c0 ≤ b ∧ b < c
 keep : ∀ {h c U A B h' c'}, J h c U A B → Fresh h' c' → c ≤ c' → (∀ b, U b → h'.get b = h.get b) → J h' c' U A B
 rises : ∀ {h c U A B}, J h c U A B → Rises (mem A)
 looks : ∀ A zs k, (look A zs k).length ≤ k
 mput : ∀ {A id zs dw x}, x ∈ mem (put A id zs dw) → x.id = id ∨ x ∈ mem A
 mdel : ∀ {A id x}, x ∈ mem (del A id) → x ∈ mem A
 putF : ∀ {h c U A B} {rl wl : List Nat} (d : J h c U A B) (id : Int) (hid : 0 ≤ id ∧ id ≤ 39) {bv : Nat} {zs : List Int} (hv : Has h bv (.cells (zs.map (Value.int .i32)))) (hz : zs.length = dim) (hb : Bnd zs) (kd k dw : Int) (oa : Option Addr) (on oc : Nat) (hn : (mem A).length ≤ 40), ¬U bv → c0 ≤ c →
  ∃ v s', FnTo (Cs smQ) eg 119 [.agg ⟨fv⟩, opF kd id k oa on oc dw, .slice (some ⟨bv, 0, none⟩) dim dim] ⟨h, c, rl, wl⟩ v s' ∧ J s'.h s'.c (fun b => U b ∨ c ≤ b ∧ b < s'.c) (put A id zs dw) B ∧ Ext ⟨h, c, rl, wl⟩ s' (fun _ => True) U
 putR : ∀ {h c U A B} {rl wl : List Nat} (d : J h c U A B) (id : Int) (hid : 0 ≤ id ∧ id ≤ 39) {bv : Nat} {zs : List Int} (hv : Has h bv (.cells (zs.map (Value.int .i32)))) (hz : zs.length = dim) (hb : Bnd zs) (dw : Int) (hn : (mem B).length ≤ 40), ¬U bv → c0 ≤ c →
  ∃ v s', FnTo (Cs smQ) eg 50 [.pointer (some ⟨r, 0, none⟩), .int .i64 id, .slice (some ⟨bv, 0, none⟩) dim dim, .int .u32 dw] ⟨h, c, rl, wl⟩ v s' ∧ J s'.h s'.c (fun b => U b ∨ c ≤ b ∧ b < s'.c) A (put B id zs dw) ∧ Ext ⟨h, c, rl, wl⟩ s' (fun _ => True) U
 delF : ∀ {h c U A B} {rl wl : List Nat} (d : J h c U A B) (id : Int) (hn : (mem A).length ≤ 40), c0 ≤ c →
  ∃ v s', FnTo (Cs smQ) eg 120 [.agg ⟨fv⟩, .int .i64 id] ⟨h, c, rl, wl⟩ v s' ∧ (v = .bool (getM id (mem A)).isSome ∧ J s'.h s'.c (fun b => U b ∨ c ≤ b ∧ b < s'.c) (del A id) B) ∧ Ext ⟨h, c, rl, wl⟩ s' (fun _ => True) U
 delR : ∀ {h c U A B} {rl wl : List Nat} (d : J h c U A B) (id : Int) (hn : (mem B).length ≤ 40), c0 ≤ c →
  ∃ v s', FnTo (Cs smQ) eg 52 [.pointer (some ⟨r, 0, none⟩), .int .i64 id] ⟨h, c, rl, wl⟩ v s' ∧ (v = .bool (getM id (mem B)).isSome ∧ J s'.h s'.c (fun b => U b ∨ c ≤ b ∧ b < s'.c) A (del B id)) ∧ Ext ⟨h, c, rl, wl⟩ s' (fun _ => True) U
 searchF : ∀ {h c U A B} {rl wl : List Nat} (d : J h c U A B) {bv : Nat} {zs : List Int} (hv : Has h bv (.cells (zs.map (Value.int .i32)))) (hz : zs.length = dim) (hb : Bnd zs) (k : Int) {kk : Nat} (hk : max k 0 = (kk : Int)) (hkk : kk ≤ 30) (hn : (mem A).length ≤ 40), c0 ≤ c →
  ∃ v s', FnTo (Cs smQ) eg 121 [.agg ⟨fv⟩, .slice (some ⟨bv, 0, none⟩) dim dim, .int .i64 k] ⟨h, c, rl, wl⟩ v s' ∧ (Best s'.h v (look A zs kk).length (flatH (look A zs kk)) ∧ ∀ b, blkOf v = some b → c ≤ b) ∧ Ext ⟨h, c, rl, wl⟩ s' (fun _ => True) (fun _ => False)
 searchR : ∀ {h c U A B} {rl wl : List Nat} (d : J h c U A B) {bv : Nat} {zs : List Int} (hv : Has h bv (.cells (zs.map (Value.int .i32)))) (hz : zs.length = dim) (hb : Bnd zs) (k : Int) {kk : Nat} (hk : max k 0 = (kk : Int)) (hkk : kk ≤ 30) (hn : (mem B).length ≤ 40), c0 ≤ c →
  ∃ v s', FnTo (Cs smQ) eg 53 [.pointer (some ⟨r, 0, none⟩), .slice (some ⟨bv, 0, none⟩) dim dim, .int .i64 k] ⟨h, c, rl, wl⟩ v s' ∧ (Best s'.h v (look B zs kk).length (flatH (look B zs kk)) ∧ ∀ b, blkOf v = some b → c ≤ b) ∧ Ext ⟨h, c, rl, wl⟩ s' (fun _ => True) (fun _ => False)
 idsF : ∀ {h c U A B} {rl wl : List Nat} (d : J h c U A B) (hn : (mem A).length ≤ 40),
  ∃ v s', FnTo (Cs smQ) eg 124 [.agg ⟨fv⟩] ⟨h, c, rl, wl⟩ v s' ∧ Own s'.h c v (mem A).length (((mem A).map Rc.id).map (Value.int .i64)) ∧ Ext ⟨h, c, rl, wl⟩ s' (fun _ => True) (fun _ => False)
 idsR : ∀ {h c U A B} {rl wl : List Nat} (d : J h c U A B) (hn : (mem B).length ≤ 40),
  ∃ v s', FnTo (Cs smQ) eg 56 [.pointer (some ⟨r, 0, none⟩)] ⟨h, c, rl, wl⟩ v s' ∧ HJ s'.h c v ((mem B).map Rc.id) ∧ Ext ⟨h, c, rl, wl⟩ s' (fun _ => True) (fun _ => False)
 vecF : ∀ {h c U A B} {rl wl : List Nat} (d : J h c U A B) (id : Int) (hn : (mem A).length ≤ 40),
  ∃ v s', FnTo (Cs smQ) eg 122 [.agg ⟨fv⟩, .int .i64 id] ⟨h, c, rl, wl⟩ v s' ∧ (∃ w, v = .tuple #[w, .bool (getM id (mem A)).isSome] ∧ Tells s'.h w dim (getM id (mem A))) ∧ Ext ⟨h, c, rl, wl⟩ s' (fun _ => True) (fun _ => False)
 vecR : ∀ {h c U A B} {rl wl : List Nat} (d : J h c U A B) (id : Int) (hn : (mem B).length ≤ 40),
  ∃ v s', FnTo (Cs smQ) eg 123 [.pointer (some ⟨r, 0, none⟩), .int .i64 id] ⟨h, c, rl, wl⟩ v s' ∧ (∃ w, v = .tuple #[w, .bool (getM id (mem B)).isSome] ∧ Tells s'.h w dim (getM id (mem B))) ∧ Ext ⟨h, c, rl, wl⟩ s' (fun _ => True) (fun _ => False)
end Go.Ab.Seat
end
