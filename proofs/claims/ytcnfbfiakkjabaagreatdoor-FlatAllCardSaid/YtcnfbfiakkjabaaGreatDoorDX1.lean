import Derived.Test.YtcnfbfiakkjabaaGreatDoorDL1
import Derived.Test.YtcnfbfiakkjabaaGreatDoorDT8
import Derived.Test.YtcnfbfiakkjabaaGreatDoorDF3
set_option linter.unusedVariables false
set_option linter.unusedSimpArgs false
section
/- The reference's index is written: one is taken out, let go, put (the abstract machine). -/
namespace Go.Ab.Seat
open Go.Extern Go.Proofs
set_option linter.unusedSimpArgs false
set_option linter.unusedVariables false
set_option maxRecDepth 4000
set_option pp.deepTerms false
set_option pp.deepTerms.threshold 6

theorem delM_at {id : Int} : ∀ {M : List Rc} {k : Nat} {x : Rc}, Rises M → M[k]? = some x → x.id = id → delM id M = M.take k ++ M.drop (k + 1)
  | [], _, _, _, h, _ => by cases h
  | y :: M, 0, x, h, hk, hi => by
    cases hk
    obtain ⟨h1, h2⟩ := List.pairwise_cons.1 h
    unfold delM
    rw [List.filter_cons_of_neg (by simp [hi])]
    show _ = M
    refine List.filter_eq_self.2 fun z hz => ?_
    have := h1 z hz
    have h3 : z.id ≠ id := by omega
    simpa using h3
  | y :: M, k + 1, x, h, hk, hi => by
    obtain ⟨h1, h2⟩ := List.pairwise_cons.1 h
    have hk' : M[k]? = some x := by simpa using hk
    have := h1 x (List.mem_of_getElem? hk')
    have h3 : y.id ≠ id := by omega
    have ih := delM_at h2 hk' hi
    unfold delM at ih ⊢
    rw [List.filter_cons_of_pos (by simpa using h3), ih]
    rfl

theorem putM_del {r : Rc} {M : List Rc} (h : Rises M) : putM r (delM r.id M) = putM r M := by
  refine rises_getM ((h.filter _).put _) (h.put _) fun x => ?_
  rw [getM_put, getM_put, getM_del]
  by_cases hx : r.id = x
  · rw [if_pos hx, if_pos hx]
  · rw [if_neg hx, if_neg hx, if_neg (fun e => hx e.symm)]

theorem copyVec_spec {h : T AObj} {c : Nat} {rl wl : List Nat} (hf : Fresh h c) {a : Option Addr} {n k : Nat} {xs : List Value} (hv : Row h (.slice a n k) n 1 xs) (h1 : 1 ≤ n) (hn : n ≤ big) (R : Nat → Prop) (hR : ∀ b, blkOf (.slice a n k) = some b → R b) :
    ∃ r s', FnTo (Cs smQ) eg 99 [.slice a n k] ⟨h, c, rl, wl⟩ r s' ∧ (r = .slice (some ⟨c, 0, some 1⟩) n n ∧ s'.c = c + 1 ∧ Has s'.h c (.cells xs)) ∧ Ext ⟨h, c, rl, wl⟩ s' R (fun _ => False) := by
  refine Fn.go (stdQ 99 rfl) ex99 fn99 km99 rfl rfl ?_
  refine Zev ?_
  obtain ⟨n, rfl⟩ : ∃ m, n = m + 1 := ⟨n - 1, by omega⟩
  rcases hv with ⟨h0, _⟩ | ⟨b, o, sp, cap, cs, e, hc, hs⟩
  · cases h0
  simp only [Value.slice.injEq, true_and] at e
  obtain ⟨rfl, rfl⟩ := e
  have lb := hc.lt hf
  have rb := hR b rfl
  refine Zgo ?_
  ((with_reducible apply Wseq.stg); rfl; exact to_appNil ro24 sl24 rfl rfl hc lb hs hn Zfr)
  refine Zgo ?_
  refine ⟨.inr rfl, Wres.one rfl ⟨⟨rfl, rfl, Has.same⟩, ?_⟩⟩
  exact Zex

set_option maxHeartbeats 8000000 in
theorem rremove_spec {h : T AObj} {c : Nat} {rl wl : List Nat} (hf : Fresh h c) {p dim : Nat} {mt dm : Int} {M : List Rc} {U0 : Nat → Prop} (q : RefX h p mt dm dim M U0) (hml : M.length ≤ 900) {id : Int} (hid : getM id M ≠ none) :
    ∃ r s', FnTo (Cs smQ) eg 105 [.pointer (some ⟨p, 0, none⟩), .int .i64 id] ⟨h, c, rl, wl⟩ r s' ∧ RefX s'.h p mt dm dim (delM id M) (fun b => U0 b ∨ c ≤ b ∧ b < s'.c) ∧ Ext ⟨h, c, rl, wl⟩ s' U0 (fun b => b = p) := by
  obtain ⟨⟨lv, l, h1, h2, h3, h4, h5⟩, h6, h7, h8⟩ := _root_.id q
  have hpc := h1.lt hf
  have hll : l.length = M.length := by rw [← h5, List.length_map]
  have hvs : ∀ x ∈ l, ∃ a n k, x.vec = .slice a n k := fun x hx => by obtain ⟨a, k, e⟩ := (h4 x hx).1.val; exact ⟨_, _, _, e⟩
  rcases h2 with ⟨rfl, rfl⟩ | ⟨bl, rfl, hlne, hbl⟩
  · exfalso
    apply hid
    rw [← h5]; rfl
  have lbl := hbl.lt hf
  have rb := (h3 bl rfl).1
  have hbp := (h3 bl rfl).2
  refine Fn.go (stdQ 105 rfl) ex105 fn105 km105 rfl rfl ?_
  refine Zev ?_
  refine Zgo ?_
  refine Wseq.call rfl rfl (place_spec Zfr h1 (.inr ⟨bl, rfl, hlne, hbl⟩) (by omega) id U0 h6 (fun b q => (h3 b q).1)) ?_
  rintro v1 hA c1 r1 w1 ⟨⟨hr, e1, e2⟩, hext⟩
  simp only at e1 e2
  subst e1 e2
  have lr := Lg.extR (R := U0) (c := c1) Zlg hext (fun _ _ q => q)
  have lw := Lg.extW (W := fun b => b = p) (c := c1) Zlg hext (fun _ _ q => q.elim)
  rcases hr with ⟨hg, _⟩ | ⟨k, x, rfl, hk, hxi, hg⟩
  · rw [h5] at hg; exact absurd hg hid
  have hkl := (List.getElem?_eq_some_iff.1 hk).1
  have hdel : delM id M = (l.take k ++ l.drop (k + 1)).map On.rc := by
    rw [delM_at h7 (k := k) (x := x.rc) (by rw [← h5, List.getElem?_map, hk]; rfl) hxi, List.map_append, List.map_take, List.map_drop, h5]
  have hp1 := h1
  unfold refC at hp1
  have hbg : big = 1048576 := rfl
  have done_ : ∀ (h9 : T AObj) (c9 : Nat) (lv9 : Value), Kp hA h9 c1 (fun b => b = p) → LRow8 h9 lv9 (l.take k ++ l.drop (k + 1)) → (∀ b, blkOf lv9 = some b → c1 ≤ b ∧ b < c9) → Has h9 p (.cells (refC mt dm lv9)) → RefX h9 p mt dm dim (delM id M) (fun b => U0 b ∨ c1 ≤ b ∧ b < c9) := by
    intro h9 c9 lv9 K hL hb9 hP
    refine ⟨⟨lv9, _, hP, hL, fun b hb => ⟨.inr (hb9 b hb), by have := hb9 b hb; omega⟩, fun x' hx => ?_, hdel.symm⟩, .inl h6, h7.filter _, fun r hr => h8 r (List.mem_filter.1 hr).1⟩
    have hx' : x' ∈ l := by
      rcases List.mem_append.1 hx with hx | hx
      · exact List.mem_of_mem_take hx
      · exact List.mem_of_mem_drop hx
    obtain ⟨o1, o2⟩ := h4 x' hx'
    refine ⟨o1.keep fun b hb => ?_, fun b hb => ?_⟩
    · have hbc := (o1.blk hb).2.lt hf
      exact K b hbc (o2 b hb).2.1
    · have hbc := (o1.blk hb).2.lt hf
      exact ⟨.inl (o2 b hb).1, (o2 b hb).2.1, fun e => by have := (hb9 b e).1; omega⟩
  obtain ⟨hsub0, _⟩ := flatO_sub (l := l) (k := k) (by omega)
  obtain ⟨_, hsub1⟩ := flatO_sub (l := l) (k := k + 1) (by omega)
  have hat1 : ∀ v ∈ flatO (l.drop (k + 1)), atom v = true := flatO_atom fun x hx => hvs x (List.mem_of_mem_drop hx)
  have hl0 : (flatO (l.take k)).length = k * 8 := by rw [flatO_len, List.length_take]; omega
  have hlen : (l.take k ++ l.drop (k + 1)).length = l.length - 1 := by rw [List.length_append, List.length_take, List.length_drop]; omega
  obtain ⟨m, hm⟩ : ∃ m, l.length = k + 1 + m := ⟨l.length - (k + 1), by omega⟩
  rw [show l.length - (k + 1) = m by omega] at hsub1
  rcases k with _ | k
  · rcases m with _ | m
    · refine Zgo ?_
      ((with_reducible apply Wtr.stq); rfl; exact to_sliceHi (k := 0) el148 rfl rfl rfl (by omega) (fun a ha => by cases ha; exact .inr rfl))
      ((with_reducible apply Wtr.stq); rfl; exact to_appZero ro148 sl148 rfl rfl (by omega))
      refine Zgo ?_
      ((with_reducible apply Wtr.stq); rfl; exact to_sliceOwn (k := 1) el148 rfl rfl rfl (by omega) (by omega))
      rw [show l.length - 1 = 0 by omega]
      ((with_reducible apply Wtr.stq); rfl; exact to_appZero ro148 sl148 rfl rfl (by omega))
      refine Zgo ?_
      refine ⟨.inl rfl, Wres.nil ⟨done_ _ _ _ (by dsimp only; exact Zkp) (.inl ⟨rfl, List.length_eq_zero_iff.1 (by rw [hlen]; omega)⟩) (fun b q => by cases q) Has.same, ?_⟩⟩
      exact Zex
    · refine Zgo ?_
      ((with_reducible apply Wtr.stq); rfl; exact to_sliceHi (k := 0) el148 rfl rfl rfl (by omega) (fun a ha => by cases ha; exact .inr rfl))
      ((with_reducible apply Wtr.stq); rfl; exact to_appZero ro148 sl148 rfl rfl (by omega))
      refine Zgo ?_
      ((with_reducible apply Wtr.stq); rfl; exact to_sliceOwn (k := 1) el148 rfl rfl rfl (by omega) (by omega))
      rw [show l.length - 1 = m + 1 by omega]
      ((with_reducible apply Wtr.stx); rfl; exact to_appNil ro148 sl148 rfl rfl hbl.cel (by omega) hsub1 (by unfold big; omega) Zfr; exact Zap)
      refine Zgo ?_
      refine ⟨.inl rfl, Wres.nil ⟨done_ _ _ _ (by dsimp only; exact Zkp) (.inr ⟨c1, by rw [hlen, show l.length - 1 = m + 1 by omega], (fun e => by have h9 := congrArg List.length e; rw [hlen, List.length_nil] at h9; omega), Has.other (by omega) Has.same⟩) (fun b q => by cases q; dsimp only; omega) Has.same, ?_⟩⟩
      exact Zex
  · rcases m with _ | m
    · refine Zgo ?_
      ((with_reducible apply Wtr.stq); rfl; exact to_sliceHi (k := k + 1) el148 rfl rfl rfl (by omega) (fun a ha => by cases ha; exact .inr rfl))
      ((with_reducible apply Wtr.stx); rfl; exact to_appNil ro148 sl148 rfl rfl hbl.cel (by omega) hsub0 (by unfold big; omega) Zfr; exact Zap)
      refine Zgo ?_
      ((with_reducible apply Wtr.stq); rfl; exact to_sliceOwn (k := k + 1 + 1) el148 rfl rfl rfl (by omega) (by omega))
      rw [show l.length - (k + 1 + 1) = 0 by omega]
      ((with_reducible apply Wtr.stq); rfl; exact to_appZero ro148 sl148 rfl rfl (by omega))
      refine Zgo ?_
      refine ⟨.inl rfl, Wres.nil ⟨done_ _ _ _ (by dsimp only; exact Zkp) (.inr ⟨c1, by rw [hlen, show l.length - 1 = k + 1 by omega], (fun e => by have h9 := congrArg List.length e; rw [hlen, List.length_nil] at h9; omega), Has.other (by omega) (by rw [List.drop_of_length_le (by omega), List.append_nil]; exact Has.same)⟩) (fun b q => by cases q; dsimp only; omega) Has.same, ?_⟩⟩
      exact Zex
    · refine Zgo ?_
      ((with_reducible apply Wtr.stq); rfl; exact to_sliceHi (k := k + 1) el148 rfl rfl rfl (by omega) (fun a ha => by cases ha; exact .inr rfl))
      ((with_reducible apply Wtr.stx); rfl; exact to_appNil ro148 sl148 rfl rfl hbl.cel (by omega) hsub0 (by unfold big; omega) Zfr; exact Zap)
      refine Zgo ?_
      ((with_reducible apply Wtr.stq); rfl; exact to_sliceOwn (k := k + 1 + 1) el148 rfl rfl rfl (by omega) (by omega))
      rw [show l.length - (k + 1 + 1) = m + 1 by omega]
      ((with_reducible apply Wtr.stx); rfl; exact to_appG ro148 sl148 rfl rfl (Cel.other (by omega) hbl.cel) (by omega) hsub1 (by omega) (by unfold big; omega) Zhs (by omega) (subN_all _ _ hl0.symm) hat1 Zfr; exact Zap)
      refine Zgo ?_
      refine ⟨.inl rfl, Wres.nil ⟨done_ _ _ _ (by dsimp only; exact Zkp) (.inr ⟨c1 + 1, by rw [hlen, show l.length - 1 = k + 1 + (m + 1) by omega], (fun e => by have h9 := congrArg List.length e; rw [hlen, List.length_nil] at h9; omega), Has.other (by omega) (by rw [flatO_app]; exact Has.same)⟩) (fun b q => by cases q; dsimp only; omega) Has.same, ?_⟩⟩
      exact Zex

set_option maxHeartbeats 4000000 in
theorem rdel_spec {h : T AObj} {c : Nat} {rl wl : List Nat} (hf : Fresh h c) {p dim : Nat} {mt dm : Int} {M : List Rc} {U0 : Nat → Prop} (q : RefX h p mt dm dim M U0) (hml : M.length ≤ 900) (id : Int) :
    ∃ r s', FnTo (Cs smQ) eg 60 [.pointer (some ⟨p, 0, none⟩), .int .i64 id] ⟨h, c, rl, wl⟩ r s' ∧ (r = .bool (getM id M).isSome ∧ RefX s'.h p mt dm dim (delM id M) (fun b => U0 b ∨ c ≤ b ∧ b < s'.c)) ∧ Ext ⟨h, c, rl, wl⟩ s' U0 (fun b => b = p) := by
  obtain ⟨⟨lv, l, h1, h2, h3, h4, h5⟩, h6, h7, h8⟩ := _root_.id q
  have hpc := h1.lt hf
  have hll : l.length = M.length := by rw [← h5, List.length_map]
  refine Fn.go (stdQ 60 rfl) ex60 fn60 km60 rfl rfl ?_
  refine Zev ?_
  refine Zgo ?_
  refine Wseq.call rfl rfl (place_spec Zfr h1 h2 (by omega) id U0 h6 (fun b q => (h3 b q).1)) ?_
  rintro v1 hA c1 r1 w1 ⟨⟨hr, e1, e2⟩, hext⟩
  simp only at e1 e2
  subst e1 e2
  have lr := Lg.extR (R := U0) (c := c1) Zlg hext (fun _ _ q => q)
  have lw := Lg.extW (W := fun b => b = p) (c := c1) Zlg hext (fun _ _ q => q.elim)
  have hp1 := h1
  unfold refC at hp1
  rcases hr with ⟨hg, rfl⟩ | ⟨k, x, rfl, hk, hxi, hg⟩
  · rw [h5] at hg
    have hdel : delM id M = M := by
      unfold delM
      refine List.filter_eq_self.2 fun r hr => ?_
      have := getM_none.1 hg r hr
      simpa using this
    refine Zgo ?_
    refine ⟨.inr rfl, Wres.one rfl ⟨⟨by rw [hg]; rfl, ?_⟩, ?_⟩⟩
    · rw [hdel]; exact q.wide fun b hb => .inl hb
    · exact Zex
  · rw [h5] at hg
    refine Zgo ?_
    refine Wseq.call rfl rfl (rremove_spec Zfr q hml (id := id) (by rw [hg]; simp)) ?_
    rintro v2 hB c2 r2 w2 ⟨q2, hext2⟩
    have fr2 := hext2.fresh
    have le2 := hext2.c
    simp only at fr2 le2 q2
    have kp2 := Kp.ext (W := fun b => b = p) (h := hA) (c := c1) Zkp hext2 (by omega) (fun _ _ q => q)
    have lr2 := Lg.extR (R := U0) (c := c1) Zlg hext2 (fun _ _ q => q)
    have lw2 := Lg.extW (W := fun b => b = p) (c := c1) Zlg hext2 (fun _ _ q => q)
    refine Zgo ?_
    refine ⟨.inr rfl, Wres.one rfl ⟨⟨by rw [hg]; rfl, q2⟩, ?_⟩⟩
    exact Zex

theorem Row.keepBT {h h' : T AObj} {v : Value} {n k : Nat} {xs : List Value} (hr : Row h v n k xs) (hk : ∀ b, blkOf v = some b → h'.get b = h.get b) : Row h' v n k xs := by
  rcases hr with g | ⟨b, o, sp, cap, cs, e, g6, g7⟩
  · exact .inl g
  · refine .inr ⟨b, o, sp, cap, cs, e, ?_, g7⟩
    have q := hk b (by rw [e]; rfl)
    unfold Cel Has at g6 ⊢
    rw [q]; exact g6

set_option maxHeartbeats 4000000 in
theorem rput_spec {h : T AObj} {c : Nat} {rl wl : List Nat} (hf : Fresh h c) {p dim : Nat} {mt dm : Int} {M : List Rc} {U0 : Nat → Prop} (q : RefX h p mt dm dim M U0) (hUc : ∀ b, U0 b → b < c) (hml : M.length ≤ 900) (id : Int) {a : Option Addr} {kw : Nat} {zs : List Int} (hz : zs.length = dim) (hd1 : 1 ≤ dim) (hd : dim ≤ 1000) (hbz : Bnd zs) (hv : Row h (.slice a dim kw) dim 1 (zs.map (Value.int .i32))) (bs : Nat → Prop) (hbs : ∀ b, blkOf (.slice a dim kw) = some b → bs b) (hbp : ¬bs p) (draw : Int) :
    ∃ r s', FnTo (Cs smQ) eg 58 [.pointer (some ⟨p, 0, none⟩), .int .i64 id, .slice a dim kw, .int .u32 draw] ⟨h, c, rl, wl⟩ r s' ∧ RefX s'.h p mt dm dim (putM ⟨id, zs.map (Value.int .i32), .empty, 0, false⟩ M) (fun b => U0 b ∨ c ≤ b ∧ b < s'.c) ∧ Ext ⟨h, c, rl, wl⟩ s' (fun b => U0 b ∨ bs b) (fun b => b = p) := by
  refine Fn.go (stdQ 58 rfl) ex58 fn58 km58 rfl rfl ?_
  refine Zev ?_
  have hpU := q.pU
  refine Zgo ?_
  refine Wseq.call rfl rfl (rdel_spec Zfr q hml id) ?_
  rintro v1 hA c1 r1 w1 ⟨⟨rfl, q1⟩, hext⟩
  have fr1 := hext.fresh
  have le1 := hext.c
  simp only at fr1 le1 q1
  have hvb : ∀ b, blkOf (.slice a dim kw) = some b → b < c := fun b q => by
    rcases hv with ⟨q2, _⟩ | ⟨b', o, sp, cap, cs, e, hc, _⟩
    · omega
    · rw [e] at q
      have : b' = b := by simpa [blkOf] using q
      exact this ▸ hc.lt hf
  have hv1 := Row.keepBT hv (h' := hA) fun b q => hext.get (hvb b q) (fun e => hbp (e ▸ hbs b q))
  have kp1 := Kp.ext (W := fun b => b = p) (h := h) (c := c) Zkp hext (by omega) (fun _ _ q => q)
  have lr1 := Lg.extR (R := fun b => U0 b ∨ bs b) (c := c) Zlg hext (fun _ _ q => .inl q)
  have lw1 := Lg.extW (W := fun b => b = p) (c := c) Zlg hext (fun _ _ q => q)
  have hml1 : (delM id M).length ≤ 900 := by
    unfold delM
    have := List.length_filter_le (fun r : Rc => !decide (r.id = id)) M
    omega
  refine Zgo ?_
  refine Wseq.call rfl rfl (copyVec_spec Zfr hv1 hd1 (by unfold big; omega) bs hbs) ?_
  rintro v2 hB c2 r2 w2 ⟨⟨rfl, e2, hcv⟩, hext2⟩
  simp only at e2 hcv
  subst e2
  have fr2 := hext2.fresh
  simp only at fr2
  have kp2 := Kp.ext (W := fun b => b = p) (h := h) (c := c) kp1 hext2 (by omega) (fun _ _ q => q.elim)
  have lr2 := Lg.extR (R := fun b => U0 b ∨ bs b) (c := c) lr1 hext2 (fun _ _ q => .inr q)
  have lw2 := Lg.extW (W := fun b => b = p) (c := c) lw1 hext2 (fun _ _ q => q.elim)
  have q2 := q1.keep fr1 (fun b _ hb => hext2.get hb (fun q => q))
  obtain ⟨⟨lv, l, h1, _⟩, _⟩ := _root_.id q2
  have hpc := h1.lt fr2
  unfold refC at h1
  have hsp : ∀ b, blkOf (.slice (some ⟨c1, 0, some 1⟩) dim dim) = some b → ((U0 b ∨ c ≤ b ∧ b < c1) ∨ b = c1) ∧ ¬(U0 b ∨ c ≤ b ∧ b < c1) := fun b q => by
    have q' : c1 = b := by simpa [blkOf] using q
    subst q'
    refine ⟨.inr rfl, fun q => ?_⟩
    rcases q with q | q
    · have := hUc _ q; omega
    · omega
  refine Zgo ?_
  refine Wseq.call rfl rfl (rinsert_spec Zfr q2 (U := fun b => (U0 b ∨ c ≤ b ∧ b < c1) ∨ b = c1) (fun b q => .inl q) hml1 (id := id) hz hbz (.inr ⟨c1, some 1, dim, rfl, Nat.le_refl _, Nat.zero_le _, hcv⟩) hsp (fun r hr => by have := (List.mem_filter.1 hr).2; simpa using this)) ?_
  rintro v3 hC c3 r3 w3 ⟨q3, hext3⟩
  have fr3 := hext3.fresh
  have le3 := hext3.c
  simp only at fr3 le3 q3
  rw [putM_del q.rises] at q3
  have kp3 := Kp.ext (W := fun b => b = p) (h := h) (c := c) kp2 hext3 (by omega) (fun _ _ q => q)
  have lr3 := Lg.extR (R := fun b => U0 b ∨ bs b) (c := c) Zlg hext3 (fun b hb q => q.elim .inl (fun q => by omega))
  have lw3 := Lg.extW (W := fun b => b = p) (c := c) Zlg hext3 (fun _ _ q => q)
  refine Zgo ?_
  refine ⟨.inl rfl, Wres.nil ⟨q3.wide fun b hb => ?_, ?_⟩⟩
  · dsimp only
    rcases hb with ((hb | hb) | hb) | hb
    · exact .inl hb
    · exact .inr ⟨by omega, by omega⟩
    · exact .inr ⟨by omega, by omega⟩
    · exact .inr ⟨by omega, by omega⟩
  · exact Zex
end Go.Ab.Seat
end
section
/- Face's put; the law's Dim; the reference's New, made (the abstract machine). -/
namespace Go.Ab.Seat
open Go.Extern Go.Proofs
set_option linter.unusedSimpArgs false
set_option linter.unusedVariables false
set_option maxRecDepth 4000
set_option pp.deepTerms false
set_option pp.deepTerms.threshold 6

def opF (kd id k : Int) (oa : Option Addr) (on oc : Nat) (dw : Int) : Value := .agg ⟨[.int .i64 kd, .int .i64 id, .int .i64 k, .slice oa on oc, .int .u32 dw]⟩

theorem faceput_spec {h : T AObj} {c : Nat} {rl wl : List Nat} (hf : Fresh h c) {p m dim : Nat} {mt : Int} {M : List Rc} {U : Nat → Prop} (q : FlatM h p m mt dim M U) (id : Int) (hid : -9223372036854775808 ≤ id ∧ id ≤ 9223372036854775807)
    {a : Option Addr} {cap : Nat} {zs : List Int} (hv : Row h (.slice a dim cap) dim 1 (zs.map (Value.int .i32))) (hx : zs.length = dim) (hb : Bnd zs) (hd : 1 ≤ dim) (hd' : dim ≤ 1000) (bs : Nat → Prop) (hbs : ∀ b o sp, a = some ⟨b, o, sp⟩ → bs b) (hbm : ¬bs m) (kd k dw : Int) (oa : Option Addr) (on oc : Nat) :
    ∃ r s', FnTo (Cs smQ) eg 57 [faceF p, opF kd id k oa on oc dw, .slice a dim cap] ⟨h, c, rl, wl⟩ r s' ∧ FlatM s'.h p m mt dim (putM (mbR id zs) M) (fun b => U b ∨ c ≤ b ∧ b < s'.c) ∧ Ext ⟨h, c, rl, wl⟩ s' (fun b => U b ∨ bs b) (fun b => b = m) := by
  obtain ⟨lp, lm⟩ := q.lt hf
  refine Fn.go (stdQ 57 rfl) ex57 fn57 km57 rfl rfl ?_
  intro e he
  unfold faceF opF at he
  (simp (decide := true) only [kz] at he; subst he)
  refine Zgo ?_
  refine Wseq.call rfl rfl (fput_spec Zfr (q.keep hf (fun b _ hb => (get_other (by omega)).trans (get_other (by omega)))) id hid (Row.keepF hv hf (fun b hb => (get_other (by omega)).trans (get_other (by omega)))) hx hb hd hd' bs hbs hbm) ?_
  rintro v1 h1 c1 r1 w1 ⟨q1, hext⟩
  have fr1 := hext.fresh
  have le1 := hext.c
  simp only at le1 fr1 q1
  have kp := Kp.ext (W := fun b => b = m) (h := h) (c := c) Zkp hext (by omega) (fun _ _ q => q)
  have lr := Lg.extR (R := fun b => U b ∨ bs b) (c := c) Zlg hext (fun _ _ q => q)
  have lw := Lg.extW (W := fun b => b = m) (c := c) Zlg hext (fun _ _ q => q)
  refine Zgo ?_
  refine ⟨.inl rfl, Wres.nil ⟨q1.wide fun b hb => hb.imp (fun x => x) (fun x => ⟨by omega, x.2⟩), ?_⟩⟩
  exact Zex

def dimZ (z : Int) : Nat := (1 + (z.tmod 8 + 8).tmod 8).toNat
theorem dim_rng (z : Int) : 1 ≤ dimZ z ∧ dimZ z ≤ 8 ∧ (dimZ z : Int) = 1 + (z.tmod 8 + 8).tmod 8 := by
  have h1 := tmod_lt z 8 (by omega)
  have h2 := Int.tmod_lt_of_pos (z.tmod 8 + 8) (show (0 : Int) < 8 by omega)
  have h3 := Int.tmod_nonneg (a := z.tmod 8 + 8) 8 (by omega)
  unfold dimZ
  omega
theorem dim_spec {h : T AObj} {c : Nat} {rl wl : List Nat} (hf : Fresh h c) (z : Int) :
    ∃ r s', FnTo (Cs smQ) eg 31 [.int .i64 z] ⟨h, c, rl, wl⟩ r s' ∧ (r = .int .i64 (dimZ z : Int) ∧ s'.h = h ∧ s'.c = c) ∧ Ext ⟨h, c, rl, wl⟩ s' (fun _ => False) (fun _ => False) := by
  have h1 := tmod_lt z 8 (by omega)
  have h2 := dim_rng z
  refine Fn.go (stdQ 31 rfl) ex31 fn31 km31 rfl rfl ?_
  refine Zev ?_
  refine Zgo ?_
  refine ⟨.inr rfl, Wres.one (v := .int .i64 (1 + (z.tmod 8 + 8).tmod 8)) (by rfl) ⟨⟨?_, rfl, rfl⟩, ?_⟩⟩
  · rw [h2.2.2]
  · exact Zex

def ENw (mt dm : Int) (j : Value) : L :=
  .cons 0 (.int .i64 1) (.cons 1 (.int .i64 mt) (.cons 2 (.int .i64 dm) (.cons 3 (.slice none 0 0) (.cons 8 (.pointer none) (.cons 9 (.int .i64 0) (.cons 10 (.slice none 0 0) (.cons 34 (.int .i64 0) (.cons 35 (.int .i64 0) (.cons 26 (.bool false) (.cons 32 (.bool false) (.cons 36 j .nil)))))))))))

theorem rnew_spec {h : T AObj} {c : Nat} {rl wl : List Nat} (hf : Fresh h c) {mt : Int} (hmt : mt = 1 ∨ mt = 2) {dim : Nat} (hd : 1 ≤ dim) (hd' : dim ≤ 8) :
    ∃ r s', FnTo (Cs smQ) eg 67 [.int .i64 1, .int .i64 mt, .int .i64 (dim : Int), .slice none 0 0] ⟨h, c, rl, wl⟩ r s' ∧ (r = .tuple #[.pointer (some ⟨c, 0, none⟩), .int .i64 0] ∧ Has s'.h c (.cells (refC mt dim (.slice none 0 0))) ∧ s'.c = c + 1) ∧ Ext ⟨h, c, rl, wl⟩ s' (fun _ => False) (fun _ => False) := by
  rcases hmt with rfl | rfl
  · refine Fn.go (stdQ 67 rfl) ex67 fn67 km67 rfl rfl ?_
    refine Zev ?_
    refine Zgo ?_
    refine Wx.cutO (fun e s => ∃ j, e = ENw 1 dim j ∧ s = ⟨h, c, [], []⟩) Zrs ?_ ?_
    · refine Wx.loopE (fun k1 e s => e = ENw 1 dim top ∧ s = ⟨h, c, [], []⟩ ∧ k1 = 0) 0 (ENw 1 dim top) Zrs ?_ ⟨rfl, rfl, rfl⟩ ?_
      · unfold ENw
        exact Zek
      · rintro k1 e s ⟨rfl, rfl, rfl⟩
        unfold ENw
        refine Zgo ?_
        exact CutQ.go (ENw 1 dim _) Zek ⟨_, rfl, rfl⟩
    · rintro e s ⟨j, rfl, rfl⟩
      unfold ENw
      refine Zgo ?_
      refine ⟨.inr rfl, Wres.two rfl rfl ⟨⟨rfl, Has.same, rfl⟩, ?_⟩⟩
      exact Zex
  · refine Fn.go (stdQ 67 rfl) ex67 fn67 km67 rfl rfl ?_
    refine Zev ?_
    refine Zgo ?_
    refine Wx.cutO (fun e s => ∃ j, e = ENw 2 dim j ∧ s = ⟨h, c, [], []⟩) Zrs ?_ ?_
    · refine Wx.loopE (fun k1 e s => e = ENw 2 dim top ∧ s = ⟨h, c, [], []⟩ ∧ k1 = 0) 0 (ENw 2 dim top) Zrs ?_ ⟨rfl, rfl, rfl⟩ ?_
      · unfold ENw
        exact Zek
      · rintro k1 e s ⟨rfl, rfl, rfl⟩
        unfold ENw
        refine Zgo ?_
        exact CutQ.go (ENw 2 dim _) Zek ⟨_, rfl, rfl⟩
    · rintro e s ⟨j, rfl, rfl⟩
      unfold ENw
      refine Zgo ?_
      refine ⟨.inr rfl, Wres.two rfl rfl ⟨⟨rfl, Has.same, rfl⟩, ?_⟩⟩
      exact Zex

theorem made_spec {h : T AObj} {c : Nat} {rl wl : List Nat} (hf : Fresh h c) {mt : Int} (hmt : mt = 1 ∨ mt = 2) {dim : Nat} (hd : 1 ≤ dim) (hd' : dim ≤ 8) :
    ∃ r s', FnTo (Cs smQ) eg 33 [.int .i64 1, .int .i64 mt, .int .i64 (dim : Int), .slice none 0 0] ⟨h, c, rl, wl⟩ r s' ∧ (r = .pointer (some ⟨c, 0, none⟩) ∧ RefX s'.h c mt dim dim [] (fun b => b = c) ∧ s'.c = c + 1) ∧ Ext ⟨h, c, rl, wl⟩ s' (fun _ => False) (fun _ => False) := by
  refine Fn.go (stdQ 33 rfl) ex33 fn33 km33 rfl rfl ?_
  refine Zev ?_
  refine Zgo ?_
  refine Wseq.call rfl rfl (rnew_spec Zfr hmt hd hd') ?_
  rintro v1 h1 c1 r1 w1 ⟨⟨rfl, g1, g2⟩, hext⟩
  have fr1 := hext.fresh
  simp only at g1 g2 fr1
  subst g2
  have kp := Kp.ext (W := fun _ => False) (h := h) (c := c) Zkp hext (by omega) (fun _ _ q => q)
  have lr := Lg.extR (R := fun _ => False) (c := c) Zlg hext (fun _ _ q => q)
  have lw := Lg.extW (W := fun _ => False) (c := c) Zlg hext (fun _ _ q => q)
  refine Zgo ?_
  refine ⟨.inr rfl, Wres.one rfl ⟨⟨rfl, RefX.new g1, rfl⟩, ?_⟩⟩
  exact Zex
end Go.Ab.Seat
end
section
/- Hits that stand in order (plain). -/
namespace Go.Ab.Seat
open Go.Extern Go.Proofs
set_option linter.unusedVariables false

/-- One more put among some that stand in order. -/
def insB (x : Ht) (p : List Ht) : List Ht := p.take (iH x p) ++ x :: p.drop (iH x p)
theorem putB_ins {k : Nat} {p : List Ht} {x : Ht} (hx : ∀ y ∈ p, y.id ≠ x.id) (hk : p.length < k) : putB k p x = insB x p := by
  have h1 : p.any (fun y => decide (y.id = x.id)) = false := by
    rw [List.any_eq_false]
    intro y hy
    simpa using hx y hy
  have h2 := iH_le x p
  unfold putB insB
  rw [h1, if_neg (by decide), if_neg (by omega), List.take_of_length_le (by rw [List.length_append, List.length_take, List.length_cons, List.length_drop]; omega)]
theorem insB_cons (x y : Ht) (p : List Ht) : insB x (y :: p) = if lessH y x then y :: insB x p else x :: y :: p := by
  cases hl : lessH y x <;> simp [insB, iH, List.takeWhile_cons, hl]
theorem lessH_trans {a b c : Ht} (h1 : lessH a b = true) (h2 : lessH b c = true) : lessH a c = true := by
  rw [lessH_iff] at *; omega
theorem lessH_total {a b : Ht} (h1 : lessH a b = false) (h2 : a.id ≠ b.id) : lessH b a = true := by
  rw [lessH_not] at h1; rw [lessH_iff]; omega
theorem lessH_asymm {a b : Ht} (h1 : lessH a b = true) : lessH b a = false := by
  rw [lessH_iff] at h1; rw [lessH_not]; omega

/-- Hits in order, unlike. -/
def Ord (p : List Ht) : Prop := p.Pairwise (fun a b => lessH a b = true)
theorem insB_perm (x : Ht) : ∀ p : List Ht, (insB x p).Perm (x :: p)
  | [] => .refl _
  | y :: p => by
    rw [insB_cons]
    split
    · exact ((insB_perm x p).cons y).trans (List.Perm.swap x y p)
    · exact .refl _
theorem insB_ord {x : Ht} : ∀ {p : List Ht}, Ord p → (∀ y ∈ p, y.id ≠ x.id) → Ord (insB x p)
  | [], _, _ => List.pairwise_cons.2 ⟨fun _ h => absurd h List.not_mem_nil, List.Pairwise.nil⟩
  | y :: p, ho, hx => by
    obtain ⟨h1, h2⟩ := List.pairwise_cons.1 ho
    rw [insB_cons]
    cases hl : lessH y x
    · rw [if_neg (by decide)]
      have h3 := lessH_total hl (hx y List.mem_cons_self)
      refine List.pairwise_cons.2 ⟨fun z hz => ?_, ho⟩
      rcases List.mem_cons.1 hz with rfl | hz
      · exact h3
      · exact lessH_trans h3 (h1 z hz)
    · rw [if_pos rfl]
      refine List.pairwise_cons.2 ⟨fun z hz => ?_, insB_ord h2 fun z hz => hx z (List.mem_cons_of_mem _ hz)⟩
      rcases List.mem_cons.1 ((insB_perm x p).mem_iff.1 hz) with rfl | hz
      · exact hl
      · exact h1 z hz

theorem ids_ne {l : List Ht} {i : Nat} (hd : (l.map Ht.id).Nodup) (hi : i < l.length) : ∀ y ∈ l.take i, y.id ≠ l[i].id := by
  intro y hy e
  obtain ⟨j, hj⟩ := List.mem_iff_getElem?.1 hy
  rw [List.getElem?_take] at hj
  split at hj
  · rename_i hji
    obtain ⟨q1, q2⟩ := List.getElem?_eq_some_iff.1 hj
    have := (List.getElem_inj (h₀ := by rw [List.length_map]; exact q1) (h₁ := by rw [List.length_map]; exact hi) hd).1 (by rw [List.getElem_map, List.getElem_map, q2, e])
    omega
  · cases hj
/-- So many of the first, in order. -/
theorem bestOf_ord {k : Nat} {l : List Ht} (hd : (l.map Ht.id).Nodup) : ∀ m, m ≤ l.length → m ≤ k → (bestOf k (l.take m)).Perm (l.take m) ∧ Ord (bestOf k (l.take m))
  | 0, _, _ => by
    rw [List.take_zero]
    exact ⟨.refl _, List.Pairwise.nil⟩
  | m + 1, hm, hk => by
    obtain ⟨h1, h2⟩ := bestOf_ord (k := k) hd m (by omega) (by omega)
    have h3 : ∀ y ∈ bestOf k (l.take m), y.id ≠ (l[m]'(by omega)).id := fun y hy => ids_ne hd (by omega) y (h1.mem_iff.1 hy)
    have h4 : (bestOf k (l.take m)).length = m := by rw [h1.length_eq, List.length_take]; omega
    rw [bestOf_take (by omega), putB_ins h3 (by omega), List.take_succ_eq_append_getElem (by omega)]
    exact ⟨(insB_perm _ _).trans ((h1.cons _).trans (List.perm_append_singleton _ _).symm), insB_ord h2 h3⟩
theorem bestOf_len_eq {k : Nat} {l : List Ht} (hd : (l.map Ht.id).Nodup) {m : Nat} (hm : m ≤ l.length) (hk : m ≤ k) : (bestOf k (l.take m)).length = m := by
  rw [(bestOf_ord hd m hm hk).1.length_eq, List.length_take]; omega
/-- Where one stands that is put among some. -/
theorem insB_at {x : Ht} {A q : List Ht} (ho : Ord (A ++ q)) (hx : ∀ y ∈ A ++ q, y.id ≠ x.id) (hq : ∀ y ∈ q, lessH x y = true) (hA : ∀ y, A.getLast? = some y → lessH x y = false) : insB x (A ++ q) = A ++ x :: q := by
  have h : iH x (A ++ q) = A.length := by
    refine iH_at (fun y hy => ?_) (fun y hy => ?_) (by rw [List.length_append]; omega)
    · rw [List.take_left] at hy
      obtain ⟨A', z, rfl⟩ : ∃ A' z, A = A' ++ [z] := by
        have hne : A ≠ [] := by rintro rfl; cases hy
        exact ⟨A.dropLast, A.getLast hne, (List.dropLast_concat_getLast hne).symm⟩
      have hz := lessH_total (hA z (by simp)) (by have := hx z (by simp); omega)
      rcases List.mem_append.1 hy with hy | hy
      · have h1 := List.pairwise_append.1 (List.pairwise_append.1 ho).1
        exact lessH_trans (h1.2.2 y hy z (by simp)) hz
      · rw [List.mem_singleton.1 hy]; exact hz
    · rw [List.getElem?_append_right (Nat.le_refl _), Nat.sub_self] at hy
      exact lessH_asymm (hq y (List.mem_of_getElem? hy))
  unfold insB
  rw [h, List.take_left, List.drop_left]

end Go.Ab.Seat
end
