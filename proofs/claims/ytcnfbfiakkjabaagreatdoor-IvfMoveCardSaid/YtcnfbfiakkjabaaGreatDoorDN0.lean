import Derived.Test.YtcnfbfiakkjabaaGreatDoorDO5
import Derived.Test.YtcnfbfiakkjabaaGreatDoorDM1
import Derived.Test.YtcnfbfiakkjabaaGreatDoorDV1
set_option linter.unusedVariables false
set_option linter.unusedSimpArgs false
section
/- An index of lists: one is put, let go; the ids (the abstract machine). -/
namespace Go.Ab.Seat
open Go.Extern Go.Proofs
set_option linter.unusedSimpArgs false
set_option linter.unusedVariables false
set_option maxRecDepth 4000
set_option pp.deepTerms false
set_option pp.deepTerms.threshold 6

theorem iput_spec {h : T AObj} {c : Nat} {rl wl : List Nat} (hf : Fresh h c) {p m dim : Nat} {mv : Value} {mt : Int} {mid : List (List Int)} {M : List Rc} {U : Nat → Prop} (q : IvfM h p m mv mt dim mid M U) (hn : mid.length ≤ 12) (id : Int) (hid : -9223372036854775808 ≤ id ∧ id ≤ 9223372036854775807)
    {a : Option Addr} {cap : Nat} {zs : List Int} (hv : Row h (.slice a dim cap) dim 1 (zs.map (Value.int .i32))) (hx : zs.length = dim) (hb : Bnd zs) (hd : 1 ≤ dim) (hd' : dim ≤ 1000) (bs : Nat → Prop) (hbs : ∀ b, blkOf (.slice a dim cap) = some b → bs b) (hbm : ¬bs m) :
    ∃ r s', FnTo (Cs smQ) eg 19 [.pointer (some ⟨p, 0, none⟩), .int .i64 id, .slice a dim cap] ⟨h, c, rl, wl⟩ r s' ∧ IvfM s'.h p m mv mt dim mid (putM (mbI id zs (listZ mid zs)) M) (fun b => U b ∨ c ≤ b ∧ b < s'.c) ∧ Ext ⟨h, c, rl, wl⟩ s' (fun b => U b ∨ bs b) (fun b => b = m) := by
  obtain ⟨es, n, hm, ⟨ids, h2⟩, h3⟩ := q.ex
  have hp := q.ptr
  obtain ⟨lp, lm⟩ := q.lt hf
  have hpU := q.pU
  have hmU := q.mU
  obtain ⟨oa1, cap1, rfl⟩ := q.mids.val
  refine Fn.go (stdQ 19 rfl) ex19 fn19 km19 rfl rfl ?_
  intro e he
  (simp (decide := true) only [kz] at he; subst he)
  (repeat (first | (with_reducible refine Then.go ?_) | (with_reducible refine Wx.seq ?_) | (with_reducible refine Wx.reg ?_) | (refine Wx.dreg rfl ?_) | (refine Wx.condT rfl (by rfl) ?_) | ((with_reducible refine Wseq.nil ?_); intro e he; (simp (decide := true) only [kz] at he; subst he)) | ((with_reducible apply Wseq.mv); rfl; (intro v hv; (simp (decide := true) only [kw] at hv); subst hv)) | ((with_reducible apply Wseq.stg (op := Op.binOp BinOp.neq _ _ _ _)); rfl; exact to_neP (un_ rfl) rfl rfl) | ((with_reducible apply Wtr.mv); rfl; (intro v hv; (simp (decide := true) only [kw] at hv); subst hv)) | ((with_reducible apply Wtr.stq (op := Op.fieldAddr _ _ _)); rfl; exact to_fieldAddr (fa_ rfl) rfl) | ((with_reducible apply Wtr.stx (op := Op.load _ _)); rfl; exact to_load (pl_ rfl) rfl (by (repeat ((apply Has.cel; assumption)))) (by omega) (by rfl); repeat ((exact all_nil))) | ((with_reducible apply Wtr.stq (op := Op.nilCheck _)); rfl; exact to_nilCheck rfl)))
  refine Wtr.call rfl rfl (copy_spec stdQ (by ((repeat (apply Fresh.put; omega)); ((assumption)))) hv (by unfold bigV; omega) (fun e => by omega) bs (fun b o sp n' cap e => hbs b (by rw [e]; rfl))) ?_
  rintro v h1 c1 r1 w1 ⟨hown, hext⟩
  have hq := hext.quiet (fun _ _ q => q)
  have kp := Kp.ext (W := fun b => b = m) (h := h) (c := c) (by (repeat ((exact Kp.refl)))) hext (by omega) (fun _ _ q => q.elim)
  have lr := Lg.extR (R := fun b => U b ∨ bs b) (c := c) (by (repeat ((exact Lg.nil)))) hext (fun b _ hb => .inr hb)
  have lw := Lg.extW (W := fun b => b = m) (c := c) (by (repeat ((exact Lg.nil)))) hext (fun b _ hb => hb.elim)
  have fr1 := hext.fresh
  have le1 := hext.c
  simp only at le1 fr1
  have hm1 : Has h1 m (.map es n) := hext.hs hm lm (fun q => q)
  have hp1 := hext.hs hp lp (fun q => q)
  have hrm : ∀ b ∈ r1, b ≠ m := fun b hb => by
    rcases hext.rl b hb with u | u
    · exact absurd u List.not_mem_nil
    · exact fun e => hbm (e ▸ u.2)
  refine ⟨(by (repeat (first | (exact all_nil) | (apply all_cons; (focus ((right; exact ApartP.rc (by assumption)))))))), ?_⟩
  have hv1 : Row h1 (.slice a dim cap) dim 1 (zs.map (Value.int .i32)) := Row.keepF hv hf (fun b hb => hext.get hb (fun q => q))
  have hmid1 := q.mids.keep (U' := fun b => U b ∧ b ≠ p ∧ b ≠ m) hf (fun _ q => q) (fun b _ hb _ => hext.get hb (fun q => q))
  have hap : ApartP ⟨r1, w1, c, c1⟩ ⟨[p], [], c1, c1⟩ := ApartP.wr (fun y hy => (hq y hy).elim) lp
  (repeat (first | ((with_reducible apply Wtr.mv); rfl; (intro v hv; (simp (decide := true) only [kw] at hv); subst hv)) | ((with_reducible apply Wtr.stq (op := Op.fieldAddr _ _ _)); rfl; exact to_fieldAddr (fa_ rfl) rfl) | ((with_reducible apply Wtr.stx (op := Op.load _ _)); rfl; exact to_load (pl_ rfl) rfl (by (repeat ((apply Has.cel; assumption)))) (by omega) (by rfl); (focus (repeat (first | (exact all_nil) | (apply all_cons; (focus (first | (right; exact ApartP.rr) | (right; assumption)))))))) | ((with_reducible apply Wtr.stq (op := Op.nilCheck _)); rfl; exact to_nilCheck rfl)))
  refine Wtr.call rfl rfl (nearest_spec (by ((repeat (apply Fresh.put; omega)); ((assumption)))) hmid1 hn hd' hv1 hx hb (fun b => (U b ∧ b ≠ m) ∨ bs b) (fun b u => .inl ⟨u.1, u.2.2⟩) (fun b hb => .inr (hbs b hb))) ?_
  rintro v2 h2' c2 r2 w2 ⟨rfl, hext2⟩
  have hq2 := hext2.quiet (fun _ _ q => q)
  have kp2 := Kp.ext (W := fun b => b = m) (h := h) (c := c) kp hext2 (by omega) (fun _ _ q => q.elim)
  have lr2 := Lg.extR (R := fun b => U b ∨ bs b) (c := c) (by (repeat ((exact Lg.nil)))) hext2 (fun b _ hb => hb.imp (fun u => u.1) (fun u => u))
  have lw2 := Lg.extW (W := fun b => b = m) (c := c) (by (repeat ((exact Lg.nil)))) hext2 (fun b _ hb => hb.elim)
  have fr2 := hext2.fresh
  have le2 := hext2.c
  simp only at le2 fr2
  have hm2 : Has h2' m (.map es n) := hext2.hs hm1 (by omega) (fun q => q)
  have hp2 := hext2.hs hp1 (by omega) (fun q => q)
  have hown2 := hown.keep (h' := h2') (fun b hb => hext2.get ((hown.blk hb).2.lt fr1) (fun q => q))
  have hrm2 : ∀ b ∈ r2, b ≠ m := fun b hb => by
    rcases hext2.rl b hb with u | u
    · exact absurd u List.not_mem_nil
    · exact fun e => u.2.elim (fun u => u.2 e) (fun u => hbm (e ▸ u))
  refine ⟨(by (repeat (first | (exact all_nil) | (apply all_cons; (focus (first | (left; dsimp only; decide +kernel) | (right; exact ApartP.rc (by assumption)))))))), ?_⟩
  obtain ⟨va, vk, rfl⟩ := hown2.val
  (repeat (first | ((with_reducible apply Wtr.bd); rfl; exact (bt_ rfl); (intro v hv; (simp (decide := true) only [kw] at hv); subst hv); refine ⟨_, rfl, ?_⟩) | ((with_reducible apply Wtr.stq (op := Op.call ⟨Callee.builtin Builtin.max, _, _⟩)); rfl; exact to_max rfl rfl)))
  refine Wtr.op (s1 := ⟨h2'.set m (some (.map (putI .i64 id (.agg ⟨[.slice va dim vk, .int .i64 (listZ mid zs)]⟩) n es).1 (putI .i64 id (.agg ⟨[.slice va dim vk, .int .i64 (listZ mid zs)]⟩) n es).2)), c2, [m], [m]⟩) rfl (to_mapUpdate (mi_ rfl) rfl rfl rfl hm2 (hm2.lt fr2) h2.ks) ?_ ?_
  · (repeat (first | (exact all_nil) | (apply all_cons; (focus ((left; dsimp only; decide +kernel))))))
  dsimp only [put]
  (repeat (((with_reducible refine Wtr.nil ?_); intro e he; (simp (decide := true) only [kz] at he; subst he))))
  refine ⟨.inl rfl, Wres.nil ⟨?_, ?_⟩⟩
  · refine ⟨Has.other (fun e => q.ne e) hp2, hmid1.keep fr1 (fun b hb => ⟨.inl hb.1, hb.2⟩) (fun b hb hc _ => (get_other hb.2.2).trans (hext2.get hc (fun q => q))), ⟨_, _, Has.same, ⟨_, h2.put (by unfold wfI; rw [decide_eq_true hid.1, decide_eq_true hid.2]; rfl) _⟩, fun x => ?_⟩, .inl hpU, .inl hmU, q.ne, q.rises.put _, fun r hr => ?_⟩
    · rw [getM_put, valI_put h2]
      by_cases hxi : id = x
      · rw [if_pos hxi, if_pos hxi.symm]
        refine .inr ⟨_, _, rfl, rfl, _, rfl, ?_, fun b hb => ?_⟩
        · show Own _ 0 _ (zs.map (Value.int .i32)).length _
          rw [List.length_map, hx]
          exact (hown2.low (Nat.zero_le _)).keep fun b hb => get_other (by have := (hown2.blk hb).1; omega)
        · obtain ⟨u1, u2⟩ := hown2.blk hb
          have := u2.lt fr2
          exact ⟨.inr ⟨u1, this⟩, by omega, by omega⟩
      · rw [if_neg hxi, if_neg fun e => hxi e.symm]
        exact (h3 x).keep hf (fun b hb => .inl hb) fun b _ hc _ hm => (get_other hm).trans (kp2 b hc hm)
    · rcases mem_putM hr with rfl | hr
      · exact ⟨zs, rfl, hx, hb⟩
      · exact q.ok r hr
  · (dsimp only; exact Ext.of (by omega) (by ((repeat (apply Fresh.put; omega)); ((assumption)))) (by (repeat (first | (assumption) | (apply Kp.set; (focus ((right; (exact rfl)))))))) (by (repeat (first | (exact Lg.nil) | (assumption) | (apply Lg.cons; (focus ((right; (exact Or.inl (by assumption)))))) | (apply Lg.app)))) (by (repeat (first | (exact Lg.nil) | (assumption) | (apply Lg.cons; (focus ((right; (exact rfl))))) | (apply Lg.app)))))

theorem idel_spec {h : T AObj} {c : Nat} {rl wl : List Nat} (hf : Fresh h c) {p m dim : Nat} {mv : Value} {mt : Int} {mid : List (List Int)} {M : List Rc} {U : Nat → Prop} (q : IvfM h p m mv mt dim mid M U) (id : Int) :
    ∃ r s', FnTo (Cs smQ) eg 30 [.pointer (some ⟨p, 0, none⟩), .int .i64 id] ⟨h, c, rl, wl⟩ r s' ∧ (r = .bool (getM id M).isSome ∧ IvfM s'.h p m mv mt dim mid (delM id M) U) ∧ Ext ⟨h, c, rl, wl⟩ s' U (fun b => b = m) := by
  obtain ⟨es, n, hm, ⟨ids, h2⟩, h3⟩ := q.ex
  have hp := q.ptr
  obtain ⟨lp, lm⟩ := q.lt hf
  have hpU := q.pU
  have hmU := q.mU
  obtain ⟨oa1, cap1, rfl⟩ := q.mids.val
  have his : (findI id es).isSome = (getM id M).isSome := by
    rcases h3 id with ⟨e1, e2⟩ | ⟨r, v, e1, e2, _⟩
    · rw [e1, valI_none.1 e2]; rfl
    · obtain ⟨i, e3⟩ := valI_some e2
      rw [e1, e3]; rfl
  obtain ⟨xa, xn, xk, xz, hv⟩ : ∃ a n k z, (match findI id es with | some p => p.2 | none => .agg ⟨[.slice none 0 0, .int .i64 0]⟩) = Value.agg ⟨[.slice a n k, .int .i64 z]⟩ := by
    rcases h3 id with ⟨e1, e2⟩ | ⟨r, v, e1, e2, w, rfl, e3, e4⟩
    · rw [valI_none.1 e2]; exact ⟨_, _, _, _, rfl⟩
    · obtain ⟨i, e5⟩ := valI_some e2
      obtain ⟨a, k, rfl⟩ := e3.val
      rw [e5]; exact ⟨_, _, _, _, rfl⟩
  refine Fn.go (stdQ 30 rfl) ex30 fn30 km30 rfl rfl ?_
  intro e he
  (simp (decide := true) only [kz] at he; subst he)
  (repeat (first | (with_reducible refine Then.go ?_) | (with_reducible refine Wx.seq ?_) | (with_reducible refine Wx.skip ?_) | (with_reducible refine Wx.reg ?_) | (refine Wx.condF rfl (by rfl) ?_) | ((with_reducible refine Wseq.nil ?_); intro e he; (simp (decide := true) only [kz] at he; subst he)) | ((with_reducible apply Wseq.mv); rfl; (intro v hv; (simp (decide := true) only [kw] at hv); subst hv)) | ((with_reducible apply Wseq.as); rfl; (intro v hv; (simp (decide := true) only [kw] at hv); subst hv)) | ((with_reducible apply Wseq.stg (op := Op.fieldAddr _ _ _)); rfl; exact to_fieldAddr (fa_ rfl) rfl) | ((with_reducible apply Wseq.stg (op := Op.load _ _)); rfl; exact to_load (pl_ rfl) rfl (by (repeat ((apply Has.cel; assumption)))) (by omega) (by rfl)) | ((with_reducible apply Wseq.stg (op := Op.nilCheck _)); rfl; exact to_nilCheck rfl) | ((with_reducible apply Wseq.stg (op := Op.binOp BinOp.eql _ _ _ _)); rfl; exact to_eqP (un_ rfl) rfl rfl)))
  ((with_reducible apply Wseq.stg); (focus rfl); (focus (exact to_lookupOk (mi_ rfl) (ze_ rfl) rfl rfl hm (by omega) h2.ks hv his)))
  (repeat (first | (with_reducible refine Then.go ?_) | (with_reducible refine Wx.seq ?_) | (with_reducible refine Wx.reg ?_) | ((with_reducible refine Wseq.nil ?_); intro e he; (simp (decide := true) only [kz] at he; subst he)) | ((with_reducible apply Wseq.mv); rfl; (intro v hv; (simp (decide := true) only [kw] at hv); subst hv)) | ((with_reducible apply Wseq.as); rfl; (intro v hv; (simp (decide := true) only [kw] at hv); subst hv)) | ((with_reducible apply Wseq.so); rfl; exact (sz_ rfl); rfl; exact (by (repeat ((exact Has.same)))); omega; (intro v hv; (simp (decide := true) only [kw] at hv); subst hv); refine ⟨_, _, (by ((exact cellsA_agg _))), rfl, rfl, ?_⟩) | ((with_reducible apply Wseq.stg (op := Op.fieldAddr _ _ _)); rfl; exact to_fieldAddr (fa_ rfl) rfl) | ((with_reducible apply Wseq.stg (op := Op.load _ _)); rfl; exact to_load (pl_ rfl) rfl (by (repeat (first | (apply Has.cel; assumption) | (apply Cel.other; omega)))) (by omega) (by rfl)) | ((with_reducible apply Wseq.stg (op := Op.nilCheck _)); rfl; exact to_nilCheck rfl) | ((with_reducible apply Wseq.stg (op := Op.alloc _)); rfl; exact to_alloc (ze_ rfl) (by ((exact cellsA_agg _))) (by ((repeat (apply Fresh.put; omega)); ((assumption))))) | ((with_reducible apply Wseq.stg (op := Op.extract _ _)); rfl; exact to_extract rfl rfl)))
  refine Wseq.st0 (to_delete (mi_ rfl) rfl rfl (by (repeat (first | (assumption) | (apply Has.other; omega)))) (by omega) h2.ks) ?_
  (repeat (first | (with_reducible refine Then.go ?_) | (with_reducible refine Wx.seq ?_) | (with_reducible refine Wx.ret ?_) | (with_reducible refine Wx.reg ?_) | ((with_reducible refine Wseq.nil ?_); intro e he; (simp (decide := true) only [kz] at he; subst he)) | ((with_reducible apply Wseq.mv); rfl; (intro v hv; (simp (decide := true) only [kw] at hv); subst hv)) | ((with_reducible apply Wseq.as); rfl; (intro v hv; (simp (decide := true) only [kw] at hv); subst hv))))
  refine ⟨.inr rfl, Wres.one rfl ⟨⟨rfl, ?_⟩, ?_⟩⟩
  · obtain ⟨ids', k1, _, _⟩ := h2.del id
    refine ⟨Has.other (fun e => q.ne e) (by (repeat (first | (assumption) | (apply Has.other; omega)))), q.mids.keep hf (fun _ q => q) (fun b hb hc _ => by rw [get_other hb.2.2]; repeat rw [get_other (by omega)]), ⟨_, _, Has.same, ⟨_, k1⟩, fun x => ?_⟩, hpU, hmU, q.ne, q.rises.filter _, fun r hr => q.ok r (List.mem_filter.1 hr).1⟩
    rw [getM_del, valI_del h2]
    by_cases hxi : x = id
    · rw [if_pos hxi, if_pos hxi]; exact .inl ⟨rfl, rfl⟩
    · rw [if_neg hxi, if_neg hxi]
      exact (h3 x).keep hf (fun b hb => hb) fun b _ hc _ hm => by rw [get_other hm]; repeat rw [get_other (by omega)]
  · (dsimp only; exact Ext.of (by omega) (by ((repeat (apply Fresh.put; omega)); ((exact Fresh.up (by assumption) (by omega))))) (by (repeat (first | (exact Kp.refl) | (apply Kp.set; (focus (first | (left; omega) | (right; (exact rfl)))))))) (by (repeat (first | (exact Lg.nil) | (apply Lg.cons; (focus (first | (left; omega) | (right; (assumption)))))))) (by (repeat (first | (exact Lg.nil) | (apply Lg.cons; (focus (first | (left; omega) | (right; (exact rfl)))))))))

theorem iids_spec {h : T AObj} {c : Nat} {rl wl : List Nat} (hf : Fresh h c) {p m dim : Nat} {mv : Value} {mt : Int} {mid : List (List Int)} {M : List Rc} {U : Nat → Prop} (q : IvfM h p m mv mt dim mid M U) (hn : M.length ≤ 1000) :
    ∃ r s', FnTo (Cs smQ) eg 27 [.pointer (some ⟨p, 0, none⟩)] ⟨h, c, rl, wl⟩ r s' ∧ Own s'.h c r M.length ((M.map Rc.id).map (Value.int .i64)) ∧ Ext ⟨h, c, rl, wl⟩ s' U (fun _ => False) := by
  obtain ⟨es, n, hm, ⟨ids, h2⟩, h3⟩ := q.ex
  have hp := q.ptr
  obtain ⟨lp, lm⟩ := q.lt hf
  have hpU := q.pU
  have hmU := q.mU
  obtain ⟨oa1, cap1, rfl⟩ := q.mids.val
  have hs := IvfM.ids h2 q.rises h3
  have hlen : ids.length = M.length := by
    have := congrArg List.length hs
    rw [(sortI_perm ids).length_eq, List.length_map] at this
    exact this
  have hk := h2.keyInts
  refine Fn.go (stdQ 27 rfl) ex27 fn27 km27 rfl rfl ?_
  intro e he
  (simp (decide := true) only [kz] at he; subst he)
  (repeat (first | (with_reducible refine Then.go ?_) | (with_reducible refine Wx.seq ?_) | (with_reducible refine Wx.skip ?_) | (with_reducible refine Wx.reg ?_) | (refine Wx.condF rfl (by rfl) ?_) | ((with_reducible refine Wseq.nil ?_); intro e he; (simp (decide := true) only [kz] at he; subst he)) | ((with_reducible apply Wseq.mv); rfl; (intro v hv; (simp (decide := true) only [kw] at hv); subst hv)) | ((with_reducible apply Wseq.as); rfl; (intro v hv; (simp (decide := true) only [kw] at hv); subst hv)) | ((with_reducible apply Wseq.stg (op := Op.fieldAddr _ _ _)); rfl; exact to_fieldAddr (fa_ rfl) rfl) | ((with_reducible apply Wseq.stg (op := Op.load _ _)); rfl; exact to_load (pl_ rfl) rfl (by (repeat ((apply Has.cel; assumption)))) (by omega) (by rfl)) | ((with_reducible apply Wseq.stg (op := Op.nilCheck _)); rfl; exact to_nilCheck rfl) | ((with_reducible apply Wseq.stg (op := Op.binOp BinOp.eql _ _ _ _)); rfl; exact to_eqP (un_ rfl) rfl rfl)))
  refine Wseq.call rfl rfl (keysI_spec stdQ (by ((repeat (apply Fresh.put; omega)); ((assumption))))) ?_
  rintro v1 h1 c1 r1 w1 ⟨rfl, e1⟩
  cases e1
  cases ids with
  | nil =>
    obtain rfl : M = [] := by cases M with | nil => rfl | cons _ _ => simp at hlen
    refine Wseq.call rfl rfl (sortedI_none (by ((repeat (apply Fresh.put; omega)); ((exact Fresh.up (by assumption) (by omega))))) (by (repeat ((exact Has.same)))) (by (repeat (first | (assumption) | (apply Has.other; omega)))) hk) ?_
    rintro v1 h1 c1 r1 w1 ⟨rfl, e1⟩
    cases e1
    (repeat (first | (with_reducible refine Then.go ?_) | (with_reducible refine Wx.ret ?_) | ((with_reducible refine Wseq.nil ?_); intro e he; (simp (decide := true) only [kz] at he; subst he)) | ((with_reducible apply Wseq.as); rfl; (intro v hv; (simp (decide := true) only [kw] at hv); subst hv))))
    refine ⟨.inr rfl, Wres.one rfl ⟨.inl ⟨rfl, rfl, rfl⟩, ?_⟩⟩
    (dsimp only; exact Ext.of (by omega) (by ((repeat (apply Fresh.put; omega)); ((exact Fresh.up (by assumption) (by omega))))) (by (repeat (first | (exact Kp.refl) | (apply Kp.set; (focus (left; omega)))))) (by (repeat (first | (exact Lg.nil) | (apply Lg.cons; (focus (first | (left; omega) | (right; (assumption)))))))) (by (repeat ((exact Lg.nil)))))
  | cons x0 xs0 =>
    refine Wseq.call rfl rfl (sortedI_some (by ((repeat (apply Fresh.put; omega)); ((exact Fresh.up (by assumption) (by omega))))) (by (repeat ((exact Has.same)))) (by (repeat (first | (assumption) | (apply Has.other; omega)))) hk (by omega)) ?_
    rintro v1 h1 c1 r1 w1 ⟨rfl, e1⟩
    cases e1
    rw [hs, hlen]
    (repeat (first | (with_reducible refine Then.go ?_) | (with_reducible refine Wx.ret ?_) | ((with_reducible refine Wseq.nil ?_); intro e he; (simp (decide := true) only [kz] at he; subst he)) | ((with_reducible apply Wseq.as); rfl; (intro v hv; (simp (decide := true) only [kw] at hv); subst hv))))
    refine ⟨.inr rfl, Wres.one rfl ⟨.inr ⟨c + 1, _, _, rfl, Nat.le_refl _, by omega, Has.same⟩, ?_⟩⟩
    (dsimp only; exact Ext.of (by omega) (by ((repeat (apply Fresh.put; omega)); ((exact Fresh.up (by assumption) (by omega))))) (by (repeat (first | (exact Kp.refl) | (apply Kp.set; (focus (left; omega)))))) (by (repeat (first | (exact Lg.nil) | (apply Lg.cons; (focus (first | (left; omega) | (right; (assumption)))))))) (by (repeat ((exact Lg.nil)))))
end Go.Ab.Seat
end
section
/- The places of middles, plainly. -/
namespace Go.Ab.Seat
open Go.Extern Go.Proofs
set_option linter.unusedVariables false

theorem ordZ_mem {mid : List (List Int)} {qs : List Int} {x : Int} : x ∈ ordZ mid qs ↔ 0 ≤ x ∧ x < mid.length := by
  have h1 := hitO_len qs mid
  have h2 := (bestOf_ord (k := mid.length) (hitO_nodup qs mid) mid.length (by omega) (Nat.le_refl _)).1
  rw [List.take_of_length_le (by omega)] at h2
  unfold ordZ
  rw [(h2.map Ht.id).mem_iff]
  unfold hitO
  rw [List.map_map]
  constructor
  · intro h
    obtain ⟨i, h3, rfl⟩ := List.mem_map.1 h
    have := List.mem_range.1 h3
    show 0 ≤ (i : Int) ∧ (i : Int) < _
    omega
  · rintro ⟨h3, h4⟩
    exact List.mem_map.2 ⟨x.toNat, List.mem_range.2 (by omega), by show ((x.toNat : Nat) : Int) = x; omega⟩
theorem nearZ_rng {mid : List (List Int)} {zs : List Int} (h : mid.length ≠ 0) : 0 ≤ nearZ mid zs ∧ nearZ mid zs < mid.length := by
  have h1 := ordZ_len mid zs
  unfold nearZ
  rw [if_neg h]
  refine ordZ_mem (qs := zs).1 ?_
  rw [List.getD_eq_getElem?_getD, List.getElem?_eq_getElem (by omega)]
  exact List.getElem_mem _
theorem putM_len (r : Rc) : ∀ l : List Rc, (putM r l).length ≤ l.length + 1
  | [] => by simp [putM]
  | x :: l => by
    have := putM_len r l
    unfold putM
    split
    · simp
    · split
      · simp
      · simp; omega

theorem VecsIn.keep {h h' : T AObj} {c : Nat} {v : Value} {zss : List (List Int)} (x : VecsIn h v zss) (hf : Fresh h c) (k : ∀ b, b < c → h'.get b = h.get b) : VecsIn h' v zss := by
  obtain ⟨oa, cap, e, hat⟩ := x
  refine ⟨oa, cap, e, fun i zs hi => ?_⟩
  obtain ⟨b, o, sp, cs, a, kk, e1, e2, e3, e4⟩ := hat i zs hi
  refine ⟨b, o, sp, cs, a, kk, e1, ?_, e3, Row.keepF e4 hf k⟩
  have q := k b (e2.lt hf)
  unfold Cel Has at e2 ⊢
  rw [q]; exact e2

end Go.Ab.Seat
end
