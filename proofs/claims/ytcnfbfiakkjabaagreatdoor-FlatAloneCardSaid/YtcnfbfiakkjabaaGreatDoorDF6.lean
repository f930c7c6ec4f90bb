import Derived.Test.YtcnfbfiakkjabaaGreatDoorDST5
import Derived.Test.YtcnfbfiakkjabaaGreatDoorDF5
set_option linter.unusedVariables false
set_option linter.unusedSimpArgs false
section
/- A map's keys, in order (the abstract machine). -/
namespace Go.Ab.Seat
open Go.Extern Go.Proofs
set_option linter.unusedSimpArgs false
set_option linter.unusedVariables false
set_option maxRecDepth 4000
set_option pp.deepTerms false
set_option pp.deepTerms.threshold 6
variable {sm : Nat → Option (List Value → M Value)}

/-- A map's keys, in order. -/
theorem sorted_none {h : T AObj} {c b m n : Nat} {rl wl : List Nat} {es : List (Value × Value × Nat)} (hf : Fresh h c) (hb : Has h b (.cells [.map (some m)])) (hm : Has h m (.map es n)) (hk : keyInts es n = some []) :
    ∃ v s', FnTo (Cs smQ) eg 49 [.func (.func 90) #[] ⟨[.pointer (some ⟨b, 0, none⟩)]⟩] ⟨h, c, rl, wl⟩ v s' ∧ (v = .slice none 0 0 ∧ s' = ⟨h, c, m :: b :: rl, wl⟩) := by
  refine ⟨_, _, ⟨0, ?_⟩, rfl, rfl⟩
  have hs : (Cs smQ).sm 49 = some (sumSorted kindOf) := rfl
  unfold callF
  rw [hs]
  show sumSorted kindOf _ _ = _
  unfold sumSorted
  have e1 : iterOf kindOf [.func (.func 90) #[] ⟨[.pointer (some ⟨b, 0, none⟩)]⟩] = some (90, true, b, 0) := rfl
  rw [e1, bind_run (lift_run (a := (90, true, b, 0)) rfl)]
  dsimp only
  rw [bind_run (getCells_run hb.cel (hb.lt hf))]
  have e2 : nth [Value.map (some m)] 0 = some (.map (some m)) := rfl
  rw [e2, bind_run (lift_run (a := Value.map (some m)) rfl)]
  unfold seqInts
  dsimp only
  rw [bind_run (show ((M.lift (mapAt (Value.map (some m)))).bind mapInts) _ = some ([], ⟨h, c, m :: b :: rl, wl⟩) from by
    have e3 : mapAt (Value.map (some m)) = some (some m) := rfl
    rw [e3, bind_run (lift_run (a := some m) rfl)]
    unfold mapInts
    dsimp only
    rw [bind_run (getMap_run hm (hm.lt hf))]
    exact lift_run hk)]
  rfl

theorem sorted_some {h : T AObj} {c b m n : Nat} {rl wl : List Nat} {es : List (Value × Value × Nat)} {x : Int} {xs : List Int} (hf : Fresh h c) (hb : Has h b (.cells [.map (some m)])) (hm : Has h m (.map es n)) (hk : keyInts es n = some (x :: xs)) (hl : (x :: xs).length ≤ 1000000) :
    ∃ v s', FnTo (Cs smQ) eg 49 [.func (.func 90) #[] ⟨[.pointer (some ⟨b, 0, none⟩)]⟩] ⟨h, c, rl, wl⟩ v s' ∧ (v = .slice (some ⟨c, 0, some 1⟩) (x :: xs).length (x :: xs).length ∧ s' = ⟨h.set c (some (.cells ((sortI (x :: xs)).map fun n => Value.int .i64 n))), c + 1, m :: b :: rl, wl⟩) := by
  refine ⟨_, _, ⟨0, ?_⟩, rfl, rfl⟩
  have hs : (Cs smQ).sm 49 = some (sumSorted kindOf) := rfl
  unfold callF
  rw [hs]
  show sumSorted kindOf _ _ = _
  unfold sumSorted
  have e1 : iterOf kindOf [.func (.func 90) #[] ⟨[.pointer (some ⟨b, 0, none⟩)]⟩] = some (90, true, b, 0) := rfl
  rw [e1, bind_run (lift_run (a := (90, true, b, 0)) rfl)]
  dsimp only
  rw [bind_run (getCells_run hb.cel (hb.lt hf))]
  have e2 : nth [Value.map (some m)] 0 = some (.map (some m)) := rfl
  rw [e2, bind_run (lift_run (a := Value.map (some m)) rfl)]
  unfold seqInts
  dsimp only
  rw [bind_run (show ((M.lift (mapAt (Value.map (some m)))).bind mapInts) _ = some (x :: xs, ⟨h, c, m :: b :: rl, wl⟩) from by
    have e3 : mapAt (Value.map (some m)) = some (some m) := rfl
    rw [e3, bind_run (lift_run (a := some m) rfl)]
    unfold mapInts
    dsimp only
    rw [bind_run (getMap_run hm (hm.lt hf))]
    exact lift_run hk)]
  unfold giveInts
  dsimp only
  rw [show Nat.ble (len (x :: xs)) 1000000 = true from by rw [len_eq]; rw [Nat.ble_eq]; exact hl]
  dsimp only
  rw [bind_run (newCells_run hf), mapA_eq, len_eq]
  rfl

theorem keys_spec (H : Std sm) {h : T AObj} {c m : Nat} {rl wl : List Nat} (hf : Fresh h c) :
    ∃ v s', FnTo (Cs sm) eg 50 [.map (some m)] ⟨h, c, rl, wl⟩ v s' ∧ (v = .func (.func 90) #[] ⟨[.pointer (some ⟨c, 0, none⟩)]⟩ ∧ s' = ⟨h.set c (some (.cells [.map (some m)])), c + 1, rl, wl⟩) := by
  refine Fn.go (H 50 rfl) ex50 fn50 km50 rfl rfl ?_
  intro e he
  (simp only [envOf_eq, keepFrom_cons, keepFrom_nil, flushE_mk, flL_cons, flL_nil, st_cons, st_nil, Nat.testBit, Nat.reduceShiftRight, Nat.reduceAnd, Nat.reduceBNe, Nat.reduceEqDiff, Nat.reduceAdd, ↓reduceIte, reduceCtorEq, Bool.false_eq_true] at he; subst he)
  (repeat (first | (with_reducible refine Then.go ?_) | (with_reducible refine Wx.seq ?_) | (with_reducible refine Wx.ret ?_) | (with_reducible refine Wx.reg ?_) | ((with_reducible refine Wseq.nil ?_); intro e he; (simp only [envOf_eq, keepFrom_cons, keepFrom_nil, flushE_mk, flL_cons, flL_nil, st_cons, st_nil, Nat.testBit, Nat.reduceShiftRight, Nat.reduceAnd, Nat.reduceBNe, Nat.reduceEqDiff, Nat.reduceAdd, ↓reduceIte, reduceCtorEq, Bool.false_eq_true] at he; subst he)) | ((with_reducible apply Wseq.as); (focus rfl); (intro v hv; (simp only [ev_tmp, ev_const, ev_global, ev_func, look_if, lk_nil, Nat.reduceEqDiff, eq_self, ↓reduceIte, reduceCtorEq, partsOf_arr, List.map_cons, List.map_nil] at hv); subst hv)) | ((with_reducible apply Wseq.bx); (focus rfl); (focus (exact (by ((repeat ((with_reducible apply Fresh.put); (focus omega))); (first | (with_reducible assumption) | (exact Fresh.up (by with_reducible assumption) (by omega))))))); (intro v hv; (simp only [ev_tmp, ev_const, ev_global, ev_func, look_if, lk_nil, Nat.reduceEqDiff, eq_self, ↓reduceIte, reduceCtorEq, partsOf_arr, List.map_cons, List.map_nil] at hv); subst hv); refine ⟨_, (by (first | exact cellsA_agg _ | rfl)), ?_⟩) | ((with_reducible apply Wseq.stg (op := Op.makeFunc _ _ _)); (focus rfl); (focus (exact to_makeFunc rfl rfl)))))
  exact ⟨.inr rfl, Wres.one rfl ⟨rfl, rfl⟩⟩
end Go.Ab.Seat
end
section
/- A flat index: its members as a rising list (the abstract machine). -/
namespace Go.Ab.Seat
open Go.Extern Go.Proofs
set_option linter.unusedSimpArgs false
set_option linter.unusedVariables false
set_option maxRecDepth 4000
set_option pp.deepTerms false
set_option pp.deepTerms.threshold 6

/-- A member. -/
abbrev mbR (id : Int) (zs : List Int) : Rc := ⟨id, zs.map (Value.int .i32), .empty, 0, false⟩
/-- A member and what the map has of it. -/
def FRep (h : T AObj) (p m : Nat) (U : Nat → Prop) (r : Rc) (v : Value) : Prop := Own h 0 v r.xs.length r.xs ∧ ∀ b, blkOf v = some b → U b ∧ b ≠ p ∧ b ≠ m
def FFits (h : T AObj) (p m : Nat) (U : Nat → Prop) (o : Option Rc) (w : Option Value) : Prop := (o = none ∧ w = none) ∨ ∃ r v, o = some r ∧ w = some v ∧ FRep h p m U r v

/-- A flat index that has just the list's members. -/
structure FlatM (h : T AObj) (p m : Nat) (mt : Int) (dim : Nat) (M : List Rc) (U : Nat → Prop) : Prop where
  ptr : Has h p (.cells [.int .i64 mt, .map (some m)])
  ex : ∃ es n, Has h m (.map es n) ∧ (∃ ids, Keyed es n ids) ∧ ∀ x, FFits h p m U (getM x M) (valI x es)
  pU : U p
  mU : U m
  ne : p ≠ m
  rises : Rises M
  ok : ∀ r ∈ M, ∃ zs : List Int, r.xs = zs.map (Value.int .i32) ∧ zs.length = dim ∧ Bnd zs

theorem FRep.keep {h h' : T AObj} {p m c : Nat} {U U' : Nat → Prop} {r : Rc} {v : Value} (x : FRep h p m U r v) (hf : Fresh h c) (hU : ∀ b, U b → U' b) (k : ∀ b, U b → b < c → b ≠ p → b ≠ m → h'.get b = h.get b) : FRep h' p m U' r v :=
  ⟨x.1.keep fun b hb => k b (x.2 b hb).1 ((x.1.blk hb).2.lt hf) (x.2 b hb).2.1 (x.2 b hb).2.2, fun b hb => ⟨hU b (x.2 b hb).1, (x.2 b hb).2⟩⟩
theorem FFits.keep {h h' : T AObj} {p m c : Nat} {U U' : Nat → Prop} {o : Option Rc} {w : Option Value} (x : FFits h p m U o w) (hf : Fresh h c) (hU : ∀ b, U b → U' b) (k : ∀ b, U b → b < c → b ≠ p → b ≠ m → h'.get b = h.get b) : FFits h' p m U' o w := by
  rcases x with x | ⟨r, v, h1, h2, h3⟩
  · exact .inl x
  · exact .inr ⟨r, v, h1, h2, h3.keep hf hU k⟩
theorem FlatM.keep {h h' : T AObj} {c p m dim : Nat} {mt : Int} {M : List Rc} {U : Nat → Prop} (q : FlatM h p m mt dim M U) (hf : Fresh h c) (k : ∀ b, U b → b < c → h'.get b = h.get b) : FlatM h' p m mt dim M U := by
  obtain ⟨es, n, h1, h2, h3⟩ := q.ex
  exact ⟨(k p q.pU (q.ptr.lt hf)).trans q.ptr, ⟨es, n, (k m q.mU (h1.lt hf)).trans h1, h2, fun x => (h3 x).keep hf (fun _ q => q) fun b hb hc _ _ => k b hb hc⟩, q.pU, q.mU, q.ne, q.rises, q.ok⟩
theorem FlatM.wide {h : T AObj} {p m dim : Nat} {mt : Int} {M : List Rc} {U U' : Nat → Prop} (q : FlatM h p m mt dim M U) (k : ∀ b, U b → U' b) : FlatM h p m mt dim M U' := by
  obtain ⟨es, n, h1, h2, h3⟩ := q.ex
  refine ⟨q.ptr, ⟨es, n, h1, h2, fun x => ?_⟩, k _ q.pU, k _ q.mU, q.ne, q.rises, q.ok⟩
  rcases h3 x with h3 | ⟨r, v, e1, e2, e3, e4⟩
  · exact .inl h3
  · exact .inr ⟨r, v, e1, e2, e3, fun b hb => ⟨k b (e4 b hb).1, (e4 b hb).2⟩⟩
theorem FlatM.lt {h : T AObj} {c p m dim : Nat} {mt : Int} {M : List Rc} {U : Nat → Prop} (q : FlatM h p m mt dim M U) (hf : Fresh h c) : p < c ∧ m < c := by
  obtain ⟨es, n, h1, h2, h3⟩ := q.ex
  exact ⟨q.ptr.lt hf, h1.lt hf⟩
theorem FlatM.new {h : T AObj} {p m dim : Nat} {mt : Int} (hp : Has h p (.cells [.int .i64 mt, .map (some m)])) (hm : Has h m (.map [] 0)) (hne : p ≠ m) : FlatM h p m mt dim [] (fun b => b = p ∨ b = m) :=
  ⟨hp, ⟨[], 0, hm, ⟨[], .nil 0⟩, fun x => .inl ⟨rfl, rfl⟩⟩, .inl rfl, .inr rfl, hne, Rises.nil, fun r hr => by cases hr⟩

/-- The keys are the members' ids. -/
theorem FlatM.ids {h : T AObj} {p m : Nat} {U : Nat → Prop} {M : List Rc} {n : Nat} {es : List (Value × Value × Nat)} {ids : List Int} (hk : Keyed es n ids) (hr : Rises M) (hv : ∀ x, FFits h p m U (getM x M) (valI x es)) : sortI ids = M.map Rc.id := by
  refine rises_ext (sortI_rises hk.nodup) hr.ids fun x => ?_
  rw [(sortI_perm ids).mem_iff]
  constructor
  · intro hx
    rcases hv x with ⟨_, h4⟩ | ⟨r, v, h4, _, _⟩
    · exact absurd hx ((findI_none_iff hk.keys).1 (valI_none.1 h4))
    · obtain ⟨h5, h6⟩ := getM_mem h4
      exact List.mem_map.2 ⟨r, h5, h6⟩
  · intro hx
    obtain ⟨r, h5, rfl⟩ := List.mem_map.1 hx
    refine Classical.byContradiction fun hn => ?_
    rcases hv r.id with ⟨h4, _⟩ | ⟨r', v, _, h4, _⟩
    · exact absurd rfl (getM_none.1 h4 r h5)
    · rw [valI_none.2 ((findI_none_iff hk.keys).2 hn)] at h4
      cases h4

theorem fput_spec {h : T AObj} {c : Nat} {rl wl : List Nat} (hf : Fresh h c) {p m dim : Nat} {mt : Int} {M : List Rc} {U : Nat → Prop} (q : FlatM h p m mt dim M U) (id : Int) (hid : -9223372036854775808 ≤ id ∧ id ≤ 9223372036854775807)
    {a : Option Addr} {cap : Nat} {zs : List Int} (hv : Row h (.slice a dim cap) dim 1 (zs.map (Value.int .i32))) (hx : zs.length = dim) (hb : Bnd zs) (hd : 1 ≤ dim) (hd' : dim ≤ 1000) (bs : Nat → Prop) (hbs : ∀ b o sp, a = some ⟨b, o, sp⟩ → bs b) (hbm : ¬bs m) :
    ∃ r s', FnTo (Cs smQ) eg 12 [.pointer (some ⟨p, 0, none⟩), .int .i64 id, .slice a dim cap] ⟨h, c, rl, wl⟩ r s' ∧ FlatM s'.h p m mt dim (putM (mbR id zs) M) (fun b => U b ∨ c ≤ b ∧ b < s'.c) ∧ Ext ⟨h, c, rl, wl⟩ s' (fun b => U b ∨ bs b) (fun b => b = m) := by
  obtain ⟨es, n, hm, ⟨ids, h2⟩, h3⟩ := q.ex
  have hp := q.ptr
  obtain ⟨lp, lm⟩ := q.lt hf
  have hpU := q.pU
  have hmU := q.mU
  refine Fn.go (stdQ 12 rfl) ex12 fn12 km12 rfl rfl ?_
  intro e he
  (simp only [envOf_eq, keepFrom_cons, keepFrom_nil, flushE_mk, flL_cons, flL_nil, st_cons, st_nil, Nat.testBit, Nat.reduceShiftRight, Nat.reduceAnd, Nat.reduceBNe, Nat.reduceEqDiff, Nat.reduceAdd, ↓reduceIte, reduceCtorEq, Bool.false_eq_true] at he; subst he)
  (repeat (first | (with_reducible refine Then.go ?_) | (with_reducible refine Wx.seq ?_) | (with_reducible refine Wx.reg ?_) | (refine Wx.dreg rfl ?_) | (refine Wx.condT rfl (by (first | rfl | (simp only [decide_eq_true_eq, Bool.not_eq_true', decide_eq_false_iff_not, Option.isNone_none, Option.isNone_some, Option.isSome_none, Option.isSome_some, beq_self_eq_true, Bool.not_true, Bool.not_false]; first | done | omega) | (simp; omega) | (solve | simp [*]) | fail)) ?_) | ((with_reducible refine Wseq.nil ?_); intro e he; (simp only [envOf_eq, keepFrom_cons, keepFrom_nil, flushE_mk, flL_cons, flL_nil, st_cons, st_nil, Nat.testBit, Nat.reduceShiftRight, Nat.reduceAnd, Nat.reduceBNe, Nat.reduceEqDiff, Nat.reduceAdd, ↓reduceIte, reduceCtorEq, Bool.false_eq_true] at he; subst he)) | ((with_reducible apply Wseq.mv); (focus rfl); (intro v hv; (simp only [ev_tmp, ev_const, ev_global, ev_func, look_if, lk_nil, Nat.reduceEqDiff, eq_self, ↓reduceIte, reduceCtorEq, partsOf_arr, List.map_cons, List.map_nil] at hv); subst hv)) | ((with_reducible apply Wseq.stg (op := Op.binOp BinOp.neq _ _ _ _)); (focus rfl); (focus (exact to_neP (un_ rfl) rfl rfl))) | ((with_reducible apply Wtr.mv); (focus rfl); (intro v hv; (simp only [ev_tmp, ev_const, ev_global, ev_func, look_if, lk_nil, Nat.reduceEqDiff, eq_self, ↓reduceIte, reduceCtorEq, partsOf_arr, List.map_cons, List.map_nil] at hv); subst hv)) | ((with_reducible apply Wtr.stq (op := Op.fieldAddr _ _ _)); (focus rfl); (focus (exact to_fieldAddr (fa_ rfl) rfl))) | ((with_reducible apply Wtr.stx (op := Op.load _ _)); (focus rfl); (focus (exact to_load (pl_ rfl) rfl (by (repeat (first | (with_reducible exact Has.same.cel) | (with_reducible assumption) | ((with_reducible apply Has.cel); (focus (with_reducible assumption))) | ((with_reducible apply Cel.other); (focus omega))))) (by omega) (by rfl))); (focus (repeat (first | (with_reducible exact all_nil) | ((with_reducible apply all_cons); (focus (first | (right; with_reducible exact ApartP.rr) | (right; with_reducible exact ApartP.rn) | (left; dsimp only; decide +kernel) | (right; with_reducible exact ApartP.rc (by assumption)) | (right; refine ApartP.ow (by assumption) ?_ ?_ <;> omega) | (right; refine ApartP.rw' (by assumption) ?_; omega) | (right; assumption) | (right; refine ⟨?_, ?_, ?_, ?_, ?_⟩ <;> (first | (with_reducible exact all_nil) | (intro b hb; exact List.not_mem_nil) | (intro b hb; (try simp only [List.mem_cons, List.not_mem_nil, or_false] at hb ⊢); omega)))))))))) | ((with_reducible apply Wtr.stq (op := Op.nilCheck _)); (focus rfl); (focus (exact to_nilCheck rfl)))))
  refine Wtr.call rfl rfl (copy_spec stdQ (by ((repeat ((with_reducible apply Fresh.put); (focus omega))); (first | (with_reducible assumption) | (exact Fresh.up (by with_reducible assumption) (by omega))))) hv (by unfold bigV; omega) (fun e => by omega) bs (fun b o sp n' cap e => hbs b o sp (by simp only [Value.slice.injEq] at e; exact e.1))) ?_
  rintro v h1 c1 r1 w1 ⟨hown, hext⟩
  have hq := hext.quiet (fun _ _ q => q)
  have kp := Kp.ext (W := fun b => b = m) (h := h) (c := c) (by (repeat (first | (with_reducible exact Kp.refl) | (with_reducible assumption) | ((with_reducible apply Kp.set); (focus (first | (left; omega) | (right; first | exact rfl | assumption | (exact Or.inl (by assumption)) | (exact Or.inr (by assumption)) | (simp; done) | omega))))))) hext (by omega) (fun _ _ q => q.elim)
  have lr := Lg.extR (R := fun b => U b ∨ bs b) (c := c) (by (repeat (first | (with_reducible exact Lg.nil) | (with_reducible assumption) | ((with_reducible apply Lg.cons); (focus (first | (left; omega) | (right; first | exact rfl | assumption | (exact Or.inl (by assumption)) | (exact Or.inr (by assumption)) | (simp; done) | omega)))) | (with_reducible apply Lg.app)))) hext (fun b _ hb => .inr hb)
  have lw := Lg.extW (W := fun b => b = m) (c := c) (by (repeat (first | (with_reducible exact Lg.nil) | (with_reducible assumption) | ((with_reducible apply Lg.cons); (focus (first | (left; omega) | (right; first | exact rfl | assumption | (exact Or.inl (by assumption)) | (exact Or.inr (by assumption)) | (simp; done) | omega)))) | (with_reducible apply Lg.app)))) hext (fun b _ hb => hb.elim)
  have fr1 := hext.fresh
  have le1 := hext.c
  simp only at le1 fr1
  have hm1 : Has h1 m (.map es n) := hext.hs hm lm (fun q => q)
  have hp1 := hext.hs hp lp (fun q => q)
  have hrm : ∀ b ∈ r1, b ≠ m := fun b hb => by
    rcases hext.rl b hb with u | u
    · exact absurd u List.not_mem_nil
    · exact fun e => hbm (e ▸ u.2)
  refine ⟨(by (repeat (first | (with_reducible exact all_nil) | ((with_reducible apply all_cons); (focus (first | (right; with_reducible exact ApartP.rr) | (right; with_reducible exact ApartP.rn) | (left; dsimp only; decide +kernel) | (right; with_reducible exact ApartP.rc (by assumption)) | (right; refine ApartP.ow (by assumption) ?_ ?_ <;> omega) | (right; refine ApartP.rw' (by assumption) ?_; omega) | (right; assumption) | (right; refine ⟨?_, ?_, ?_, ?_, ?_⟩ <;> (first | (with_reducible exact all_nil) | (intro b hb; exact List.not_mem_nil) | (intro b hb; (try simp only [List.mem_cons, List.not_mem_nil, or_false] at hb ⊢); omega))))))))), ?_⟩
  skip
  refine Wtr.op (s1 := ⟨h1.set m (some (.map (putI .i64 id v n es).1 (putI .i64 id v n es).2)), c1, [m], [m]⟩) rfl (to_mapUpdate (mi_ rfl) rfl rfl rfl hm1 (hm1.lt fr1) h2.ks) ?_ ?_
  · (repeat (first | (with_reducible exact all_nil) | ((with_reducible apply all_cons); (focus (first | (right; with_reducible exact ApartP.rr) | (right; with_reducible exact ApartP.rn) | (left; dsimp only; decide +kernel) | (right; with_reducible exact ApartP.rc (by assumption)) | (right; refine ApartP.ow (by assumption) ?_ ?_ <;> omega) | (right; refine ApartP.rw' (by assumption) ?_; omega) | (right; assumption) | (right; refine ⟨?_, ?_, ?_, ?_, ?_⟩ <;> (first | (with_reducible exact all_nil) | (intro b hb; exact List.not_mem_nil) | (intro b hb; (try simp only [List.mem_cons, List.not_mem_nil, or_false] at hb ⊢); omega))))))))
  dsimp only [put]
  (repeat (first | ((with_reducible refine Wtr.nil ?_); intro e he; (simp only [envOf_eq, keepFrom_cons, keepFrom_nil, flushE_mk, flL_cons, flL_nil, st_cons, st_nil, Nat.testBit, Nat.reduceShiftRight, Nat.reduceAnd, Nat.reduceBNe, Nat.reduceEqDiff, Nat.reduceAdd, ↓reduceIte, reduceCtorEq, Bool.false_eq_true] at he; subst he))))
  refine ⟨.inl rfl, Wres.nil ⟨?_, ?_⟩⟩
  · obtain ⟨va, vk, rfl⟩ := hown.val
    refine ⟨Has.other (fun e => q.ne e) hp1, ⟨_, _, Has.same, ⟨_, h2.put (by unfold wfI; rw [decide_eq_true hid.1, decide_eq_true hid.2]; rfl) _⟩, fun x => ?_⟩, .inl hpU, .inl hmU, q.ne, q.rises.put _, fun r hr => ?_⟩
    · rw [getM_put, valI_put h2]
      by_cases hxi : id = x
      · rw [if_pos hxi, if_pos hxi.symm]
        refine .inr ⟨_, _, rfl, rfl, ?_, fun b hb => ?_⟩
        · show Own _ 0 _ (zs.map (Value.int .i32)).length _
          rw [List.length_map, hx]
          exact (hown.low (Nat.zero_le _)).keep fun b hb => get_other (by have := (hown.blk hb).1; omega)
        · obtain ⟨u1, u2⟩ := hown.blk hb
          have := u2.lt fr1
          exact ⟨.inr ⟨u1, this⟩, by omega, by omega⟩
      · rw [if_neg hxi, if_neg fun e => hxi e.symm]
        exact (h3 x).keep hf (fun b hb => .inl hb) fun b _ hc _ hm => (get_other hm).trans (kp b hc hm)
    · rcases mem_putM hr with rfl | hr
      · exact ⟨zs, rfl, hx, hb⟩
      · exact q.ok r hr
  · (dsimp only; exact Ext.of (by omega) (by ((repeat ((with_reducible apply Fresh.put); (focus omega))); (first | (with_reducible assumption) | (exact Fresh.up (by with_reducible assumption) (by omega))))) (by (repeat (first | (with_reducible exact Kp.refl) | (with_reducible assumption) | ((with_reducible apply Kp.set); (focus (first | (left; omega) | (right; first | exact rfl | assumption | (exact Or.inl (by assumption)) | (exact Or.inr (by assumption)) | (simp; done) | omega))))))) (by (repeat (first | (with_reducible exact Lg.nil) | (with_reducible assumption) | ((with_reducible apply Lg.cons); (focus (first | (left; omega) | (right; first | exact rfl | assumption | (exact Or.inl (by assumption)) | (exact Or.inr (by assumption)) | (simp; done) | omega)))) | (with_reducible apply Lg.app)))) (by (repeat (first | (with_reducible exact Lg.nil) | (with_reducible assumption) | ((with_reducible apply Lg.cons); (focus (first | (left; omega) | (right; first | exact rfl | assumption | (exact Or.inl (by assumption)) | (exact Or.inr (by assumption)) | (simp; done) | omega)))) | (with_reducible apply Lg.app)))))
end Go.Ab.Seat
end
