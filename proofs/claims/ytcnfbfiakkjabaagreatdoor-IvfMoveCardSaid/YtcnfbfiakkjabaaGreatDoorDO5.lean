import Derived.Test.YtcnfbfiakkjabaaGreatDoorDM1
set_option linter.unusedVariables false
set_option linter.unusedSimpArgs false
section
/- A map's keys, in order (the abstract machine). -/
namespace Go.Ab.Seat
open Go.Extern Go.Proofs
set_option linter.unusedSimpArgs false
set_option linter.unusedVariables false
set_option maxRecDepth 4000
set_option pp.deepTerms false
set_option pp.deepTerms.threshold 6
variable {sm : Nat → Option (List Value → M Value)}

/-- A map's keys, in order. -/
theorem sorted_none {h : T AObj} {c b m n : Nat} {rl wl : List Nat} {es : List (Value × Value × Nat)} (hf : Fresh h c) (hb : Has h b (.cells [.map (some m)])) (hm : Has h m (.map es n)) (hk : keyInts es n = some []) :
    ∃ v s', FnTo (Cs smQ) eg 49 [.func (.func 90) #[] ⟨[.pointer (some ⟨b, 0, none⟩)]⟩] ⟨h, c, rl, wl⟩ v s' ∧ (v = .slice none 0 0 ∧ s' = ⟨h, c, m :: b :: rl, wl⟩) := by
  refine ⟨_, _, ⟨0, ?_⟩, rfl, rfl⟩
  have hs : (Cs smQ).sm 49 = some (sumSorted kindOf) := rfl
  unfold callF
  rw [hs]
  show sumSorted kindOf _ _ = _
  unfold sumSorted
  have e1 : iterOf kindOf [.func (.func 90) #[] ⟨[.pointer (some ⟨b, 0, none⟩)]⟩] = some (90, true, b, 0) := rfl
  rw [e1, bind_run (lift_run (a := (90, true, b, 0)) rfl)]
  dsimp only
  rw [bind_run (getCells_run hb.cel (hb.lt hf))]
  have e2 : nth [Value.map (some m)] 0 = some (.map (some m)) := rfl
  rw [e2, bind_run (lift_run (a := Value.map (some m)) rfl)]
  unfold seqInts
  dsimp only
  rw [bind_run (show ((M.lift (mapAt (Value.map (some m)))).bind mapInts) _ = some ([], ⟨h, c, m :: b :: rl, wl⟩) from by
    have e3 : mapAt (Value.map (some m)) = some (some m) := rfl
    rw [e3, bind_run (lift_run (a := some m) rfl)]
    unfold mapInts
    dsimp only
    rw [bind_run (getMap_run hm (hm.lt hf))]
    exact lift_run hk)]
  rfl

theorem sorted_some {h : T AObj} {c b m n : Nat} {rl wl : List Nat} {es : List (Value × Value × Nat)} {x : Int} {xs : List Int} (hf : Fresh h c) (hb : Has h b (.cells [.map (some m)])) (hm : Has h m (.map es n)) (hk : keyInts es n = some (x :: xs)) (hl : (x :: xs).length ≤ 1000000) :
    ∃ v s', FnTo (Cs smQ) eg 49 [.func (.func 90) #[] ⟨[.pointer (some ⟨b, 0, none⟩)]⟩] ⟨h, c, rl, wl⟩ v s' ∧ (v = .slice (some ⟨c, 0, some 1⟩) (x :: xs).length (x :: xs).length ∧ s' = ⟨h.set c (some (.cells ((sortI (x :: xs)).map fun n => Value.int .i64 n))), c + 1, m :: b :: rl, wl⟩) := by
  refine ⟨_, _, ⟨0, ?_⟩, rfl, rfl⟩
  have hs : (Cs smQ).sm 49 = some (sumSorted kindOf) := rfl
  unfold callF
  rw [hs]
  show sumSorted kindOf _ _ = _
  unfold sumSorted
  have e1 : iterOf kindOf [.func (.func 90) #[] ⟨[.pointer (some ⟨b, 0, none⟩)]⟩] = some (90, true, b, 0) := rfl
  rw [e1, bind_run (lift_run (a := (90, true, b, 0)) rfl)]
  dsimp only
  rw [bind_run (getCells_run hb.cel (hb.lt hf))]
  have e2 : nth [Value.map (some m)] 0 = some (.map (some m)) := rfl
  rw [e2, bind_run (lift_run (a := Value.map (some m)) rfl)]
  unfold seqInts
  dsimp only
  rw [bind_run (show ((M.lift (mapAt (Value.map (some m)))).bind mapInts) _ = some (x :: xs, ⟨h, c, m :: b :: rl, wl⟩) from by
    have e3 : mapAt (Value.map (some m)) = some (some m) := rfl
    rw [e3, bind_run (lift_run (a := some m) rfl)]
    unfold mapInts
    dsimp only
    rw [bind_run (getMap_run hm (hm.lt hf))]
    exact lift_run hk)]
  unfold giveInts
  dsimp only
  rw [show Nat.ble (len (x :: xs)) 1000000 = true from by rw [len_eq]; rw [Nat.ble_eq]; exact hl]
  dsimp only
  rw [bind_run (newCells_run hf), mapA_eq, len_eq]
  rfl

theorem keys_spec (H : Std sm) {h : T AObj} {c m : Nat} {rl wl : List Nat} (hf : Fresh h c) :
    ∃ v s', FnTo (Cs sm) eg 50 [.map (some m)] ⟨h, c, rl, wl⟩ v s' ∧ (v = .func (.func 90) #[] ⟨[.pointer (some ⟨c, 0, none⟩)]⟩ ∧ s' = ⟨h.set c (some (.cells [.map (some m)])), c + 1, rl, wl⟩) := by
  refine Fn.go (H 50 rfl) ex50 fn50 km50 rfl rfl ?_
  intro e he
  (simp (decide := true) only [kz] at he; subst he)
  (repeat (first | (with_reducible refine Then.go ?_) | (with_reducible refine Wx.seq ?_) | (with_reducible refine Wx.ret ?_) | (with_reducible refine Wx.reg ?_) | ((with_reducible refine Wseq.nil ?_); intro e he; (simp (decide := true) only [kz] at he; subst he)) | ((with_reducible apply Wseq.as); (focus rfl); (intro v hv; (simp (decide := true) only [kw] at hv); subst hv)) | ((with_reducible apply Wseq.bx); (focus rfl); (focus (exact (by ((repeat ((with_reducible apply Fresh.put); (focus omega))); (first | (with_reducible assumption) | (exact Fresh.up (by with_reducible assumption) (by omega))))))); (intro v hv; (simp (decide := true) only [kw] at hv); subst hv); refine ⟨_, (by (first | exact cellsA_agg _ | rfl)), ?_⟩) | ((with_reducible apply Wseq.stg (op := Op.makeFunc _ _ _)); (focus rfl); (focus (exact to_makeFunc rfl rfl)))))
  exact ⟨.inr rfl, Wres.one rfl ⟨rfl, rfl⟩⟩
end Go.Ab.Seat
end
section
/- A map's keys, in order (the abstract machine). -/
namespace Go.Ab.Seat
open Go.Extern Go.Proofs
set_option linter.unusedSimpArgs false
set_option linter.unusedVariables false
set_option maxRecDepth 4000
set_option pp.deepTerms false
set_option pp.deepTerms.threshold 6
variable {sm : Nat → Option (List Value → M Value)}

/-- A map's keys, in order. -/
theorem sortedI_none {h : T AObj} {c b m n : Nat} {rl wl : List Nat} {es : List (Value × Value × Nat)} (hf : Fresh h c) (hb : Has h b (.cells [.map (some m)])) (hm : Has h m (.map es n)) (hk : keyInts es n = some []) :
    ∃ v s', FnTo (Cs smQ) eg 49 [.func (.func 98) #[] ⟨[.pointer (some ⟨b, 0, none⟩)]⟩] ⟨h, c, rl, wl⟩ v s' ∧ (v = .slice none 0 0 ∧ s' = ⟨h, c, m :: b :: rl, wl⟩) := by
  refine ⟨_, _, ⟨0, ?_⟩, rfl, rfl⟩
  have hs : (Cs smQ).sm 49 = some (sumSorted kindOf) := rfl
  unfold callF
  rw [hs]
  show sumSorted kindOf _ _ = _
  unfold sumSorted
  have e1 : iterOf kindOf [.func (.func 98) #[] ⟨[.pointer (some ⟨b, 0, none⟩)]⟩] = some (98, true, b, 0) := rfl
  rw [e1, bind_run (lift_run (a := (98, true, b, 0)) rfl)]
  dsimp only
  rw [bind_run (getCells_run hb.cel (hb.lt hf))]
  have e2 : nth [Value.map (some m)] 0 = some (.map (some m)) := rfl
  rw [e2, bind_run (lift_run (a := Value.map (some m)) rfl)]
  unfold seqInts
  dsimp only
  rw [bind_run (show ((M.lift (mapAt (Value.map (some m)))).bind mapInts) _ = some ([], ⟨h, c, m :: b :: rl, wl⟩) from by
    have e3 : mapAt (Value.map (some m)) = some (some m) := rfl
    rw [e3, bind_run (lift_run (a := some m) rfl)]
    unfold mapInts
    dsimp only
    rw [bind_run (getMap_run hm (hm.lt hf))]
    exact lift_run hk)]
  rfl

theorem sortedI_some {h : T AObj} {c b m n : Nat} {rl wl : List Nat} {es : List (Value × Value × Nat)} {x : Int} {xs : List Int} (hf : Fresh h c) (hb : Has h b (.cells [.map (some m)])) (hm : Has h m (.map es n)) (hk : keyInts es n = some (x :: xs)) (hl : (x :: xs).length ≤ 1000000) :
    ∃ v s', FnTo (Cs smQ) eg 49 [.func (.func 98) #[] ⟨[.pointer (some ⟨b, 0, none⟩)]⟩] ⟨h, c, rl, wl⟩ v s' ∧ (v = .slice (some ⟨c, 0, some 1⟩) (x :: xs).length (x :: xs).length ∧ s' = ⟨h.set c (some (.cells ((sortI (x :: xs)).map fun n => Value.int .i64 n))), c + 1, m :: b :: rl, wl⟩) := by
  refine ⟨_, _, ⟨0, ?_⟩, rfl, rfl⟩
  have hs : (Cs smQ).sm 49 = some (sumSorted kindOf) := rfl
  unfold callF
  rw [hs]
  show sumSorted kindOf _ _ = _
  unfold sumSorted
  have e1 : iterOf kindOf [.func (.func 98) #[] ⟨[.pointer (some ⟨b, 0, none⟩)]⟩] = some (98, true, b, 0) := rfl
  rw [e1, bind_run (lift_run (a := (98, true, b, 0)) rfl)]
  dsimp only
  rw [bind_run (getCells_run hb.cel (hb.lt hf))]
  have e2 : nth [Value.map (some m)] 0 = some (.map (some m)) := rfl
  rw [e2, bind_run (lift_run (a := Value.map (some m)) rfl)]
  unfold seqInts
  dsimp only
  rw [bind_run (show ((M.lift (mapAt (Value.map (some m)))).bind mapInts) _ = some (x :: xs, ⟨h, c, m :: b :: rl, wl⟩) from by
    have e3 : mapAt (Value.map (some m)) = some (some m) := rfl
    rw [e3, bind_run (lift_run (a := some m) rfl)]
    unfold mapInts
    dsimp only
    rw [bind_run (getMap_run hm (hm.lt hf))]
    exact lift_run hk)]
  unfold giveInts
  dsimp only
  rw [show Nat.ble (len (x :: xs)) 1000000 = true from by rw [len_eq]; rw [Nat.ble_eq]; exact hl]
  dsimp only
  rw [bind_run (newCells_run hf), mapA_eq, len_eq]
  rfl

theorem keysI_spec (H : Std sm) {h : T AObj} {c m : Nat} {rl wl : List Nat} (hf : Fresh h c) :
    ∃ v s', FnTo (Cs sm) eg 56 [.map (some m)] ⟨h, c, rl, wl⟩ v s' ∧ (v = .func (.func 98) #[] ⟨[.pointer (some ⟨c, 0, none⟩)]⟩ ∧ s' = ⟨h.set c (some (.cells [.map (some m)])), c + 1, rl, wl⟩) := by
  refine Fn.go (H 56 rfl) ex56 fn56 km56 rfl rfl ?_
  intro e he
  (simp (decide := true) only [kz] at he; subst he)
  (repeat (first | (with_reducible refine Then.go ?_) | (with_reducible refine Then.ex ?_) | (with_reducible refine Then.rt ?_) | (with_reducible refine Out.go ?_) | (with_reducible refine Out.rt ?_) | (with_reducible refine Out.hit ?_) | (with_reducible refine Out.miss (by decide) ?_) | (with_reducible refine Wx.seq ?_) | (with_reducible refine Wx.skip ?_) | (with_reducible refine Wx.block ?_) | (with_reducible refine Wx.exit ?_) | (with_reducible refine Wx.ret ?_) | (with_reducible refine Wx.reg ?_) | (refine Wx.dreg rfl ?_) | (with_reducible refine RoundE.ex ?_) | (with_reducible refine RoundE.rt ?_) | (with_reducible refine CutQ.ex ?_) | (with_reducible refine CutQ.rt ?_) | (refine Wx.condT rfl (by (first | rfl | (simp only [decide_eq_true_eq, Bool.not_eq_true', decide_eq_false_iff_not, Option.isNone_none, Option.isNone_some, Option.isSome_none, Option.isSome_some, beq_self_eq_true, Bool.not_true, Bool.not_false]; first | done | omega) | (simp; omega) | (solve | simp [*]) | fail)) ?_) | (refine Wx.condF rfl (by (first | rfl | (simp only [decide_eq_false_iff_not, Bool.not_eq_false', decide_eq_true_eq, Option.isNone_none, Option.isNone_some, Option.isSome_none, Option.isSome_some, beq_self_eq_true, Bool.not_true, Bool.not_false]; first | done | omega))) ?_) | ((with_reducible refine Wseq.nil ?_); intro e he; (simp (decide := true) only [kz] at he; subst he)) | ((with_reducible apply Wseq.as); (focus rfl); (intro v hv; (simp (decide := true) only [kw] at hv); subst hv)) | ((with_reducible apply Wseq.bx); (focus rfl); (focus (exact (by ((repeat ((with_reducible apply Fresh.put); (focus omega))); (first | (with_reducible assumption) | (exact Fresh.up (by with_reducible assumption) (by omega))))))); (intro v hv; (simp (decide := true) only [kw] at hv); subst hv); refine ⟨_, (by (first | exact cellsA_agg _ | rfl)), ?_⟩) | ((with_reducible apply Wseq.stg (op := Op.makeFunc _ _ _)); (focus rfl); (focus (exact to_makeFunc rfl rfl))) | (refine Wseq.no rfl ?_)))
  exact ⟨.inr rfl, Wres.one rfl ⟨rfl, rfl⟩⟩
end Go.Ab.Seat
end
section
/- An index of lists: its members as a rising list (the abstract machine). -/
namespace Go.Ab.Seat
open Go.Extern Go.Proofs
set_option linter.unusedSimpArgs false
set_option linter.unusedVariables false
set_option maxRecDepth 4000
set_option pp.deepTerms false
set_option pp.deepTerms.threshold 6

/-- A member: its numbers, its list. -/
abbrev mbI (id : Int) (zs : List Int) (k : Int) : Rc := ⟨id, zs.map (Value.int .i32), .empty, k, false⟩
/-- The list that a vector is put in. -/
def listZ (mid : List (List Int)) (zs : List Int) : Int := max (nearZ mid zs) 0
/-- A member and what the map has of it. -/
def IRep (h : T AObj) (p m : Nat) (U : Nat → Prop) (r : Rc) (v : Value) : Prop := ∃ w, v = .agg ⟨[w, .int .i64 r.seq]⟩ ∧ Own h 0 w r.xs.length r.xs ∧ ∀ b, blkOf w = some b → U b ∧ b ≠ p ∧ b ≠ m
def IFits (h : T AObj) (p m : Nat) (U : Nat → Prop) (o : Option Rc) (w : Option Value) : Prop := (o = none ∧ w = none) ∨ ∃ r v, o = some r ∧ w = some v ∧ IRep h p m U r v

/-- An index of lists that has just the list's members. -/
structure IvfM (h : T AObj) (p m : Nat) (mv : Value) (mt : Int) (dim : Nat) (mid : List (List Int)) (M : List Rc) (U : Nat → Prop) : Prop where
  ptr : Has h p (.cells [.int .i64 mt, mv, .map (some m)])
  mids : MRow h mv dim mid (fun b => U b ∧ b ≠ p ∧ b ≠ m)
  ex : ∃ es n, Has h m (.map es n) ∧ (∃ ids, Keyed es n ids) ∧ ∀ x, IFits h p m U (getM x M) (valI x es)
  pU : U p
  mU : U m
  ne : p ≠ m
  rises : Rises M
  ok : ∀ r ∈ M, ∃ zs : List Int, r = mbI r.id zs (listZ mid zs) ∧ zs.length = dim ∧ Bnd zs

theorem IRep.keep {h h' : T AObj} {p m c : Nat} {U U' : Nat → Prop} {r : Rc} {v : Value} (x : IRep h p m U r v) (hf : Fresh h c) (hU : ∀ b, U b → U' b) (k : ∀ b, U b → b < c → b ≠ p → b ≠ m → h'.get b = h.get b) : IRep h' p m U' r v := by
  obtain ⟨w, e, x1, x2⟩ := x
  exact ⟨w, e, x1.keep fun b hb => k b (x2 b hb).1 ((x1.blk hb).2.lt hf) (x2 b hb).2.1 (x2 b hb).2.2, fun b hb => ⟨hU b (x2 b hb).1, (x2 b hb).2⟩⟩
theorem IFits.keep {h h' : T AObj} {p m c : Nat} {U U' : Nat → Prop} {o : Option Rc} {w : Option Value} (x : IFits h p m U o w) (hf : Fresh h c) (hU : ∀ b, U b → U' b) (k : ∀ b, U b → b < c → b ≠ p → b ≠ m → h'.get b = h.get b) : IFits h' p m U' o w := by
  rcases x with x | ⟨r, v, h1, h2, h3⟩
  · exact .inl x
  · exact .inr ⟨r, v, h1, h2, h3.keep hf hU k⟩
theorem IvfM.keep {h h' : T AObj} {c p m dim : Nat} {mv : Value} {mt : Int} {mid : List (List Int)} {M : List Rc} {U : Nat → Prop} (q : IvfM h p m mv mt dim mid M U) (hf : Fresh h c) (k : ∀ b, U b → b < c → h'.get b = h.get b) : IvfM h' p m mv mt dim mid M U := by
  obtain ⟨es, n, h1, h2, h3⟩ := q.ex
  exact ⟨(k p q.pU (q.ptr.lt hf)).trans q.ptr, q.mids.keep hf (fun _ q => q) (fun b hb hc _ => k b hb.1 hc), ⟨es, n, (k m q.mU (h1.lt hf)).trans h1, h2, fun x => (h3 x).keep hf (fun _ q => q) fun b hb hc _ _ => k b hb hc⟩, q.pU, q.mU, q.ne, q.rises, q.ok⟩
theorem IvfM.lt {h : T AObj} {c p m dim : Nat} {mv : Value} {mt : Int} {mid : List (List Int)} {M : List Rc} {U : Nat → Prop} (q : IvfM h p m mv mt dim mid M U) (hf : Fresh h c) : p < c ∧ m < c := by
  obtain ⟨es, n, h1, h2, h3⟩ := q.ex
  exact ⟨q.ptr.lt hf, h1.lt hf⟩
theorem IvfM.hm {h : T AObj} {p m dim : Nat} {mv : Value} {mt : Int} {mid : List (List Int)} {M : List Rc} {U : Nat → Prop} (q : IvfM h p m mv mt dim mid M U) : ∃ es n, Has h m (.map es n) := by
  obtain ⟨es, n, h1, _⟩ := q.ex
  exact ⟨es, n, h1⟩

/-- The keys are the members' ids. -/
theorem IvfM.ids {h : T AObj} {p m : Nat} {U : Nat → Prop} {M : List Rc} {n : Nat} {es : List (Value × Value × Nat)} {ids : List Int} (hk : Keyed es n ids) (hr : Rises M) (hv : ∀ x, IFits h p m U (getM x M) (valI x es)) : sortI ids = M.map Rc.id := by
  refine rises_ext (sortI_rises hk.nodup) hr.ids fun x => ?_
  rw [(sortI_perm ids).mem_iff]
  constructor
  · intro hx
    rcases hv x with ⟨_, h4⟩ | ⟨r, v, h4, _, _⟩
    · exact absurd hx ((findI_none_iff hk.keys).1 (valI_none.1 h4))
    · obtain ⟨h5, h6⟩ := getM_mem h4
      exact List.mem_map.2 ⟨r, h5, h6⟩
  · intro hx
    obtain ⟨r, h5, rfl⟩ := List.mem_map.1 hx
    refine Classical.byContradiction fun hn => ?_
    rcases hv r.id with ⟨h4, _⟩ | ⟨r', v, _, h4, _⟩
    · exact absurd rfl (getM_none.1 h4 r h5)
    · rw [valI_none.2 ((findI_none_iff hk.keys).2 hn)] at h4
      cases h4

theorem iof_spec {h : T AObj} {c : Nat} {rl wl : List Nat} (hf : Fresh h c) {mt : Int} (hmt : mt = 1 ∨ mt = 2) {v : Value} {dim : Nat} {mid : List (List Int)} {U : Nat → Prop} (hm : MRow h v dim mid U) (hn : mid.length ≤ 16) (hd : dim ≤ 1000) (hd1 : 1 ≤ dim) (R : Nat → Prop) (hUR : ∀ b, U b → R b) :
    ∃ r s', FnTo (Cs smQ) eg 18 [.int .i64 mt, v] ⟨h, c, rl, wl⟩ r s' ∧ (∃ p m mv, r = .pointer (some ⟨p, 0, none⟩) ∧ IvfM s'.h p m mv mt dim mid [] (fun b => c ≤ b ∧ b < s'.c)) ∧ Ext ⟨h, c, rl, wl⟩ s' R (fun _ => False) := by
  obtain ⟨oa, cap, rfl⟩ := hm.val
  refine Fn.go (stdQ 18 rfl) ex18 fn18 km18 rfl rfl ?_
  intro e he
  (simp (decide := true) only [kz] at he; subst he)
  (repeat (first | (with_reducible refine Then.go ?_) | (with_reducible refine Wx.seq ?_) | (with_reducible refine Wx.reg ?_) | ((with_reducible refine Wseq.nil ?_); intro e he; (simp (decide := true) only [kz] at he; subst he)) | ((with_reducible apply Wseq.mv); rfl; (intro v hv; (simp (decide := true) only [kw] at hv); subst hv)) | ((with_reducible apply Wseq.as); rfl; (intro v hv; (simp (decide := true) only [kw] at hv); subst hv))))
  refine Wseq.call rfl rfl (known_spec stdQ (by ((repeat (apply Fresh.put; omega)); ((assumption)))) mt hmt) ?_
  rintro v1 h1 c1 r1 w1 ⟨rfl, e1⟩
  cases e1
  (repeat (first | (with_reducible refine Then.go ?_) | (with_reducible refine Wx.seq ?_) | (with_reducible refine Wx.skip ?_) | (with_reducible refine Wx.reg ?_) | (refine Wx.condF rfl (by rfl) ?_) | ((with_reducible refine Wseq.nil ?_); intro e he; (simp (decide := true) only [kz] at he; subst he)) | ((with_reducible apply Wseq.mv); rfl; (intro v hv; (simp (decide := true) only [kw] at hv); subst hv)) | ((with_reducible apply Wseq.pkF); rfl; rfl; (intro v hv; (simp (decide := true) only [kw] at hv); subst hv)) | ((with_reducible apply Wseq.stg (op := Op.call ⟨Callee.builtin Builtin.len, _, _⟩)); rfl; exact to_lenS (sl_ rfl) rfl) | ((with_reducible apply Wseq.stg (op := Op.unOp UnOp.not _ _)); rfl; exact to_notT rfl) | ((with_reducible apply Wseq.stg (op := Op.binOp BinOp.gtr _ _ _ _)); rfl; exact to_gtrF rfl rfl (by omega))))
  refine Wseq.call rfl rfl (copies_spec (by ((repeat (apply Fresh.put; omega)); ((assumption)))) hm (by omega) hd hd1 R hUR) ?_
  rintro v1 h1 c1 r1 w1 ⟨hG, hext⟩
  have kp := Kp.ext (W := fun _ => False) (h := h) (c := c) (by (repeat ((exact Kp.refl)))) hext (by omega) (fun _ _ q => q)
  have lr := Lg.extR (R := R) (c := c) (by (repeat ((exact Lg.nil)))) hext (fun _ _ q => q)
  have lw := Lg.extW (W := fun _ => False) (c := c) (by (repeat ((exact Lg.nil)))) hext (fun _ _ q => q)
  have fr1 := hext.fresh
  have le1 := hext.c
  simp only at le1 fr1 hG
  obtain ⟨oa1, cap1, rfl⟩ := hG.mrow.val
  (repeat (first | (with_reducible refine Then.go ?_) | (with_reducible refine Wx.ret ?_) | ((with_reducible refine Wseq.nil ?_); intro e he; (simp (decide := true) only [kz] at he; subst he)) | ((with_reducible apply Wseq.as); rfl; (intro v hv; (simp (decide := true) only [kw] at hv); subst hv)) | ((with_reducible apply Wseq.bx); rfl; exact (by ((repeat (apply Fresh.put; omega)); ((exact Fresh.up (by assumption) (by omega))))); (intro v hv; (simp (decide := true) only [kw] at hv); subst hv); refine ⟨_, (by ((exact cellsA_agg _))), ?_⟩) | ((with_reducible apply Wseq.bd); rfl; exact (bt_ rfl); (intro v hv; (simp (decide := true) only [kw] at hv); subst hv); refine ⟨_, rfl, ?_⟩) | ((with_reducible apply Wseq.stg (op := Op.makeMap _ _)); rfl; exact to_makeMap (by ((repeat (apply Fresh.put; omega)); ((assumption)))))))
  refine ⟨.inr rfl, Wres.one rfl ⟨⟨c1 + 1, c1, .slice oa1 mid.length cap1, rfl, ?_⟩, ?_⟩⟩
  · refine ⟨Has.same, ?_, ⟨[], 0, Has.other (by omega) Has.same, ⟨[], .nil 0⟩, fun x => .inl ⟨rfl, rfl⟩⟩, ⟨by omega, by dsimp only; omega⟩, ⟨by omega, by dsimp only; omega⟩, by omega, Rises.nil, fun r hr => by cases hr⟩
    exact hG.mrow.keep fr1 (fun b hb => ⟨⟨hb.1, by dsimp only; omega⟩, by omega, by omega⟩) (fun b hb hc _ => by rw [get_other (by omega), get_other (by omega)])
  · (dsimp only; exact Ext.of (by omega) (by ((repeat (apply Fresh.put; omega)); ((exact Fresh.up (by assumption) (by omega))))) (by (repeat (first | (assumption) | (apply Kp.set; (focus (left; omega)))))) (by (repeat ((assumption)))) (by (repeat ((assumption)))))
end Go.Ab.Seat
end
