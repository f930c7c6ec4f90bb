import Derived.Test.YtcnfbfiakkjabaaGreatDoorE26
import Derived.Test.YtcnfbfiakkjabaaGreatDoorDI2
import Derived.Test.YtcnfbfiakkjabaaGreatDoorDO1
import Derived.Test.YtcnfbfiakkjabaaGreatDoorDG0
import Derived.Test.YtcnfbfiakkjabaaGreatDoorDST5v
set_option linter.unusedVariables false
set_option linter.unusedSimpArgs false
section
/- A closed call with plain arguments, as a contract. -/
namespace Go.Ab

/-- Values that stand for themselves alone. -/
noncomputable def exact : Nat → Value → Bool
  | 0, _ => false
  | d + 1, v =>
    match v with
    | .bool _ => true
    | .int _ _ => true
    | .string _ => true
    | .pointer none => true
    | .slice none _ _ => true
    | .map none => true
    | .nilIface => true
    | .agg cs => allB (exact d) cs.toList
    | .tuple cs => allB (exact d) cs.toList
    | _ => false

theorem exact_VR {ι : Iota} : ∀ (d : Nat) (v v' : Value), exact d v = true → VR ι v v' → v' = v := by
  intro d
  induction d with
  | zero => intro v v' h; cases h
  | succ d ih =>
    intro v v' h hv
    have key : ∀ (a a' : Array Value), allB (exact d) a.toList = true → a.toList.length = a'.toList.length → (∀ (i : Nat) (x y : Value), a.toList[i]? = some x → a'.toList[i]? = some y → VR ι x y) → a' = a := by
      intro a a' ha hl hr
      rw [allB_eq, List.all_eq_true] at ha
      apply Array.toList_inj.1
      apply List.ext_getElem?
      intro i
      by_cases hi : i < a.toList.length
      · have hi' : i < a'.toList.length := by rw [← hl]; exact hi
        rw [List.getElem?_eq_getElem hi, List.getElem?_eq_getElem hi']
        exact congrArg some (ih _ _ (ha _ (List.getElem_mem hi)) (hr i _ _ (List.getElem?_eq_getElem hi) (List.getElem?_eq_getElem hi')))
      · rw [List.getElem?_eq_none (by omega), List.getElem?_eq_none (by omega)]
    cases hv with
    | bool => rfl
    | int => rfl
    | string => rfl
    | nilPtr => rfl
    | nilSlice => rfl
    | nilMap => rfl
    | nilIface => rfl
    | agg a a' ha ra => rw [key a a' h ha ra]
    | tuple a a' ha ra => rw [key a a' h ha ra]
    | _ => cases h

end Go.Ab
end
section
/- Closed calls with plain arguments: what they give. -/
namespace Go.Ab.Seat
open Go.Extern Go.Proofs Go.RowKit

noncomputable def sameV : Nat → Value → Value → Bool
  | 0, _, _ => false
  | d + 1, a, b =>
    match a, b with
    | .int j x, .int k y => decide (j = k) && decide (x = y)
    | .bool x, .bool y => x == y
    | .agg xs, .agg ys => Nat.beq (len xs.toList) (len ys.toList) && allB (fun p => sameV d p.1 p.2) (xs.toList.zip ys.toList)
    | .tuple xs, .tuple ys => Nat.beq (len xs.toList) (len ys.toList) && allB (fun p => sameV d p.1 p.2) (xs.toList.zip ys.toList)
    | _, _ => false

theorem sameV_exact : ∀ (d : Nat) (a b : Value), sameV d a b = true → a = b ∧ exact d b = true := by
  intro d
  induction d with
  | zero => intro a b h; cases h
  | succ d ih =>
    intro a b h
    have key : ∀ (xs ys : Array Value), (Nat.beq (len xs.toList) (len ys.toList) && allB (fun p => sameV d p.1 p.2) (xs.toList.zip ys.toList)) = true → xs = ys ∧ allB (exact d) ys.toList = true := by
      intro xs ys h
      rw [Bool.and_eq_true, allB_eq, List.all_eq_true] at h
      have hl := beq_iff.1 h.1
      rw [len_eq, len_eq] at hl
      have each : ∀ (i : Nat) (h1 : i < xs.toList.length) (h2 : i < ys.toList.length), xs.toList[i] = ys.toList[i] ∧ exact d ys.toList[i] = true := by
        intro i h1 h2
        refine ih _ _ (h.2 (xs.toList[i], ys.toList[i]) ?_)
        have hz : i < (xs.toList.zip ys.toList).length := by rw [List.length_zip]; omega
        have := List.getElem_mem hz
        rw [List.getElem_zip] at this
        exact this
      refine ⟨Array.toList_inj.1 (List.ext_getElem hl fun i h1 h2 => (each i h1 h2).1), ?_⟩
      rw [allB_eq, List.all_eq_true]
      intro y hy
      obtain ⟨i, hi, rfl⟩ := List.getElem_of_mem hy
      exact (each i (by omega) hi).2
    unfold sameV at h
    split at h
    · simp only [Bool.and_eq_true, decide_eq_true_eq] at h; obtain ⟨rfl, rfl⟩ := h; exact ⟨rfl, rfl⟩
    · rw [beq_iff_eq] at h; rw [h]; exact ⟨rfl, rfl⟩
    · obtain ⟨rfl, h2⟩ := key _ _ h; exact ⟨rfl, h2⟩
    · obtain ⟨rfl, h2⟩ := key _ _ h; exact ⟨rfl, h2⟩
    · cases h

noncomputable def givesV (x : Option (Value × St)) (v : Value) : Bool := match x with | some (r, _) => sameV 5 r v | none => false

/-- A closed call with plain arguments: what the kernel's run gives. -/
theorem closed_gives {C : Ctx} (W : C.Whole eg Tryz.prog 3) {fuel f : Nat} {args : List Value} {v : Value} (h : givesV (callB C (exec C eg fuel) f args s0) v = true) (hf : allB (flat 5) args = true) {w : World} (hl : Laid w) :
    Calls Tryz.prog f args.toArray w fun e w' => e = .returned v ∧ Below w.heap.size w w' := by
  cases hc : callB C (exec C eg fuel) f args s0 with
  | none => rw [hc] at h; cases h
  | some p =>
    obtain ⟨r, s'⟩ := p
    rw [hc] at h
    obtain ⟨rfl, he⟩ := sameV_exact 5 r v h
    rw [allB_eq, List.all_eq_true] at hf
    refine (calls_of_abs W fuel f (args' := args) hc (VRl_flat _ 5 args hf) hl.hr (fun b h1 _ => ?_) fun v' w' ι' hv hp => ?_).2
    · show ι0 w b = none
      have : 3 ≤ b := h1
      exact if_neg (by omega)
    · rw [exact_VR 5 r v' he hv]
      exact ⟨rfl, hp.os, hp.tape, hp.output, hp.size, fun k hk => hp.frame k hk s0_owned⟩

theorem laid_below {w w' : World} (h : Laid w) (hb : Below w.heap.size w w') : Laid w' := h.left ⟨hb.os, hb.tape, hb.output, hb.size, hb.block⟩
end Go.Ab.Seat
end
section
/- The laws' own ground: begun is known; what is known and not run. -/
namespace Go.Ab.Seat
open Go.Extern Go.Proofs
set_option linter.unusedSimpArgs false
set_option linter.unusedVariables false
set_option maxRecDepth 1000000

noncomputable def smQ : Nat → Option (List Value → M Value) := fun f => bif Nat.beq f fInsHit then some gIns else smIns (fun f => bif Nat.beq f fSorted then some (sumSorted kindOf) else bif Nat.beq f fBegun13 then some gTrue else bif Nat.beq f fBegun7 then some gTrue else bif Nat.beq f fBegun4 then some gTrue else bif Nat.beq f fBegun1 then some gTrue else none) f
noncomputable def CQ : Ctx := Cs smQ
theorem wholeQ : CQ.Whole eg Tryz.prog 3 := whole _ (smOk _ (one_more smInsG (smIns_one (one_more smSorted (one_more begun13 (one_more begun7 (one_more begun4 (one_more begun1 fun f g hg => by cases hg))))))))

theorem stdQ : Std smQ := by
  intro f hf
  have h : ∀ k ∈ [9, 43, 150, 234, 49, 135, 155], Nat.beq f k = false := by
    intro k hk
    refine beq_false.2 fun e => ?_
    subst e
    unfold special at hf
    rw [List.contains_eq_mem] at hf
    simp [hk] at hf
  simp only [List.mem_cons, List.not_mem_nil, or_false, forall_eq_or_imp, forall_eq] at h
  obtain ⟨h2, h3, h4, h5, h6, h7, h8⟩ := h
  show (bif Nat.beq f fInsHit then some gIns else smIns _ f) = none
  unfold smIns
  simp only [show Nat.beq f fInsHit = false from h8, show Nat.beq f fInsInt = false from h7, show Nat.beq f fSorted = false from h6, show Nat.beq f fBegun13 = false from h2, show Nat.beq f fBegun7 = false from h3, show Nat.beq f fBegun4 = false from h4, show Nat.beq f fBegun1 = false from h5, cond_false]

theorem eqAll_tab : eqAll tab tab = true := by kernel_rfl

/-- What is laid. -/
structure Glob (h : T AObj) : Prop where
  g0 : Has h 0 (.ro tab)
  g1 : Has h 1 (.ro [rt tErr])

theorem globOk_run {h : T AObj} {c : Nat} {rl wl : List Nat} (hf : Fresh h c) (hg : Glob h) : globOk ⟨h, c, rl, wl⟩ = some ((), ⟨h, c, 1 :: 0 :: rl, wl⟩) := by
  unfold globOk
  rw [bind_run (getCells_run hg.g0.celR (hg.g0.lt hf)), bind_run (getCells_run hg.g1.celR (hg.g1.lt hf))]
  rw [eqAll_tab]
  rfl

theorem begunQ {h : T AObj} {c : Nat} {rl wl : List Nat} (hf : Fresh h c) (hg : Glob h) : ∃ v s', FnTo (Cs smQ) eg 9 [] ⟨h, c, rl, wl⟩ v s' ∧ (v = .bool true ∧ s' = ⟨h, c, 1 :: 0 :: rl, wl⟩) := by
  refine ⟨_, _, FnTo.of_sm (q := gTrue) rfl ?_, rfl, rfl⟩
  show (globOk.bind fun _ => M.ret (Value.bool true)) _ = _
  rw [bind_run (globOk_run hf hg)]; rfl

theorem tmod_lt (n : Int) (c : Int) (hc : 0 < c) : -c < n.tmod c ∧ n.tmod c < c := by
  have h1 : n.tmod c < c := Int.tmod_lt_of_pos n hc
  have h3 := Int.tmod_lt_of_pos (-n) hc
  rw [Int.neg_tmod] at h3
  omega

end Go.Ab.Seat
end
section
/- slices.SortFunc of a dozen hits or fewer; vectors in a row (the abstract machine). -/
namespace Go.Ab.Seat
open Go.Extern Go.Proofs
set_option linter.unusedSimpArgs false
set_option linter.unusedVariables false
set_option maxRecDepth 4000
set_option pp.deepTerms false
set_option pp.deepTerms.threshold 6

theorem blen0 (s : St) : callF (Cs smQ) (exec (Cs smQ) eg 60) 159 [.int .u64 0] s = some (.int .i64 0, s) := by kernel_rfl
theorem blen1 (s : St) : callF (Cs smQ) (exec (Cs smQ) eg 60) 159 [.int .u64 1] s = some (.int .i64 1, s) := by kernel_rfl
theorem blen2 (s : St) : callF (Cs smQ) (exec (Cs smQ) eg 60) 159 [.int .u64 2] s = some (.int .i64 2, s) := by kernel_rfl
theorem blen3 (s : St) : callF (Cs smQ) (exec (Cs smQ) eg 60) 159 [.int .u64 3] s = some (.int .i64 2, s) := by kernel_rfl
theorem blen4 (s : St) : callF (Cs smQ) (exec (Cs smQ) eg 60) 159 [.int .u64 4] s = some (.int .i64 3, s) := by kernel_rfl
theorem blen5 (s : St) : callF (Cs smQ) (exec (Cs smQ) eg 60) 159 [.int .u64 5] s = some (.int .i64 3, s) := by kernel_rfl
theorem blen6 (s : St) : callF (Cs smQ) (exec (Cs smQ) eg 60) 159 [.int .u64 6] s = some (.int .i64 3, s) := by kernel_rfl
theorem blen7 (s : St) : callF (Cs smQ) (exec (Cs smQ) eg 60) 159 [.int .u64 7] s = some (.int .i64 3, s) := by kernel_rfl
theorem blen8 (s : St) : callF (Cs smQ) (exec (Cs smQ) eg 60) 159 [.int .u64 8] s = some (.int .i64 4, s) := by kernel_rfl
theorem blen9 (s : St) : callF (Cs smQ) (exec (Cs smQ) eg 60) 159 [.int .u64 9] s = some (.int .i64 4, s) := by kernel_rfl
theorem blen10 (s : St) : callF (Cs smQ) (exec (Cs smQ) eg 60) 159 [.int .u64 10] s = some (.int .i64 4, s) := by kernel_rfl
theorem blen11 (s : St) : callF (Cs smQ) (exec (Cs smQ) eg 60) 159 [.int .u64 11] s = some (.int .i64 4, s) := by kernel_rfl
theorem blen12 (s : St) : callF (Cs smQ) (exec (Cs smQ) eg 60) 159 [.int .u64 12] s = some (.int .i64 4, s) := by kernel_rfl
theorem blen_spec (s : St) {n : Nat} (hn : n ≤ 12) : ∃ r s', FnTo (Cs smQ) eg 159 [.int .u64 (wrapA .u64 (n : Int))] s r s' ∧ (∃ z, r = .int .i64 z) ∧ s' = s := by
  have h3 : n = 0 ∨ n = 1 ∨ n = 2 ∨ n = 3 ∨ n = 4 ∨ n = 5 ∨ n = 6 ∨ n = 7 ∨ n = 8 ∨ n = 9 ∨ n = 10 ∨ n = 11 ∨ n = 12 := by omega
  rcases h3 with rfl | rfl | rfl | rfl | rfl | rfl | rfl | rfl | rfl | rfl | rfl | rfl | rfl
  · exact ⟨_, _, ⟨60, blen0 s⟩, ⟨_, rfl⟩, rfl⟩
  · exact ⟨_, _, ⟨60, blen1 s⟩, ⟨_, rfl⟩, rfl⟩
  · exact ⟨_, _, ⟨60, blen2 s⟩, ⟨_, rfl⟩, rfl⟩
  · exact ⟨_, _, ⟨60, blen3 s⟩, ⟨_, rfl⟩, rfl⟩
  · exact ⟨_, _, ⟨60, blen4 s⟩, ⟨_, rfl⟩, rfl⟩
  · exact ⟨_, _, ⟨60, blen5 s⟩, ⟨_, rfl⟩, rfl⟩
  · exact ⟨_, _, ⟨60, blen6 s⟩, ⟨_, rfl⟩, rfl⟩
  · exact ⟨_, _, ⟨60, blen7 s⟩, ⟨_, rfl⟩, rfl⟩
  · exact ⟨_, _, ⟨60, blen8 s⟩, ⟨_, rfl⟩, rfl⟩
  · exact ⟨_, _, ⟨60, blen9 s⟩, ⟨_, rfl⟩, rfl⟩
  · exact ⟨_, _, ⟨60, blen10 s⟩, ⟨_, rfl⟩, rfl⟩
  · exact ⟨_, _, ⟨60, blen11 s⟩, ⟨_, rfl⟩, rfl⟩
  · exact ⟨_, _, ⟨60, blen12 s⟩, ⟨_, rfl⟩, rfl⟩

theorem pdq_spec {h : T AObj} {c : Nat} {rl wl : List Nat} (hf : Fresh h c) {b n : Nat} {l : List Ht} (hb : Has h b (.cells (flatH l))) (hn : l.length = n) (hn' : n ≤ 12) (hd : (l.map Ht.id).Nodup) (lim : Int) :
    ∃ r s', FnTo (Cs smQ) eg 160 [.slice (some ⟨b, 0, none⟩) n n, .int .i64 0, .int .i64 (n : Int), .int .i64 lim, .func (.func 92) #[] #[]] ⟨h, c, rl, wl⟩ r s' ∧ Has s'.h b (.cells (flatH (bestOf n l))) ∧ Ext ⟨h, c, rl, wl⟩ s' (fun x => x = b) (fun x => x = b) := by
  have lb := hb.lt hf
  refine Fn.go (stdQ 160 rfl) ex160 fn160 km160 rfl rfl ?_
  intro e he
  (simp (decide := true) only [kz] at he; subst he)
  (repeat (first | (with_reducible refine Then.go ?_) | (with_reducible refine Wx.seq ?_) | (with_reducible refine Wx.block ?_) | (with_reducible refine Wx.reg ?_) | ((with_reducible refine Wseq.nil ?_); intro e he; (simp (decide := true) only [kz] at he; subst he)) | ((with_reducible apply Wseq.as); rfl; (intro v hv; (simp (decide := true) only [kw] at hv); subst hv))))
  refine Wx.loop1 ?_
  (repeat (first | (with_reducible refine Then.go ?_) | (with_reducible refine Wx.seq ?_) | (with_reducible refine Wx.block ?_) | (with_reducible refine Wx.reg ?_) | (refine Wx.condT rfl (by rfl) ?_) | ((with_reducible refine Wseq.nil ?_); intro e he; (simp (decide := true) only [kz] at he; subst he)) | ((with_reducible apply Wseq.mv); rfl; (intro v hv; (simp (decide := true) only [kw] at hv); subst hv)) | ((with_reducible apply Wseq.as); rfl; (intro v hv; (simp (decide := true) only [kw] at hv); subst hv)) | ((with_reducible apply Wseq.stg (op := Op.binOp BinOp.leq _ _ _ _)); rfl; exact to_leqT rfl rfl (by omega)) | ((with_reducible apply Wseq.stg (op := Op.binOp BinOp.sub _ _ _ _)); rfl; exact to_sub rfl rfl (by omega) (by omega))))
  refine Wseq.call rfl rfl (isort_spec stdQ (by ((repeat (apply Fresh.put; omega)); ((assumption)))) hb hn (by omega) hd) ?_
  rintro v h1 c1 r1 w1 ⟨hb1, hext⟩
  have kp := Kp.ext (W := fun x => x = b) (h := h) (c := c) (by (repeat ((exact Kp.refl)))) hext (by omega) (fun _ _ q => q)
  have lr := Lg.extR (R := fun x => x = b) (c := c) (by (repeat ((exact Lg.nil)))) hext (fun _ _ q => q)
  have lw := Lg.extW (W := fun x => x = b) (c := c) (by (repeat ((exact Lg.nil)))) hext (fun _ _ q => q)
  have fr1 := hext.fresh
  have le1 := hext.c
  simp only at le1 fr1
  (repeat (first | (with_reducible refine Then.go ?_) | (with_reducible refine Then.rt ?_) | (with_reducible refine Out.rt ?_) | (with_reducible refine Wx.ret ?_) | ((with_reducible refine Wseq.nil ?_); intro e he; (simp (decide := true) only [kz] at he; subst he))))
  refine ⟨.inr rfl, Wres.nil ⟨hb1, ?_⟩⟩
  (dsimp only; exact Ext.of (by omega) (by ((repeat (apply Fresh.put; omega)); ((assumption)))) (by (repeat ((assumption)))) (by (repeat ((assumption)))) (by (repeat ((assumption)))))

theorem sortf_spec {h : T AObj} {c : Nat} {rl wl : List Nat} (hf : Fresh h c) {b n : Nat} {l : List Ht} (hb : Has h b (.cells (flatH l))) (hn : l.length = n) (hn' : n ≤ 12) (hd : (l.map Ht.id).Nodup) :
    ∃ r s', FnTo (Cs smQ) eg 91 [.slice (some ⟨b, 0, none⟩) n n, .func (.func 92) #[] #[]] ⟨h, c, rl, wl⟩ r s' ∧ Has s'.h b (.cells (flatH (bestOf n l))) ∧ Ext ⟨h, c, rl, wl⟩ s' (fun x => x = b) (fun x => x = b) := by
  have lb := hb.lt hf
  refine Fn.go (stdQ 91 rfl) ex91 fn91 km91 rfl rfl ?_
  intro e he
  (simp (decide := true) only [kz] at he; subst he)
  (repeat (first | (with_reducible refine Then.go ?_) | (with_reducible refine Wx.seq ?_) | (with_reducible refine Wx.reg ?_) | ((with_reducible refine Wseq.nil ?_); intro e he; (simp (decide := true) only [kz] at he; subst he)) | ((with_reducible apply Wseq.mv); rfl; (intro v hv; (simp (decide := true) only [kw] at hv); subst hv)) | ((with_reducible apply Wseq.as); rfl; (intro v hv; (simp (decide := true) only [kw] at hv); subst hv)) | ((with_reducible apply Wseq.stg (op := Op.call ⟨Callee.builtin Builtin.len, _, _⟩)); rfl; exact to_lenS (sl_ rfl) rfl) | ((with_reducible apply Wseq.stg (op := Op.convert _ _ _)); rfl; exact to_convert (cv_ rfl) rfl)))
  refine Wseq.call rfl rfl (blen_spec _ hn') ?_
  rintro v1 h1 c1 r1 w1 ⟨⟨z, rfl⟩, e1⟩
  cases e1
  (repeat (((with_reducible apply Wseq.mv); rfl; (intro v hv; (simp (decide := true) only [kw] at hv); subst hv))))
  refine Wseq.call rfl rfl (pdq_spec (by ((repeat (apply Fresh.put; omega)); ((assumption)))) hb hn hn' hd z) ?_
  rintro v h1 c1 r1 w1 ⟨hb1, hext⟩
  have kp := Kp.ext (W := fun x => x = b) (h := h) (c := c) (by (repeat ((exact Kp.refl)))) hext (by omega) (fun _ _ q => q)
  have lr := Lg.extR (R := fun x => x = b) (c := c) (by (repeat ((exact Lg.nil)))) hext (fun _ _ q => q)
  have lw := Lg.extW (W := fun x => x = b) (c := c) (by (repeat ((exact Lg.nil)))) hext (fun _ _ q => q)
  have fr1 := hext.fresh
  have le1 := hext.c
  simp only at le1 fr1
  (repeat (((with_reducible refine Wseq.nil ?_); intro e he; (simp (decide := true) only [kz] at he; subst he))))
  refine ⟨.inl rfl, Wres.nil ⟨hb1, ?_⟩⟩
  (dsimp only; exact Ext.of (by omega) (by ((repeat (apply Fresh.put; omega)); ((assumption)))) (by (repeat ((assumption)))) (by (repeat ((assumption)))) (by (repeat ((assumption)))))
end Go.Ab.Seat
end
section
/- Vectors that come in, cut to size; hits, ids compared (the abstract machine). -/
namespace Go.Ab.Seat
open Go.Extern Go.Proofs
set_option linter.unusedSimpArgs false
set_option linter.unusedVariables false
set_option maxRecDepth 4000
set_option pp.deepTerms false
set_option pp.deepTerms.threshold 6
variable {sm : Nat → Option (List Value → M Value)}

/-- Vectors as they come in. -/
def VecsIn (h : T AObj) (v : Value) (zss : List (List Int)) : Prop :=
  ∃ oa cap, v = .slice oa zss.length cap ∧ ∀ (i : Nat) (zs : List Int), zss[i]? = some zs → ∃ b o sp cs a k, oa = some ⟨b, o, sp⟩ ∧ Cel h b cs ∧ nth cs (o + i * 1) = some (.slice a zs.length k) ∧ Row h (.slice a zs.length k) zs.length 1 (zs.map (Value.int .i32))

/-- Vectors of the call's own. -/
def VRow (h : T AObj) (c0 : Nat) (v : Value) (dim : Nat) (vss : List (List Int)) : Prop :=
  (v = .slice none 0 0 ∧ vss = []) ∨ ∃ b vals, v = .slice (some ⟨b, 0, some 1⟩) vss.length vss.length ∧ vss ≠ [] ∧ c0 ≤ b ∧ Has h b (.cells vals) ∧ vals.length = vss.length ∧ ∀ (i : Nat) (zs : List Int), vss[i]? = some zs → zs.length = dim ∧ ∃ bi, vals[i]? = some (.slice (some ⟨bi, 0, none⟩) dim dim) ∧ c0 ≤ bi ∧ Has h bi (.cells (zs.map (Value.int .i32)))

theorem VRow.keep {h h' : T AObj} {c c0 : Nat} {v : Value} {dim : Nat} {vss : List (List Int)} (x : VRow h c0 v dim vss) (hf : Fresh h c) (k : ∀ b, b < c → (∃ cs, Has h b (.cells cs)) → c0 ≤ b → h'.get b = h.get b) : VRow h' c0 v dim vss := by
  rcases x with x | ⟨b, vals, h1, h2, h3, h4, h5, h6⟩
  · exact .inl x
  · refine .inr ⟨b, vals, h1, h2, h3, (k b (h4.lt hf) ⟨_, h4⟩ h3).trans h4, h5, fun i zs hi => ?_⟩
    obtain ⟨g1, bi, g2, g3, g4⟩ := h6 i zs hi
    exact ⟨g1, bi, g2, g3, (k bi (g4.lt hf) ⟨_, g4⟩ g3).trans g4⟩
theorem VRow.val {h : T AObj} {c0 : Nat} {v : Value} {dim : Nat} {vss : List (List Int)} (x : VRow h c0 v dim vss) : ∃ oa, v = .slice oa vss.length vss.length := by
  rcases x with ⟨rfl, rfl⟩ | ⟨b, vals, h1, _⟩
  · exact ⟨_, rfl⟩
  · exact ⟨_, h1⟩
theorem VRow.at {h : T AObj} {c0 : Nat} {oa : Option Addr} {n cap dim : Nat} {vss : List (List Int)} (x : VRow h c0 (.slice oa n cap) dim vss) {i : Nat} {zs : List Int} (hi : vss[i]? = some zs) :
    zs.length = dim ∧ ∃ b vals bi, oa = some ⟨b, 0, some 1⟩ ∧ c0 ≤ b ∧ Has h b (.cells vals) ∧ nth vals (0 + i * 1) = some (.slice (some ⟨bi, 0, none⟩) dim dim) ∧ c0 ≤ bi ∧ Has h bi (.cells (zs.map (Value.int .i32))) := by
  rcases x with ⟨_, rfl⟩ | ⟨b, vals, h1, h2, h3, h4, h5, h6⟩
  · cases hi
  · obtain ⟨g1, bi, g2, g3, g4⟩ := h6 i zs hi
    simp only [Value.slice.injEq] at h1
    exact ⟨g1, b, vals, bi, h1.1, h3, h4, by rw [nth_eq, Nat.zero_add, Nat.mul_one]; exact g2, g3, g4⟩

def vecsZ (zss : List (List Int)) (dim n : Nat) : List (List Int) := (zss.take n).map fun zs => vecZ zs dim

def EVs (v : Value) (dim n : Nat) (lv : Value) (z : Int) (j17 : Value) : L :=
  .cons 0 v (.cons 1 (.int .i64 (dim : Int)) (.cons 2 (.int .i64 (n : Int)) (.cons 6 (.slice none 0 0) (.cons 7 lv (.cons 8 (.int .i64 z) (.cons 17 j17 .nil))))))

set_option maxHeartbeats 4000000 in
theorem vecs_spec (H : Std sm) {h : T AObj} {c : Nat} {rl wl : List Nat} (hf : Fresh h c) {v : Value} {zss : List (List Int)} (hv : VecsIn h v zss) (dim n : Nat) (hd : dim ≤ 1000) (hn : n ≤ 1000) (hb : zss.length ≤ 9223372036854775807) :
    ∃ r s', FnTo (Cs sm) eg 10 [v, .int .i64 (dim : Int), .int .i64 (n : Int)] ⟨h, c, rl, wl⟩ r s' ∧ VRow s'.h c r dim (vecsZ zss dim n) ∧ Ext ⟨h, c, rl, wl⟩ s' (fun _ => True) (fun _ => False) := by
  obtain ⟨oa, cap, rfl, hat⟩ := hv
  refine Fn.go (H 10 rfl) ex10 fn10 km10 rfl rfl ?_
  intro e he
  (simp (decide := true) only [kz] at he; subst he)
  (repeat (first | (with_reducible refine Then.go ?_) | (with_reducible refine Wx.seq ?_) | (with_reducible refine Wx.block ?_) | (with_reducible refine Wx.reg ?_) | ((with_reducible refine Wseq.nil ?_); intro e he; (simp (decide := true) only [kz] at he; subst he)) | ((with_reducible apply Wseq.as); rfl; (intro v hv; (simp (decide := true) only [kw] at hv); subst hv))))
  refine Wx.loopE (fun k1 e s => ∃ (i : Nat) (z : Int) (lv j17 : Value) (h' : T AObj) (c' : Nat) (rl' wl' : List Nat), e = EVs (.slice oa zss.length cap) dim n lv z j17 ∧ z = i ∧ s = ⟨h', c', rl', wl'⟩ ∧ c ≤ c' ∧ Fresh h' c' ∧ Kp h h' c (fun _ => False) ∧ VRow h' c lv dim (vecsZ zss dim i) ∧ Lg c (fun _ => False) wl' ∧ i ≤ n ∧ i ≤ zss.length ∧ k1 = n - i) n (EVs (.slice oa zss.length cap) dim n (.slice none 0 0) 0 top) (by (repeat (first | (exact Resp.fn) | (apply Resp.then) | (apply Resp.out)))) ?_ ?_ ?_
  · unfold EVs
    (refine EqK.of ?_ ?_ <;> (repeat (first | (exact all_nil) | (apply all_cons; rfl))))
  · exact ⟨0, 0, _, _, _, _, _, _, rfl, rfl, rfl, Nat.le_refl _, (by ((repeat (apply Fresh.put; omega)); ((assumption)))), (by (repeat ((exact Kp.refl)))), .inl ⟨rfl, rfl⟩, (by (repeat ((exact Lg.nil)))), by omega, by omega, rfl⟩
  · rintro k1 e s ⟨i, z, lv, j17, h', c', rl', wl', rfl, hz, rfl, hcc, hf', hkp, hV, hlw, hin, hil, rfl⟩
    unfold EVs
    have fin : ¬(i < zss.length ∧ i < n) → vecsZ zss dim i = vecsZ zss dim n := fun hi => by
      unfold vecsZ
      congr 1
      rcases Nat.lt_or_ge i zss.length with h | h
      · rw [show i = n by omega]
      · rw [List.take_of_length_le h, List.take_of_length_le (by omega)]
    have lgR : ∀ l : List Nat, Lg c (fun _ => True) l := fun l b hb => .inr trivial
    by_cases hi1 : i < zss.length
    · by_cases hi2 : i < n
      · obtain ⟨b, o, sp, cs, a, k, rfl, hc0, hn0, hr0⟩ := hat i zss[i] (List.getElem?_eq_getElem hi1)
        have lb := hc0.lt hf
        have hc1 : Cel h' b cs := by unfold Cel Has at hc0 ⊢; rw [hkp b lb (fun q => q)]; exact hc0
        have hr1 := Row.keepF hr0 hf (fun b hb => hkp b hb (fun q => q))
        (repeat (first | (with_reducible refine Then.go ?_) | (with_reducible refine Wx.seq ?_) | (with_reducible refine Wx.skip ?_) | (with_reducible refine Wx.block ?_) | (with_reducible refine Wx.reg ?_) | (refine Wx.condT rfl (by rfl) ?_) | ((with_reducible refine Wseq.nil ?_); intro e he; (simp (decide := true) only [kz] at he; subst he)) | ((with_reducible apply Wseq.mv); rfl; (intro v hv; (simp (decide := true) only [kw] at hv); subst hv)) | ((with_reducible apply Wseq.pkT); rfl; rfl; (intro v hv; (simp (decide := true) only [kw] at hv); subst hv)) | ((with_reducible apply Wseq.stg (op := Op.call ⟨Callee.builtin Builtin.len, _, _⟩)); rfl; exact to_lenS (sl_ rfl) rfl) | ((with_reducible apply Wseq.stg (op := Op.binOp BinOp.lss _ _ _ _)); rfl; exact to_lssT rfl rfl (by omega))))
        ((with_reducible apply Wseq.stg); (focus rfl); (focus (exact to_indexAddr (k := i) el22 rfl rfl hz hi1)))
        ((with_reducible apply Wseq.stg); (focus rfl); (focus (exact to_load (pl_ rfl) rfl hc1 (by omega) hn0)))
        (repeat (((with_reducible apply Wseq.mv); rfl; (intro v hv; (simp (decide := true) only [kw] at hv); subst hv))))
        refine Wseq.call rfl rfl (vec_spec H (by ((repeat (apply Fresh.put; omega)); ((assumption)))) rfl hr1 dim hd (fun _ => True) (fun _ _ => trivial)) ?_
        rintro w h1 c1 r1 w1 ⟨⟨rfl, hnew⟩, hext⟩
        have kp := Kp.ext (W := fun _ => False) (h := h) (c := c) hkp hext (by omega) (fun _ _ q => q)
        have lw := Lg.extW (W := fun _ => False) (c := c) (by (repeat ((assumption)))) hext (fun _ _ q => q)
        have fr1 := hext.fresh
        have le1 := hext.c
        have lnew := hnew.lt fr1
        simp only at le1 fr1 lnew
        have hbv' : ∀ b, blkOf lv = some b → b < c' := by
          intro b hb
          rcases hV with ⟨rfl, _⟩ | ⟨bl, vals, rfl, _, _, q, _⟩
          · cases hb
          · cases hb; exact q.lt hf'
        have hV1 := hV.keep hf' (fun b hb _ _ => hext.get hb (fun q => q))
        have hst : vecsZ zss dim (i + 1) = vecsZ zss dim i ++ [vecZ zss[i] dim] := by
          unfold vecsZ
          rw [List.take_succ_eq_append_getElem hi1, List.map_append]; rfl
        have hlen : (vecsZ zss dim i).length = i := by unfold vecsZ; rw [List.length_map, List.length_take]; omega
        have hbg : big = 1048576 := rfl
        rcases hV1 with ⟨rfl, hnil⟩ | ⟨bl, vals, rfl, hne, hbl, hbc, hvl, hel⟩
        · (repeat (((with_reducible apply Wseq.bs); rfl; exact (ro_ rfl); rfl; exact (by ((repeat (apply Fresh.put; omega)); ((assumption)))); (intro v hv; (simp (decide := true) only [kw] at hv); subst hv); refine ⟨_, rfl, ?_⟩)))
          ((with_reducible apply Wseq.stg); (focus rfl); (focus (exact to_appNil ro22 sl22 rfl rfl (k := 0) Has.same.cel (by omega) (subN_all _ _ rfl) (by omega) (by ((repeat (apply Fresh.put; omega)); ((exact Fresh.up (by assumption) (by omega))))))))
          (repeat (first | (with_reducible refine Then.go ?_) | (with_reducible refine Out.go ?_) | (with_reducible refine Wx.reg ?_) | ((with_reducible refine Wseq.nil ?_); intro e he; (simp (decide := true) only [kz] at he; subst he)) | ((with_reducible apply Wseq.mv); rfl; (intro v hv; (simp (decide := true) only [kw] at hv); subst hv)) | ((with_reducible apply Wseq.as); rfl; (intro v hv; (simp (decide := true) only [kw] at hv); subst hv)) | ((with_reducible apply Wseq.stg (op := Op.binOp BinOp.add _ _ _ _)); rfl; exact to_add rfl rfl (by omega) (by omega))))
          refine RoundE.go (n - (i + 1)) (EVs _ dim n _ (z + 1) _) (by omega) (by (refine EqK.of ?_ ?_ <;> (repeat (first | (exact all_nil) | (apply all_cons; rfl))))) ⟨i + 1, z + 1, _, _, _, _, _, _, rfl, by omega, rfl, by omega, (by ((repeat (apply Fresh.put; omega)); ((exact Fresh.up (by assumption) (by omega))))), (by (repeat (first | (assumption) | (apply Kp.set; (focus (left; omega)))))), ?_, (by (repeat ((assumption)))), by omega, by omega, rfl⟩
          have hi0 : i = 0 := by rw [hnil] at hlen; simpa using hlen.symm
          rw [hst, hnil]
          refine .inr ⟨c1 + 1, [.slice (some ⟨c', 0, none⟩) dim dim], rfl, (fun e => by cases e), by omega, Has.same, rfl, fun j zs hj => ?_⟩
          cases j with
          | succ j => simp at hj
          | zero =>
            simp only [List.nil_append, List.getElem?_cons_zero, Option.some.injEq] at hj
            subst hj
            exact ⟨vecZ_len _ _, c', rfl, hcc, (hnew.other (by omega)).other (by omega)⟩
        · have l3 := hbc.lt fr1
          (repeat (((with_reducible apply Wseq.bs); rfl; exact (ro_ rfl); rfl; exact (by ((repeat (apply Fresh.put; omega)); ((assumption)))); (intro v hv; (simp (decide := true) only [kw] at hv); subst hv); refine ⟨_, rfl, ?_⟩)))
          ((with_reducible apply Wseq.stg); (focus rfl); (focus (exact to_appOwn ro22 sl22 rfl rfl (k := 0) Has.same.cel (by omega) (subN_all _ _ rfl) (by omega) (by omega) (hbc.other (by omega)) (by omega) (subN_all _ _ (by omega)) (all_cons rfl all_nil) (by ((repeat (apply Fresh.put; omega)); ((exact Fresh.up (by assumption) (by omega))))))))
          (repeat (first | (with_reducible refine Then.go ?_) | (with_reducible refine Out.go ?_) | (with_reducible refine Wx.reg ?_) | ((with_reducible refine Wseq.nil ?_); intro e he; (simp (decide := true) only [kz] at he; subst he)) | ((with_reducible apply Wseq.mv); rfl; (intro v hv; (simp (decide := true) only [kw] at hv); subst hv)) | ((with_reducible apply Wseq.as); rfl; (intro v hv; (simp (decide := true) only [kw] at hv); subst hv)) | ((with_reducible apply Wseq.stg (op := Op.binOp BinOp.add _ _ _ _)); rfl; exact to_add rfl rfl (by omega) (by omega))))
          refine RoundE.go (n - (i + 1)) (EVs _ dim n _ (z + 1) _) (by omega) (by (refine EqK.of ?_ ?_ <;> (repeat (first | (exact all_nil) | (apply all_cons; rfl))))) ⟨i + 1, z + 1, _, _, _, _, _, _, rfl, by omega, rfl, by omega, (by ((repeat (apply Fresh.put; omega)); ((exact Fresh.up (by assumption) (by omega))))), (by (repeat (first | (assumption) | (apply Kp.set; (focus (left; omega)))))), ?_, (by (repeat (first | (assumption) | (apply Lg.cons; (focus (left; omega)))))), by omega, by omega, rfl⟩
          rw [hst]
          refine .inr ⟨c1 + 1, _, ?_, (fun e => by simp at e), by omega, Has.same, ?_, fun j zs hj => ?_⟩
          · rw [List.length_append]; rfl
          · rw [List.length_append, List.length_append, hvl]; rfl
          · rcases Nat.lt_or_ge j (vecsZ zss dim i).length with hj1 | hj1
            · rw [List.getElem?_append_left hj1] at hj
              obtain ⟨g1, bi, g2, g3, g4⟩ := hel j zs hj
              refine ⟨g1, bi, by rw [List.getElem?_append_left (by omega)]; exact g2, g3, ?_⟩
              have := g4.lt fr1
              have nb : bi ≠ bl := by
                rintro rfl
                unfold Has at g4 hbc
                rw [g4] at hbc
                cases hbc
                rw [List.getElem?_map, Option.map_eq_some_iff] at g2
                obtain ⟨y, _, hy⟩ := g2
                cases hy
              exact ((g4.other (by omega)).other nb).other (by omega)
            · rw [List.getElem?_append_right hj1] at hj
              have hj0 : j - (vecsZ zss dim i).length = 0 := by
                rcases Nat.eq_zero_or_pos (j - (vecsZ zss dim i).length) with q | q
                · exact q
                · rw [List.getElem?_eq_none (by simp; omega)] at hj; cases hj
              rw [hj0] at hj
              simp only [List.getElem?_cons_zero, Option.some.injEq] at hj
              subst hj
              refine ⟨vecZ_len _ _, c', by rw [List.getElem?_append_right (by omega), hvl, hj0]; rfl, hcc, ?_⟩
              have nb : c' ≠ bl := by have := hbv' bl rfl; omega
              exact ((hnew.other (by omega)).other nb).other (by omega)
      · (repeat (first | (with_reducible refine Then.go ?_) | (with_reducible refine Then.ex ?_) | (with_reducible refine Out.hit ?_) | (with_reducible refine Wx.seq ?_) | (with_reducible refine Wx.exit ?_) | (with_reducible refine Wx.ret ?_) | (with_reducible refine Wx.reg ?_) | (with_reducible refine RoundE.ex ?_) | (refine Wx.condF rfl (by rfl) ?_) | ((with_reducible refine Wseq.nil ?_); intro e he; (simp (decide := true) only [kz] at he; subst he)) | ((with_reducible apply Wseq.mv); rfl; (intro v hv; (simp (decide := true) only [kw] at hv); subst hv)) | ((with_reducible apply Wseq.as); rfl; (intro v hv; (simp (decide := true) only [kw] at hv); subst hv)) | ((with_reducible apply Wseq.pkT); rfl; rfl; (intro v hv; (simp (decide := true) only [kw] at hv); subst hv)) | ((with_reducible apply Wseq.stg (op := Op.call ⟨Callee.builtin Builtin.len, _, _⟩)); rfl; exact to_lenS (sl_ rfl) rfl) | ((with_reducible apply Wseq.stg (op := Op.binOp BinOp.lss _ _ _ _)); rfl; exact to_lssT rfl rfl (by omega)) | ((with_reducible apply Wseq.stg (op := Op.binOp BinOp.lss _ _ _ _)); rfl; exact to_lssF rfl rfl (by omega))))
        refine ⟨.inr rfl, Wres.one rfl ⟨?_, ?_⟩⟩
        · rw [← fin (by omega)]; exact hV
        · exact Ext.of hcc hf' hkp (lgR _) (by (repeat ((assumption))))
    · (repeat (first | (with_reducible refine Then.go ?_) | (with_reducible refine Then.ex ?_) | (with_reducible refine Out.hit ?_) | (with_reducible refine Wx.seq ?_) | (with_reducible refine Wx.exit ?_) | (with_reducible refine Wx.ret ?_) | (with_reducible refine Wx.reg ?_) | (with_reducible refine RoundE.ex ?_) | (refine Wx.condF rfl (by rfl) ?_) | ((with_reducible refine Wseq.nil ?_); intro e he; (simp (decide := true) only [kz] at he; subst he)) | ((with_reducible apply Wseq.mv); rfl; (intro v hv; (simp (decide := true) only [kw] at hv); subst hv)) | ((with_reducible apply Wseq.as); rfl; (intro v hv; (simp (decide := true) only [kw] at hv); subst hv)) | ((with_reducible apply Wseq.pkF); rfl; rfl; (intro v hv; (simp (decide := true) only [kw] at hv); subst hv)) | ((with_reducible apply Wseq.stg (op := Op.call ⟨Callee.builtin Builtin.len, _, _⟩)); rfl; exact to_lenS (sl_ rfl) rfl) | ((with_reducible apply Wseq.stg (op := Op.binOp BinOp.lss _ _ _ _)); rfl; exact to_lssF rfl rfl (by omega)) | (refine Wseq.no rfl ?_)))
      refine ⟨.inr rfl, Wres.one rfl ⟨?_, ?_⟩⟩
      · rw [← fin (by omega)]; exact hV
      · exact Ext.of hcc hf' hkp (lgR _) (by (repeat ((assumption))))

end Go.Ab.Seat
end
