import Derived.Test.YtmpijgfndnikpaaGreatDoorBFC0
import Derived.Test.YtmpijgfndnikpaaGreatDoorE23
import Derived.Test.YtmpijgfndnikpaaGreatDoorBQ3
set_option linter.unusedVariables false
set_option linter.unusedSimpArgs false
section
/- fail.Code is known: of nil, of an error that says where. -/
namespace Go.Ab.Seat
open Go.Extern Go.Proofs Go.RowKit
set_option maxRecDepth 1000000

noncomputable def codeIn (z : Int) : Bool := errnos.any fun y => decide (y = z)

noncomputable def gCode1 (cs : List Value) : M Value :=
  match cs with
  | [.string _, .iface 55 (.int .i64 z)] => bif codeIn z then M.ret (.int .i64 z) else M.fail
  | _ => M.fail

/-- What fail.Code answers. -/
noncomputable def gCode (args : List Value) : M Value :=
  match args with
  | [.nilIface] => globOk.bind fun _ => M.ret (.int .i64 0)
  | [.iface 252 (.pointer (some ⟨b, 0, none⟩))] => globOk.bind fun _ => (getCells b).bind gCode1
  | _ => M.fail

theorem local_globOk : Local globOk := by
  unfold globOk
  refine Local.bind (local_getCells _) fun c0 => Local.bind (local_getCells _) fun c1 => ?_
  split
  · split
    · rename_i r u _ _ e _
      cases (Nat.beq r tRt && Nat.beq e tErr)
      · exact Local.fail
      · exact Local.ret _
    · exact Local.fail
  · exact Local.fail

theorem local_gCode (args : List Value) : Local (gCode args) := by
  unfold gCode
  split
  · exact Local.bind local_globOk fun _ => Local.ret _
  · refine Local.bind local_globOk fun _ => Local.bind (local_getCells _) fun cs => ?_
    unfold gCode1
    split
    · rename_i z
      cases codeIn z
      · exact Local.fail
      · exact Local.ret _
    · exact Local.fail
  · exact Local.fail

/-- What is laid, from a heap that meets the check. -/
theorem laid_hr {ι : Iota} {s s1 : St} {u : Unit} {w : World} (hr : HR 3 ι s.h w.heap) (h1 : globOk s = some (u, s1)) : Laid w := by
  obtain ⟨e1, e2, g0, y, g1, hy⟩ := globOk_some h1
  obtain ⟨L0, c0, t0, fr0, hL0, hH0, hc0⟩ := hr.cells g0
  obtain ⟨L1, c1, t1, fr1, hL1, hH1, hc1⟩ := hr.cells g1
  obtain ⟨M0, hM0, b0, o0⟩ := hr.glob 1 (by decide)
  obtain ⟨M1, hM1, b1, o1⟩ := hr.glob 0 (by decide)
  obtain ⟨M2, hM2, b2, _⟩ := hr.glob 2 (by decide)
  rw [hL0] at hM0; cases hM0
  rw [hL1] at hM1; cases hM1
  refine ⟨⟨c0, t0, fr0, by rw [← b0]; exact hH0, by have := hc0.2.1; omega, fun i x hx => ?_⟩, ⟨c1, t1, fr1, by rw [← b1]; exact hH1, ?_⟩, by have := hr.lt _ _ hM2; omega⟩
  · obtain ⟨z, hz, hv⟩ := hc0.2.2 i x hx
    rw [o0, Nat.zero_add] at hz
    have hxm := List.mem_of_getElem? hx
    unfold tab at hxm
    obtain ⟨n, _, rfl⟩ := List.mem_map.1 hxm
    cases hv
    exact hz
  · obtain ⟨z, hz, hv⟩ := hc1.2.2 0 _ rfl
    rw [o1] at hz
    cases hv with
    | iface _ _ z' hv =>
      rw [unRt_VR hr hy hv] at hz
      exact hz

/-- One block more in an abstract heap, over the same world. -/
theorem HR.add {G : Nat} {ι : Iota} {h : T AObj} {H : Array Obj} (hr : HR G ι h H) {c : Nat} {o : AObj} {L : Loc} (hc : h.get c = none) (hi : ι c = none) (hO : OR (ι.upd c L) L H o) (hL : L.blk < H.size)
    (hne : ∀ b o' L', h.get b = some o' → ι b = some L' → L'.blk ≠ L.blk) : HR G (ι.upd c L) (h.set c (some o)) H := by
  have hle := Iota.le_upd (ι := ι) (c := c) L hi
  have old : ∀ {b o'}, (h.set c (some o)).get b = some o' → b ≠ c → h.get b = some o' := fun {b o'} hb hn => by rw [T.get_set, if_neg hn] at hb; exact hb
  refine ⟨?_, ?_, ?_, ?_⟩
  · intro b o' hb
    by_cases hbc : b = c
    · subst hbc
      rw [T.get_set, if_pos rfl] at hb
      cases hb
      exact ⟨L, Iota.upd_same _ _ _, hO⟩
    · obtain ⟨L', h1, h2⟩ := hr.obj b o' (old hb hbc)
      exact ⟨L', hle _ _ h1, h2.mono hle⟩
  · intro b1 b2 o1 o2 L1 L2 g1 g2 i1 i2 he
    by_cases h1 : b1 = c
    · by_cases h2 : b2 = c
      · rw [h1, h2]
      · rw [h1, Iota.upd_same] at i1
        cases i1
        rw [Iota.upd_ne _ _ h2] at i2
        exact absurd he.symm (hne b2 o2 L2 (old g2 h2) i2)
    · rw [Iota.upd_ne _ _ h1] at i1
      by_cases h2 : b2 = c
      · rw [h2, Iota.upd_same] at i2
        cases i2
        exact absurd he (hne b1 o1 L1 (old g1 h1) i1)
      · rw [Iota.upd_ne _ _ h2] at i2
        exact hr.inj b1 b2 o1 o2 L1 L2 (old g1 h1) (old g2 h2) i1 i2 he
  · intro b L' hb
    by_cases h1 : b = c
    · rw [h1, Iota.upd_same] at hb
      cases hb; exact hL
    · rw [Iota.upd_ne _ _ h1] at hb
      exact hr.lt b L' hb
  · intro g hg
    obtain ⟨L', h1, h2⟩ := hr.glob g hg
    exact ⟨L', hle _ _ h1, h2⟩

theorem isI_some {x : Option (Value × St)} {z : Int} (h : isI x z = true) : ∃ s, x = some (.int .i64 z, s) := by
  unfold isI at h
  split at h
  · rw [of_decide_eq_true h]; exact ⟨_, rfl⟩
  · cases h

theorem code_calls_nil {w : World} (hl : Laid w) : Callable Tryz.prog fCode ∧ Calls Tryz.prog fCode #[.nilIface] w fun e w' => e = .returned (.int .i64 0) ∧ Below w.heap.size w w' := by
  obtain ⟨s', hc⟩ := isI_some runNil
  refine calls_of_abs wholeE 10000 fCode (args' := [.nilIface]) hc (VRl.cons .nilIface (VRl.nil _)) hl.hr (fun b h1 _ => ?_) fun v' w' ι' hv hp => ?_
  · show ι0 w b = none
    have : 3 ≤ b := h1
    exact if_neg (by omega)
  · cases hv
    exact ⟨rfl, hp.os, hp.tape, hp.output, hp.size, fun k hk => hp.frame k hk s0_owned⟩

theorem sE_owned {ι : Iota} {w : ByteArray} {z : Int} {k : Nat} : ¬Owned ι (sE w z).h k := by
  rintro ⟨b, o, L, h1, h2, h3⟩
  have e : (sE w z).h.get b = if b = 3 then some (.ro [.string w, .iface 55 (.int .i64 z)]) else s0.h.get b := by
    show (s0.h.set 3 (some (.ro [.string w, .iface 55 (.int .i64 z)]))).get b = _
    rw [T.get_set]
  rw [e] at h1
  split at h1
  · cases h1; cases h2
  · exact s0_owned ⟨b, o, L, h1, h2, h3⟩

theorem code_calls {w : World} (hl : Laid w) {a : Addr} {str : ByteArray} {z : Int} (hz : codeIn z = true) {c : Array Value} {t : TypeId} {fr : Nat × Nat} (hH : w.heap[a.block]? = some (.cells c t fr)) (h0 : c[a.off]? = some (.string str)) (h1 : c[a.off + 1]? = some (.iface 55 (.int .i64 z)))
    (hs : a.spot = none) (n0 : a.block ≠ 0) (n1 : a.block ≠ 1) :
    Callable Tryz.prog fCode ∧ Calls Tryz.prog fCode #[.iface 252 (.pointer (some a))] w fun e w' => e = .returned (.int .i64 z) ∧ Below w.heap.size w w' := by
  have hz' : z ∈ errnos := by
    obtain ⟨y, hy, he⟩ := List.any_eq_true.1 hz
    rw [← of_decide_eq_true he]; exact hy
  have hrun := runCodes str
  rw [allB_eq, List.all_eq_true] at hrun
  obtain ⟨s', hc⟩ := isI_some (hrun z hz')
  obtain ⟨b, o, sp⟩ := a
  simp only at hs hH h0 h1 n0 n1
  subst hs
  have hlt := (Array.getElem?_eq_some_iff.1 hH).1
  have hr := hl.hr
  have i3 : ι0 w 3 = none := if_neg (by omega)
  have hr' : HR 3 ((ι0 w).upd 3 ⟨b, o, c.size⟩) (sE str z).h w.heap := by
    refine HR.add hr (by rw [s0_get, if_neg (by omega), if_neg (by omega)]) i3 ?_ hlt ?_
    · refine ⟨c, t, fr, hH, rfl, ?_, ?_⟩
      · have := (Array.getElem?_eq_some_iff.1 h1).1
        show o + 2 ≤ c.size
        omega
      · intro i x hx
        match i, hx with
        | 0, hx => cases hx; exact ⟨_, h0, .string _⟩
        | 1, hx => cases hx; exact ⟨_, h1, .iface _ _ _ (.int _ _)⟩
        | i + 2, hx => simp at hx
    · intro b' o' L' hb' hL' he
      rw [s0_get] at hb'
      unfold ι0 at hL'
      split at hL'
      · cases hL'
        simp only at he
        subst he
        rw [if_neg n0, if_neg n1] at hb'
        cases hb'
      · cases hL'
  refine calls_of_abs wholeE 10000 fCode (args' := [.iface 252 (.pointer (some ⟨b, o, none⟩))]) hc (VRl.cons (.iface _ _ _ ?_) (VRl.nil _)) hr' (fun x h2 _ => ?_) fun v' w' ι' hv hp => ?_
  · have := VR.ptr (ι := (ι0 w).upd 3 ⟨b, o, c.size⟩) 3 0 ⟨b, o, c.size⟩ (Iota.upd_same _ _ _)
    exact this
  · have h3 : 4 ≤ x := h2
    rw [Iota.upd_ne _ _ (by omega)]
    exact if_neg (by omega)
  · cases hv
    exact ⟨rfl, hp.os, hp.tape, hp.output, hp.size, fun k hk => hp.frame k hk sE_owned⟩

theorem smCode : SmOne fCode gCode := by
  refine ⟨local_gCode, ?_⟩
  intro args s s' v ι w args' R hg ha hr _ hR
  unfold gCode at hg
  split at hg
  · obtain ⟨u, s1, h1, h2⟩ := bind_some hg
    obtain ⟨rfl, rfl⟩ := ret_some h2
    obtain ⟨y, l', rfl, hy, hl'⟩ := ha.cons_inv
    obtain rfl := hl'.nil_inv
    cases hy
    obtain ⟨e1, e2, _⟩ := globOk_some h1
    obtain ⟨hcall, hcalls⟩ := code_calls_nil (laid_hr hr h1)
    refine ⟨hcall, Calls.mono hcalls ?_⟩
    rintro e w' ⟨rfl, hb⟩
    exact hR _ w' ι (.int _ _) (Post.grown0 hr hb e1 e2)
  · rename_i b
    obtain ⟨u, s1, h1, h2⟩ := bind_some hg
    obtain ⟨cs, s2, h3, h4⟩ := bind_some h2
    obtain ⟨e1, e2, g0, yv, g1, hyv⟩ := globOk_some h1
    obtain ⟨g, _, rfl⟩ := getCells_some h3
    unfold gCode1 at h4
    split at h4
    · rename_i str z
      cases hz : codeIn z with
      | false => rw [hz] at h4; exact (fail_some (s := ⟨s1.h, s1.c, b :: s1.rl, s1.wl⟩) h4).elim
      | true =>
        rw [hz] at h4
        obtain ⟨rfl, rfl⟩ := ret_some h4
        obtain ⟨y, l', rfl, hy, hl'⟩ := ha.cons_inv
        obtain rfl := hl'.nil_inv
        rw [e1] at g
        obtain ⟨L, c, t, fr, hL, hH, hcr⟩ := hr.cells g
        obtain ⟨y0, hy0, hv0⟩ := hcr.2.2 0 _ rfl
        obtain ⟨y1, hy1, hv1⟩ := hcr.2.2 1 _ rfl
        cases hv0
        cases hv1 with
        | iface _ _ v1 hv1 =>
        cases hv1
        cases hy with
        | iface _ _ v2 hv2 =>
        cases hv2 with
        | ptr _ _ L' hL' =>
        rw [hL] at hL'
        cases hL'
        have ne : ∀ k, k < 2 → L.blk ≠ k := by
          intro k hk he
          obtain ⟨M0, hM0, b0, _⟩ := hr.glob k (by omega)
          have hb : ∃ o, s.h.get b = some o := by rcases g with q | q | q <;> exact ⟨_, q⟩
          have hk' : ∃ o, s.h.get k = some o := by
            match k, hk with
            | 0, _ => rcases g1 with q | q | q <;> exact ⟨_, q⟩
            | 1, _ => rcases g0 with q | q | q <;> exact ⟨_, q⟩
          obtain ⟨o1, ho1⟩ := hb
          obtain ⟨o2, ho2⟩ := hk'
          have := hr.inj b k o1 o2 L M0 ho1 ho2 hL hM0 (by rw [he, b0])
          subst this
          match b, hk with
          | 0, _ => rcases g with q | q | q <;> rcases g1 with q1 | q1 | q1 <;> (rw [q] at q1; cases q1)
          | 1, _ => rcases g with q | q | q <;> rcases g0 with q1 | q1 | q1 <;> (rw [q] at q1; cases q1)
        obtain ⟨hcall, hcalls⟩ := code_calls (laid_hr hr h1) (a := ⟨L.blk, L.off + 0, none⟩) hz hH hy0 hy1 rfl (ne 0 (by omega)) (ne 1 (by omega))
        refine ⟨hcall, Calls.mono hcalls ?_⟩
        rintro e w' ⟨rfl, hb⟩
        exact hR _ w' ι (.int _ _) (Post.grown0 hr hb e1 e2)
    · exact (fail_some h4).elim
  · exact (fail_some hg).elim
#print axioms smCode
end Go.Ab.Seat
end
section
/- The laws' own ground: begun is known; what is known and not run. -/
namespace Go.Ab.Seat
open Go.Extern Go.Proofs
set_option linter.unusedSimpArgs false
set_option linter.unusedVariables false
set_option maxRecDepth 1000000

noncomputable def smQ : Nat → Option (List Value → M Value) := smIns fun f => bif Nat.beq f fCode then some gCode else bif Nat.beq f fSorted then some (sumSorted kindOf) else bif Nat.beq f fBegun18 then some gTrue else bif Nat.beq f fBegun13 then some gTrue else bif Nat.beq f fBegun7 then some gTrue else bif Nat.beq f fBegun4 then some gTrue else bif Nat.beq f fBegun1 then some gTrue else none
noncomputable def CQ : Ctx := Cs smQ
theorem wholeQ : CQ.Whole eg Tryz.prog 3 := whole _ (smOk _ (smIns_one (one_more smCode (one_more smSorted (one_more begun18 (one_more begun13 (one_more begun7 (one_more begun4 (one_more begun1 fun f g hg => by cases hg)))))))))

theorem stdQ : Std smQ := by
  intro f hf
  have h : ∀ k ∈ [50, 25, 102, 205, 261, 104, 155, 193, 37], Nat.beq f k = false := by
    intro k hk
    refine beq_false.2 fun e => ?_
    subst e
    unfold special at hf
    rw [List.contains_eq_mem] at hf
    simp [hk] at hf
  simp only [List.mem_cons, List.not_mem_nil, or_false, forall_eq_or_imp, forall_eq] at h
  obtain ⟨h1, h2, h3, h4, h5, h6, h7, h8, h9⟩ := h
  show smIns _ f = none
  unfold smIns
  simp only [show Nat.beq f fCode = false from h9, show Nat.beq f fInsHit = false from h8, show Nat.beq f fInsInt = false from h7, show Nat.beq f fSorted = false from h6, show Nat.beq f fBegun18 = false from h1, show Nat.beq f fBegun13 = false from h2, show Nat.beq f fBegun7 = false from h3, show Nat.beq f fBegun4 = false from h4, show Nat.beq f fBegun1 = false from h5, cond_false]

theorem eqAll_tab : eqAll tab tab = true := by kernel_rfl

/-- What is laid. -/
structure Glob (h : T AObj) : Prop where
  g0 : Has h 0 (.ro [rt tErr])
  g1 : Has h 1 (.ro tab)

theorem globOk_run {h : T AObj} {c : Nat} {rl wl : List Nat} (hf : Fresh h c) (hg : Glob h) : globOk ⟨h, c, rl, wl⟩ = some ((), ⟨h, c, 0 :: 1 :: rl, wl⟩) := by
  unfold globOk
  rw [bind_run (getCells_run hg.g1.celR (hg.g1.lt hf)), bind_run (getCells_run hg.g0.celR (hg.g0.lt hf))]
  rw [eqAll_tab]
  rfl

theorem begunQ {h : T AObj} {c : Nat} {rl wl : List Nat} (hf : Fresh h c) (hg : Glob h) : ∃ v s', FnTo (Cs smQ) eg 50 [] ⟨h, c, rl, wl⟩ v s' ∧ (v = .bool true ∧ s' = ⟨h, c, 0 :: 1 :: rl, wl⟩) := by
  refine ⟨_, _, ⟨0, ?_⟩, rfl, rfl⟩
  have hs : (Cs smQ).sm 50 = some gTrue := rfl
  unfold callF
  rw [hs]
  show gTrue [] _ = _
  have h0 := hg.g0.lt hf
  have h1 := hg.g1.lt hf
  have : globOk ⟨h, c, rl, wl⟩ = some ((), ⟨h, c, 0 :: 1 :: rl, wl⟩) := by
    unfold globOk
    rw [bind_run (getCells_run hg.g1.celR h1), bind_run (getCells_run hg.g0.celR h0)]
    rw [eqAll_tab]
    rfl
  show (globOk.bind fun _ => M.ret (Value.bool true)) _ = _
  rw [bind_run this]; rfl

theorem tmod_lt (n : Int) (c : Int) (hc : 0 < c) : -c < n.tmod c ∧ n.tmod c < c := by
  have h1 : n.tmod c < c := Int.tmod_lt_of_pos n hc
  have h3 := Int.tmod_lt_of_pos (-n) hc
  rw [Int.neg_tmod] at h3
  omega

/-- fail.Code's answer. -/
theorem code_nil {h : T AObj} {c : Nat} {rl wl : List Nat} (hf : Fresh h c) (hg : Glob h) : ∃ v s', FnTo (Cs smQ) eg 37 [.nilIface] ⟨h, c, rl, wl⟩ v s' ∧ (v = .int .i64 0 ∧ s' = ⟨h, c, 0 :: 1 :: rl, wl⟩) := by
  refine ⟨_, _, ⟨0, ?_⟩, rfl, rfl⟩
  have hs : (Cs smQ).sm 37 = some gCode := rfl
  unfold callF
  rw [hs]
  show gCode [.nilIface] _ = _
  show (globOk.bind fun _ => M.ret (Value.int .i64 0)) _ = _
  rw [bind_run (globOk_run hf hg)]; rfl

theorem code_at {h : T AObj} {c b : Nat} {rl wl : List Nat} (hf : Fresh h c) (hg : Glob h) {w : ByteArray} {z : Int} (hb : Has h b (.cells [.string w, .iface 55 (.int .i64 z)])) (hz : codeIn z = true) :
    ∃ v s', FnTo (Cs smQ) eg 37 [.iface 252 (.pointer (some ⟨b, 0, none⟩))] ⟨h, c, rl, wl⟩ v s' ∧ (v = .int .i64 z ∧ s' = ⟨h, c, b :: 0 :: 1 :: rl, wl⟩) := by
  refine ⟨_, _, ⟨0, ?_⟩, rfl, rfl⟩
  have hs : (Cs smQ).sm 37 = some gCode := rfl
  unfold callF
  rw [hs]
  show gCode [.iface 252 (.pointer (some ⟨b, 0, none⟩))] _ = _
  show (globOk.bind fun _ => (getCells b).bind gCode1) _ = _
  rw [bind_run (globOk_run hf hg), bind_run (getCells_run hb.cel (hb.lt hf))]
  show (bif codeIn z then M.ret (Value.int .i64 z) else M.fail) _ = _
  rw [hz]; rfl
end Go.Ab.Seat
end
