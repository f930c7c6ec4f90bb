import Derived.Test.YtofikbfljjjgeaaGreatDoorDS13
import Derived.Test.YtofikbfljjjgeaaGreatDoorE31
import Derived.Test.YtofikbfljjjgeaaGreatDoorE22
import Derived.Test.YtofikbfljjjgeaaGreatDoorDI2
import Derived.Test.YtofikbfljjjgeaaGreatDoorDI1
import Derived.Test.YtofikbfljjjgeaaGreatDoorDX1
import Derived.Test.YtofikbfljjjgeaaGreatDoorDF2
set_option linter.unusedVariables false
set_option linter.unusedSimpArgs false
section
/- The machine with law 13's begun known. -/
namespace Go.Ab.Seat
open Go.Extern Go.Proofs
set_option maxRecDepth 1000000
end Go.Ab.Seat
end
section
/- The end of a function run by the abstract machine: from a place in the midst of a walk on. -/
namespace Go.Ab
open Go.RowKit (Below)
section
variable {C : Ctx} {eg : TypeId → Bool} {P : Program} {G : Nat}
end
def Code.l : Code → Code | .seq a _ => a | c => c
def Code.r : Code → Code | .seq _ b => b | c => c
end Go.Ab
end
section
/- A closed call with plain arguments, as a contract. -/
namespace Go.Ab
noncomputable def exact : Nat → Value → Bool
 | 0, _ => false
 | d + 1, v =>
  match v with
  | .bool _ => true
  | .int _ _ => true
  | .string _ => true
  | .pointer none => true
  | .slice none _ _ => true
  | .map none => true
  | .nilIface => true
  | .agg cs => allB (exact d) cs.toList
  | .tuple cs => allB (exact d) cs.toList
  | _ => false
end Go.Ab
end
section
/- Closed calls with plain arguments: what they give. -/
namespace Go.Ab.Seat
open Go.Extern Go.Proofs Go.RowKit
end Go.Ab.Seat
end
section
/- The laws' own ground: begun is known; what is known and not run. -/
namespace Go.Ab.Seat
open Go.Extern Go.Proofs
set_option maxRecDepth 1000000
noncomputable def smQ : Nat → Option (List Value → M Value) := fun f => bif Nat.beq f fInsHit then some gIns else smIns (fun f => bif Nat.beq f fSorted then some (sumSorted kindOf) else bif Nat.beq f fBegun13 then some gTrue else bif Nat.beq f fBegun7 then some gTrue else bif Nat.beq f fBegun4 then some gTrue else bif Nat.beq f fBegun1 then some gTrue else none) f
noncomputable def CQ : Ctx := Cs smQ
theorem wholeQ : CQ.Whole eg Tryz.prog 3 := whole _ (smOk _ (one_more smInsG (smIns_one (one_more smSorted (one_more begun13 (one_more begun7 (one_more begun4 (one_more begun1 fun f g hg => by cases hg))))))))
theorem stdQ : Std smQ := by
 intro f hf
 have h : ∀ k ∈ [15, 71, 195, 262, 84, 144, 200], Nat.beq f k = false := by
  intro k hk
  refine beq_false.2 fun e => ?_
  subst e
  unfold special at hf
  rw [List.contains_eq_mem] at hf
  simp [hk] at hf
 simp only [List.mem_cons, List.not_mem_nil, or_false, forall_eq_or_imp, forall_eq] at h
 obtain ⟨h2, h3, h4, h5, h6, h7, h8⟩ := h
 show (bif Nat.beq f fInsHit then some gIns else smIns _ f) = none
 unfold smIns
 simp only [show Nat.beq f fInsHit = false from h8, show Nat.beq f fInsInt = false from h7, show Nat.beq f fSorted = false from h6, show Nat.beq f fBegun13 = false from h2, show Nat.beq f fBegun7 = false from h3, show Nat.beq f fBegun4 = false from h4, show Nat.beq f fBegun1 = false from h5, cond_false]
theorem eqAll_tab : eqAll tab tab = true := by kernel_rfl
structure Glob (h : T AObj) : Prop where
 g0 : Has h 0 (.ro tab)
 g1 : Has h 1 (.ro [rt tErr])
theorem globOk_run {h : T AObj} {c : Nat} {rl wl : List Nat} (hf : Fresh h c) (hg : Glob h) : globOk ⟨h, c, rl, wl⟩ = some ((), ⟨h, c, 1 :: 0 :: rl, wl⟩) := by
 unfold globOk
 rw [bind_run (getCells_run hg.g0.celR (hg.g0.lt hf)), bind_run (getCells_run hg.g1.celR (hg.g1.lt hf))]
 rw [eqAll_tab]
 rfl
theorem begunQ {h : T AObj} {c : Nat} {rl wl : List Nat} (hf : Fresh h c) (hg : Glob h) : ∃ v s', FnTo (Cs smQ) eg 15 [] ⟨h, c, rl, wl⟩ v s' ∧ (v = .bool true ∧ s' = ⟨h, c, 1 :: 0 :: rl, wl⟩) := by
 refine ⟨_, _, FnTo.of_sm (q := gTrue) rfl ?_, rfl, rfl⟩
 show (globOk.bind fun _ => M.ret (Value.bool true)) _ = _
 rw [bind_run (globOk_run hf hg)]; rfl
theorem tmod_lt (n : Int) (c : Int) (hc : 0 < c) : -c < n.tmod c ∧ n.tmod c < c := by
 have h1 : n.tmod c < c := Int.tmod_lt_of_pos n hc
 have h3 := Int.tmod_lt_of_pos (-n) hc
 rw [Int.neg_tmod] at h3
 omega
end Go.Ab.Seat
end
section
/- slices.SortFunc of a dozen hits or fewer; vectors in a row (the abstract machine). -/
namespace Go.Ab.Seat
open Go.Extern Go.Proofs
set_option maxRecDepth 4000
theorem blen0 (s : St) : callF (Cs smQ) (exec (Cs smQ) eg 60) 209 [.int .u64 0] s = some (.int .i64 0, s) := by kernel_rfl
theorem blen1 (s : St) : callF (Cs smQ) (exec (Cs smQ) eg 60) 209 [.int .u64 1] s = some (.int .i64 1, s) := by kernel_rfl
theorem blen2 (s : St) : callF (Cs smQ) (exec (Cs smQ) eg 60) 209 [.int .u64 2] s = some (.int .i64 2, s) := by kernel_rfl
theorem blen3 (s : St) : callF (Cs smQ) (exec (Cs smQ) eg 60) 209 [.int .u64 3] s = some (.int .i64 2, s) := by kernel_rfl
theorem blen4 (s : St) : callF (Cs smQ) (exec (Cs smQ) eg 60) 209 [.int .u64 4] s = some (.int .i64 3, s) := by kernel_rfl
theorem blen5 (s : St) : callF (Cs smQ) (exec (Cs smQ) eg 60) 209 [.int .u64 5] s = some (.int .i64 3, s) := by kernel_rfl
theorem blen6 (s : St) : callF (Cs smQ) (exec (Cs smQ) eg 60) 209 [.int .u64 6] s = some (.int .i64 3, s) := by kernel_rfl
theorem blen7 (s : St) : callF (Cs smQ) (exec (Cs smQ) eg 60) 209 [.int .u64 7] s = some (.int .i64 3, s) := by kernel_rfl
theorem blen8 (s : St) : callF (Cs smQ) (exec (Cs smQ) eg 60) 209 [.int .u64 8] s = some (.int .i64 4, s) := by kernel_rfl
theorem blen9 (s : St) : callF (Cs smQ) (exec (Cs smQ) eg 60) 209 [.int .u64 9] s = some (.int .i64 4, s) := by kernel_rfl
theorem blen10 (s : St) : callF (Cs smQ) (exec (Cs smQ) eg 60) 209 [.int .u64 10] s = some (.int .i64 4, s) := by kernel_rfl
theorem blen11 (s : St) : callF (Cs smQ) (exec (Cs smQ) eg 60) 209 [.int .u64 11] s = some (.int .i64 4, s) := by kernel_rfl
theorem blen12 (s : St) : callF (Cs smQ) (exec (Cs smQ) eg 60) 209 [.int .u64 12] s = some (.int .i64 4, s) := by kernel_rfl
theorem blen_spec (s : St) {n : Nat} (hn : n ≤ 12) : ∃ r s', FnTo (Cs smQ) eg 209 [.int .u64 (wrapA .u64 (n : Int))] s r s' ∧ (∃ z, r = .int .i64 z) ∧ s' = s := by
 have h3 : n = 0 ∨ n = 1 ∨ n = 2 ∨ n = 3 ∨ n = 4 ∨ n = 5 ∨ n = 6 ∨ n = 7 ∨ n = 8 ∨ n = 9 ∨ n = 10 ∨ n = 11 ∨ n = 12 := by omega
 rcases h3 with rfl | rfl | rfl | rfl | rfl | rfl | rfl | rfl | rfl | rfl | rfl | rfl | rfl
 ·exact ⟨_, _, ⟨60, blen0 s⟩, ⟨_, rfl⟩, rfl⟩
 ·exact ⟨_, _, ⟨60, blen1 s⟩, ⟨_, rfl⟩, rfl⟩
 ·exact ⟨_, _, ⟨60, blen2 s⟩, ⟨_, rfl⟩, rfl⟩
 ·exact ⟨_, _, ⟨60, blen3 s⟩, ⟨_, rfl⟩, rfl⟩
 ·exact ⟨_, _, ⟨60, blen4 s⟩, ⟨_, rfl⟩, rfl⟩
 ·exact ⟨_, _, ⟨60, blen5 s⟩, ⟨_, rfl⟩, rfl⟩
 ·exact ⟨_, _, ⟨60, blen6 s⟩, ⟨_, rfl⟩, rfl⟩
 ·exact ⟨_, _, ⟨60, blen7 s⟩, ⟨_, rfl⟩, rfl⟩
 ·exact ⟨_, _, ⟨60, blen8 s⟩, ⟨_, rfl⟩, rfl⟩
 ·exact ⟨_, _, ⟨60, blen9 s⟩, ⟨_, rfl⟩, rfl⟩
 ·exact ⟨_, _, ⟨60, blen10 s⟩, ⟨_, rfl⟩, rfl⟩
 ·exact ⟨_, _, ⟨60, blen11 s⟩, ⟨_, rfl⟩, rfl⟩
 ·exact ⟨_, _, ⟨60, blen12 s⟩, ⟨_, rfl⟩, rfl⟩
theorem pdq_spec {h : T AObj} {c : Nat} {rl wl : List Nat} (hf : Fresh h c) {b n : Nat} {l : List Ht} (hb : Has h b (.cells (flatH l))) (hn : l.length = n) (hn' : n ≤ 12) (hd : (l.map Ht.id).Nodup) (lim : Int) :
  ∃ r s', FnTo (Cs smQ) eg 219 [.slice (some ⟨b, 0, none⟩) n n, .int .i64 0, .int .i64 (n : Int), .int .i64 lim, .func (.func 186) #[] #[]] ⟨h, c, rl, wl⟩ r s' ∧ Has s'.h b (.cells (flatH (bestOf n l))) ∧ Ext ⟨h, c, rl, wl⟩ s' (fun x => x = b) (fun x => x = b) := by
 have lb := hb.lt hf
 refine Fn.go (stdQ 219 rfl) ex219 fn219 km219 rfl rfl ?_
 refine Zev ?_
 refine Zgo ?_
 refine Wx.loop1 ?_
 refine Zgo ?_
 refine Wseq.call rfl rfl (isort_spec stdQ Zfr hb hn (by omega) hd) ?_
 rintro v h1 c1 r1 w1 ⟨hb1, hext⟩
 have kp := Kp.ext (W := fun x => x = b) (h := h) (c := c) Zkp hext (by omega) (fun _ _ q => q)
 have lr := Lg.extR (R := fun x => x = b) (c := c) Zlg hext (fun _ _ q => q)
 have lw := Lg.extW (W := fun x => x = b) (c := c) Zlg hext (fun _ _ q => q)
 have fr1 := hext.fresh
 have le1 := hext.c
 simp only at le1 fr1
 refine Zgo ?_
 refine ⟨.inr rfl, Wres.nil ⟨hb1, ?_⟩⟩
 exact Zex
theorem sortf_spec {h : T AObj} {c : Nat} {rl wl : List Nat} (hf : Fresh h c) {b n : Nat} {l : List Ht} (hb : Has h b (.cells (flatH l))) (hn : l.length = n) (hn' : n ≤ 12) (hd : (l.map Ht.id).Nodup) :
  ∃ r s', FnTo (Cs smQ) eg 185 [.slice (some ⟨b, 0, none⟩) n n, .func (.func 186) #[] #[]] ⟨h, c, rl, wl⟩ r s' ∧ Has s'.h b (.cells (flatH (bestOf n l))) ∧ Ext ⟨h, c, rl, wl⟩ s' (fun x => x = b) (fun x => x = b) := by
 have lb := hb.lt hf
 refine Fn.go (stdQ 185 rfl) ex185 fn185 km185 rfl rfl ?_
 refine Zev ?_
 refine Zgo ?_
 refine Wseq.call rfl rfl (blen_spec _ hn') ?_
 rintro v1 h1 c1 r1 w1 ⟨⟨z, rfl⟩, e1⟩
 cases e1
 refine Zgo ?_
 refine Wseq.call rfl rfl (pdq_spec Zfr hb hn hn' hd z) ?_
 rintro v h1 c1 r1 w1 ⟨hb1, hext⟩
 have kp := Kp.ext (W := fun x => x = b) (h := h) (c := c) Zkp hext (by omega) (fun _ _ q => q)
 have lr := Lg.extR (R := fun x => x = b) (c := c) Zlg hext (fun _ _ q => q)
 have lw := Lg.extW (W := fun x => x = b) (c := c) Zlg hext (fun _ _ q => q)
 have fr1 := hext.fresh
 have le1 := hext.c
 simp only at le1 fr1
 refine Zgo ?_
 refine ⟨.inl rfl, Wres.nil ⟨hb1, ?_⟩⟩
 exact Zex
end Go.Ab.Seat
end
section
/- Vectors that come in, cut to size; hits, ids compared (the abstract machine). -/
namespace Go.Ab.Seat
open Go.Extern Go.Proofs
set_option maxRecDepth 4000
variable {sm : Nat → Option (List Value → M Value)}
def VecsIn (h : T AObj) (v : Value) (zss : List (List Int)) : Prop :=
 ∃ oa cap, v = .slice oa zss.length cap ∧ ∀ (i : Nat) (zs : List Int), zss[i]? = some zs → ∃ b o sp cs a k, oa = some ⟨b, o, sp⟩ ∧ Cel h b cs ∧ nth cs (o + i * 1) = some (.slice a zs.length k) ∧ Row h (.slice a zs.length k) zs.length 1 (zs.map (Value.int .i32))
def VRow (h : T AObj) (c0 : Nat) (v : Value) (dim : Nat) (vss : List (List Int)) : Prop :=
 (v = .slice none 0 0 ∧ vss = []) ∨ ∃ b vals, v = .slice (some ⟨b, 0, some 1⟩) vss.length vss.length ∧ vss ≠ [] ∧ c0 ≤ b ∧ Has h b (.cells vals) ∧ vals.length = vss.length ∧ ∀ (i : Nat) (zs : List Int), vss[i]? = some zs → zs.length = dim ∧ ∃ bi, vals[i]? = some (.slice (some ⟨bi, 0, none⟩) dim dim) ∧ c0 ≤ bi ∧ Has h bi (.cells (zs.map (Value.int .i32)))
theorem VRow.keep {h h' : T AObj} {c c0 : Nat} {v : Value} {dim : Nat} {vss : List (List Int)} (x : VRow h c0 v dim vss) (hf : Fresh h c) (k : ∀ b, b < c → (∃ cs, Has h b (.cells cs)) → c0 ≤ b → h'.get b = h.get b) : VRow h' c0 v dim vss := by
 rcases x with x | ⟨b, vals, h1, h2, h3, h4, h5, h6⟩
 ·exact .inl x
 ·refine .inr ⟨b, vals, h1, h2, h3, (k b (h4.lt hf) ⟨_, h4⟩ h3).trans h4, h5, fun i zs hi => ?_⟩
  obtain ⟨g1, bi, g2, g3, g4⟩ := h6 i zs hi
  exact ⟨g1, bi, g2, g3, (k bi (g4.lt hf) ⟨_, g4⟩ g3).trans g4⟩
theorem VRow.val {h : T AObj} {c0 : Nat} {v : Value} {dim : Nat} {vss : List (List Int)} (x : VRow h c0 v dim vss) : ∃ oa, v = .slice oa vss.length vss.length := by
 rcases x with ⟨rfl, rfl⟩ | ⟨b, vals, h1, _⟩
 ·exact ⟨_, rfl⟩
 ·exact ⟨_, h1⟩
theorem VRow.at {h : T AObj} {c0 : Nat} {oa : Option Addr} {n cap dim : Nat} {vss : List (List Int)} (x : VRow h c0 (.slice oa n cap) dim vss) {i : Nat} {zs : List Int} (hi : vss[i]? = some zs) :
  zs.length = dim ∧ ∃ b vals bi, oa = some ⟨b, 0, some 1⟩ ∧ c0 ≤ b ∧ Has h b (.cells vals) ∧ nth vals (0 + i * 1) = some (.slice (some ⟨bi, 0, none⟩) dim dim) ∧ c0 ≤ bi ∧ Has h bi (.cells (zs.map (Value.int .i32))) := by
 rcases x with ⟨_, rfl⟩ | ⟨b, vals, h1, h2, h3, h4, h5, h6⟩
 ·cases hi
 ·obtain ⟨g1, bi, g2, g3, g4⟩ := h6 i zs hi
  simp only [Value.slice.injEq] at h1
  exact ⟨g1, b, vals, bi, h1.1, h3, h4, by rw [nth_eq, Nat.zero_add, Nat.mul_one]; exact g2, g3, g4⟩
def vecsZ (zss : List (List Int)) (dim n : Nat) : List (List Int) := (zss.take n).map fun zs => vecZ zs dim
def EVs (v : Value) (dim n : Nat) (lv : Value) (z : Int) (j17 : Value) : L :=
 .cons 0 v (.cons 1 (.int .i64 (dim : Int)) (.cons 2 (.int .i64 (n : Int)) (.cons 6 (.slice none 0 0) (.cons 7 lv (.cons 8 (.int .i64 z) (.cons 17 j17 .nil))))))
set_option maxHeartbeats 4000000 in
theorem vecs_spec (H : Std sm) {h : T AObj} {c : Nat} {rl wl : List Nat} (hf : Fresh h c) {v : Value} {zss : List (List Int)} (hv : VecsIn h v zss) (dim n : Nat) (hd : dim ≤ 1000) (hn : n ≤ 1000) (hb : zss.length ≤ 9223372036854775807) :
  ∃ r s', FnTo (Cs sm) eg 16 [v, .int .i64 (dim : Int), .int .i64 (n : Int)] ⟨h, c, rl, wl⟩ r s' ∧ VRow s'.h c r dim (vecsZ zss dim n) ∧ Ext ⟨h, c, rl, wl⟩ s' (fun _ => True) (fun _ => False) := by
 obtain ⟨oa, cap, rfl, hat⟩ := hv
 refine Fn.go (H 16 rfl) ex16 fn16 km16 rfl rfl ?_
 refine Zev ?_
 refine Zgo ?_
 refine Wx.loopE (fun k1 e s => ∃ (i : Nat) (z : Int) (lv j17 : Value) (h' : T AObj) (c' : Nat) (rl' wl' : List Nat), e = EVs (.slice oa zss.length cap) dim n lv z j17 ∧ z = i ∧ s = ⟨h', c', rl', wl'⟩ ∧ c ≤ c' ∧ Fresh h' c' ∧ Kp h h' c (fun _ => False) ∧ VRow h' c lv dim (vecsZ zss dim i) ∧ Lg c (fun _ => False) wl' ∧ i ≤ n ∧ i ≤ zss.length ∧ k1 = n - i) n (EVs (.slice oa zss.length cap) dim n (.slice none 0 0) 0 top) Zrs ?_ ?_ ?_
 ·unfold EVs
  exact Zek
 ·exact ⟨0, 0, _, _, _, _, _, _, rfl, rfl, rfl, Nat.le_refl _, Zfr, Zkp, .inl ⟨rfl, rfl⟩, Zlg, by omega, by omega, rfl⟩
 ·rintro k1 e s ⟨i, z, lv, j17, h', c', rl', wl', rfl, hz, rfl, hcc, hf', hkp, hV, hlw, hin, hil, rfl⟩
  unfold EVs
  have fin : ¬(i < zss.length ∧ i < n) → vecsZ zss dim i = vecsZ zss dim n := fun hi => by
   unfold vecsZ
   congr 1
   rcases Nat.lt_or_ge i zss.length with h | h
   ·rw [show i = n by omega]
   ·rw [List.take_of_length_le h, List.take_of_length_le (by omega)]
  have lgR : ∀ l : List Nat, Lg c (fun _ => True) l := fun l b hb => .inr trivial
  by_cases hi1 : i < zss.length
  ·by_cases hi2 : i < n
   ·obtain ⟨b, o, sp, cs, a, k, rfl, hc0, hn0, hr0⟩ := hat i zss[i] (List.getElem?_eq_getElem hi1)
    have lb := hc0.lt hf
    have hc1 : Cel h' b cs := by unfold Cel Has at hc0 ⊢; rw [hkp b lb (fun q => q)]; exact hc0
    have hr1 := Row.keepF hr0 hf (fun b hb => hkp b hb (fun q => q))
    refine Zgo ?_
    refine Zu (to_indexAddr (k := i) el22 rfl rfl hz hi1) ?_
    refine Zu (to_load (pl_ rfl) rfl hc1 (by omega) hn0) ?_
    refine Zgo ?_
    refine Wseq.call rfl rfl (vec_spec H Zfr rfl hr1 dim hd (fun _ => True) (fun _ _ => trivial)) ?_
    rintro w h1 c1 r1 w1 ⟨⟨rfl, hnew⟩, hext⟩
    have kp := Kp.ext (W := fun _ => False) (h := h) (c := c) hkp hext (by omega) (fun _ _ q => q)
    have lw := Lg.extW (W := fun _ => False) (c := c) Zlg hext (fun _ _ q => q)
    have fr1 := hext.fresh
    have le1 := hext.c
    have lnew := hnew.lt fr1
    simp only at le1 fr1 lnew
    have hbv' : ∀ b, blkOf lv = some b → b < c' := by
     intro b hb
     rcases hV with ⟨rfl, _⟩ | ⟨bl, vals, rfl, _, _, q, _⟩
     ·cases hb
     ·cases hb; exact q.lt hf'
    have hV1 := hV.keep hf' (fun b hb _ _ => hext.get hb (fun q => q))
    have hst : vecsZ zss dim (i + 1) = vecsZ zss dim i ++ [vecZ zss[i] dim] := by
     unfold vecsZ
     rw [List.take_succ_eq_append_getElem hi1, List.map_append]; rfl
    have hlen : (vecsZ zss dim i).length = i := by unfold vecsZ; rw [List.length_map, List.length_take]; omega
    have hbg : big = 1048576 := rfl
    rcases hV1 with ⟨rfl, hnil⟩ | ⟨bl, vals, rfl, hne, hbl, hbc, hvl, hel⟩
    ·refine Zgo ?_
     refine Zu (to_appNil ro22 sl22 rfl rfl (k := 0) Has.same.cel (by omega) (subN_all _ _ rfl) (by omega) Zfr) ?_
     refine Zgo ?_
     refine RoundE.go (n - (i + 1)) (EVs _ dim n _ (z + 1) _) (by omega) Zek ⟨i + 1, z + 1, _, _, _, _, _, _, rfl, by omega, rfl, by omega, Zfr, Zkp, ?_, Zlg, by omega, by omega, rfl⟩
     have hi0 : i = 0 := by rw [hnil] at hlen; simpa using hlen.symm
     rw [hst, hnil]
     refine .inr ⟨c1 + 1, [.slice (some ⟨c', 0, none⟩) dim dim], rfl, (fun e => by cases e), by omega, Has.same, rfl, fun j zs hj => ?_⟩
     cases j with
     | succ j => simp at hj
     | zero =>
      simp only [List.nil_append, List.getElem?_cons_zero, Option.some.injEq] at hj
      subst hj
      exact ⟨vecZ_len _ _, c', rfl, hcc, (hnew.other (by omega)).other (by omega)⟩
    ·have l3 := hbc.lt fr1
     refine Zgo ?_
     refine Zu (to_appOwn ro22 sl22 rfl rfl (k := 0) Has.same.cel (by omega) (subN_all _ _ rfl) (by omega) (by omega) (hbc.other (by omega)) (by omega) (subN_all _ _ (by omega)) (all_cons rfl all_nil) Zfr) ?_
     refine Zgo ?_
     refine RoundE.go (n - (i + 1)) (EVs _ dim n _ (z + 1) _) (by omega) Zek ⟨i + 1, z + 1, _, _, _, _, _, _, rfl, by omega, rfl, by omega, Zfr, Zkp, ?_, Zlg, by omega, by omega, rfl⟩
     rw [hst]
     refine .inr ⟨c1 + 1, _, ?_, (fun e => by simp at e), by omega, Has.same, ?_, fun j zs hj => ?_⟩
     ·rw [List.length_append]; rfl
     ·rw [List.length_append, List.length_append, hvl]; rfl
     ·rcases Nat.lt_or_ge j (vecsZ zss dim i).length with hj1 | hj1
      ·rw [List.getElem?_append_left hj1] at hj
       obtain ⟨g1, bi, g2, g3, g4⟩ := hel j zs hj
       refine ⟨g1, bi, by rw [List.getElem?_append_left (by omega)]; exact g2, g3, ?_⟩
       have := g4.lt fr1
       have nb : bi ≠ bl := by
        rintro rfl
        unfold Has at g4 hbc
        rw [g4] at hbc
        cases hbc
        rw [List.getElem?_map, Option.map_eq_some_iff] at g2
        obtain ⟨y, _, hy⟩ := g2
        cases hy
       exact ((g4.other (by omega)).other nb).other (by omega)
      ·rw [List.getElem?_append_right hj1] at hj
       have hj0 : j - (vecsZ zss dim i).length = 0 := by
        rcases Nat.eq_zero_or_pos (j - (vecsZ zss dim i).length) with q | q
        ·exact q
        ·rw [List.getElem?_eq_none (by simp; omega)] at hj; cases hj
       rw [hj0] at hj
       simp only [List.getElem?_cons_zero, Option.some.injEq] at hj
       subst hj
       refine ⟨vecZ_len _ _, c', by rw [List.getElem?_append_right (by omega), hvl, hj0]; rfl, hcc, ?_⟩
       have nb : c' ≠ bl := by have := hbv' bl rfl; omega
       exact ((hnew.other (by omega)).other nb).other (by omega)
   ·refine Zgo ?_
    refine ⟨.inr rfl, Wres.one rfl ⟨?_, ?_⟩⟩
    ·rw [← fin (by omega)]; exact hV
    ·exact Ext.of hcc hf' hkp (lgR _) Zlg
  ·refine Zgo ?_
   refine ⟨.inr rfl, Wres.one rfl ⟨?_, ?_⟩⟩
   ·rw [← fin (by omega)]; exact hV
   ·exact Ext.of hcc hf' hkp (lgR _) Zlg
end Go.Ab.Seat
end
section
/- The places of middles, the nearest first (the abstract machine). -/
namespace Go.Ab.Seat
open Go.Extern Go.Proofs
set_option maxRecDepth 4000
def GVals (h : T AObj) (dim : Nat) (mid : List (List Int)) (U : Nat → Prop) (vals : List Value) : Prop :=
 vals.length = mid.length ∧ ∀ (i : Nat) (zs : List Int), mid[i]? = some zs → zs.length = dim ∧ Bnd zs ∧ ∃ a k, vals[i]? = some (.slice a dim k) ∧ Row h (.slice a dim k) dim 1 (zs.map (Value.int .i32)) ∧ ∀ b', blkOf (.slice a dim k) = some b' → U b'
theorem GVals.nil {h : T AObj} {dim : Nat} {U : Nat → Prop} : GVals h dim [] U [] := ⟨rfl, fun i zs hi => by cases hi⟩
theorem GVals.keep {h h' : T AObj} {c dim : Nat} {mid : List (List Int)} {U U' : Nat → Prop} {vals : List Value} (x : GVals h dim mid U vals) (hf : Fresh h c) (hU : ∀ b, U b → U' b) (k : ∀ b, U b → b < c → (∃ cs, Cel h b cs) → h'.get b = h.get b) : GVals h' dim mid U' vals := by
 refine ⟨x.1, fun i zs hi => ?_⟩
 obtain ⟨g1, g2, a, kk, g3, g4, g5⟩ := x.2 i zs hi
 refine ⟨g1, g2, a, kk, g3, ?_, fun b' hb' => hU b' (g5 b' hb')⟩
 rcases g4 with g4 | ⟨b', o, sp', cap', cs, e, g6, g7⟩
 ·exact .inl g4
 ·refine .inr ⟨b', o, sp', cap', cs, e, ?_, g7⟩
  have q := k b' (g5 b' (by rw [e]; rfl)) (g6.lt hf) ⟨_, g6⟩
  unfold Cel Has at g6 ⊢
  rw [q]; exact g6
theorem GVals.push {h : T AObj} {dim k : Nat} {mid : List (List Int)} {zs : List Int} {U : Nat → Prop} {vals : List Value} {a : Option Addr} (x : GVals h dim mid U vals) (h1 : zs.length = dim) (h2 : Bnd zs) (h3 : Row h (.slice a dim k) dim 1 (zs.map (Value.int .i32))) (h4 : ∀ b', blkOf (.slice a dim k) = some b' → U b') : GVals h dim (mid ++ [zs]) U (vals ++ [.slice a dim k]) := by
 refine ⟨by rw [List.length_append, List.length_append, x.1]; rfl, fun i ys hi => ?_⟩
 rcases Nat.lt_or_ge i mid.length with q | q
 ·rw [List.getElem?_append_left q] at hi
  rw [List.getElem?_append_left (by rw [x.1]; exact q)]
  exact x.2 i ys hi
 ·rw [List.getElem?_append_right q] at hi
  rw [List.getElem?_append_right (by rw [x.1]; exact q), x.1]
  cases e : i - mid.length with
  | succ j => rw [e] at hi; simp at hi
  | zero =>
   rw [e] at hi
   simp only [List.getElem?_cons_zero, Option.some.injEq] at hi
   subst hi
   exact ⟨h1, h2, a, k, rfl, h3, h4⟩
def MRow (h : T AObj) (v : Value) (dim : Nat) (mid : List (List Int)) (U : Nat → Prop) : Prop :=
 (v = .slice none 0 0 ∧ mid = []) ∨ ∃ b sp cap vals, v = .slice (some ⟨b, 0, sp⟩) mid.length cap ∧ mid ≠ [] ∧ mid.length ≤ cap ∧ U b ∧ Has h b (.cells vals) ∧ GVals h dim mid U vals
def GRow (h : T AObj) (v : Value) (dim : Nat) (mid : List (List Int)) (U : Nat → Prop) : Prop :=
 (v = .slice none 0 0 ∧ mid = []) ∨ ∃ b vals, v = .slice (some ⟨b, 0, some 1⟩) mid.length mid.length ∧ mid ≠ [] ∧ U b ∧ Has h b (.cells vals) ∧ GVals h dim mid U vals
theorem GRow.mrow {h : T AObj} {v : Value} {dim : Nat} {mid : List (List Int)} {U : Nat → Prop} (x : GRow h v dim mid U) : MRow h v dim mid U := by
 rcases x with x | ⟨b, vals, h1, h2, h3, h4, h5⟩
 ·exact .inl x
 ·exact .inr ⟨b, some 1, _, vals, h1, h2, Nat.le_refl _, h3, h4, h5⟩
theorem GRow.keep {h h' : T AObj} {c : Nat} {v : Value} {dim : Nat} {mid : List (List Int)} {U U' : Nat → Prop} (x : GRow h v dim mid U) (hf : Fresh h c) (hU : ∀ b, U b → U' b) (k : ∀ b, U b → b < c → (∃ cs, Cel h b cs) → h'.get b = h.get b) : GRow h' v dim mid U' := by
 rcases x with x | ⟨b, vals, h1, h2, h3, h4, h5⟩
 ·exact .inl x
 ·exact .inr ⟨b, vals, h1, h2, hU b h3, (k b h3 (h4.lt hf) ⟨_, h4.cel⟩).trans h4, h5.keep hf hU k⟩
theorem MRow.val {h : T AObj} {v : Value} {dim : Nat} {mid : List (List Int)} {U : Nat → Prop} (x : MRow h v dim mid U) : ∃ oa cap, v = .slice oa mid.length cap := by
 rcases x with ⟨rfl, rfl⟩ | ⟨b, sp, cap, vals, h1, _⟩
 ·exact ⟨_, _, rfl⟩
 ·exact ⟨_, _, h1⟩
theorem MRow.at {h : T AObj} {oa : Option Addr} {n cap dim : Nat} {mid : List (List Int)} {U : Nat → Prop} (x : MRow h (.slice oa n cap) dim mid U) {i : Nat} {zs : List Int} (hi : mid[i]? = some zs) :
  zs.length = dim ∧ Bnd zs ∧ ∃ b sp vals a k, oa = some ⟨b, 0, sp⟩ ∧ U b ∧ Has h b (.cells vals) ∧ nth vals (0 + i * 1) = some (.slice a dim k) ∧ Row h (.slice a dim k) dim 1 (zs.map (Value.int .i32)) ∧ ∀ b', blkOf (.slice a dim k) = some b' → U b' := by
 rcases x with ⟨_, rfl⟩ | ⟨b, sp, cap', vals, h1, h2, h3, h4, h5, h6, h7⟩
 ·cases hi
 ·obtain ⟨g1, g2, a, k, g3, g4, g5⟩ := h7 i zs hi
  simp only [Value.slice.injEq] at h1
  exact ⟨g1, g2, b, sp, vals, a, k, h1.1, h4, h5, by rw [nth_eq, Nat.zero_add, Nat.mul_one]; exact g3, g4, g5⟩
theorem MRow.keep {h h' : T AObj} {c : Nat} {v : Value} {dim : Nat} {mid : List (List Int)} {U U' : Nat → Prop} (x : MRow h v dim mid U) (hf : Fresh h c) (hU : ∀ b, U b → U' b) (k : ∀ b, U b → b < c → (∃ cs, Cel h b cs) → h'.get b = h.get b) : MRow h' v dim mid U' := by
 rcases x with x | ⟨b, sp, cap, vals, h1, h2, h3, h4, h5, h6⟩
 ·exact .inl x
 ·exact .inr ⟨b, sp, cap, vals, h1, h2, h3, hU b h4, (k b h4 (h5.lt hf) ⟨_, h5.cel⟩).trans h5, h6.keep hf hU k⟩
theorem VRow.mrow {h : T AObj} {c0 : Nat} {v : Value} {dim : Nat} {vss : List (List Int)} (x : VRow h c0 v dim vss) (hb : ∀ zs ∈ vss, Bnd zs) : MRow h v dim vss (fun b => c0 ≤ b) := by
 rcases x with x | ⟨b, vals, h1, h2, h3, h4, h5, h6⟩
 ·exact .inl x
 ·refine .inr ⟨b, some 1, _, vals, h1, h2, Nat.le_refl _, h3, h4, h5, fun i zs hi => ?_⟩
  obtain ⟨g1, bi, g2, g3, g4⟩ := h6 i zs hi
  refine ⟨g1, hb zs (List.mem_of_getElem? hi), _, _, g2, .inr ⟨bi, 0, none, dim, _, rfl, g4.cel, subN_all _ _ (by rw [List.length_map]; omega)⟩, fun b' hb' => ?_⟩
  cases hb'
  exact g3
def hitO (qs : List Int) (mid : List (List Int)) : List Ht := (List.range mid.length).map fun (i : Nat) => ⟨(i : Int), scoreZ 1 (mid.getD i []) qs⟩
theorem hitO_len (qs : List Int) (mid : List (List Int)) : (hitO qs mid).length = mid.length := by unfold hitO; simp
theorem hitO_at {qs : List Int} {mid : List (List Int)} {i : Nat} {zs : List Int} (hi : mid[i]? = some zs) : (hitO qs mid)[i]? = some ⟨(i : Int), scoreZ 1 zs qs⟩ := by
 obtain ⟨h1, h2⟩ := List.getElem?_eq_some_iff.1 hi
 unfold hitO
 rw [List.getElem?_map, List.getElem?_eq_getElem (by simpa using h1), List.getElem_range]
 show some (⟨(i : Int), scoreZ 1 (mid.getD i []) qs⟩ : Ht) = _
 rw [List.getD_eq_getElem?_getD, hi]; rfl
theorem hitO_nodup (qs : List Int) (mid : List (List Int)) : ((hitO qs mid).map Ht.id).Nodup := by
 unfold hitO
 rw [List.map_map]
 exact (List.pairwise_map.2 ((List.nodup_range (n := mid.length)).imp fun {a b} h => by
  show ((a : Nat) : Int) ≠ ((b : Nat) : Int)
  omega))
def ordZ (mid : List (List Int)) (qs : List Int) : List Int := (bestOf mid.length (hitO qs mid)).map Ht.id
theorem rep_hits (n : Nat) : rep [Value.int .i64 0, .int .i64 0] n = flatH (List.replicate n ⟨0, 0⟩) := by
 induction n with
 | zero => rfl
 | succ n ih => rw [List.replicate_succ]; show _ = [Value.int .i64 0, .int .i64 0] ++ flatH _; rw [← ih]; rfl
def HI (h : T AObj) (c0 : Nat) (v : Value) (l : List Int) : Prop := (v = .slice none 0 0 ∧ l = []) ∨ ∃ b, v = .slice (some ⟨b, 0, some 1⟩) l.length l.length ∧ l ≠ [] ∧ c0 ≤ b ∧ Has h b (.cells (l.map (Value.int .i64)))
theorem hit_step {l : List Ht} {i n : Nat} {x : Ht} (hn : l.length = n) (hi : i < n) (hx : l[i]? = some x) : setMany [.int .i64 x.id, .int .i64 x.sc] (flatH (l.take i ++ List.replicate (n - i) ⟨0, 0⟩)) (0 + i * 2) = some (flatH (l.take (i + 1) ++ List.replicate (n - (i + 1)) ⟨0, 0⟩)) := by
 have e1 : List.replicate (n - i) (⟨0, 0⟩ : Ht) = ⟨0, 0⟩ :: List.replicate (n - (i + 1)) ⟨0, 0⟩ := by rw [← List.replicate_succ]; congr 1; omega
 have e2 : (l.take i).length = i := by rw [List.length_take]; omega
 have h1 := setH (A := l.take i) (B := List.replicate (n - (i + 1)) ⟨0, 0⟩) (y := x) (x := ⟨0, 0⟩)
 rw [e2] at h1
 rw [e1, h1]
 obtain ⟨q1, q2⟩ := List.getElem?_eq_some_iff.1 hx
 rw [List.take_succ_eq_append_getElem q1, q2, List.append_assoc]; rfl
def EO (v q : Value) (n c : Nat) (z : Int) (j6 j7 j17 : Value) : L :=
 .cons 1 q (.cons 0 v (.cons 4 (.slice none 0 0) (.cons 5 (.slice (some ⟨c, 0, none⟩) n n) (.cons 14 v (.cons 15 (.int .i64 (n : Int)) (.cons 16 (.int .i64 z) (.cons 6 j6 (.cons 7 j7 (.cons 17 j17 .nil)))))))))
def EO2 (v q : Value) (n c : Nat) (j6 j7 j17 lv : Value) (z : Int) (j10 j35 : Value) : L :=
 .cons 1 q (.cons 0 v (.cons 4 (.slice none 0 0) (.cons 5 (.slice (some ⟨c, 0, none⟩) n n) (.cons 14 v (.cons 15 (.int .i64 (n : Int)) (.cons 16 (.int .i64 (n : Int)) (.cons 6 j6 (.cons 7 j7 (.cons 17 j17 (.cons 8 lv (.cons 32 (.slice (some ⟨c, 0, none⟩) n n) (.cons 33 (.int .i64 (n : Int)) (.cons 34 (.int .i64 z) (.cons 10 j10 (.cons 35 j35 .nil)))))))))))))))
set_option maxHeartbeats 4000000 in
theorem order_spec {h : T AObj} {c : Nat} {rl wl : List Nat} (hf : Fresh h c) {v : Value} {dim : Nat} {mid : List (List Int)} {U : Nat → Prop} (hm : MRow h v dim mid U) (hn : mid.length ≤ 12) (hd : dim ≤ 1000) {qa : Option Addr} {qc : Nat} {qs : List Int} (hq : Row h (.slice qa dim qc) dim 1 (qs.map (Value.int .i32))) (hqn : qs.length = dim) (hqb : Bnd qs) (R : Nat → Prop) (hUR : ∀ b, U b → R b) (hqR : ∀ b, blkOf (.slice qa dim qc) = some b → R b) :
  ∃ r s', FnTo (Cs smQ) eg 133 [v, .slice qa dim qc] ⟨h, c, rl, wl⟩ r s' ∧ HI s'.h c r (ordZ mid qs) ∧ Ext ⟨h, c, rl, wl⟩ s' R (fun _ => False) := by
 obtain ⟨oa, cap, rfl⟩ := hm.val
 have hlen := hitO_len qs mid
 refine Fn.go (stdQ 133 rfl) ex133 fn133 km133 rfl rfl ?_
 refine Zev ?_
 refine Zgo ?_
 refine Zu (to_makeSlice (a := mid.length) (b := mid.length) ro37 rfl rfl rfl rfl (by omega) (by unfold big; omega) Zfr) ?_
 refine Zgo ?_
 refine Wx.cutO (fun e s => ∃ (j6 j7 j17 : Value) (h' : T AObj) (rl' wl' : List Nat), e = EO (.slice oa mid.length cap) (.slice qa dim qc) mid.length c mid.length j6 j7 j17 ∧ s = ⟨h', c + 1, rl', wl'⟩ ∧ Fresh h' (c + 1) ∧ Kp h h' c (fun _ => False) ∧ Has h' c (.cells (flatH (hitO qs mid))) ∧ Lg c R rl' ∧ Lg c (fun _ => False) wl') Zrs ?_ ?_
 ·refine Wx.loopE (fun k1 e s => ∃ (i : Nat) (z : Int) (j6 j7 j17 : Value) (h' : T AObj) (rl' wl' : List Nat), e = EO (.slice oa mid.length cap) (.slice qa dim qc) mid.length c z j6 j7 j17 ∧ z = i ∧ s = ⟨h', c + 1, rl', wl'⟩ ∧ Fresh h' (c + 1) ∧ Kp h h' c (fun _ => False) ∧ Has h' c (.cells (flatH ((hitO qs mid).take i ++ List.replicate (mid.length - i) ⟨0, 0⟩))) ∧ Lg c R rl' ∧ Lg c (fun _ => False) wl' ∧ i ≤ mid.length ∧ k1 = mid.length - i) mid.length (EO (.slice oa mid.length cap) (.slice qa dim qc) mid.length c 0 top top top) Zrs ?_ ?_ ?_
  ·unfold EO
   exact Zek
  ·refine ⟨0, 0, _, _, _, _, _, _, rfl, rfl, rfl, Zfr, Zkp, ?_, Zlg, Zlg, by omega, rfl⟩
   rw [rep_hits]; exact Has.same
  ·rintro k1 e s ⟨i, z, j6, j7, j17, h', rl', wl', rfl, hz, rfl, hf', hkp, hB, hlr, hlw, hid, rfl⟩
   unfold EO
   by_cases hi : i < mid.length
   ·have hm' := hm.keep hf (fun _ q => q) (fun b _ hb _ => hkp b hb (fun q => q))
    obtain ⟨g1, g2, b, sp, vals, a, k, rfl, g4, g5, g6, g7, g8⟩ := hm'.at (List.getElem?_eq_getElem hi)
    have lb : b < c := by
     rcases hm with ⟨_, e⟩ | ⟨b', sp', cap', vals', e1, e2, e3, e4, e5, _⟩
     ·rw [e] at hi; cases hi
     ·simp only [Value.slice.injEq, Option.some.injEq, Addr.mk.injEq] at e1
      rw [e1.1.1]; exact e5.lt hf
    have rb := hUR b g4
    have hq' := Row.keepF hq hf (fun b hb => hkp b hb (fun q => q))
    have hst := hit_step hlen hi (hitO_at (qs := qs) (List.getElem?_eq_getElem hi))
    refine Zgo ?_
    refine Zu (to_indexAddr (k := i) el22 rfl rfl hz hi) ?_
    refine Zu (to_load (pl_ rfl) rfl g5.cel (by omega) g6) ?_
    refine Zgo ?_
    refine Wseq.call rfl rfl (score_spec stdQ Zfr (.inl rfl) g1 hqn g7 hq' g2 hqb hd R (fun b hb => hb.elim (fun u => hUR b (g8 b u)) (hqR b))) ?_
    rintro v h2' c2 r2 w2 ⟨⟨rfl, e1, e2⟩, hext2⟩
    simp only at e1 e2
    subst e1 e2
    have lr2 := Lg.extR (R := R) (c := c) Zlg hext2 (fun _ _ q => q)
    have lw2 := Lg.extW (W := fun _ => False) (c := c) Zlg hext2 (fun _ _ q => q)
    refine Zgo ?_
    refine Zu (to_indexAddr (k := i) el37 rfl rfl hz hi) ?_
    rw [← hz] at hst
    ((with_reducible apply Wseq.so); rfl; exact (sz_ rfl); rfl; exact hB; omega; refine Znv ?_; refine ⟨_, _, (by (first | exact cellsA_agg _ | rfl)), rfl, hst, ?_⟩)
    refine Zgo ?_
    refine RoundE.go (mid.length - (i + 1)) (EO _ _ mid.length c (z + 1) _ _ _) (by omega) Zek ⟨i + 1, z + 1, _, _, _, _, _, _, rfl, by omega, rfl, Zfr, Zkp, Has.same, Zlg, Zlg, by omega, rfl⟩
   ·refine Zgo ?_
    obtain rfl : i = mid.length := by omega
    subst hz
    refine CutQ.go (EO (.slice oa mid.length cap) (.slice qa dim qc) mid.length c mid.length _ _ _) Zek ⟨_, _, _, _, _, _, rfl, rfl, hf', hkp, ?_, Zlg, Zlg⟩
    rw [List.take_of_length_le (by omega), Nat.sub_self, List.replicate_zero, List.append_nil] at hB
    exact hB
 ·rintro e s ⟨j6, j7, j17, h', rl', wl', rfl, rfl, hf', hkp, hB, hlr, hlw⟩
  unfold EO
  refine Zgo ?_
  refine Wseq.call rfl rfl (sortf_spec Zfr hB hlen hn (hitO_nodup qs mid)) ?_
  rintro v1 h1 c1 r1 w1 ⟨hB1, hext⟩
  have fr1 := hext.fresh
  have le1 := hext.c
  simp only at le1 fr1 hB1
  have kp1 := Kp.ext (W := fun _ => False) (h := h) (c := c) Zkp hext (by omega) (fun b hb q => by omega)
  have lr1 := Lg.extR (R := R) (c := c) Zlg hext (fun b hb q => by omega)
  have lw1 := Lg.extW (W := fun _ => False) (c := c) Zlg hext (fun b hb q => by omega)
  have hL : (bestOf mid.length (hitO qs mid)).length = mid.length := by
   have := bestOf_len_eq (k := mid.length) (hitO_nodup qs mid) (m := mid.length) (by omega) (Nat.le_refl _)
   rwa [List.take_of_length_le (by omega)] at this
  unfold ordZ
  generalize bestOf mid.length (hitO qs mid) = l at hB1 hL
  have lc1 : c < c1 := by omega
  refine Zgo ?_
  refine Wx.cutO (fun e s => ∃ (lv j10 j35 : Value) (h' : T AObj) (c' : Nat) (rl' wl' : List Nat), e = EO2 (.slice oa mid.length cap) (.slice qa dim qc) mid.length c j6 j7 j17 lv mid.length j10 j35 ∧ s = ⟨h', c', rl', wl'⟩ ∧ c1 ≤ c' ∧ Fresh h' c' ∧ Kp h1 h' c1 (fun _ => False) ∧ HI h' c1 lv (l.map Ht.id) ∧ Lg c R rl' ∧ Lg c (fun _ => False) wl') Zrs ?_ ?_
  ·refine Wx.loopE (fun k1 e s => ∃ (i : Nat) (z : Int) (lv j10 j35 : Value) (h' : T AObj) (c' : Nat) (rl' wl' : List Nat), e = EO2 (.slice oa mid.length cap) (.slice qa dim qc) mid.length c j6 j7 j17 lv z j10 j35 ∧ z = i ∧ s = ⟨h', c', rl', wl'⟩ ∧ c1 ≤ c' ∧ Fresh h' c' ∧ Kp h1 h' c1 (fun _ => False) ∧ HI h' c1 lv ((l.take i).map Ht.id) ∧ Lg c R rl' ∧ Lg c (fun _ => False) wl' ∧ i ≤ mid.length ∧ k1 = mid.length - i) mid.length (EO2 (.slice oa mid.length cap) (.slice qa dim qc) mid.length c j6 j7 j17 (.slice none 0 0) 0 top top) Zrs ?_ ?_ ?_
   ·unfold EO2
    exact Zek
   ·exact ⟨0, 0, _, _, _, _, _, _, _, rfl, rfl, rfl, Nat.le_refl _, fr1, Kp.refl, .inl ⟨rfl, rfl⟩, Zlg, Zlg, by omega, rfl⟩
   ·rintro k1 e s ⟨i, z, lv, j10, j35, h', c', rl', wl', rfl, hz, rfl, hcc, hf', hkp', hHI, hlr', hlw', hid, rfl⟩
    unfold EO2
    by_cases hi : i < mid.length
    ·have hB2 : Has h' c (.cells (flatH l)) := (hkp' c (by omega) (fun q => q)).trans hB1
     have hil : i < l.length := by omega
     have hsub := sub_hit (o := 0) (subN_all _ _ (flatH_len l).symm) (List.getElem?_eq_getElem hil)
     have hmap : (l.take (i + 1)).map Ht.id = (l.take i).map Ht.id ++ [l[i].id] := by rw [List.take_succ_eq_append_getElem hil, List.map_append]; rfl
     have hl0 : ((l.take i).map Ht.id).length = i := by rw [List.length_map, List.length_take]; omega
     have hl1 : ((l.take (i + 1)).map Ht.id).length = i + 1 := by rw [List.length_map, List.length_take]; omega
     have hbg : big = 1048576 := rfl
     rcases hHI with ⟨rfl, hnil⟩ | ⟨bl, rfl, hne, hbl, hbc⟩
     ·refine Zgo ?_
      refine Zu (to_indexAddr (k := i) el37 rfl rfl hz hi) ?_
      refine Zu (to_loadS (ag_ rfl) rfl hB2.cel (by omega) hsub) ?_
      refine Zgo ?_
      refine Zu (to_appNil ro45 sl45 rfl rfl (k := 0) Has.same.cel (by omega) (subN_all _ _ rfl) (by omega) Zfr) ?_
      refine Zgo ?_
      refine RoundE.go (mid.length - (i + 1)) (EO2 _ _ mid.length c j6 j7 j17 _ (z + 1) _ _) (by omega) Zek ⟨i + 1, z + 1, _, _, _, _, _, _, _, rfl, by omega, rfl, by omega, Zfr, Zkp, ?_, Zlg, Zlg, by omega, rfl⟩
      have hi0 : i = 0 := by rw [hnil] at hl0; simpa using hl0.symm
      refine .inr ⟨c' + 2, ?_, ?_, by omega, ?_⟩
      ·rw [hl1, hi0]
      ·intro e; rw [e] at hl1; simp at hl1
      ·rw [hmap, hnil]; exact Has.same
     ·have l3 := hbc.lt hf'
      refine Zgo ?_
      refine Zu (to_indexAddr (k := i) el37 rfl rfl hz hi) ?_
      refine Zu (to_loadS (ag_ rfl) rfl hB2.cel (by omega) hsub) ?_
      refine Zgo ?_
      refine Zu (to_appOwn ro45 sl45 rfl rfl (k := 0) Has.same.cel (by omega) (subN_all _ _ rfl) (by omega) (by omega) Zhs (by omega) (subN_all _ _ (by simp)) (all_cons rfl all_nil) Zfr) ?_
      refine Zgo ?_
      refine RoundE.go (mid.length - (i + 1)) (EO2 _ _ mid.length c j6 j7 j17 _ (z + 1) _ _) (by omega) Zek ⟨i + 1, z + 1, _, _, _, _, _, _, _, rfl, by omega, rfl, by omega, Zfr, Zkp, ?_, Zlg, Zlg, by omega, rfl⟩
      refine .inr ⟨c' + 2, ?_, ?_, by omega, ?_⟩
      ·rw [hl1, hl0]
      ·intro e; rw [e] at hl1; simp at hl1
      ·rw [hmap, List.map_append]; exact Has.same
    ·refine Zgo ?_
     obtain rfl : i = mid.length := by omega
     subst hz
     rw [List.take_of_length_le (by omega)] at hHI
     exact CutQ.go (EO2 (.slice oa mid.length cap) (.slice qa dim qc) mid.length c j6 j7 j17 lv mid.length _ _) Zek ⟨_, _, _, _, _, _, _, rfl, rfl, hcc, hf', hkp', hHI, hlr', hlw'⟩
  ·rintro e s ⟨lv, j10, j35, h', c', rl', wl', rfl, rfl, hcc, hf', hkp', hHI, hlr', hlw'⟩
   unfold EO2
   have kp2 : Kp h h' c (fun _ => False) := fun b hb _ => (hkp' b (by omega) (fun q => q)).trans (kp1 b hb (fun q => q))
   refine Zgo ?_
   refine ⟨.inr rfl, Wres.one rfl ⟨?_, ?_⟩⟩
   ·rcases hHI with hHI | ⟨b, e1, e2, e3, e4⟩
    ·exact .inl hHI
    ·exact .inr ⟨b, e1, e2, by omega, e4⟩
   ·exact Zex
end Go.Ab.Seat
end
